import Derived.Test.YtfolmcpfdcgliaaGreatMg13
import Derived.Test.YtfolmcpfdcgliaaGreatMg33
import Derived.Test.YtfolmcpfdcgliaaGreatMg45
import Derived.Test.YtfolmcpfdcgliaaGreatMg11
import Derived.Test.YtfolmcpfdcgliaaGreatMg34
import Derived.Test.YtfolmcpfdcgliaaGreatMg8
import Derived.Test.YtfolmcpfdcgliaaGreatMg17
import Derived.Test.YtfolmcpfdcgliaaGreatRows
import Derived.WalkKit
import Derived.ProofKit
import Derived.OpenShut
import Derived.JoinedCond
import Derived.Carry
import Derived.Lib.SmallJoins
import Derived.SliceStrings
import Derived.ChangeMaps5
set_option linter.unusedVariables false
set_option linter.unusedSimpArgs false
set_option maxRecDepth 8000
/-! Choosing a log: what is committed, walked. -/
namespace Go.Proofs.YtfolmcpfdcgliaaGreat.B
open Go Go.Proofs

/-- A list of sizes, and where it is. -/
structure SzX where
  A : Option Addr
  c : Nat
  xs : List Int
def szV (s : SzX) : Value := .slice s.A s.xs.length s.c
def szNil : SzX := ⟨none, 0, []⟩
def slcs : List (Int × SzX) → SL
  | [] => fun _ => True
  | p :: r => star (slc intE 3 p.2.A p.2.c p.2.xs) (slcs r)
section
variable {W0 : World} {G : List SL} {w : World}
theorem slcs_take : ∀ {D : List (Int × SzX)} {k : Int} {s : SzX} {G : List SL}, aget D k = some s → Sat W0 (slcs D :: G) w → Sat W0 (slc intE 3 s.A s.c s.xs :: slcs (adel D k) :: G) w
  | [], _, _, _, h, _ => by cases h
  | (k', y) :: r, k, s, G, h, hs => by
    simp only [aget] at h
    simp only [adel]
    have h1 := Sat.split (P := slc intE 3 y.A y.c y.xs) (Q := slcs r) hs
    split at h
    · rename_i e
      injection h with h
      subst h
      rw [if_pos e]
      exact h1
    · rename_i e
      rw [if_neg e]
      have h2 := slcs_take (G := slc intE 3 y.A y.c y.xs :: G) h (h1.perm (List.Perm.swap ..))
      have h3 := (h2.front (i := 2) rfl).front (i := 2) rfl
      have h4 := h3.front (i := 1) rfl
      exact (Sat.join (P := slc intE 3 y.A y.c y.xs) (Q := slcs (adel r k)) h4).front (i := 1) rfl
theorem slcs_put : ∀ {D : List (Int × SzX)} {k : Int} {s : SzX} {G : List SL}, Sat W0 (slc intE 3 s.A s.c s.xs :: slcs (adel D k) :: G) w → Sat W0 (slcs (aput D k s) :: G) w
  | [], k, s, G, hs => Sat.join (P := slc intE 3 s.A s.c s.xs) (Q := slcs []) hs
  | (k', y) :: r, k, s, G, hs => by
    simp only [adel] at hs
    simp only [aput]
    split at hs
    · rename_i e
      rw [if_pos e]
      exact Sat.join (P := slc intE 3 s.A s.c s.xs) (Q := slcs r) hs
    · rename_i e
      rw [if_neg e]
      have h1 := Sat.split (P := slc intE 3 y.A y.c y.xs) (Q := slcs (adel r k)) (hs.front (i := 1) rfl)
      have h2 := (h1.front (i := 1) rfl).front (i := 2) rfl
      have h3 := slcs_put (D := r) (k := k) (s := s) h2
      exact Sat.join (P := slc intE 3 y.A y.c y.xs) (Q := slcs (aput r k s)) (h3.perm (List.Perm.swap ..))
theorem aput_self : ∀ (D : List (Int × SzX)) (k : Int) (s : SzX), aget (aput D k s) k = some s
  | [], k, s => by simp [aput, aget]
  | (k', y) :: r, k, s => by
    simp only [aput]
    split
    · simp [aget]
    · rename_i e; simp only [aget]; rw [if_neg e]; exact aput_self r k s
theorem aput_other : ∀ (D : List (Int × SzX)) (k E : Int) (s : SzX), k ≠ E → aget (aput D k s) E = aget D E
  | [], k, E, s, h => by simp [aput, aget, h]
  | (k', y) :: r, k, E, s, h => by
    simp only [aput]
    split
    · rename_i e; subst e; simp [aget, h]
    · simp only [aget]; rw [aput_other r k E s h]
theorem slcs_nil (hs : Sat W0 G w) : Sat W0 (slcs [] :: G) w := hs.triv
theorem adel_none : ∀ {D : List (Int × SzX)} {k : Int}, aget D k = none → adel D k = D
  | [], _, _ => rfl
  | (k', y) :: r, k, h => by
    simp only [aget] at h
    simp only [adel]
    split at h
    · cases h
    · rename_i e; rw [if_neg e, adel_none h]
theorem slcs_look {D : List (Int × SzX)} {k : Int} (hs : Sat W0 (slcs D :: G) w) : Sat W0 (slc intE 3 ((aget D k).getD szNil).A ((aget D k).getD szNil).c ((aget D k).getD szNil).xs :: slcs (adel D k) :: G) w := by
  cases h : aget D k with
  | none => rw [adel_none h]; exact hs.slcNil _ _
  | some s => exact slcs_take h hs
end
attribute [local irreducible] WL CS QS WQ WH WS Fn Op1 row Sat
attribute [local irreducible] slcs slc mapb

/-- The closure's answer. -/
def hitB (E : Int) (K : Nat) (x : LogX) : Bool := decide (x.e = E) && decide (K ≤ x.xs.length)
theorem choose_hit (E : Int) (K : Nat) (x : LogX) (pe pk : Nat) (W0 : World) (G : List SL) :
    Fn Tryz.prog 79 [.agg #[.int .i64 x.e, .slice x.A x.xs.length x.c], .pointer (some ⟨pe, 0, none⟩), .pointer (some ⟨pk, 0, none⟩)] W0 (row pe 3 [.int .i64 E] :: row pk 3 [.int .i64 (K : Int)] :: G)
      (Ret fun v G' => v = .bool (hitB E K x) ∧ G' = row pe 3 [.int .i64 E] :: row pk 3 [.int .i64 (K : Int)] :: G) := by
  refine Fn.enter Tryz.func79 rfl Tryz.ntmps79 rfl ?_
  repeat' (first|refine bk ?_|refine bkc ?_|refine bks ?_|refine bkd ?_|refine bkq (fun q => ?_)|(refine bk2 ?_ ?_<;>(first|exact bkn|(refine bkk ?_;intro h))))
  all_goals
    refine QS.turn (fun w hs => hs.drop) (QS.retV Tryz.results79 rfl ⟨?_, rfl⟩)
    simp [hitB, resV, *]

set_option maxHeartbeats 1000000 in
theorem choose_IndexFunc (A : Option Addr) (k c : Nat) (ls : List LogX) (hk : k = ls.length) (hkb : k ≤ 9223372036854775807) (E : Int) (K : Nat) (i : Nat) (x : LogX) (hi : ls[i]? = some x) (hx : hit E K x) (hf : ∀ j y, j < i → ls[j]? = some y → ¬ hit E K y)
    (pe pk : Nat) (W0 : World) (G : List SL) (hR : Rd W0 G lgE A ls) :
    Fn Tryz.prog 78 [.slice A k c, .func (.func 79) #[] #[.pointer (some ⟨pe, 0, none⟩), .pointer (some ⟨pk, 0, none⟩)]] W0 (row pe 3 [.int .i64 E] :: row pk 3 [.int .i64 (K : Int)] :: G)
      (Ret fun v G' => v = .int .i64 (i : Int) ∧ G' = row pe 3 [.int .i64 E] :: row pk 3 [.int .i64 (K : Int)] :: G) := by
  refine Fn.enter Tryz.func78 rfl Tryz.ntmps78 rfl ?_
  have hil := (List.getElem?_eq_some_iff.1 hi).1
  repeat' (first|refine bk ?_|refine bkc ?_|refine bks ?_|refine bkd ?_|refine bkq (fun q => ?_)|(refine bk2 ?_ ?_<;>(first|exact bkn|(refine bkk ?_;intro h))))
  refine CS.loop (X := Nat) (fun j => [(0, .slice A k c), (1, .func (.func 79) #[] #[.pointer (some ⟨pe, 0, none⟩), .pointer (some ⟨pk, 0, none⟩)]), (7, .int .i64 (k : Int)), (8, .int .i64 (j : Int))]) (fun j => row pe 3 [.int .i64 E] :: row pk 3 [.int .i64 (K : Int)] :: G)
    (fun j => j ≤ i) (fun j => k - j) 0 ⟨rfl, rfl, rfl, rfl, trivial⟩ (fun w hs => hs) (Nat.zero_le _) ?_
  intro j hj
  repeat' (first|refine bk ?_|refine bkc ?_|refine bks ?_|refine bkd ?_|refine bkq (fun q => ?_)|(refine bk2 ?_ ?_<;>(first|exact bkn|(refine bkk ?_;intro h))))
  obtain ⟨y, hy⟩ : ∃ y, ls[j]? = some y := ⟨ls[j]'(by omega), List.getElem?_eq_getElem (by omega)⟩
  refine WL.idx TT hR.cons.cons rfl rfl hk (by omega) (by rw [Int.toNat_natCast]; exact hy) rfl rfl rfl rfl (fun b2 o hA => ?_)
  refine WL.s (op1_at TT hA rfl rfl rfl rfl) rfl ?_
  refine WL.call c79 rfl rfl rfl rfl (choose_hit E K y pe pk W0 _) ?_
  rintro _ _ ⟨rfl, rfl⟩
  by_cases hj2 : j = i
  · subst hj2
    obtain rfl : x = y := by rw [hi] at hy; exact Option.some.inj hy
    rw [show hitB E K x = true from by simpa [hitB, hit] using hx]
    repeat' (first|refine bk ?_|refine bkc ?_|refine bks ?_|refine bkd ?_|refine bkq (fun q => ?_)|(refine bk2 ?_ ?_<;>(first|exact bkn|(refine bkk ?_;intro h))))
    exact QS.retV Tryz.results78 rfl ⟨rfl, rfl⟩
  · have hn := hf j y (by omega) hy
    rw [show hitB E K y = false from by
      cases hb : hitB E K y with
      | false => rfl
      | true => exact absurd (show hit E K y from by simpa [hitB, hit] using hb) hn]
    repeat' (first|refine bk ?_|refine bkc ?_|refine bks ?_|refine bkd ?_|refine bkq (fun q => ?_)|(refine bk2 ?_ ?_<;>(first|exact bkn|(refine bkk ?_;intro h))))
    refine QS.again (j + 1) (by omega) (by omega) ⟨rfl, rfl, rfl, ?_, trivial⟩ (fun w hs => hs)
    rw [show ((j + 1 : Nat) : Int) = (j : Int) + 1 from by omega]; rfl

set_option maxHeartbeats 4000000 in
theorem choose_Committed (A : Option Addr) (k c : Nat) (ls : List LogX) (hk : k = ls.length) (hkb : k ≤ 1000) (hxs : ∀ x ∈ ls, x.xs.length ≤ 5864062014805 ∧ x.xs.length ≤ x.c) (need : Int) (hneed : need ≤ 9223372036854775807) (W0 : World) (G : List SL) (hR : Rd W0 G lgE A ls) (hL : ∀ x ∈ ls, Rd W0 G entE x.A x.xs) :
    Fn Tryz.prog 40 [.slice A k c, .int .i64 need] W0 G
      (Ret fun v G' => ∃ out A' c', Out ls (max need 1) out ∧ v = .slice A' out.length c' ∧ G' = slc entE 49 A' c' out :: G) := by
  refine Fn.enter Tryz.func40 rfl Tryz.ntmps40 rfl ?_
  repeat' (first|refine bk ?_|refine bkc ?_|refine bks ?_|refine bkd ?_|refine bkq (fun q => ?_)|(refine bk2 ?_ ?_<;>(first|exact bkn|(refine bkk ?_;intro h))))
  obtain ⟨N, hN, hN1⟩ : ∃ N, N = max need 1 ∧ (if 1 > need then (1 : Int) else need) = N := ⟨max need 1, rfl, by split <;> omega⟩
  rw [hN1, ← hN]
  have hN2 : 1 ≤ N := by omega
  refine WL.makeMap Int SzX intK szV rfl (fun m => ?_)
  repeat' (first|refine bk ?_|refine bkc ?_|refine bks ?_|refine bkd ?_|refine bkq (fun q => ?_)|(refine bk2 ?_ ?_<;>(first|exact bkn|(refine bkk ?_;intro h))))
  revert q
  intro q0
  refine CS.loop (X := Nat × List (Int × SzX)) (fun x => [(0, .slice A k c), (1, .int .i64 N), (5, .map (some m)), (6, .pointer (some ⟨q0, 0, none⟩)), (7, .bool (epS ls N x.1).1), (16, .slice A k c), (17, .int .i64 (k : Int)), (18, .int .i64 (x.1 : Int))])
    (fun x => mapb intK szV m x.2 :: slcs x.2 :: row q0 3 [.int .i64 (epS ls N x.1).2] :: G)
    (fun x => x.1 ≤ k ∧ ∀ E, ((aget x.2 E).getD szNil).xs = lensOf ls x.1 E) (fun x => k - x.1) (0, []) ⟨rfl, rfl, rfl, rfl, rfl, rfl, rfl, rfl, trivial⟩ (fun w hs => (slcs_nil hs).front (i := 2) rfl |>.perm (List.Perm.refl _)) ⟨Nat.zero_le _, fun E => rfl⟩ ?_
  rintro ⟨i, D⟩ ⟨hi, hD⟩
  simp only at *
  refine CS.world fun hw => ?_
  repeat' (first|refine bk ?_|refine bkc ?_|refine bks ?_|refine bkd ?_|refine bkq (fun q => ?_)|(refine bk2 ?_ ?_<;>(first|exact bkn|(refine bkk ?_;intro h))))
  · obtain ⟨x, hx⟩ : ∃ x, ls[i]? = some x := ⟨ls[i]'(by omega), List.getElem?_eq_getElem (by omega)⟩
    refine WL.idx TT hR.cons.cons.cons rfl rfl hk (by omega) (by rw [Int.toNat_natCast]; exact hx) rfl rfl rfl rfl (fun b2 o hA => ?_)
    refine WL.s (op1_at TT hA rfl rfl rfl rfl) rfl ?_
    obtain ⟨u, hu⟩ : ∃ u, u = (aget D x.e).getD szNil := ⟨_, rfl⟩
    have hux : u.xs = lensOf ls i x.e := by rw [hu]; exact hD x.e
    refine WL.turn (G' := slc intE 3 u.A u.c u.xs :: slcs (adel D x.e) :: mapb intK szV m D :: row q0 3 [.int .i64 (epS ls N i).2] :: G) (fun w hs => by rw [hu]; exact slcs_look (hs.front (i := 1) rfl)) ?_
    repeat' (first|refine bk ?_|refine bkc ?_|refine bks ?_|refine bkd ?_|refine bkq (fun q => ?_)|(refine bk2 ?_ ?_<;>(first|exact bkn|(refine bkk ?_;intro h))))
    have hul : u.xs.length ≤ 1000 := by rw [hux]; have := lensOf_le ls i x.e; omega
    have hu2 : u.xs ++ [(x.xs.length : Int)] = lensOf ls (i + 1) x.e := by rw [lensOf_next hx, if_pos rfl, hux]
    refine CS.drawZ 10 (row q 45 [.int .i64 x.e, .slice x.A x.xs.length x.c] :: mapb intK szV m D :: row q0 3 [.int .i64 (epS ls N i).2] :: G) (fun w hs => (hs.kick (i := 1) rfl).kick (i := 1) rfl) mixed (by kernel_rfl) (by kernel_rfl) rfl ?_
    iterate 6 refine bkz ?_
    refine WZ.s (op1_look1D TT 1 u (u0 := szNil) rfl rfl rfl rfl rfl rfl rfl hu) rfl rfl ?_
    iterate 3 refine bkz ?_
    refine WZ.two (R2 := fun v G1 uu G2 => ∃ b A' c', uu = .slice A' (lensOf ls (i + 1) x.e).length c' ∧ G2 = row b 3 [.int .i64 (x.xs.length : Int)] :: row q 45 [.int .i64 x.e, .slice x.A x.xs.length x.c] :: slc intE 3 A' c' (lensOf ls (i + 1) x.e) :: slcs (adel D x.e) :: mapb intK szV m D :: row q0 3 [.int .i64 (epS ls N i).2] :: G) rfl rfl (fun w hs => (hs.kick (i := 1) rfl).kick (i := 1) rfl) (Eff.buildSlice TT rfl rfl rfl rfl rfl rfl rfl) rfl rfl rfl ?_ rfl rfl rfl ?_
    · rintro v G1 ⟨b, rfl, rfl⟩
      refine ⟨fun w hs => ((hs.drop.kick (i := 1) rfl).kick (i := 1) rfl), ?_⟩
      refine Eff.mono (Eff.append TT (E := intE) (xs := u.xs) (ys := [(x.xs.length : Int)]) 2 rfl rfl rfl rfl rfl (Rd.row (i := 0) rfl rfl) rfl rfl rfl rfl rfl (by decide) (by simp only [List.length_cons, List.length_nil]; omega) (fun _ _ => rfl)) ?_
      rintro v G2 ⟨A', c', rfl, rfl⟩
      rw [hu2]
      exact ⟨b, A', c', rfl, rfl⟩
    rintro v G1 uu G2 ⟨b, rfl, rfl⟩ ⟨b', A', c', rfl, rfl⟩
    refine ⟨fun w hs => ((hs.drop.kick (i := 1) rfl).kick (i := 1) rfl), ?_⟩
    obtain ⟨s, hs⟩ : ∃ s : SzX, s = ⟨A', c', lensOf ls (i + 1) x.e⟩ := ⟨_, rfl⟩
    repeat' (first|refine bk ?_|refine bkc ?_|refine bks ?_|refine bkd ?_|refine bkq (fun q => ?_)|(refine bk2 ?_ ?_<;>(first|exact bkn|(refine bkk ?_;intro h))))
    refine WL.mapUpdate TT (kk := intK) (ev := szV) (u := s) 4 rfl rfl rfl rfl rfl rfl (by rw [hs]; rfl) rfl ?_
    repeat' (first|refine bk ?_|refine bkc ?_|refine bks ?_|refine bkd ?_|refine bkq (fun q => ?_)|(refine bk2 ?_ ?_<;>(first|exact bkn|(refine bkk ?_;intro h))))
    refine WL.turn (G' := slcs (aput D x.e s) :: row q 45 [.int .i64 x.e, .slice x.A x.xs.length x.c] :: mapb intK szV m (aput D x.e s) :: row q0 3 [.int .i64 (epS ls N i).2] :: G) (fun w h => slcs_put (s := s) (by subst hs; exact (h.drop.front (i := 2) rfl).front (i := 2) rfl)) ?_
    refine WL.s (op1_look1D TT 2 s (u0 := szNil) rfl rfl rfl rfl rfl rfl rfl (by rw [aput_self]; rfl)) rfl ?_
    have hnx := epS_next (need := N) hx
    have hD2 : ∀ E, ((aget (aput D x.e s) E).getD szNil).xs = lensOf ls (i + 1) E := fun E => by
      by_cases hE : x.e = E
      · subst hE; rw [aput_self, hs]; rfl
      · rw [aput_other _ _ _ _ hE, hD E, lensOf_next hx, if_neg hE, List.append_nil]
    have hsl : s.xs = lensOf ls (i + 1) x.e := by rw [hs]
    have hll := lensOf_le ls (i + 1) x.e
    simp only [szV, hsl]
    obtain ⟨an, ep, hS⟩ : ∃ an ep, epS ls N i = (an, ep) := ⟨_, _, rfl⟩
    rw [hS] at hnx ⊢
    simp only at hnx ⊢
    repeat' (first|refine bk ?_|refine bkc ?_|refine bks ?_|refine bkd ?_|refine bkq (fun q => ?_)|(refine bk2 ?_ ?_<;>(first|exact bkn|(refine bkk ?_;intro h))))
    all_goals
      first
        | rw [if_pos ⟨by assumption, .inl (by assumption)⟩] at hnx
        | rw [if_pos ⟨by assumption, .inr (by assumption)⟩] at hnx
        | rw [if_neg (fun h => absurd h.1 (by assumption))] at hnx
        | rw [if_neg (fun h => h.2.elim (fun h => by simp [*] at h) (fun h => absurd h (by assumption)))] at hnx
      refine QS.again (i + 1, aput D x.e s) ⟨by simp only; omega, hD2⟩ (by simp only; omega) ⟨rfl, rfl, rfl, rfl, ?_, rfl, rfl, ?_, trivial⟩ (fun w hs => ?_)
      · simp only [hnx]; rfl
      · rw [show ((i + 1 : Nat) : Int) = (i : Int) + 1 from by omega]; rfl
      · simp only [hnx]
        exact (hs.front (i := 2) rfl).kick (i := 2) rfl
  · have hie : i = ls.length := by omega
    have hok := epS_ok ls N hN2 i (by omega)
    have hany : (epS ls N i).1 = false := by assumption
    rw [if_neg (by rw [hany]; decide)] at hok
    refine QS.turn (G' := slc entE 49 none 0 ([] : List Ent) :: G) (fun w hs => hs.drop.drop.drop.slcNil _ _) (QS.retV Tryz.results40 rfl ⟨[], none, 0, .inl ⟨fun E => ?_, rfl⟩, rfl, rfl⟩)
    have := hok E
    rw [lensOf_len, hie, List.take_length] at this
    exact this
  · have hie : i = ls.length := by omega
    have hok := epS_ok ls N hN2 i (by omega)
    have hany : (epS ls N i).1 = true := by assumption
    rw [if_pos hany] at hok
    obtain ⟨E, hE⟩ : ∃ E, E = (epS ls N i).2 := ⟨_, rfl⟩
    rw [← hE] at hok ⊢
    obtain ⟨u, hu⟩ : ∃ u, u = (aget D E).getD szNil := ⟨_, rfl⟩
    have hux : u.xs = lensOf ls i E := by rw [hu]; exact hD E
    have hul : u.xs.length ≤ 1000 := by rw [hux]; have := lensOf_le ls i E; omega
    refine WL.turn (G' := slc intE 3 u.A u.c u.xs :: slcs (adel D E) :: mapb intK szV m D :: row q0 3 [.int .i64 E] :: G) (fun w hs => by rw [hu]; exact slcs_look (hs.front (i := 1) rfl)) ?_
    refine WL.s (op1_look1D TT 2 u (u0 := szNil) rfl rfl rfl rfl rfl rfl rfl hu) rfl ?_
    repeat' (first|refine bk ?_|refine bkc ?_|refine bks ?_|refine bkd ?_|refine bkq (fun q => ?_)|(refine bk2 ?_ ?_<;>(first|exact bkn|(refine bkk ?_;intro h))))
    refine WL.call c77 rfl rfl rfl rfl (sort_ints (xs := u.xs) (by omega) W0 _) ?_
    rintro _ _ ⟨rfl, rfl⟩
    simp only [szV]
    repeat' (first|refine bk ?_|refine bkc ?_|refine bks ?_|refine bkd ?_|refine bkq (fun q => ?_)|(refine bk2 ?_ ?_<;>(first|exact bkn|(refine bkk ?_;intro h))))
    have hNl : N ≤ (u.xs.length : Int) := by rw [hux]; exact hok.1
    have hsl := sortI_len u.xs
    obtain ⟨K, hK⟩ : ∃ K : Nat, (sortI u.xs)[((u.xs.length : Int) - N).toNat]? = some (K : Int) := by
      obtain ⟨z, hz⟩ : ∃ z, (sortI u.xs)[((u.xs.length : Int) - N).toNat]? = some z := ⟨_, List.getElem?_eq_getElem (by rw [hsl]; omega)⟩
      have hz0 : 0 ≤ z := lensOf_mem (ls := ls) (i := i) (E := E) (by rw [← hux]; exact (List.mergeSort_perm _ _).mem_iff.1 (List.mem_of_getElem? hz))
      exact ⟨z.toNat, by rw [hz, Int.toNat_of_nonneg hz0]⟩
    obtain ⟨j, x, hC⟩ : ∃ j x, Comm ls N E K j x := by
      have hany2 : (epS ls N ls.length).1 = true := by rw [← hie]; exact hany
      have := comm_of (ls := ls) (need := N) hN2 hany2 (K := (K : Int)) (by rw [← hie, ← hE, ← hux]; exact hK)
      rw [← hie, ← hE, Int.toNat_natCast] at this
      exact this
    have hjl := (List.getElem?_eq_some_iff.1 hC.at_).1
    have hxm := hxs x (List.mem_of_getElem? hC.at_)
    have hKx : K ≤ x.xs.length := hC.is.2
    refine WL.idx TT (Rd.slc (i := 0) rfl) rfl rfl hsl.symm (by omega) hK rfl rfl rfl rfl (fun b2 o hA => ?_)
    refine WL.s (op1_at TT hA rfl rfl rfl rfl) rfl ?_
    repeat' (first|refine bk ?_|refine bkc ?_|refine bks ?_|refine bkd ?_|refine bkq (fun q => ?_)|(refine bk2 ?_ ?_<;>(first|exact bkn|(refine bkk ?_;intro h))))
    refine WL.turn (G' := row q0 3 [.int .i64 E] :: row q 3 [.int .i64 (K : Int)] :: G) (fun w hs => (((hs.kick (i := 1) rfl).kick (i := 1) rfl).kick (i := 1) rfl).front (i := 1) rfl) ?_
    refine WL.call c78 rfl rfl rfl rfl (choose_IndexFunc A k c ls hk (by omega) E K j x hC.at_ hC.is hC.first q0 q W0 _ hR) ?_
    rintro _ _ ⟨rfl, rfl⟩
    refine WL.fact (fun w hs => Exists.intro w hs) (fun hw2 => ?_)
    refine WL.s (op1_pure1 TT rfl) rfl ?_
    refine WL.nil ?_
    refine QS.then ?_
    refine CS.seq ?_
    refine CS.drawT 6 mixed (by kernel_rfl) rfl ?_
    repeat' (first|refine bk ?_|refine bkh ?_|refine bkw ?_|refine bkq (fun q => ?_)|((first|refine bk2 ?_ ?_|refine bk2h ?_ ?_)<;>(first|exact bkn|(refine bkk ?_;intro h))))
    refine WH.idx TT hR.cons.cons rfl rfl hk (by omega) (by rw [Int.toNat_natCast]; exact hC.at_) rfl rfl rfl rfl hw2 (fun b3 o3 hA3 => ?_)
    repeat' (first|refine bk ?_|refine bkh ?_|refine bkw ?_|refine bkq (fun q => ?_)|((first|refine bk2 ?_ ?_|refine bk2h ?_ ?_)<;>(first|exact bkn|(refine bkk ?_;intro h))))
    refine WH.s (op1_atF TT 1 hA3 rfl rfl rfl rfl rfl) rfl ?_
    repeat' (first|refine bk ?_|refine bkh ?_|refine bkw ?_|refine bkq (fun q => ?_)|((first|refine bk2 ?_ ?_|refine bk2h ?_ ?_)<;>(first|exact bkn|(refine bkk ?_;intro h))))
    refine WL.s (op1_sliceS (E := entE) (xs := x.xs) (l := 0) (r := (K : Int)) TT (by rfl) (by rfl) rfl rfl rfl rfl rfl (by omega) hxm.2) rfl ?_
    simp only [Int.toNat_zero, Nat.sub_zero, Int.toNat_natCast]
    refine WL.call c35 rfl rfl rfl rfl (ent_Clone2 _ K x.c ((x.xs.take K).drop 0) (by rw [List.drop_zero, List.length_take]; omega) (by omega) W0 _ ((hL x (List.mem_of_getElem? hC.at_)).cons.cons.part hKx hxm.2)) ?_
    rintro _ _ ⟨A2, c2, rfl, rfl⟩
    repeat' (first|refine bk ?_|refine bkc ?_|refine bks ?_|refine bkd ?_|refine bkq (fun q => ?_)|(refine bk2 ?_ ?_<;>(first|exact bkn|(refine bkk ?_;intro h))))
    refine QS.turn (G' := slc entE 49 A2 c2 ((x.xs.take K).drop 0) :: G) (fun w hs => (hs.kick (i := 1) rfl).kick (i := 1) rfl) (QS.retV Tryz.results40 rfl ⟨(x.xs.take K).drop 0, A2, c2, .inr ⟨E, K, j, x, hC, List.drop_zero⟩, ?_, rfl⟩)
    rw [List.drop_zero, List.length_take, Nat.min_eq_left hKx]; rfl
end Go.Proofs.YtfolmcpfdcgliaaGreat.B

set_option linter.unusedVariables false
set_option linter.unusedSimpArgs false
set_option maxRecDepth 8000
/-! What is read of the nodes. -/
namespace Go.Proofs.YtfolmcpfdcgliaaGreat.B
open Go Go.Proofs
def seenM (fs : List Int) (xs : List Nd) (i : Nat) : Option Lg :=
  match xs[i]? with
  | some x => if x.J.dead = false ∧ (fateM fs i = 0 ∨ fateM fs i = 3) then some (x.J.e, x.J.xs) else none
  | none => none
def seenL (fs : List Int) (xs : List Nd) (k : Nat) : List Lg := (List.range k).filterMap (seenM fs xs)
def OutL (lg : List Lg) (need : Int) (out : List Ent) : Prop := ∃ ls : List LogX, ls.map lgOf = lg ∧ Out ls need out
def ReadM (xs : List Nd) (fs : List Int) (out : List Ent) (er : Int) : Prop :=
  ((xs.length = 0 ∨ ((seenL fs xs xs.length).length : Int) < mostM xs.length) ∧ out = [] ∧ er = 12) ∨
  (¬ (xs.length = 0 ∨ ((seenL fs xs xs.length).length : Int) < mostM xs.length) ∧ er = 0 ∧ OutL (seenL fs xs xs.length) (max (mostM xs.length) 1) out)
theorem seenL_succ (fs : List Int) (xs : List Nd) (i : Nat) : seenL fs xs (i + 1) = seenL fs xs i ++ (match seenM fs xs i with | some t => [t] | none => []) := by
  unfold seenL
  rw [List.range_succ, List.filterMap_append]
  cases h : seenM fs xs i <;> simp [h]
theorem seenL_len (fs : List Int) (xs : List Nd) (k : Nat) : (seenL fs xs k).length ≤ k := by
  have := List.length_filterMap_le (seenM fs xs) (List.range k)
  rw [List.length_range] at this
  exact this
theorem seenL_mem {fs : List Int} {xs : List Nd} {k : Nat} {t : Lg} (h : t ∈ seenL fs xs k) : ∃ (i : Nat) (x : Nd), i < k ∧ xs[i]? = some x ∧ x.J.dead = false ∧ t = (x.J.e, x.J.xs) := by
  obtain ⟨i, hi, hs⟩ := List.mem_filterMap.1 h
  unfold seenM at hs
  cases hx : xs[i]? with
  | none => rw [hx] at hs; cases hs
  | some x =>
    rw [hx] at hs
    simp only at hs
    split at hs
    · rename_i hc
      exact ⟨i, x, List.mem_range.1 hi, hx, hc.1, (Option.some.inj hs).symm⟩
    · cases hs
section
variable {W0 : World} {G : List SL} {ls : List LogX}
theorem ents_cap {x : LogX} (h : x ∈ ls) {i : Nat} (hG : G[i]? = some (entsA ls)) : ∀ w, Sat W0 G w → x.xs.length ≤ x.c := fun w hs => by
  obtain ⟨j, hj⟩ := List.mem_iff_getElem?.1 h
  have := bag_at (P := slc entE 49 x.A x.c x.xs) (i := j) (by rw [List.getElem?_map, hj]; rfl) (hs.pick hG)
  exact slc_cap (i := 0) rfl _ this
end
attribute [local irreducible] WL CS QS WQ WH WS Fn Op1 row Sat
attribute [local irreducible] slc jA diskA mailA nodesA nodesX entsA
theorem q_DeadR (b bd : Nat) (A : Option Addr) (c : Nat) (J : Jn) (W0 : World) (F : List SL) :
    Fn Tryz.prog 38 [.pointer (some ⟨b, 0, none⟩)] W0 (row b 103 (jCells bd A c J) :: F) (Ret fun v G' => v = .bool J.dead ∧ G' = row b 103 (jCells bd A c J) :: F) := by
  refine Fn.enter Tryz.func38 rfl Tryz.ntmps38 rfl ?_
  simp only [jCells]
  repeat' (first|refine bk ?_|refine bkc ?_|refine bks ?_|refine bkd ?_|refine bkq (fun q => ?_)|(refine bk2 ?_ ?_<;>(first|exact bkn|(refine bkk ?_;intro h))))
  exact QS.retV Tryz.results38 rfl ⟨rfl, rfl⟩
theorem q_DeadA (b bd : Nat) (J : Jn) (W0 : World) (F : List SL) :
    Fn Tryz.prog 38 [.pointer (some ⟨b, 0, none⟩)] W0 (jA b bd J :: F) (Ret fun v G' => v = .bool J.dead ∧ G' = jA b bd J :: F) := by
  refine Fn.ex (fun w hs => jA_open w hs) ?_
  rintro ⟨A, c⟩
  exact Fn.post (q_DeadR b bd A c J W0 _) (Ret.post fun v G' ⟨h1, h2⟩ => ⟨jA b bd J :: F, fun w hw => by rw [h2] at hw; exact jA_shut (A := A) (c := c) w hw, h1, rfl⟩)
theorem q_Dead {ys : List Nd} {i : Nat} {x : Nd} (hx : ys[i]? = some x) (W0 : World) (F : List SL) :
    Fn Tryz.prog 38 [.pointer (some ⟨x.b, 0, none⟩)] W0 (nodesA ys :: F) (Ret fun v G' => v = .bool x.J.dead ∧ G' = nodesA ys :: F) :=
  Fn.post ((q_DeadA x.b x.d x.J W0 (diskA x.d x.D :: nodesX ys i :: F)).pre (nodes_open hx)) (Ret.post fun v G' ⟨h1, h2⟩ => ⟨nodesA ys :: F, fun w hw => by
    rw [h2] at hw
    have h3 := nodes_shut hx w hw
    rwa [set_self hx] at h3, h1, rfl⟩)
set_option maxHeartbeats 8000000 in
theorem q_Read (bq : Nat) (Aj : Option Addr) (cj bm : Nat) (w : Wr) (xs : List Nd) (hok : ∀ x ∈ xs, NdOk x) (hn : xs.length ≤ 5) (A : Option Addr) (k c : Nat) (fs : List Int) (hk : k = fs.length) (hI : ∀ x ∈ fs, I64 x) (W0 : World) (F : List SL) (hR : Rd W0 F intE A fs) :
    Fn Tryz.prog 17 [.pointer (some ⟨bq, 0, none⟩), .slice A k c] W0
      (row bq 92 (wrC Aj xs.length cj bm w) :: slc bpE 46 Aj cj (xs.map (·.b)) :: nodesA xs :: F)
      (Ret fun v G' => ∃ out er Al cl, ReadM xs fs out er ∧ v = .tuple #[.slice Al out.length cl, .int .i64 er] ∧
        G' = slc entE 49 Al cl out :: row bq 92 (wrC Aj xs.length cj bm w) :: slc bpE 46 Aj cj (xs.map (·.b)) :: nodesA xs :: F) := by
  subst hk
  refine Fn.enter Tryz.func17 rfl Tryz.ntmps17 rfl ?_
  repeat' (first|refine bk ?_|refine bkc ?_|refine bks ?_|refine bkd ?_|refine bkq (fun q => ?_)|(refine bk2 ?_ ?_<;>(first|exact bkn|(refine bkk ?_;intro h))))
  refine CS.loop (X := {y : Nat × List LogX × Option Addr × Nat // y.2.1.map lgOf = seenL fs xs y.1}) (fun y => [(0, .pointer (some ⟨bq, 0, none⟩)), (1, .slice A fs.length c), (6, .slice y.1.2.2.1 y.1.2.1.length y.1.2.2.2), (14, .slice Aj xs.length cj), (15, .int .i64 (xs.length : Int)), (16, .int .i64 (y.1.1 : Int))])
    (fun y => slc lgE 45 y.1.2.2.1 y.1.2.2.2 y.1.2.1 :: entsA y.1.2.1 :: row bq 92 (wrC Aj xs.length cj bm w) :: slc bpE 46 Aj cj (xs.map (·.b)) :: nodesA xs :: F) (fun y => y.1.1 ≤ xs.length) (fun y => xs.length - y.1.1) ⟨(0, [], none, 0), rfl⟩ ⟨rfl, rfl, rfl, rfl, rfl, rfl, trivial⟩ (fun w hs => (ents_none w hs).slcNil lgE 45) (Nat.zero_le _) ?_
  rintro ⟨⟨i, ls, Al, cl⟩, hls⟩ hi
  simp only at hls hi ⊢
  have hll := congrArg List.length hls
  rw [List.length_map] at hll
  have hsl := seenL_len fs xs i
  by_cases hix : i < xs.length
  · obtain ⟨x, hx⟩ : ∃ x, xs[i]? = some x := ⟨xs[i]'hix, List.getElem?_eq_getElem hix⟩
    have hxo := hok x (List.mem_of_getElem? hx)
    have hnx := seenL_succ fs xs i
    have hsm : seenM fs xs i = if x.J.dead = false ∧ (fateM fs i = 0 ∨ fateM fs i = 3) then some (x.J.e, x.J.xs) else none := by unfold seenM; rw [hx]
    repeat' (first|refine bk ?_|refine bkc ?_|refine bks ?_|refine bkd ?_|refine bkq (fun q => ?_)|(refine bk2 ?_ ?_<;>(first|exact bkn|(refine bkk ?_;intro h))))
    refine WL.idx TT (Rd.slc (i := 3) rfl) rfl rfl (by rw [List.length_map]) (by omega) (x := x.b) (by rw [Int.toNat_natCast, List.getElem?_map, hx]; rfl) rfl rfl rfl rfl (fun bb2 o hA => ?_)
    refine WL.s (op1_at TT hA rfl rfl rfl rfl) rfl ?_
    repeat' (first|refine bk ?_|refine bkc ?_|refine bks ?_|refine bkd ?_|refine bkq (fun q => ?_)|(refine bk2 ?_ ?_<;>(first|exact bkn|(refine bkk ?_;intro h))))
    refine WL.call c37 rfl rfl rfl rfl (q_fate A _ c fs rfl hI i W0 _ hR.cons.cons.cons.cons.cons) ?_
    rintro _ G2 ⟨rfl, hG2⟩
    rw [hG2]; clear hG2 G2
    generalize fateM fs i = f at hsm ⊢
    repeat' (first|refine bk ?_|refine bkc ?_|refine bks ?_|refine bkd ?_|refine bkq (fun q => ?_)|(refine bk2 ?_ ?_<;>(first|exact bkn|(refine bkk ?_;intro h))))
    refine WL.call c38 rfl rfl rfl rfl ((q_Dead hx W0 _).pre (fun w hs => hs.front (i := 4) rfl)) ?_
    rintro _ _ ⟨rfl, rfl⟩
    by_cases hc : x.J.dead = false ∧ (f = 0 ∨ f = 3)
    · rw [if_pos hc] at hsm
      rw [hsm] at hnx
      obtain ⟨hc1, hc2⟩ := hc
      rw [hc1]
      simp only at hnx
      repeat' (first|refine bk ?_|refine bkc ?_|refine bks ?_|refine bkq (fun q => ?_)|(refine bk2 ?_ ?_<;>(first|exact bkn|(refine bkk ?_;intro h))))
      all_goals
        refine WL.call c16 rfl rfl rfl rfl (q_Log hx hxo hc1 W0 _) ?_
        rintro _ _ ⟨A4, c4, rfl, rfl⟩
        repeat' (first|refine bk ?_|refine bkc ?_|refine bks ?_|refine bkq (fun q => ?_)|(refine bk2 ?_ ?_<;>(first|exact bkn|(refine bkk ?_;intro h))))
        refine WL.buildSlice TT rfl rfl rfl rfl rfl rfl rfl rfl (fun q2 => ?_)
        refine WL.append TT 3 (E := lgE) (xs := ls) (ys := [⟨x.J.e, A4, c4, x.J.xs⟩]) rfl rfl rfl rfl rfl (Rd.row (i := 0) rfl rfl) rfl rfl rfl rfl rfl (by decide) (by simp only [List.length_cons, List.length_nil]; omega) (fun _ _ => rfl) rfl (fun A5 c5 => ?_)
        repeat' (first|refine bk ?_|refine bkc ?_|refine bks ?_|refine bkd ?_|refine bkq (fun q => ?_)|(refine bk2 ?_ ?_<;>(first|exact bkn|(refine bkk ?_;intro h))))
        refine QS.again ⟨(i + 1, ls ++ [⟨x.J.e, A4, c4, x.J.xs⟩], A5, c5), by simp only [List.map_append, hls, hnx]; rfl⟩ hix (by show xs.length - (i + 1) < xs.length - i; omega) ⟨rfl, rfl, rfl, rfl, rfl, ?_, trivial⟩ (fun w hs => ?_)
        · simp only
          rw [show ((i + 1 : Nat) : Int) = (i : Int) + 1 from by omega]; rfl
        · exact (ents_snoc (x := ⟨x.J.e, A4, c4, x.J.xs⟩) w (hs.ord 7 [1, 4, 3, 5, 6, 2] rfl)).ord 5 [1, 0, 2, 3, 4] rfl
    · rw [if_neg hc] at hsm
      rw [hsm, List.append_nil] at hnx
      repeat' (first|refine bk ?_|refine bkc ?_|refine bks ?_|refine bkq (fun q => ?_)|(refine bk2 ?_ ?_<;>(first|exact bkn|(refine bkk ?_;intro h))))
      all_goals first
        | exact absurd ⟨by assumption, .inl (by assumption)⟩ hc
        | exact absurd ⟨by assumption, .inr (by assumption)⟩ hc
        | (refine QS.again ⟨(i + 1, ls, Al, cl), by simp only [hls, hnx]⟩ hix (by show xs.length - (i + 1) < xs.length - i; omega) ⟨rfl, rfl, rfl, rfl, rfl, ?_, trivial⟩ (fun w hs => hs.ord 5 [1, 2, 3, 4, 0] rfl)
           simp only
           rw [show ((i + 1 : Nat) : Int) = (i : Int) + 1 from by omega]; rfl)
  · obtain rfl : i = xs.length := by omega
    repeat' (first|refine bk ?_|refine bkc ?_|refine bks ?_|refine bkq (fun q => ?_)|(refine bk2 ?_ ?_<;>(first|exact bkn|(refine bkk ?_;intro h))))
    refine WL.call c39 rfl rfl rfl rfl (choose_Most _ (mostM_i64 hn) W0 _) ?_
    rintro _ G2 ⟨rfl, hG2⟩
    rw [hG2]; clear hG2 G2
    obtain ⟨M, hM⟩ : ∃ M, M = mostM (xs.length : Int) := ⟨_, rfl⟩
    have hM2 : (if (xs.length : Int) < 1 then 0 else (xs.length : Int) / 2 + 1) = M := by rw [hM]; rfl
    have hMb : 0 ≤ M ∧ M ≤ 3 := by rw [← hM2]; split <;> omega
    rw [hM2]
    unfold ReadM
    rw [← hM, ← hll]
    repeat' (first|refine bk ?_|refine bkc ?_|refine bks ?_|refine bkq (fun q => ?_)|(refine bk2 ?_ ?_<;>(first|exact bkn|(refine bkk ?_;intro h))))
    · exact QS.turn (G' := slc entE 49 none 0 [] :: row bq 92 (wrC Aj xs.length cj bm w) :: slc bpE 46 Aj cj (xs.map (·.b)) :: nodesA xs :: F) (fun w hs => hs.drop.drop.slcNil entE 49) (QS.retV Tryz.results17 rfl ⟨[], 12, none, 0, .inl ⟨.inl (by omega), rfl, rfl⟩, rfl, rfl⟩)
    · exact QS.turn (G' := slc entE 49 none 0 [] :: row bq 92 (wrC Aj xs.length cj bm w) :: slc bpE 46 Aj cj (xs.map (·.b)) :: nodesA xs :: F) (fun w hs => hs.drop.drop.slcNil entE 49) (QS.retV Tryz.results17 rfl ⟨[], 12, none, 0, .inl ⟨.inr (by assumption), rfl, rfl⟩, rfl, rfl⟩)
    · refine WL.fact (p := ∀ x ∈ ls, x.xs.length ≤ x.c) (fun w hs x hx => ents_cap hx (i := 1) rfl w hs) (fun hcap => ?_)
      have hll2 : ∀ x ∈ ls, x.xs.length ≤ 300 := fun x hx => by
        have hm : lgOf x ∈ seenL fs xs xs.length := by rw [← hls]; exact List.mem_map_of_mem hx
        obtain ⟨j, y, _, hy, _, hye⟩ := seenL_mem hm
        have h3 := (hok y (List.mem_of_getElem? hy)).J.len
        simp only [lgOf, Prod.mk.injEq] at hye
        rw [hye.2]; exact h3
      refine WL.call c40 rfl rfl rfl rfl (choose_Committed Al _ cl ls rfl (by omega) (fun x hx => ⟨by have := hll2 x hx; omega, hcap x hx⟩) M (by omega) W0 _ (Rd.slc (i := 0) rfl) (fun x hx => ents_rd hx (i := 1) rfl)) ?_
      rintro _ _ ⟨out, A6, c6, ho, rfl, rfl⟩
      repeat' (first|refine bk ?_|refine bkc ?_|refine bks ?_|refine bkd ?_|refine bkq (fun q => ?_)|(refine bk2 ?_ ?_<;>(first|exact bkn|(refine bkk ?_;intro h))))
      rename_i h1 h2
      exact QS.turn (G' := slc entE 49 A6 c6 out :: row bq 92 (wrC Aj xs.length cj bm w) :: slc bpE 46 Aj cj (xs.map (·.b)) :: nodesA xs :: F) (fun w hs => hs.ord 6 [0, 3, 4, 5] rfl) (QS.retV Tryz.results17 rfl ⟨out, 0, A6, c6, .inr ⟨fun hh => hh.elim (fun hh => by omega) (fun hh => by omega), rfl, ⟨ls, hls, ho⟩⟩, rfl, rfl⟩)
end Go.Proofs.YtfolmcpfdcgliaaGreat.B

set_option linter.unusedVariables false
set_option linter.unusedSimpArgs false
set_option maxRecDepth 8000
/-! Three writers of some nodes, whatever is lost or falls: what stays right. -/
namespace Go.Proofs.YtfolmcpfdcgliaaGreat.B.Q2
open Go Go.Proofs
structure St where
  xs : List Nd
  m : List Msg
  ws : List Wr
  done : List Ent
  last : Int
structure Inv (n : Nat) (s : St) : Prop where
  len : s.xs.length = n
  w3 : s.ws.length = 3
  m50 : s.m.length ≤ 50
  dl : s.done.length ≤ 300
  g : ∃ g : Gh, Sys g s.xs s.m ∧ Dn g s.xs s.done s.last ∧ (∀ (i : Nat) w, s.ws[i]? = some w → WOk g s.done s.last w ∧ 0 ≤ w.n ∧ w.n ≤ 300 ∧ 0 ≤ w.e ∧ w.e ≤ 9007199254740991) ∧
    ∀ (i j : Nat) w w', i ≠ j → s.ws[i]? = some w → s.ws[j]? = some w' → 0 < w.e → w.e ≠ w'.e
section
variable {n : Nat} {s : St}
theorem Inv.oks (h : Inv n s) : ∀ x ∈ s.xs, NdOk x := fun x hx => by
  obtain ⟨g, h1, _⟩ := h.g
  obtain ⟨i, hi⟩ := List.mem_iff_getElem?.1 hx
  exact (h1.nodes i x hi).1
theorem set_cases {α : Type} {l : List α} {k i : Nat} {a b : α} (h : (l.set k a)[i]? = some b) : (i = k ∧ b = a) ∨ (i ≠ k ∧ l[i]? = some b) := by
  by_cases hik : i = k
  · subst hik
    have hi := (List.getElem?_eq_some_iff.1 h).1
    rw [List.length_set] at hi
    rw [List.getElem?_set_self hi] at h
    exact .inl ⟨rfl, (Option.some.inj h).symm⟩
  · rw [List.getElem?_set_ne (fun e => hik e.symm)] at h
    exact .inr ⟨hik, h⟩
theorem WOk.keep {g g' : Gh} {done done' : List Ent} {last last' : Int} {w : Wr} (h : WOk g done last w) (hle : g.Le g') (hl : last ≤ last') (hh : ∀ l, g.lo w.e = some l → g'.hi w.e = g.hi w.e) (hd : 0 < w.e → w.e = last' → w.e = last ∧ done' = done) : WOk g' done' last' w := by
  rcases h with h | ⟨h1, h2, h3, h4, h5, h6, h7⟩
  · exact .inl h
  · obtain ⟨l, hl'⟩ := Option.ne_none_iff_exists'.1 h5
    have e := hh l hl'
    refine .inr ⟨h1, h2, by omega, h4, by rw [hle.lo _ _ hl']; simp, by rw [e]; exact h6, fun he => ?_⟩
    obtain ⟨e1, e2⟩ := hd h1 he
    rw [e, e2]; exact h7 e1
theorem Inv.begin (h : Inv n s) {k : Nat} {w : Wr} (hk : s.ws[k]? = some w) (ep : Int) (fs : List Int) {r : Out1} (hr : beginM w s.xs s.m ep fs = r) (hm : r.m.length ≤ 50) :
    (r.err ≠ 0 ∧ Inv n { s with xs := r.xs, m := r.m, ws := s.ws.set k r.w }) ∨
    (r.err = 0 ∧ s.done <+: r.l ∧ s.last < ep ∧ Inv n ⟨r.xs, r.m, s.ws.set k r.w, r.l, ep⟩) := by
  obtain ⟨g, h1, h2, h3, h4⟩ := h.g
  obtain ⟨h5, h6, h7, h8, h9⟩ := h3 k w hk
  obtain ⟨g', p1, p2, p3, p4, p5⟩ := begin_safe h1 h2 h5 ep fs hr
  have hwn : ∀ (i : Nat) w', (s.ws.set k r.w)[i]? = some w' → i ≠ k → s.ws[i]? = some w' := fun i w' hi hik => by
    rcases set_cases hi with ⟨e, _⟩ | ⟨_, hi⟩
    · exact absurd e hik
    · exact hi
  rcases p5 with ⟨q1, q2, q3⟩ | ⟨q1, q2, q3, q4, q5, q6, q7, q8, q9, q10, q11⟩
  · have hrw : 0 < r.w.e → r.w = w := fun hp => by
      rcases q3 with q3 | q3
      · rw [q3] at hp; simp at hp
      · exact q3
    refine .inl ⟨q1, ⟨p4.trans h.len, by simp only [List.length_set]; exact h.w3, hm, h.dl, g', p3, q2, fun i w' hi => ?_, fun i j w1 w2 hij hi hj hpos => ?_⟩⟩
    · rcases set_cases hi with ⟨ei, ew⟩ | ⟨hik, hi'⟩
      · rw [ew]
        rcases q3 with q3 | q3
        · rw [q3]; exact ⟨.inl rfl, by decide, by decide, by decide, by decide⟩
        · rw [q3]
          exact ⟨h5.keep p1 (Int.le_refl _) (fun l hl => p2 _ _ hl) (fun _ he => ⟨he, rfl⟩), h6, h7, h8, h9⟩
      · obtain ⟨a1, a2⟩ := h3 i w' hi'
        exact ⟨a1.keep p1 (Int.le_refl _) (fun l hl => p2 _ _ hl) (fun _ he => ⟨he, rfl⟩), a2⟩
    · rcases set_cases hi with ⟨ei, ew⟩ | ⟨hik, hi'⟩
      · rw [ew] at hpos ⊢
        have e := hrw hpos
        rw [e] at hpos ⊢
        rw [ei] at hij
        exact h4 k j w w2 hij hk (hwn j w2 hj (fun e => hij e.symm)) hpos
      · rcases set_cases hj with ⟨ej, ew⟩ | ⟨hjk, hj'⟩
        · rw [ew]
          rcases q3 with q3 | q3
          · rw [q3]; simp only; omega
          · rw [q3]; rw [ej] at hij; exact h4 _ _ _ _ hij hi' hk hpos
        · exact h4 _ _ _ _ hij hi' hj' hpos
  · have hother : ∀ (i : Nat) w', s.ws[i]? = some w' → 0 < w'.e → w'.e ≠ ep := fun i w' hi hp he => by
      rcases (h3 i w' hi).1 with hz | ⟨_, _, _, _, hz, _⟩
      · omega
      · rw [he, q6] at hz; exact hz rfl
    refine .inr ⟨q1, q3, q4, ⟨p4.trans h.len, by simp only [List.length_set]; exact h.w3, hm, q11, g', p3, q2, fun i w' hi => ?_, fun i j w1 w2 hij hi hj hpos => ?_⟩⟩
    · rcases set_cases hi with ⟨ei, ew⟩ | ⟨hik, hi'⟩
      · rw [ew, q5]
        exact ⟨.inr ⟨by simp only; omega, q10, Int.le_refl _, rfl, by simp only; rw [q7]; simp, by simp only; rw [q8], fun _ => q8⟩, by simp only; omega, by simp only; omega, by simp only; omega, q10⟩
      · obtain ⟨a1, a2⟩ := h3 i w' hi'
        exact ⟨a1.keep p1 (by simp only; omega) (fun l hl => p2 _ _ hl) (fun hp he => absurd he (hother i w' hi' hp)), a2⟩
    · rcases set_cases hi with ⟨ei, ew⟩ | ⟨hik, hi'⟩
      · rw [ei] at hij
        have hj2 := hwn j w2 hj (fun e => hij e.symm)
        rw [ew, q5]
        intro he
        simp only at he
        exact hother j w2 hj2 (by omega) he.symm
      · rcases set_cases hj with ⟨ej, ew⟩ | ⟨hjk, hj'⟩
        · rw [ew, q5]; exact hother i w1 hi' hpos
        · exact h4 _ _ _ _ hij hi' hj' hpos
theorem Inv.write (h : Inv n s) {k : Nat} {w : Wr} (hk : s.ws[k]? = some w) (d : ByteArray) (fs : List Int) {r : Out1} (hr : writeM w s.xs s.m d fs = r) (hm : r.m.length ≤ 50) :
    (r.err ≠ 0 ∧ Inv n { s with xs := r.xs, m := r.m, ws := s.ws.set k r.w }) ∨
    (r.err = 0 ∧ w.e = s.last ∧ w.n = (s.done.length : Int) ∧ Inv n ⟨r.xs, r.m, s.ws.set k r.w, s.done ++ [⟨w.n + 1, d⟩], s.last⟩) := by
  obtain ⟨g, h1, h2, h3, h4⟩ := h.g
  obtain ⟨h5, h6, h7, h8, h9⟩ := h3 k w hk
  obtain ⟨g', p1, p2, p2', p3, p4, p5⟩ := write_safe h1 h2 h5 d fs hr
  have hwn : ∀ (i : Nat) w', (s.ws.set k r.w)[i]? = some w' → i ≠ k → s.ws[i]? = some w' := fun i w' hi hik => by
    rcases set_cases hi with ⟨e, _⟩ | ⟨_, hi⟩
    · exact absurd e hik
    · exact hi
  have hoth : ∀ (i : Nat) w', i ≠ k → s.ws[i]? = some w' → 0 < w'.e → w'.e ≠ w.e := fun i w' hik hi hp => h4 i k w' w hik hi hk hp
  rcases p5 with ⟨q1, q2, q3⟩ | ⟨q1, q2, q3, q4, q5, q6, q7, q8⟩
  · have hrw : 0 < r.w.e → r.w = w := fun hp => by
      rcases q3 with q3 | ⟨q3, _⟩
      · rw [q3] at hp; simp at hp
      · exact q3
    refine .inl ⟨q1, ⟨p4.trans h.len, by simp only [List.length_set]; exact h.w3, hm, h.dl, g', p3, q2, fun i w' hi => ?_, fun i j w1 w2 hij hi hj hpos => ?_⟩⟩
    · rcases set_cases hi with ⟨ei, ew⟩ | ⟨hik, hi'⟩
      · rw [ew]
        rcases q3 with q3 | ⟨q3, q4⟩
        · rw [q3]; exact ⟨.inl rfl, by decide, by decide, by decide, by decide⟩
        · rw [q3, q4]; exact ⟨h5, h6, h7, h8, h9⟩
      · obtain ⟨a1, a2⟩ := h3 i w' hi'
        refine ⟨?_, a2⟩
        by_cases hz : w'.e = 0
        · exact .inl hz
        · exact a1.keep p1 (Int.le_refl _) (fun l hl => p2 _ _ hl (hoth i w' hik hi' (by omega))) (fun _ he => ⟨he, rfl⟩)
    · rcases set_cases hi with ⟨ei, ew⟩ | ⟨hik, hi'⟩
      · rw [ew] at hpos ⊢
        have e := hrw hpos
        rw [e] at hpos ⊢
        rw [ei] at hij
        exact h4 k j w w2 hij hk (hwn j w2 hj (fun e => hij e.symm)) hpos
      · rcases set_cases hj with ⟨ej, ew⟩ | ⟨hjk, hj'⟩
        · rw [ew]
          rcases q3 with q3 | ⟨q3, _⟩
          · rw [q3]; simp only; omega
          · rw [q3]; rw [ej] at hij; exact h4 _ _ _ _ hij hi' hk hpos
        · exact h4 _ _ _ _ hij hi' hj' hpos
  · refine .inr ⟨q1, q3, q5, ⟨p4.trans h.len, by simp only [List.length_set]; exact h.w3, hm, by simp only [List.length_append, List.length_cons, List.length_nil]; omega, g', p3, q8, fun i w' hi => ?_, fun i j w1 w2 hij hi hj hpos => ?_⟩⟩
    · rcases set_cases hi with ⟨ei, ew⟩ | ⟨hik, hi'⟩
      · rw [ew, q6]
        have h5' := h5.resolve_left (by omega)
        obtain ⟨b1, b2, b3, b4, b5, b6, b7⟩ := h5'
        refine ⟨.inr ⟨b1, b2, b3, b4, by simp only; rw [p2']; exact b5, ?_, fun _ => ?_⟩, by simp only; omega, by simp only; omega, h8, h9⟩
        · simp only; rw [q3, q7, List.length_append]; simp only [List.length_cons, List.length_nil]; omega
        · simp only; rw [q3, q7]
      · obtain ⟨a1, a2⟩ := h3 i w' hi'
        refine ⟨?_, a2⟩
        by_cases hz : w'.e = 0
        · exact .inl hz
        · have hne := hoth i w' hik hi' (by omega)
          exact a1.keep p1 (Int.le_refl _) (fun l hl => p2 _ _ hl hne) (fun _ he => absurd (by rw [he, q3]) hne)
    · rcases set_cases hi with ⟨ei, ew⟩ | ⟨hik, hi'⟩
      · rw [ei] at hij
        rw [ew, q6]
        exact h4 k j w w2 hij hk (hwn j w2 hj (fun e => hij e.symm)) q2
      · rcases set_cases hj with ⟨ej, ew⟩ | ⟨hjk, hj'⟩
        · rw [ew, q6]; rw [ej] at hij; exact h4 i k w1 w hij hi' hk hpos
        · exact h4 _ _ _ _ hij hi' hj' hpos
/-- A node turns: what is right of all of them stays right. -/
theorem Inv.node (h : Inv n s) {i : Nat} {x y : Nd} (hx : s.xs[i]? = some x) (hy : NdOk y) {m' : List Msg} (hm : ∀ z ∈ m', z ∈ s.m) (hml : m'.length ≤ s.m.length)
    (hT : ∀ (g : Gh), Sys g s.xs s.m → ∀ T : Jn → Prop, (∀ q : Rq, Val g q → RqOk q → Cl q T) → Has T x → Has T y) : Inv n { s with xs := s.xs.set i y, m := m' } := by
  obtain ⟨g, h1, h2, h3, h4⟩ := h.g
  have hTg := hT g h1
  have hset : ∀ S : Jn → Prop, (∀ q : Rq, Val g q → RqOk q → Cl q S) → ∀ j, HasAt s.xs S j → HasAt (s.xs.set i y) S j := fun S hS j hj => hj.set (fun x' hx' hs => by
    rw [hx] at hx'; obtain rfl := Option.some.inj hx'
    exact hTg S hS hs)
  refine ⟨by simp only [List.length_set]; exact h.len, h.w3, Nat.le_trans hml h.m50, h.dl, g, ⟨h1.ok, fun j z hz => ?_, fun z hz => ?_, fun c l hc => ?_⟩, ⟨h2.z, h2.p, fun hp => ?_, h2.later⟩, h3, h4⟩
  · rcases set_cases hz with ⟨rfl, rfl⟩ | ⟨hne, hz⟩
    · exact ⟨hy, hTg _ (fun q hv hq => good_cl h1.ok hv hq) (h1.nodes _ x hx).2⟩
    · exact h1.nodes j z hz
  · obtain ⟨a, b, c⟩ := h1.mail z (hm z hz)
    exact ⟨a, by simp only [List.length_set]; exact b, c⟩
  · simp only [List.length_set]
    exact (h1.ch c l hc).mono fun j _ hj => hset _ (fun q _ _ => prm_cl c q) j hj
  · obtain ⟨a, b, c⟩ := h2.h hp
    refine ⟨a, b, ?_⟩
    simp only [List.length_set]
    exact c.mono fun j _ hj => hset _ (fun q _ _ => holds_cl _ _ q) j hj
/-- A message comes. -/
theorem Inv.take (h : Inv n s) {j : Nat} {z : Msg} (hz : s.m[j]? = some z) : ∃ (i : Nat) (x : Nd), z.1 = (i : Int) ∧ s.xs[i]? = some x ∧ z.2.size ≤ 4000 ∧ Inv n { s with xs := s.xs.set i (x.hand (bs z.2)), m := s.m.eraseIdx j } := by
  obtain ⟨g, h1, _⟩ := h.g
  obtain ⟨a, b, c, csz⟩ := h1.mail z (List.mem_of_getElem? hz)
  obtain ⟨x, hx⟩ : ∃ x, s.xs[z.1.toNat]? = some x := ⟨s.xs[z.1.toNat]'(by omega), List.getElem?_eq_getElem (by omega)⟩
  refine ⟨z.1.toNat, x, by omega, hx, csz, ?_⟩
  obtain ⟨g, h1, h2, h3, h4⟩ := h.g
  obtain ⟨a, b, c, csz⟩ := h1.mail z (List.mem_of_getElem? hz)
  have hTg : ∀ T : Jn → Prop, (∀ q : Rq, Val g q → RqOk q → Cl q T) → Has T x → Has T (x.hand (bs z.2)) := fun T hT hh => hh.hand (fun q hq => hT q (c q hq) (readQ_ok hq))
  have hset : ∀ S : Jn → Prop, (∀ q : Rq, Val g q → RqOk q → Cl q S) → ∀ j', HasAt s.xs S j' → HasAt (s.xs.set z.1.toNat (x.hand (bs z.2))) S j' := fun S hS j' hj => hj.set (fun x' hx' hs => by
    rw [hx] at hx'; obtain rfl := Option.some.inj hx'
    exact hTg S hS hs)
  refine ⟨by simp only [List.length_set]; exact h.len, h.w3, by simp only; have := List.length_eraseIdx_le s.m j; have := h.m50; omega, h.dl, g, ⟨h1.ok, fun j' y hy => ?_, fun y hy => ?_, fun c' l hc => ?_⟩, ⟨h2.z, h2.p, fun hp => ?_, h2.later⟩, h3, h4⟩
  · rcases set_cases hy with ⟨rfl, rfl⟩ | ⟨hne, hy⟩
    · exact ⟨hand_ok (h1.nodes _ x hx).1 _, hTg _ (fun q hv hq => good_cl h1.ok hv hq) (h1.nodes _ x hx).2⟩
    · exact h1.nodes j' y hy
  · obtain ⟨a', b', c'⟩ := h1.mail y (List.mem_of_mem_eraseIdx hy)
    exact ⟨a', by simp only [List.length_set]; exact b', c'⟩
  · simp only [List.length_set]
    exact (h1.ch c' l hc).mono fun j' _ hj => hset _ (fun q _ _ => prm_cl c' q) j' hj
  · obtain ⟨a', b', c'⟩ := h2.h hp
    refine ⟨a', b', ?_⟩
    simp only [List.length_set]
    exact c'.mono fun j' _ hj => hset _ (fun q _ _ => holds_cl _ _ q) j' hj
/-- A fuse is lit. -/
theorem Inv.fuse (h : Inv n s) {i : Nat} {x : Nd} (hx : s.xs[i]? = some x) {k : Int} (hk : k ≤ 9223372036854775807) : Inv n { s with xs := s.xs.set i ⟨x.b, x.d, x.J, x.D.light k⟩ } := by
  have ho := h.oks x (List.mem_of_getElem? hx)
  exact h.node (y := ⟨x.b, x.d, x.J, x.D.light k⟩) hx ⟨ho.J, light_ok ho.D hk⟩ (fun z hz => hz) (Nat.le_refl _) (fun g _ T hT hh => hh.light hk)
/-- A node falls, and is opened anew. -/
theorem Inv.crash (h : Inv n s) {i : Nat} {x : Nd} (hx : s.xs[i]? = some x) (keeps : List Int) (b : Nat) :
    (openJ (x.D.crash keeps)).1 = 0 ∧ Inv n { s with xs := s.xs.set i ⟨b, x.d, (openJ (x.D.crash keeps)).2.1, (openJ (x.D.crash keeps)).2.2⟩ } := by
  obtain ⟨g, h1, _⟩ := h.g
  have h0 := (h1.nodes i x hx).2.crash keeps
  exact ⟨h0.e, h.node (y := ⟨b, x.d, (openJ (x.D.crash keeps)).2.1, (openJ (x.D.crash keeps)).2.2⟩) hx ⟨h0.k.ok, h0.k.disk⟩ (fun z hz => hz) (Nat.le_refl _) (fun g _ T hT hh => (hh.crash keeps).has b x.d)⟩
/-- A writer is another one. -/
theorem Inv.fresh (h : Inv n s) (k : Nat) : Inv n { s with ws := s.ws.set k ⟨0, 0, false⟩ } := by
  obtain ⟨g, h1, h2, h3, h4⟩ := h.g
  refine ⟨h.len, by simp only [List.length_set]; exact h.w3, h.m50, h.dl, g, h1, h2, fun i w' hi => ?_, fun i j w1 w2 hij hi hj hpos => ?_⟩
  · rcases set_cases hi with ⟨ei, ew⟩ | ⟨hik, hi'⟩
    · rw [ew]; exact ⟨.inl rfl, by decide, by decide, by decide, by decide⟩
    · exact h3 i w' hi'
  · rcases set_cases hi with ⟨ei, ew⟩ | ⟨hik, hi'⟩
    · rw [ew] at hpos; simp at hpos
    · rcases set_cases hj with ⟨ej, ew⟩ | ⟨hjk, hj'⟩
      · rw [ew]; simp only; omega
      · exact h4 _ _ _ _ hij hi' hj' hpos
/-- What Read tells. -/
theorem Inv.read (h : Inv n s) {fs : List Int} {out : List Ent} (hr : ReadM s.xs fs out 0) : s.done <+: out ∨ out <+: s.done := by
  obtain ⟨g, h1, h2, h3, h4⟩ := h.g
  rcases hr with ⟨_, _, hr⟩ | ⟨hr1, _, ls, hls, ho⟩
  · omega
  have hn : 1 ≤ s.xs.length := by
    rcases Nat.eq_zero_or_pos s.xs.length with h0 | h0
    · exact absurd (.inl h0) hr1
    · exact h0
  rcases ho with ⟨_, rfl⟩ | ⟨E, K, i, y, hC, rfl⟩
  · exact .inr List.nil_prefix
  rcases Int.lt_or_le 0 s.last with hp | hp
  rotate_left 1
  · have := h2.p
    rw [h2.z (by omega)]; exact .inl List.nil_prefix
  obtain ⟨a1, a2, a3⟩ := h2.h hp
  -- who tells y
  have hym : lgOf y ∈ seenL fs s.xs s.xs.length := by rw [← hls]; exact List.mem_map_of_mem (List.mem_of_getElem? hC.at_)
  obtain ⟨iy, ny, b1, b2, b3, b4⟩ := seenL_mem hym
  have hgy : Good g ny.J := (h1.nodes iy ny b2).2.now b3
  have hye : ny.J.e = E ∧ ny.J.xs = y.xs := by
    have e1 : y.e = E := hC.is.1
    simp only [lgOf, Prod.mk.injEq] at b4
    exact ⟨by rw [← b4.1, e1], b4.2.symm⟩
  -- a majority has E
  have hmaj : Maj s.xs.length (fun i => ∃ x : Nd, s.xs[i]? = some x ∧ x.J.dead = false ∧ x.J.e = E) := by
    refine ⟨fun i => match seenM fs s.xs i with | some t => decide (t.1 = E) | none => false, fun i hi hf => ?_, ?_⟩
    · simp only at hf
      cases hs : seenM fs s.xs i with
      | none => rw [hs] at hf; cases hf
      | some t =>
        rw [hs] at hf
        have hs' := hs
        unfold seenM at hs'
        cases hx : s.xs[i]? with
        | none => rw [hx] at hs'; cases hs'
        | some x =>
          rw [hx] at hs'
          simp only at hs'
          split at hs'
          · rename_i hc
            obtain rfl := Option.some.inj hs'
            exact ⟨x, rfl, hc.1, by simpa using hf⟩
          · cases hs'
    · have hep := hC.ep
      have hcnt : cnt ls E 0 = (seenL fs s.xs s.xs.length).countP fun t => decide (t.1 = E) := by
        rw [← hls, List.countP_map]
        unfold cnt
        refine List.countP_congr fun x _ => ?_
        simp [lgOf]
        exact decide_eq_true_iff.symm
      rw [hcnt] at hep
      have h5 : (seenL fs s.xs s.xs.length).countP (fun t => decide (t.1 = E)) ≤ (List.range s.xs.length).countP (fun i => match seenM fs s.xs i with | some t => decide (t.1 = E) | none => false) := by
        unfold seenL
        rw [List.countP_filterMap]
        refine List.countP_mono_left fun i _ hi => ?_
        cases hs : seenM fs s.xs i with
        | none => rw [hs] at hi; simp at hi
        | some t => rw [hs] at hi; simpa using hi
      have := most_pos hn
      omega
  obtain ⟨i, hi, hH, x, hx, c1, c2⟩ := a3.meet hmaj
  have hHx : Holds s.last s.done x.J := by
    obtain ⟨x', hx', hs⟩ := hH
    rw [hx] at hx'; obtain rfl := Option.some.inj hx'
    exact hs.now c1
  unfold Holds at hHx
  rw [← hye.2]
  -- both are beginnings of one list
  have hboth : ∃ c, s.done <+: c ∧ ny.J.xs.take K <+: c := by
    rcases hgy with ⟨hz, _⟩ | ⟨l, d1, d2, d3⟩
    · omega
    · rcases hHx with hlt | ⟨heq, hpre⟩
      · refine ⟨ny.J.xs, (h2.later _ l d1 (by omega)).trans d2, List.take_prefix _ _⟩
      · have : ny.J.e = s.last := by omega
        rw [this] at d3
        exact ⟨g.hi s.last, a2, (List.take_prefix _ _).trans d3⟩
  obtain ⟨c, e1, e2⟩ := hboth
  rcases Nat.le_total s.done.length (ny.J.xs.take K).length with hle | hle
  · exact .inl (two_prefix e1 e2 hle)
  · exact .inr (two_prefix e2 e1 hle)
end
end Go.Proofs.YtfolmcpfdcgliaaGreat.B.Q2

set_option linter.unusedVariables false
set_option linter.unusedSimpArgs false
set_option maxRecDepth 8000
/-! The rows' opening and closing. -/
namespace Go.Proofs.YtfolmcpfdcgliaaGreat.B
open Go Go.Proofs Go.ChangeShapes Go.WideShapes Go.ChangeAt Go.RowKit

section
variable {H : Type} {enc : TypeId × Value → H} {P : Program} {W W' : World}
theorem trodAll_below (hl : laidOutB P = true) (hb : Below W.heap.size W W') : ∀ {ts : List TypeId} {vs : List Value} {ds : List (DataW H)} {ps : List MemPlace}, (∀ t ∈ ts, P.readableRec t = true ∧ t < P.types.size) →
    DataW.TrodAll enc P W 0 (fun _ => true) true ts vs ds ps → (∀ x ∈ ps, x.block < W.heap.size) → DataW.TrodAll enc P W' 0 (fun b => decide (b < W.heap.size)) true ts vs ds ps
  | [], [], [], _, _, h, _ => h
  | _ :: _, _ :: _, _ :: _, _, ht, ⟨p, q, h1, h2, e⟩, hlt => by
    subst e
    have h3 := ht _ (List.mem_cons_self ..)
    exact ⟨p, q, Below.trod hl h3.1 h3.2 h1 hb (fun x hx => hlt x (List.mem_append_left _ hx)), trodAll_below hl hb (fun t h => ht t (List.mem_cons_of_mem _ h)) h2 (fun x hx => hlt x (List.mem_append_right _ hx)), rfl⟩
/-- A law's post, of a walk that leaves the old blocks alone. -/
theorem law_post {f : Func} {s : ChangeSpec} {fresh handsOn : Bool} {args : Array Value} {ds gs : List (DataW H)} {before : List MemPlace} {v : Value}
    (hl : laidOutB P = true) (hvars : s.vars = []) (ht : f.params.toList.all (fun t => P.readableRec t && decide (t < P.types.size)) = true)
    (hW : DataW.Whole enc P f.params.toList s.vars false W args.toList ds gs before) (hb : Below W.heap.size W W')
    (hres : DataW.TrodAll enc P W' (match fresh with | true => W.heap.size | false => 0) (fun _ => false) handsOn f.resultTypes.toList (v.resultList f.resultTypes.size) (s.fn H ds).results [])
    (hargs : (s.fn H ds).args = ds) (hv2 : (s.fn H ds).vars = []) : s.post enc P f false fresh handsOn false W args v W' := by
  have hlt := hW.lt
  have hW' := hW
  obtain ⟨p, q, hA, hV, rfl, hfz, hnd⟩ := hW
  rw [hvars] at hV
  obtain ⟨rfl, rfl⟩ := trodVars_none hV
  refine ⟨ds, [], p ++ [], [], p, [], hW', ?_, ?_, ?_, ?_, fun h => (by cases h)⟩
  · rw [List.append_nil]; exact hres
  · rw [List.append_nil, hargs]
    refine trodAll_below hl hb (fun t h => ?_) hA (fun x hx => hlt x (List.mem_append_left _ hx))
    have := List.all_eq_true.1 ht t h
    simpa using this
  · rw [List.append_nil, hvars, hv2]; rfl
  · exact hb.frame _
end
theorem spot_none {w : World} {a : Addr} {v : Value} (h : w.cell? a = some v) : a.spot = none := by
  unfold World.cell? at h
  split at h
  · cases hs : a.spot with
    | none => rfl
    | some x => rw [hs] at h; simp at h
  · cases h
theorem wf_i64 {n : Int} (h : (Lit.int .i64 n).wf = true) : I64 n := by
  unfold I64
  simp only [Lit.wf, Bool.and_eq_true, decide_eq_true_eq] at h
  exact h
theorem Rd.old {α : Type} {E : EncK α} {W : World} {A : Option Addr} {xs : List α} (h : RdC W A (flat E xs)) : Rd W [B.old W W.heap.size] E A xs := fun w hs => by
  have hb := hs.oldBelow rfl
  rcases h with h | ⟨b, o, rfl, hc⟩
  · exact .inl h
  · refine .inr ⟨b, o, rfl, fun j u hj => ?_⟩
    have h1 := hc j u hj
    have hlt := World.block_lt_of_cell? W ⟨b, o + j, none⟩ (u := u) h1
    rw [World.cell?_of_block (w := W) (hb.block b hlt)]
    exact h1
/-- A walk from the beginning, for a row. -/
theorem Fn.row {P : Program} {K : Nat} {vs : List Value} {W : World} {u : Value} (h : Fn P K vs W [B.old W W.heap.size] (Ret fun v G' => v = u ∧ G' = [B.old W W.heap.size])) :
    Calls P K vs.toArray W fun e w' => e = .returned u ∧ Below W.heap.size W w' := by
  refine (h W (Sat.start W)).mono ?_
  rintro e w' ⟨G', hR, hs⟩
  cases e with
  | returned v => obtain ⟨rfl, rfl⟩ := hR; exact ⟨rfl, hs.oldBelow rfl⟩
  | panicked ch => exact hR.elim
  | outgrown => exact hR.elim

theorem prog_own : ownKnob Tryz.prog.godebug = none := by kernel_rfl
theorem prog_laid : laidOutB Tryz.prog = true := by kernel_rfl
end Go.Proofs.YtfolmcpfdcgliaaGreat.B
