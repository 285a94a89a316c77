import Derived.Test.YtfolmcpfdcgliaaGreatMg46
import Derived.Test.YtfolmcpfdcgliaaGreatMg33
import Derived.Test.YtfolmcpfdcgliaaGreatMg8
import Derived.Test.YtfolmcpfdcgliaaGreatMg17
import Derived.Test.YtfolmcpfdcgliaaGreatRows
import Derived.WalkKit
import Derived.ProofKit
import Derived.OpenShut
import Derived.JoinedCond
import Derived.Carry
import Derived.Lib.SmallJoins
import Derived.SliceStrings
import Derived.ChangeMaps5
import Derived.SizedLaws
import Derived.Test.YtfolmcpfdcgliaaGreatMg24
import Derived.Test.YtfolmcpfdcgliaaGreatMg37
set_option linter.unusedVariables false
set_option linter.unusedSimpArgs false
set_option maxRecDepth 8000
namespace Go.Proofs.YtfolmcpfdcgliaaGreat.B
open Go Go.Proofs
def seenM (fs : List Int) (xs : List Nd) (i : Nat) : Option Lg :=
  match xs[i]? with
  | some x => if x.J.dead = false ∧ (fateM fs i = 0 ∨ fateM fs i = 3) then some (x.J.e, x.J.xs) else none
  | none => none
def seenL (fs : List Int) (xs : List Nd) (k : Nat) : List Lg := (List.range k).filterMap (seenM fs xs)
def OutL (lg : List Lg) (need : Int) (out : List Ent) : Prop := ∃ ls : List LogX, ls.map lgOf = lg ∧ Out ls need out
def ReadM (xs : List Nd) (fs : List Int) (out : List Ent) (er : Int) : Prop :=
  ((xs.length = 0 ∨ ((seenL fs xs xs.length).length : Int) < mostM xs.length) ∧ out = [] ∧ er = 12) ∨
  (¬ (xs.length = 0 ∨ ((seenL fs xs xs.length).length : Int) < mostM xs.length) ∧ er = 0 ∧ OutL (seenL fs xs xs.length) (max (mostM xs.length) 1) out)
theorem seenL_succ (fs : List Int) (xs : List Nd) (i : Nat) : seenL fs xs (i + 1) = seenL fs xs i ++ (match seenM fs xs i with | some t => [t] | none => []) := by
  unfold seenL
  rw [List.range_succ, List.filterMap_append]
  cases h : seenM fs xs i <;> simp [h]
theorem seenL_len (fs : List Int) (xs : List Nd) (k : Nat) : (seenL fs xs k).length ≤ k := by
  have := List.length_filterMap_le (seenM fs xs) (List.range k)
  rw [List.length_range] at this
  exact this
theorem seenL_mem {fs : List Int} {xs : List Nd} {k : Nat} {t : Lg} (h : t ∈ seenL fs xs k) : ∃ (i : Nat) (x : Nd), i < k ∧ xs[i]? = some x ∧ x.J.dead = false ∧ t = (x.J.e, x.J.xs) := by
  obtain ⟨i, hi, hs⟩ := List.mem_filterMap.1 h
  unfold seenM at hs
  cases hx : xs[i]? with
  | none => rw [hx] at hs; cases hs
  | some x =>
    rw [hx] at hs
    simp only at hs
    split at hs
    · rename_i hc
      exact ⟨i, x, List.mem_range.1 hi, hx, hc.1, (Option.some.inj hs).symm⟩
    · cases hs
section
variable {W0 : World} {G : List SL} {ls : List LogX}
theorem ents_cap {x : LogX} (h : x ∈ ls) {i : Nat} (hG : G[i]? = some (entsA ls)) : ∀ w, Sat W0 G w → x.xs.length ≤ x.c := fun w hs => by
  obtain ⟨j, hj⟩ := List.mem_iff_getElem?.1 h
  have := bag_at (P := slc entE 49 x.A x.c x.xs) (i := j) (by rw [List.getElem?_map, hj]; rfl) (hs.pick hG)
  exact slc_cap (i := 0) rfl _ this
end
attribute [local irreducible] WL CS QS WQ WH WS Fn Op1 row Sat
attribute [local irreducible] slc jA diskA mailA nodesA nodesX entsA
theorem q_DeadR (b bd : Nat) (A : Option Addr) (c : Nat) (J : Jn) (W0 : World) (F : List SL) :
    Fn Tryz.prog 38 [.pointer (some ⟨b, 0, none⟩)] W0 (row b 103 (jCells bd A c J) :: F) (Ret fun v G' => v = .bool J.dead ∧ G' = row b 103 (jCells bd A c J) :: F) := by
  refine Fn.enter Tryz.func38 rfl Tryz.ntmps38 rfl ?_
  simp only [jCells]
  repeat' (first|refine bA ?_|refine bkq fun q=>?_|(refine bk2 ?_ ?_<;>(first|exact bkn|(refine bkk ?_;intro h))))
  exact QS.retV Tryz.results38 rfl ⟨rfl, rfl⟩
theorem q_DeadA (b bd : Nat) (J : Jn) (W0 : World) (F : List SL) :
    Fn Tryz.prog 38 [.pointer (some ⟨b, 0, none⟩)] W0 (jA b bd J :: F) (Ret fun v G' => v = .bool J.dead ∧ G' = jA b bd J :: F) := by
  refine Fn.ex (fun w hs => jA_open w hs) ?_
  rintro ⟨A, c⟩
  exact Fn.post (q_DeadR b bd A c J W0 _) (Ret.post fun v G' ⟨h1, h2⟩ => ⟨jA b bd J :: F, fun w hw => by rw [h2] at hw; exact jA_shut (A := A) (c := c) w hw, h1, rfl⟩)
theorem q_Dead {ys : List Nd} {i : Nat} {x : Nd} (hx : ys[i]? = some x) (W0 : World) (F : List SL) :
    Fn Tryz.prog 38 [.pointer (some ⟨x.b, 0, none⟩)] W0 (nodesA ys :: F) (Ret fun v G' => v = .bool x.J.dead ∧ G' = nodesA ys :: F) :=
  Fn.post ((q_DeadA x.b x.d x.J W0 (diskA x.d x.D :: nodesX ys i :: F)).pre (nodes_open hx)) (Ret.post fun v G' ⟨h1, h2⟩ => ⟨nodesA ys :: F, fun w hw => by
    rw [h2] at hw
    have h3 := nodes_shut hx w hw
    rwa [set_self hx] at h3, h1, rfl⟩)
set_option maxHeartbeats 8000000 in
theorem q_Read (bq : Nat) (Aj : Option Addr) (cj bm : Nat) (w : Wr) (xs : List Nd) (hok : ∀ x ∈ xs, NdOk x) (hn : xs.length ≤ 5) (A : Option Addr) (k c : Nat) (fs : List Int) (hk : k = fs.length) (hI : ∀ x ∈ fs, I64 x) (W0 : World) (F : List SL) (hR : Rd W0 F intE A fs) :
    Fn Tryz.prog 17 [.pointer (some ⟨bq, 0, none⟩), .slice A k c] W0
      (row bq 92 (wrC Aj xs.length cj bm w) :: slc bpE 46 Aj cj (xs.map (·.b)) :: nodesA xs :: F)
      (Ret fun v G' => ∃ out er Al cl, ReadM xs fs out er ∧ v = .tuple #[.slice Al out.length cl, .int .i64 er] ∧
        G' = slc entE 49 Al cl out :: row bq 92 (wrC Aj xs.length cj bm w) :: slc bpE 46 Aj cj (xs.map (·.b)) :: nodesA xs :: F) := by
  subst hk
  refine Fn.enter Tryz.func17 rfl Tryz.ntmps17 rfl ?_
  repeat' (first|refine bA ?_|refine bkq fun q=>?_|(refine bk2 ?_ ?_<;>(first|exact bkn|(refine bkk ?_;intro h))))
  refine CS.loop (X := {y : Nat × List LogX × Option Addr × Nat // y.2.1.map lgOf = seenL fs xs y.1}) (fun y => [(0, .pointer (some ⟨bq, 0, none⟩)), (1, .slice A fs.length c), (6, .slice y.1.2.2.1 y.1.2.1.length y.1.2.2.2), (14, .slice Aj xs.length cj), (15, .int .i64 (xs.length : Int)), (16, .int .i64 (y.1.1 : Int))])
    (fun y => slc lgE 45 y.1.2.2.1 y.1.2.2.2 y.1.2.1 :: entsA y.1.2.1 :: row bq 92 (wrC Aj xs.length cj bm w) :: slc bpE 46 Aj cj (xs.map (·.b)) :: nodesA xs :: F) (fun y => y.1.1 ≤ xs.length) (fun y => xs.length - y.1.1) ⟨(0, [], none, 0), rfl⟩ ⟨rfl, rfl, rfl, rfl, rfl, rfl, trivial⟩ (fun w hs => (ents_none w hs).slcNil lgE 45) (Nat.zero_le _) ?_
  rintro ⟨⟨i, ls, Al, cl⟩, hls⟩ hi
  simp only at hls hi ⊢
  have hll := congrArg List.length hls
  rw [List.length_map] at hll
  have hsl := seenL_len fs xs i
  by_cases hix : i < xs.length
  · obtain ⟨x, hx⟩ : ∃ x, xs[i]? = some x := ⟨xs[i]'hix, List.getElem?_eq_getElem hix⟩
    have hxo := hok x (List.mem_of_getElem? hx)
    have hnx := seenL_succ fs xs i
    have hsm : seenM fs xs i = if x.J.dead = false ∧ (fateM fs i = 0 ∨ fateM fs i = 3) then some (x.J.e, x.J.xs) else none := by unfold seenM; rw [hx]
    repeat' (first|refine bA ?_|refine bkq fun q=>?_|(refine bk2 ?_ ?_<;>(first|exact bkn|(refine bkk ?_;intro h))))
    refine WL.idx TT (Rd.slc (i := 3) rfl) rfl rfl (by rw [List.length_map]) (by omega) (x := x.b) (by rw [Int.toNat_natCast, List.getElem?_map, hx]; rfl) rfl rfl rfl rfl (fun bb2 o hA => ?_)
    refine WL.s (op1_at TT hA rfl rfl rfl rfl) rfl ?_
    repeat' (first|refine bA ?_|refine bkq fun q=>?_|(refine bk2 ?_ ?_<;>(first|exact bkn|(refine bkk ?_;intro h))))
    refine WL.call c37 rfl rfl rfl rfl (q_fate A _ c fs rfl hI i W0 _ hR.cons.cons.cons.cons.cons) ?_
    rintro _ G2 ⟨rfl, hG2⟩
    rw [hG2]; clear hG2 G2
    generalize fateM fs i = f at hsm ⊢
    repeat' (first|refine bA ?_|refine bkq fun q=>?_|(refine bk2 ?_ ?_<;>(first|exact bkn|(refine bkk ?_;intro h))))
    refine WL.call c38 rfl rfl rfl rfl ((q_Dead hx W0 _).pre (fun w hs => hs.front (i := 4) rfl)) ?_
    rintro _ _ ⟨rfl, rfl⟩
    by_cases hc : x.J.dead = false ∧ (f = 0 ∨ f = 3)
    · rw [if_pos hc] at hsm
      rw [hsm] at hnx
      obtain ⟨hc1, hc2⟩ := hc
      rw [hc1]
      simp only at hnx
      repeat' (first|refine bN ?_|refine bkq fun q=>?_|(refine bk2 ?_ ?_<;>(first|exact bkn|(refine bkk ?_;intro h))))
      all_goals
        refine WL.call c16 rfl rfl rfl rfl (q_Log hx hxo hc1 W0 _) ?_
        rintro _ _ ⟨A4, c4, rfl, rfl⟩
        repeat' (first|refine bN ?_|refine bkq fun q=>?_|(refine bk2 ?_ ?_<;>(first|exact bkn|(refine bkk ?_;intro h))))
        refine WL.buildSlice TT rfl rfl rfl rfl rfl rfl rfl rfl (fun q2 => ?_)
        refine WL.append TT 3 (E := lgE) (xs := ls) (ys := [⟨x.J.e, A4, c4, x.J.xs⟩]) rfl rfl rfl rfl rfl (Rd.row (i := 0) rfl rfl) rfl rfl rfl rfl rfl (by decide) (by simp only [List.length_cons, List.length_nil]; omega) (fun _ _ => rfl) rfl (fun A5 c5 => ?_)
        repeat' (first|refine bA ?_|refine bkq fun q=>?_|(refine bk2 ?_ ?_<;>(first|exact bkn|(refine bkk ?_;intro h))))
        refine QS.again ⟨(i + 1, ls ++ [⟨x.J.e, A4, c4, x.J.xs⟩], A5, c5), by simp only [List.map_append, hls, hnx]; rfl⟩ hix (by show xs.length - (i + 1) < xs.length - i; omega) ⟨rfl, rfl, rfl, rfl, rfl, ?_, trivial⟩ (fun w hs => ?_)
        · simp only
          rw [show ((i + 1 : Nat) : Int) = (i : Int) + 1 from by omega]; rfl
        · exact (ents_snoc (x := ⟨x.J.e, A4, c4, x.J.xs⟩) w (hs.ord 7 [1, 4, 3, 5, 6, 2] rfl)).ord 5 [1, 0, 2, 3, 4] rfl
    · rw [if_neg hc] at hsm
      rw [hsm, List.append_nil] at hnx
      repeat' (first|refine bN ?_|refine bkq fun q=>?_|(refine bk2 ?_ ?_<;>(first|exact bkn|(refine bkk ?_;intro h))))
      all_goals first
        | exact absurd ⟨by assumption, .inl (by assumption)⟩ hc
        | exact absurd ⟨by assumption, .inr (by assumption)⟩ hc
        | (refine QS.again ⟨(i + 1, ls, Al, cl), by simp only [hls, hnx]⟩ hix (by show xs.length - (i + 1) < xs.length - i; omega) ⟨rfl, rfl, rfl, rfl, rfl, ?_, trivial⟩ (fun w hs => hs.ord 5 [1, 2, 3, 4, 0] rfl)
           simp only
           rw [show ((i + 1 : Nat) : Int) = (i : Int) + 1 from by omega]; rfl)
  · obtain rfl : i = xs.length := by omega
    repeat' (first|refine bN ?_|refine bkq fun q=>?_|(refine bk2 ?_ ?_<;>(first|exact bkn|(refine bkk ?_;intro h))))
    refine WL.call c39 rfl rfl rfl rfl (choose_Most _ (mostM_i64 hn) W0 _) ?_
    rintro _ G2 ⟨rfl, hG2⟩
    rw [hG2]; clear hG2 G2
    obtain ⟨M, hM⟩ : ∃ M, M = mostM (xs.length : Int) := ⟨_, rfl⟩
    have hM2 : (if (xs.length : Int) < 1 then 0 else (xs.length : Int) / 2 + 1) = M := by rw [hM]; rfl
    have hMb : 0 ≤ M ∧ M ≤ 3 := by rw [← hM2]; split <;> omega
    rw [hM2]
    unfold ReadM
    rw [← hM, ← hll]
    repeat' (first|refine bN ?_|refine bkq fun q=>?_|(refine bk2 ?_ ?_<;>(first|exact bkn|(refine bkk ?_;intro h))))
    · exact QS.turn (G' := slc entE 49 none 0 [] :: row bq 92 (wrC Aj xs.length cj bm w) :: slc bpE 46 Aj cj (xs.map (·.b)) :: nodesA xs :: F) (fun w hs => hs.drop.drop.slcNil entE 49) (QS.retV Tryz.results17 rfl ⟨[], 12, none, 0, .inl ⟨.inl (by omega), rfl, rfl⟩, rfl, rfl⟩)
    · exact QS.turn (G' := slc entE 49 none 0 [] :: row bq 92 (wrC Aj xs.length cj bm w) :: slc bpE 46 Aj cj (xs.map (·.b)) :: nodesA xs :: F) (fun w hs => hs.drop.drop.slcNil entE 49) (QS.retV Tryz.results17 rfl ⟨[], 12, none, 0, .inl ⟨.inr (by assumption), rfl, rfl⟩, rfl, rfl⟩)
    · refine WL.fact (p := ∀ x ∈ ls, x.xs.length ≤ x.c) (fun w hs x hx => ents_cap hx (i := 1) rfl w hs) (fun hcap => ?_)
      have hll2 : ∀ x ∈ ls, x.xs.length ≤ 300 := fun x hx => by
        have hm : lgOf x ∈ seenL fs xs xs.length := by rw [← hls]; exact List.mem_map_of_mem hx
        obtain ⟨j, y, _, hy, _, hye⟩ := seenL_mem hm
        have h3 := (hok y (List.mem_of_getElem? hy)).J.len
        simp only [lgOf, Prod.mk.injEq] at hye
        rw [hye.2]; exact h3
      refine WL.call c40 rfl rfl rfl rfl (choose_Committed Al _ cl ls rfl (by omega) (fun x hx => ⟨by have := hll2 x hx; omega, hcap x hx⟩) M (by omega) W0 _ (Rd.slc (i := 0) rfl) (fun x hx => ents_rd hx (i := 1) rfl)) ?_
      rintro _ _ ⟨out, A6, c6, ho, rfl, rfl⟩
      repeat' (first|refine bA ?_|refine bkq fun q=>?_|(refine bk2 ?_ ?_<;>(first|exact bkn|(refine bkk ?_;intro h))))
      rename_i h1 h2
      exact QS.turn (G' := slc entE 49 A6 c6 out :: row bq 92 (wrC Aj xs.length cj bm w) :: slc bpE 46 Aj cj (xs.map (·.b)) :: nodesA xs :: F) (fun w hs => hs.ord 6 [0, 3, 4, 5] rfl) (QS.retV Tryz.results17 rfl ⟨out, 0, A6, c6, .inr ⟨fun hh => hh.elim (fun hh => by omega) (fun hh => by omega), rfl, ⟨ls, hls, ho⟩⟩, rfl, rfl⟩)
end Go.Proofs.YtfolmcpfdcgliaaGreat.B

namespace Go.Proofs.YtfolmcpfdcgliaaGreat.B.Q2
open Go Go.Proofs
structure St where
  xs : List Nd
  m : List Msg
  ws : List Wr
  done : List Ent
  last : Int
structure Inv (n : Nat) (s : St) : Prop where
  len : s.xs.length = n
  w3 : s.ws.length = 3
  m50 : s.m.length ≤ 50
  dl : s.done.length ≤ 300
  g : ∃ g : Gh, Sys g s.xs s.m ∧ Dn g s.xs s.done s.last ∧ (∀ (i : Nat) w, s.ws[i]? = some w → WOk g s.done s.last w ∧ 0 ≤ w.n ∧ w.n ≤ 300 ∧ 0 ≤ w.e ∧ w.e ≤ 9007199254740991) ∧
    ∀ (i j : Nat) w w', i ≠ j → s.ws[i]? = some w → s.ws[j]? = some w' → 0 < w.e → w.e ≠ w'.e
section
variable {n : Nat} {s : St}
theorem Inv.oks (h : Inv n s) : ∀ x ∈ s.xs, NdOk x := fun x hx => by
  obtain ⟨g, h1, _⟩ := h.g
  obtain ⟨i, hi⟩ := List.mem_iff_getElem?.1 hx
  exact (h1.nodes i x hi).1
theorem set_cases {α : Type} {l : List α} {k i : Nat} {a b : α} (h : (l.set k a)[i]? = some b) : (i = k ∧ b = a) ∨ (i ≠ k ∧ l[i]? = some b) := by
  by_cases hik : i = k
  · subst hik
    have hi := (List.getElem?_eq_some_iff.1 h).1
    rw [List.length_set] at hi
    rw [List.getElem?_set_self hi] at h
    exact .inl ⟨rfl, (Option.some.inj h).symm⟩
  · rw [List.getElem?_set_ne (fun e => hik e.symm)] at h
    exact .inr ⟨hik, h⟩
theorem WOk.keep {g g' : Gh} {done done' : List Ent} {last last' : Int} {w : Wr} (h : WOk g done last w) (hle : g.Le g') (hl : last ≤ last') (hh : ∀ l, g.lo w.e = some l → g'.hi w.e = g.hi w.e) (hd : 0 < w.e → w.e = last' → w.e = last ∧ done' = done) : WOk g' done' last' w := by
  rcases h with h | ⟨h1, h2, h3, h4, h5, h6, h7⟩
  · exact .inl h
  · obtain ⟨l, hl'⟩ := Option.ne_none_iff_exists'.1 h5
    have e := hh l hl'
    refine .inr ⟨h1, h2, by omega, h4, by rw [hle.lo _ _ hl']; simp, by rw [e]; exact h6, fun he => ?_⟩
    obtain ⟨e1, e2⟩ := hd h1 he
    rw [e, e2]; exact h7 e1
theorem Inv.node (h : Inv n s) {i : Nat} {x y : Nd} (hx : s.xs[i]? = some x) (hy : NdOk y) {m' : List Msg} (hm : ∀ z ∈ m', z ∈ s.m) (hml : m'.length ≤ s.m.length)
    (hT : ∀ (g : Gh), Sys g s.xs s.m → ∀ T : Jn → Prop, (∀ q : Rq, Val g q → RqOk q → Cl q T) → Has T x → Has T y) : Inv n { s with xs := s.xs.set i y, m := m' } := by
  obtain ⟨g, h1, h2, h3, h4⟩ := h.g
  have hTg := hT g h1
  have hset : ∀ S : Jn → Prop, (∀ q : Rq, Val g q → RqOk q → Cl q S) → ∀ j, HasAt s.xs S j → HasAt (s.xs.set i y) S j := fun S hS j hj => hj.set (fun x' hx' hs => by
    rw [hx] at hx'; obtain rfl := Option.some.inj hx'
    exact hTg S hS hs)
  refine ⟨by simp only [List.length_set]; exact h.len, h.w3, Nat.le_trans hml h.m50, h.dl, g, ⟨h1.ok, fun j z hz => ?_, fun z hz => ?_, fun c l hc => ?_⟩, ⟨h2.z, h2.p, fun hp => ?_, h2.later⟩, h3, h4⟩
  · rcases set_cases hz with ⟨rfl, rfl⟩ | ⟨hne, hz⟩
    · exact ⟨hy, hTg _ (fun q hv hq => good_cl h1.ok hv hq) (h1.nodes _ x hx).2⟩
    · exact h1.nodes j z hz
  · obtain ⟨a, b, c⟩ := h1.mail z (hm z hz)
    exact ⟨a, by simp only [List.length_set]; exact b, c⟩
  · simp only [List.length_set]
    exact (h1.ch c l hc).mono fun j _ hj => hset _ (fun q _ _ => prm_cl c q) j hj
  · obtain ⟨a, b, c⟩ := h2.h hp
    refine ⟨a, b, ?_⟩
    simp only [List.length_set]
    exact c.mono fun j _ hj => hset _ (fun q _ _ => holds_cl _ _ q) j hj
theorem Inv.take (h : Inv n s) {j : Nat} {z : Msg} (hz : s.m[j]? = some z) : ∃ (i : Nat) (x : Nd), z.1 = (i : Int) ∧ s.xs[i]? = some x ∧ z.2.size ≤ 4000 ∧ Inv n { s with xs := s.xs.set i (x.hand (bs z.2)), m := s.m.eraseIdx j } := by
  obtain ⟨g, h1, _⟩ := h.g
  obtain ⟨a, b, c, csz⟩ := h1.mail z (List.mem_of_getElem? hz)
  obtain ⟨x, hx⟩ : ∃ x, s.xs[z.1.toNat]? = some x := ⟨s.xs[z.1.toNat]'(by omega), List.getElem?_eq_getElem (by omega)⟩
  refine ⟨z.1.toNat, x, by omega, hx, csz, ?_⟩
  obtain ⟨g, h1, h2, h3, h4⟩ := h.g
  obtain ⟨a, b, c, csz⟩ := h1.mail z (List.mem_of_getElem? hz)
  have hTg : ∀ T : Jn → Prop, (∀ q : Rq, Val g q → RqOk q → Cl q T) → Has T x → Has T (x.hand (bs z.2)) := fun T hT hh => hh.hand (fun q hq => hT q (c q hq) (readQ_ok hq))
  have hset : ∀ S : Jn → Prop, (∀ q : Rq, Val g q → RqOk q → Cl q S) → ∀ j', HasAt s.xs S j' → HasAt (s.xs.set z.1.toNat (x.hand (bs z.2))) S j' := fun S hS j' hj => hj.set (fun x' hx' hs => by
    rw [hx] at hx'; obtain rfl := Option.some.inj hx'
    exact hTg S hS hs)
  refine ⟨by simp only [List.length_set]; exact h.len, h.w3, by simp only; have := List.length_eraseIdx_le s.m j; have := h.m50; omega, h.dl, g, ⟨h1.ok, fun j' y hy => ?_, fun y hy => ?_, fun c' l hc => ?_⟩, ⟨h2.z, h2.p, fun hp => ?_, h2.later⟩, h3, h4⟩
  · rcases set_cases hy with ⟨rfl, rfl⟩ | ⟨hne, hy⟩
    · exact ⟨hand_ok (h1.nodes _ x hx).1 _, hTg _ (fun q hv hq => good_cl h1.ok hv hq) (h1.nodes _ x hx).2⟩
    · exact h1.nodes j' y hy
  · obtain ⟨a', b', c'⟩ := h1.mail y (List.mem_of_mem_eraseIdx hy)
    exact ⟨a', by simp only [List.length_set]; exact b', c'⟩
  · simp only [List.length_set]
    exact (h1.ch c' l hc).mono fun j' _ hj => hset _ (fun q _ _ => prm_cl c' q) j' hj
  · obtain ⟨a', b', c'⟩ := h2.h hp
    refine ⟨a', b', ?_⟩
    simp only [List.length_set]
    exact c'.mono fun j' _ hj => hset _ (fun q _ _ => holds_cl _ _ q) j' hj
theorem Inv.fuse (h : Inv n s) {i : Nat} {x : Nd} (hx : s.xs[i]? = some x) {k : Int} (hk : k ≤ 9223372036854775807) : Inv n { s with xs := s.xs.set i ⟨x.b, x.d, x.J, x.D.light k⟩ } := by
  have ho := h.oks x (List.mem_of_getElem? hx)
  exact h.node (y := ⟨x.b, x.d, x.J, x.D.light k⟩) hx ⟨ho.J, light_ok ho.D hk⟩ (fun z hz => hz) (Nat.le_refl _) (fun g _ T hT hh => hh.light hk)
theorem Inv.crash (h : Inv n s) {i : Nat} {x : Nd} (hx : s.xs[i]? = some x) (keeps : List Int) (b : Nat) :
    (openJ (x.D.crash keeps)).1 = 0 ∧ Inv n { s with xs := s.xs.set i ⟨b, x.d, (openJ (x.D.crash keeps)).2.1, (openJ (x.D.crash keeps)).2.2⟩ } := by
  obtain ⟨g, h1, _⟩ := h.g
  have h0 := (h1.nodes i x hx).2.crash keeps
  exact ⟨h0.e, h.node (y := ⟨b, x.d, (openJ (x.D.crash keeps)).2.1, (openJ (x.D.crash keeps)).2.2⟩) hx ⟨h0.k.ok, h0.k.disk⟩ (fun z hz => hz) (Nat.le_refl _) (fun g _ T hT hh => (hh.crash keeps).has b x.d)⟩
theorem Inv.fresh (h : Inv n s) (k : Nat) : Inv n { s with ws := s.ws.set k ⟨0, 0, false⟩ } := by
  obtain ⟨g, h1, h2, h3, h4⟩ := h.g
  refine ⟨h.len, by simp only [List.length_set]; exact h.w3, h.m50, h.dl, g, h1, h2, fun i w' hi => ?_, fun i j w1 w2 hij hi hj hpos => ?_⟩
  · rcases set_cases hi with ⟨ei, ew⟩ | ⟨hik, hi'⟩
    · rw [ew]; exact ⟨.inl rfl, by decide, by decide, by decide, by decide⟩
    · exact h3 i w' hi'
  · rcases set_cases hi with ⟨ei, ew⟩ | ⟨hik, hi'⟩
    · rw [ew] at hpos; simp at hpos
    · rcases set_cases hj with ⟨ej, ew⟩ | ⟨hjk, hj'⟩
      · rw [ew]; simp only; omega
      · exact h4 _ _ _ _ hij hi' hj' hpos
theorem Inv.read (h : Inv n s) {fs : List Int} {out : List Ent} (hr : ReadM s.xs fs out 0) : s.done <+: out ∨ out <+: s.done := by
  obtain ⟨g, h1, h2, h3, h4⟩ := h.g
  rcases hr with ⟨_, _, hr⟩ | ⟨hr1, _, ls, hls, ho⟩
  · omega
  have hn : 1 ≤ s.xs.length := by
    rcases Nat.eq_zero_or_pos s.xs.length with h0 | h0
    · exact absurd (.inl h0) hr1
    · exact h0
  rcases ho with ⟨_, rfl⟩ | ⟨E, K, i, y, hC, rfl⟩
  · exact .inr List.nil_prefix
  rcases Int.lt_or_le 0 s.last with hp | hp
  rotate_left 1
  · have := h2.p
    rw [h2.z (by omega)]; exact .inl List.nil_prefix
  obtain ⟨a1, a2, a3⟩ := h2.h hp
  -- who tells y
  have hym : lgOf y ∈ seenL fs s.xs s.xs.length := by rw [← hls]; exact List.mem_map_of_mem (List.mem_of_getElem? hC.at_)
  obtain ⟨iy, ny, b1, b2, b3, b4⟩ := seenL_mem hym
  have hgy : Good g ny.J := (h1.nodes iy ny b2).2.now b3
  have hye : ny.J.e = E ∧ ny.J.xs = y.xs := by
    have e1 : y.e = E := hC.is.1
    simp only [lgOf, Prod.mk.injEq] at b4
    exact ⟨by rw [← b4.1, e1], b4.2.symm⟩
  -- a majority has E
  have hmaj : Maj s.xs.length (fun i => ∃ x : Nd, s.xs[i]? = some x ∧ x.J.dead = false ∧ x.J.e = E) := by
    refine ⟨fun i => match seenM fs s.xs i with | some t => decide (t.1 = E) | none => false, fun i hi hf => ?_, ?_⟩
    · simp only at hf
      cases hs : seenM fs s.xs i with
      | none => rw [hs] at hf; cases hf
      | some t =>
        rw [hs] at hf
        have hs' := hs
        unfold seenM at hs'
        cases hx : s.xs[i]? with
        | none => rw [hx] at hs'; cases hs'
        | some x =>
          rw [hx] at hs'
          simp only at hs'
          split at hs'
          · rename_i hc
            obtain rfl := Option.some.inj hs'
            exact ⟨x, rfl, hc.1, by simpa using hf⟩
          · cases hs'
    · have hep := hC.ep
      have hcnt : cnt ls E 0 = (seenL fs s.xs s.xs.length).countP fun t => decide (t.1 = E) := by
        rw [← hls, List.countP_map]
        unfold cnt
        refine List.countP_congr fun x _ => ?_
        simp [lgOf]
        exact decide_eq_true_iff.symm
      rw [hcnt] at hep
      have h5 : (seenL fs s.xs s.xs.length).countP (fun t => decide (t.1 = E)) ≤ (List.range s.xs.length).countP (fun i => match seenM fs s.xs i with | some t => decide (t.1 = E) | none => false) := by
        unfold seenL
        rw [List.countP_filterMap]
        refine List.countP_mono_left fun i _ hi => ?_
        cases hs : seenM fs s.xs i with
        | none => rw [hs] at hi; simp at hi
        | some t => rw [hs] at hi; simpa using hi
      have := most_pos hn
      omega
  obtain ⟨i, hi, hH, x, hx, c1, c2⟩ := a3.meet hmaj
  have hHx : Holds s.last s.done x.J := by
    obtain ⟨x', hx', hs⟩ := hH
    rw [hx] at hx'; obtain rfl := Option.some.inj hx'
    exact hs.now c1
  unfold Holds at hHx
  rw [← hye.2]
  -- both are beginnings of one list
  have hboth : ∃ c, s.done <+: c ∧ ny.J.xs.take K <+: c := by
    rcases hgy with ⟨hz, _⟩ | ⟨l, d1, d2, d3⟩
    · omega
    · rcases hHx with hlt | ⟨heq, hpre⟩
      · refine ⟨ny.J.xs, (h2.later _ l d1 (by omega)).trans d2, List.take_prefix _ _⟩
      · have : ny.J.e = s.last := by omega
        rw [this] at d3
        exact ⟨g.hi s.last, a2, (List.take_prefix _ _).trans d3⟩
  obtain ⟨c, e1, e2⟩ := hboth
  rcases Nat.le_total s.done.length (ny.J.xs.take K).length with hle | hle
  · exact .inl (two_prefix e1 e2 hle)
  · exact .inr (two_prefix e2 e1 hle)
end
end Go.Proofs.YtfolmcpfdcgliaaGreat.B.Q2

namespace Go.Proofs.YtfolmcpfdcgliaaGreat.B
open Go Go.Proofs Go.ChangeShapes Go.WideShapes Go.ChangeAt Go.RowKit
section
variable {H : Type} {enc : TypeId × Value → H} {P : Program} {W W' : World}
theorem trodAll_below (hl : laidOutB P = true) (hb : Below W.heap.size W W') : ∀ {ts : List TypeId} {vs : List Value} {ds : List (DataW H)} {ps : List MemPlace}, (∀ t ∈ ts, P.readableRec t = true ∧ t < P.types.size) →
    DataW.TrodAll enc P W 0 (fun _ => true) true ts vs ds ps → (∀ x ∈ ps, x.block < W.heap.size) → DataW.TrodAll enc P W' 0 (fun b => decide (b < W.heap.size)) true ts vs ds ps
  | [], [], [], _, _, h, _ => h
  | _ :: _, _ :: _, _ :: _, _, ht, ⟨p, q, h1, h2, e⟩, hlt => by
    subst e
    have h3 := ht _ (List.mem_cons_self ..)
    exact ⟨p, q, Below.trod hl h3.1 h3.2 h1 hb (fun x hx => hlt x (List.mem_append_left _ hx)), trodAll_below hl hb (fun t h => ht t (List.mem_cons_of_mem _ h)) h2 (fun x hx => hlt x (List.mem_append_right _ hx)), rfl⟩
theorem law_post {f : Func} {s : ChangeSpec} {fresh handsOn : Bool} {args : Array Value} {ds gs : List (DataW H)} {before : List MemPlace} {v : Value}
    (hl : laidOutB P = true) (hvars : s.vars = []) (ht : f.params.toList.all (fun t => P.readableRec t && decide (t < P.types.size)) = true)
    (hW : DataW.Whole enc P f.params.toList s.vars false W args.toList ds gs before) (hb : Below W.heap.size W W')
    (hres : DataW.TrodAll enc P W' (match fresh with | true => W.heap.size | false => 0) (fun _ => false) handsOn f.resultTypes.toList (v.resultList f.resultTypes.size) (s.fn H ds).results [])
    (hargs : (s.fn H ds).args = ds) (hv2 : (s.fn H ds).vars = []) : s.post enc P f false fresh handsOn false W args v W' := by
  have hlt := hW.lt
  have hW' := hW
  obtain ⟨p, q, hA, hV, rfl, hfz, hnd⟩ := hW
  rw [hvars] at hV
  obtain ⟨rfl, rfl⟩ := trodVars_none hV
  refine ⟨ds, [], p ++ [], [], p, [], hW', ?_, ?_, ?_, ?_, fun h => (by cases h)⟩
  · rw [List.append_nil]; exact hres
  · rw [List.append_nil, hargs]
    refine trodAll_below hl hb (fun t h => ?_) hA (fun x hx => hlt x (List.mem_append_left _ hx))
    have := List.all_eq_true.1 ht t h
    simpa using this
  · rw [List.append_nil, hvars, hv2]; rfl
  · exact hb.frame _
end
theorem spot_none {w : World} {a : Addr} {v : Value} (h : w.cell? a = some v) : a.spot = none := by
  unfold World.cell? at h
  split at h
  · cases hs : a.spot with
    | none => rfl
    | some x => rw [hs] at h; simp at h
  · cases h
theorem wf_i64 {n : Int} (h : (Lit.int .i64 n).wf = true) : I64 n := by
  unfold I64
  simp only [Lit.wf, Bool.and_eq_true, decide_eq_true_eq] at h
  exact h
theorem Rd.old {α : Type} {E : EncK α} {W : World} {A : Option Addr} {xs : List α} (h : RdC W A (flat E xs)) : Rd W [B.old W W.heap.size] E A xs := fun w hs => by
  have hb := hs.oldBelow rfl
  rcases h with h | ⟨b, o, rfl, hc⟩
  · exact .inl h
  · refine .inr ⟨b, o, rfl, fun j u hj => ?_⟩
    have h1 := hc j u hj
    have hlt := World.block_lt_of_cell? W ⟨b, o + j, none⟩ (u := u) h1
    rw [World.cell?_of_block (w := W) (hb.block b hlt)]
    exact h1
theorem Fn.row {P : Program} {K : Nat} {vs : List Value} {W : World} {u : Value} (h : Fn P K vs W [B.old W W.heap.size] (Ret fun v G' => v = u ∧ G' = [B.old W W.heap.size])) :
    Calls P K vs.toArray W fun e w' => e = .returned u ∧ Below W.heap.size W w' := by
  refine (h W (Sat.start W)).mono ?_
  rintro e w' ⟨G', hR, hs⟩
  cases e with
  | returned v => obtain ⟨rfl, rfl⟩ := hR; exact ⟨rfl, hs.oldBelow rfl⟩
  | panicked ch => exact hR.elim
  | outgrown => exact hR.elim
theorem prog_own : ownKnob Tryz.prog.godebug = none := by kernel_rfl
theorem prog_laid : laidOutB Tryz.prog = true := by kernel_rfl
end Go.Proofs.YtfolmcpfdcgliaaGreat.B

set_option linter.unusedSectionVars false
namespace Go.Proofs.YtfolmcpfdcgliaaGreat.B
open Go Go.Proofs Go.ChangeShapes Go.WideShapes Go.ChangeAt Go.RowKit
section
variable {H : Type} {enc : TypeId × Value → H} {P : Program} {w : World} {sp : Nat → Bool} {held : Bool}
theorem weightsAll_mem {e : TypeId} : ∀ {l : List (DataW H)} {d : DataW H}, d ∈ l → ∀ m ∈ d.weights P e, m ∈ DataW.weightsAll P e l
  | d0 :: r, d, hd, m, hm => by
    simp only [DataW.weightsAll, List.mem_append]
    rcases List.mem_cons.1 hd with rfl | h
    · exact .inl hm
    · exact .inr (weightsAll_mem h m hm)
theorem open_slcG {α : Type} (E : EncK α) {T e : Nat} (PX : α → DataW H → Prop) (hT : P.underlying T = some (.slice e)) (hC : P.cellsOf e = E.sz)
    (one : ∀ {fuel : Nat} {cs : List Value} {x : DataW H × List MemPlace}, cs.length = E.sz → DataW.trod enc P w 0 sp held fuel e cs = some x → ∃ a : α, cs = E.enc a ∧ PX a x.1)
    {fuel : Nat} {v : Value} {x : DataW H × List MemPlace} (h : DataW.trod enc P w 0 sp held fuel T [v] = some x) :
    ∃ A k c xs, v = .slice A k c ∧ k = xs.length ∧ k ≤ c ∧ c ≤ maxLen ∧ RdC w A (flat E xs) ∧ (∀ a ∈ xs, ∃ d, PX a d ∧ ∀ m ∈ d.weights P e, m ∈ x.1.weights P T) ∧ ((∀ m ∈ x.1.weights P T, m ≤ reachBytes) → k * P.bytesOf e ≤ reachBytes) := by
  rcases DataW.trod_slice hT h with ⟨hc, _⟩ | ⟨a, len, cap, elems, rest, n, _, hcs, hx, hb, hl, hm, hlen, hel, _⟩
  · simp only [List.cons.injEq, and_true] at hc
    subst hc
    exact ⟨none, 0, 0, [], rfl, rfl, Nat.le_refl _, by simp [maxLen], .inl rfl, fun l hl => absurd hl (List.not_mem_nil), fun _ => by omega⟩
  · simp only [List.cons.injEq, and_true] at hcs
    subst hcs
    have each : ∀ i, i < len → ∃ y : α, (∀ j u, (E.enc y)[j]? = some u → w.cell? ((a.add (i * E.sz)).add j) = some u) ∧ ∃ d, PX y d ∧ ∀ m ∈ d.weights P e, m ∈ x.1.weights P T := fun i hi => by
      have h1 := hel i hi
      rw [hC, List.getElem?_eq_getElem (by omega), Option.bind_eq_some_iff] at h1
      obtain ⟨cs, h2, h3⟩ := h1
      obtain ⟨_, hl2, hg⟩ := World.cells?_some h2
      obtain ⟨y, rfl, hy⟩ := one hl2 h3
      refine ⟨y, fun j u hj => ?_, elems[i].1, hy, fun m hm' => ?_⟩
      · have hjl : j < E.sz := by have := (List.getElem?_eq_some_iff.1 hj).1; rwa [E.len] at this
        have := hg j hjl
        rw [this, hj]
      · rw [hx]
        simp only [DataW.weights, hT]
        exact List.mem_cons_of_mem _ (List.mem_append_left _ (weightsAll_mem (d := elems[i].1) (List.mem_map.2 ⟨elems[i], List.getElem_mem _, rfl⟩) m hm'))
    have build : ∀ m, m ≤ len → ∃ xs : List α, xs.length = m ∧ (∀ i y, xs[i]? = some y → ∀ j u, (E.enc y)[j]? = some u → w.cell? ((a.add (i * E.sz)).add j) = some u) ∧ ∀ y ∈ xs, ∃ d, PX y d ∧ ∀ m ∈ d.weights P e, m ∈ x.1.weights P T := by
      intro m
      induction m with
      | zero => intro _; exact ⟨[], rfl, fun i y h => by simp at h, fun l hl => by cases hl⟩
      | succ m ih =>
        intro hm
        obtain ⟨xs, hl3, hx3, hx4⟩ := ih (by omega)
        obtain ⟨y, hy1, hy2⟩ := each m (by omega)
        refine ⟨xs ++ [y], by simp [hl3], fun i z hz => ?_, fun l hl => ?_⟩
        · by_cases hi : i < xs.length
          · rw [List.getElem?_append_left hi] at hz; exact hx3 i z hz
          · rw [List.getElem?_append_right (by omega)] at hz
            have : i - xs.length = 0 := by
              have := (List.getElem?_eq_some_iff.1 hz).1
              simp at this; omega
            rw [this] at hz
            simp at hz
            subst hz
            rw [show i = m from by omega]; exact hy1
        · rcases List.mem_append.1 hl with h | h
          · exact hx4 l h
          · rw [List.mem_singleton.1 h]; exact hy2
    obtain ⟨xs, hxl, hx5, hx6⟩ := build len (Nat.le_refl _)
    refine ⟨some a, len, cap, xs, rfl, hxl.symm, hl, hm, ?_, hx6, fun hw => ?_⟩
    · cases hxs : xs with
      | nil => exact .inl rfl
      | cons y0 yr =>
        have hp := E.pos
        obtain ⟨u0, hu0⟩ : ∃ u0, (E.enc y0)[0]? = some u0 := ⟨(E.enc y0)[0]'(by rw [E.len]; exact hp), List.getElem?_eq_getElem _⟩
        have hy0 := hx5 0 y0 (by rw [hxs]; rfl) 0 u0 hu0
        have hsp : a.spot = none := by have := spot_none hy0; simpa [Addr.add] using this
        obtain ⟨b, o, spt⟩ := a
        simp only at hsp
        subst hsp
        refine .inr ⟨b, o, rfl, fun j u hj => ?_⟩
        rw [← hxs] at hj
        have hjl : j < xs.length * E.sz := by
          have := (List.getElem?_eq_some_iff.1 hj).1
          rwa [flat_len] at this
        have hq : j / E.sz < xs.length := Nat.div_lt_of_lt_mul (by rw [Nat.mul_comm]; exact hjl)
        obtain ⟨y, hy⟩ : ∃ y, xs[j / E.sz]? = some y := ⟨xs[j / E.sz]'hq, List.getElem?_eq_getElem hq⟩
        have hr : j % E.sz < E.sz := Nat.mod_lt _ hp
        obtain ⟨u2, hu2⟩ : ∃ u2, (E.enc y)[j % E.sz]? = some u2 := ⟨(E.enc y)[j % E.sz]'(by rw [E.len]; exact hr), List.getElem?_eq_getElem _⟩
        have h3 := flat_get E xs (j / E.sz) (j % E.sz) y u2 hy hu2
        have ej : j / E.sz * E.sz + j % E.sz = j := Nat.div_add_mod' j E.sz
        rw [ej, hj] at h3
        injection h3 with h3
        rw [h3]
        have := hx5 _ _ hy _ _ hu2
        rw [add_off, add_off] at this
        rwa [show o + j = o + j / E.sz * E.sz + j % E.sz from by omega]
    · have h1 := hw ((elems.length + rest.length) * P.bytesOf e) (by
        rw [hx]
        simp only [DataW.weights, hT, List.length_map]
        exact List.mem_cons_self ..)
      refine Nat.le_trans (Nat.mul_le_mul_right _ ?_) h1
      omega
end
end Go.Proofs.YtfolmcpfdcgliaaGreat.B

namespace Go.Proofs.YtfolmcpfdcgliaaGreat.B
open Go Go.Proofs Go.ChangeShapes Go.WideShapes Go.ChangeAt Go.RowKit
structure DeedQ where
  kind : Int
  q : Int
  epoch : Int
  data : ByteArray
  fatesA : Option Addr
  fates : List Int
  fatesc : Nat
  node : Int
  n : Int
  keepsA : Option Addr
  keeps : List Int
  keepsc : Nat
def dqE : EncK DeedQ := ⟨fun d => [.int .i64 d.kind, .int .i64 d.q, .int .i64 d.epoch, .string d.data, .slice d.fatesA d.fates.length d.fatesc, .int .i64 d.node, .int .i64 d.n, .slice d.keepsA d.keeps.length d.keepsc], 8, fun _ => rfl, by decide, fun _ u hu => by
  simp only [List.mem_cons, List.not_mem_nil, or_false] at hu
  rcases hu with rfl | rfl | rfl | rfl | rfl | rfl | rfl | rfl <;> rfl⟩
structure DeedQOk (d : DeedQ) : Prop where
  kind : I64 d.kind
  q : I64 d.q
  epoch : I64 d.epoch
  data : d.data.size ≤ maxLen
  fates : (d.fates.length ≤ d.fatesc ∧ d.fatesc ≤ maxLen) ∧ ∀ a ∈ d.fates, I64 a
  node : I64 d.node
  n : I64 d.n
  keeps : (d.keeps.length ≤ d.keepsc ∧ d.keepsc ≤ maxLen) ∧ ∀ a ∈ d.keeps, I64 a
structure DeedQRd (w : World) (d : DeedQ) : Prop where
  fates : RdC w d.fatesA (flat intE d.fates)
  keeps : RdC w d.keepsA (flat intE d.keeps)
section
variable {H : Type} {enc : TypeId × Value → H} {w : World} {sp : Nat → Bool} {held : Bool}
theorem open_DeedQC {fuel : Nat} {cs : List Value} {x : DataW H × List MemPlace} (hl : cs.length = 8) (h : DataW.trod enc Tryz.prog w 0 sp held fuel 64 cs = some x) :
    ∃ d : DeedQ, cs = dqE.enc d ∧ DeedQOk d ∧ DeedQRd w d := by
  obtain ⟨c0, c1, c2, c3, c4, c5, c6, c7, rfl⟩ : ∃ c0 c1 c2 c3 c4 c5 c6 c7, cs = [c0, c1, c2, c3, c4, c5, c6, c7] := by
    match cs, hl with
    | [c0, c1, c2, c3, c4, c5, c6, c7], _ => exact ⟨c0, c1, c2, c3, c4, c5, c6, c7, rfl⟩
  obtain ⟨zs, m, _, hx, _, hzl, hz⟩ := DataW.trod_struct Tryz.underlying64 h
  have hzl' : zs.length = 8 := hzl
  obtain ⟨z_0, e_0⟩ : ∃ z, zs[0]? = some z := ⟨zs[0]'(by omega), List.getElem?_eq_getElem (by omega)⟩
  have h_0 : DataW.trod enc Tryz.prog w 0 sp held m 3 (([c0, c1, c2, c3, c4, c5, c6, c7].drop 0).take (Tryz.prog.cellsOf 3)) = zs[0]? := hz 0 _ rfl
  rw [show Tryz.prog.cellsOf 3 = 1 from by kernel_rfl, e_0] at h_0
  simp only [List.drop_zero, List.take_succ_cons, List.take_zero, List.drop_succ_cons] at h_0
  obtain ⟨v_0, k_0, _, w_0⟩ := DataW.trod_int Tryz.underlying3 h_0
  simp only [List.cons.injEq, and_true] at k_0
  obtain ⟨z_1, e_1⟩ : ∃ z, zs[1]? = some z := ⟨zs[1]'(by omega), List.getElem?_eq_getElem (by omega)⟩
  have h_1 : DataW.trod enc Tryz.prog w 0 sp held m 3 (([c0, c1, c2, c3, c4, c5, c6, c7].drop 1).take (Tryz.prog.cellsOf 3)) = zs[1]? := hz 1 _ rfl
  rw [show Tryz.prog.cellsOf 3 = 1 from by kernel_rfl, e_1] at h_1
  simp only [List.drop_zero, List.take_succ_cons, List.take_zero, List.drop_succ_cons] at h_1
  obtain ⟨v_1, k_1, _, w_1⟩ := DataW.trod_int Tryz.underlying3 h_1
  simp only [List.cons.injEq, and_true] at k_1
  obtain ⟨z_2, e_2⟩ : ∃ z, zs[2]? = some z := ⟨zs[2]'(by omega), List.getElem?_eq_getElem (by omega)⟩
  have h_2 : DataW.trod enc Tryz.prog w 0 sp held m 3 (([c0, c1, c2, c3, c4, c5, c6, c7].drop 2).take (Tryz.prog.cellsOf 3)) = zs[2]? := hz 2 _ rfl
  rw [show Tryz.prog.cellsOf 3 = 1 from by kernel_rfl, e_2] at h_2
  simp only [List.drop_zero, List.take_succ_cons, List.take_zero, List.drop_succ_cons] at h_2
  obtain ⟨v_2, k_2, _, w_2⟩ := DataW.trod_int Tryz.underlying3 h_2
  simp only [List.cons.injEq, and_true] at k_2
  obtain ⟨z_3, e_3⟩ : ∃ z, zs[3]? = some z := ⟨zs[3]'(by omega), List.getElem?_eq_getElem (by omega)⟩
  have h_3 : DataW.trod enc Tryz.prog w 0 sp held m 9 (([c0, c1, c2, c3, c4, c5, c6, c7].drop 3).take (Tryz.prog.cellsOf 9)) = zs[3]? := hz 3 _ rfl
  rw [show Tryz.prog.cellsOf 9 = 1 from by kernel_rfl, e_3] at h_3
  simp only [List.drop_zero, List.take_succ_cons, List.take_zero, List.drop_succ_cons] at h_3
  obtain ⟨v_3, k_3, _, w_3⟩ := DataW.trod_string Tryz.underlying9 h_3
  simp only [List.cons.injEq, and_true] at k_3
  obtain ⟨z_4, e_4⟩ : ∃ z, zs[4]? = some z := ⟨zs[4]'(by omega), List.getElem?_eq_getElem (by omega)⟩
  have h_4 : DataW.trod enc Tryz.prog w 0 sp held m 28 (([c0, c1, c2, c3, c4, c5, c6, c7].drop 4).take (Tryz.prog.cellsOf 28)) = zs[4]? := hz 4 _ rfl
  rw [show Tryz.prog.cellsOf 28 = 1 from by kernel_rfl, e_4] at h_4
  simp only [List.drop_zero, List.take_succ_cons, List.take_zero, List.drop_succ_cons] at h_4
  obtain ⟨A_4, k_4, cc_4, x_4, v_4, hk_4, hc_4, hm_4, R_4, I_4, _⟩ := open_slcG intE (fun a _ => I64 a) Tryz.underlying28 (by kernel_rfl) (fun {fuel cs x} hl h => by
    obtain ⟨n, rfl, _, hw⟩ := DataW.trod_int Tryz.underlying3 h
    exact ⟨n, rfl, wf_i64 hw⟩) h_4
  obtain ⟨z_5, e_5⟩ : ∃ z, zs[5]? = some z := ⟨zs[5]'(by omega), List.getElem?_eq_getElem (by omega)⟩
  have h_5 : DataW.trod enc Tryz.prog w 0 sp held m 3 (([c0, c1, c2, c3, c4, c5, c6, c7].drop 5).take (Tryz.prog.cellsOf 3)) = zs[5]? := hz 5 _ rfl
  rw [show Tryz.prog.cellsOf 3 = 1 from by kernel_rfl, e_5] at h_5
  simp only [List.drop_zero, List.take_succ_cons, List.take_zero, List.drop_succ_cons] at h_5
  obtain ⟨v_5, k_5, _, w_5⟩ := DataW.trod_int Tryz.underlying3 h_5
  simp only [List.cons.injEq, and_true] at k_5
  obtain ⟨z_6, e_6⟩ : ∃ z, zs[6]? = some z := ⟨zs[6]'(by omega), List.getElem?_eq_getElem (by omega)⟩
  have h_6 : DataW.trod enc Tryz.prog w 0 sp held m 3 (([c0, c1, c2, c3, c4, c5, c6, c7].drop 6).take (Tryz.prog.cellsOf 3)) = zs[6]? := hz 6 _ rfl
  rw [show Tryz.prog.cellsOf 3 = 1 from by kernel_rfl, e_6] at h_6
  simp only [List.drop_zero, List.take_succ_cons, List.take_zero, List.drop_succ_cons] at h_6
  obtain ⟨v_6, k_6, _, w_6⟩ := DataW.trod_int Tryz.underlying3 h_6
  simp only [List.cons.injEq, and_true] at k_6
  obtain ⟨z_7, e_7⟩ : ∃ z, zs[7]? = some z := ⟨zs[7]'(by omega), List.getElem?_eq_getElem (by omega)⟩
  have h_7 : DataW.trod enc Tryz.prog w 0 sp held m 28 (([c0, c1, c2, c3, c4, c5, c6, c7].drop 7).take (Tryz.prog.cellsOf 28)) = zs[7]? := hz 7 _ rfl
  rw [show Tryz.prog.cellsOf 28 = 1 from by kernel_rfl, e_7] at h_7
  simp only [List.drop_zero, List.take_succ_cons, List.take_zero, List.drop_succ_cons] at h_7
  obtain ⟨A_7, k_7, cc_7, x_7, v_7, hk_7, hc_7, hm_7, R_7, I_7, _⟩ := open_slcG intE (fun a _ => I64 a) Tryz.underlying28 (by kernel_rfl) (fun {fuel cs x} hl h => by
    obtain ⟨n, rfl, _, hw⟩ := DataW.trod_int Tryz.underlying3 h
    exact ⟨n, rfl, wf_i64 hw⟩) h_7
  subst k_0 k_1 k_2 k_3 v_4 hk_4 k_5 k_6 v_7 hk_7
  exact ⟨⟨v_0, v_1, v_2, v_3, A_4, x_4, cc_4, v_5, v_6, A_7, x_7, cc_7⟩, rfl, ⟨wf_i64 w_0, wf_i64 w_1, wf_i64 w_2, w_3, ⟨⟨hc_4, hm_4⟩, fun a ha => (I_4 a ha).choose_spec.1⟩, wf_i64 w_5, wf_i64 w_6, ⟨⟨hc_7, hm_7⟩, fun a ha => (I_7 a ha).choose_spec.1⟩⟩, ⟨R_4, R_7⟩⟩
theorem open_DeedQs {base : Nat} {r : Reach} {v : Value} {d : DataW H} {ps : List MemPlace} (hval : Value.okWide Tryz.prog w r base 53 v) (h : DataW.Trod enc Tryz.prog w 0 sp held 53 v d ps) :
    ∃ A k c ls, v = .slice A k c ∧ k = ls.length ∧ k ≤ c ∧ c ≤ maxLen ∧ RdC w A (flat dqE ls) ∧ ∀ l ∈ ls, DeedQOk l ∧ DeedQRd w l := by
  obtain ⟨A, k, c, rfl⟩ := okWide_slice Tryz.underlying53 hval
  obtain ⟨fuel, hf⟩ := h
  obtain ⟨A', k', c', ls, h1, h2, h3, h4, h5, h6, _⟩ := open_slcG dqE (fun l _ => DeedQOk l ∧ DeedQRd w l) Tryz.underlying53 (by kernel_rfl) (fun {fuel cs x} hl h => open_DeedQC hl h) (v := .slice A k c) hf
  exact ⟨A', k', c', ls, h1, h2, h3, h4, h5, fun l hl => (h6 l hl).choose_spec.1⟩
end
end Go.Proofs.YtfolmcpfdcgliaaGreat.B

namespace Go.Proofs.YtfolmcpfdcgliaaGreat.B
open Go Go.Proofs
theorem CS.cutB {P : Program} {Q : Exit → Act → World → Prop} {n : Nat} {ds : List Deferred} {L : TL} {W0 : World} {G : List SL} {c : Code} {X : Type} {K : Act → World → Prop} {id : Nat} (I : X → TL) (A : X → List SL) (p : X → Prop)
    (first : CS P (Exit.inBlock id (Exit.then (fun a w => ∃ x, p x ∧ Fr n ds (I x) a ∧ Sat W0 (A x) w) Q)) n ds c L W0 G)
    (rest : ∀ x, p x → QS (Exit.then K Q) n ds .normal (I x) W0 (A x)) : CS P (Exit.inBlock id (Exit.then K Q)) n ds c L W0 G := fun a w hf hs =>
  Code.wp_mono (fun e a w q => by
    have key : ∀ e, Exit.then (fun a w => ∃ x, p x ∧ Fr n ds (I x) a ∧ Sat W0 (A x) w) Q e a w → Exit.then K Q e a w := fun e q => by
      cases e with
      | normal => obtain ⟨x, hp, hf, hs⟩ := q; exact rest x hp a w hf hs
      | exit id => exact q
      | goto l => exact q
      | ret => exact q
      | panic ch => exact q
      | outgrown => exact q
    cases e with
    | exit id' =>
      simp only [Exit.inBlock] at q ⊢
      split at q
      · rename_i h; rw [if_pos h]; exact key _ q
      · rename_i h; rw [if_neg h]; exact key _ q
    | normal => exact key .normal q
    | goto l => exact key (.goto l) q
    | ret => exact key .ret q
    | panic ch => exact key (.panic ch) q
    | outgrown => exact key .outgrown q) (first a w hf hs)
section
variable {W0 : World} {G : List SL} {α β : Type} {f : α → β → SL} {la : List α} {lb : List β} {a a' : α} {b b' : β} {i : Nat}
theorem bagZ_open (ha : la[i]? = some a) (hb : lb[i]? = some b) : ∀ w, Sat W0 (bagA (List.zipWith f la lb) :: G) w → Sat W0 (f a b :: bagA ((List.zipWith f la lb).eraseIdx i) :: G) w := fun w s =>
  bag_at (P := f a b) (by rw [List.getElem?_zipWith, ha, hb]) s
theorem bagZ_shut (ha : la[i]? = some a) (hb : lb[i]? = some b) : ∀ w, Sat W0 (f a' b' :: bagA ((List.zipWith f la lb).eraseIdx i) :: G) w → Sat W0 (bagA (List.zipWith f (la.set i a') (lb.set i b')) :: G) w := fun w s => by
  have h1 : i < (List.zipWith f la lb).length := by
    have := (List.getElem?_eq_some_iff.1 ha).1; have := (List.getElem?_eq_some_iff.1 hb).1
    rw [List.length_zipWith]; omega
  have h2 := bag_set (P := f a' b') h1 s
  have e : List.zipWith f (la.set i a') (lb.set i b') = (List.zipWith f la lb).set i (f a' b') := by
    refine List.ext_getElem? fun j => ?_
    rw [List.getElem?_zipWith, List.getElem?_set, List.getElem?_set, List.getElem?_set, List.getElem?_zipWith]
    have h3 := (List.getElem?_eq_some_iff.1 ha).1
    have h4 := (List.getElem?_eq_some_iff.1 hb).1
    by_cases hj : i = j
    · subst hj
      simp [h3, h4]; omega
    · simp [hj]
  rw [e]
  exact h2
end
def wrA (Aj : Option Addr) (n cj bm : Nat) (b : Nat) (w : Wr) : SL := row b 92 (wrC Aj n cj bm w)
def wrsA (Aj : Option Addr) (n cj bm : Nat) (qb : List Nat) (ws : List Wr) : SL := bagA (List.zipWith (wrA Aj n cj bm) qb ws)
def wrsX (Aj : Option Addr) (n cj bm : Nat) (qb : List Nat) (ws : List Wr) (k : Nat) : SL := bagA ((List.zipWith (wrA Aj n cj bm) qb ws).eraseIdx k)
section
variable {W0 : World} {G : List SL} {Aj : Option Addr} {n cj bm k b : Nat} {qb : List Nat} {ws : List Wr} {w : Wr}
theorem wrs_open (hb : qb[k]? = some b) (hw : ws[k]? = some w) : ∀ W, Sat W0 (wrsA Aj n cj bm qb ws :: G) W → Sat W0 (row b 92 (wrC Aj n cj bm w) :: wrsX Aj n cj bm qb ws k :: G) W := bagZ_open (f := wrA Aj n cj bm) hb hw
theorem wrs_shut (hb : qb[k]? = some b) (hw : ws[k]? = some w) {b' : Nat} {w' : Wr} : ∀ W, Sat W0 (row b' 92 (wrC Aj n cj bm w') :: wrsX Aj n cj bm qb ws k :: G) W → Sat W0 (wrsA Aj n cj bm (qb.set k b') (ws.set k w') :: G) W := bagZ_shut (f := wrA Aj n cj bm) hb hw
theorem set_same {α : Type} {l : List α} {k : Nat} {b : α} (hb : l[k]? = some b) : l.set k b = l := by
  obtain ⟨h, rfl⟩ := List.getElem?_eq_some_iff.1 hb
  exact List.set_getElem_self h
theorem wrs_snoc (hl : qb.length = ws.length) : ∀ W, Sat W0 (row b 92 (wrC Aj n cj bm w) :: wrsA Aj n cj bm qb ws :: G) W → Sat W0 (wrsA Aj n cj bm (qb ++ [b]) (ws ++ [w]) :: G) W := fun W s => by
  have := bag_snoc (P := wrA Aj n cj bm b w) s
  rw [wrsA, List.zipWith_append hl]
  exact this
theorem wrs_none : ∀ W, Sat W0 G W → Sat W0 (wrsA Aj n cj bm [] [] :: G) W := fun W s => bag_none s
theorem wrs_put (hb : qb[k]? = some b) (hw : ws[k]? = some w) {w' : Wr} : ∀ W, Sat W0 (row b 92 (wrC Aj n cj bm w') :: wrsX Aj n cj bm qb ws k :: G) W → Sat W0 (wrsA Aj n cj bm qb (ws.set k w') :: G) W := fun W hs => by
  have := wrs_shut hb hw W hs
  rwa [set_same hb] at this
end
attribute [local irreducible] WL CS QS WQ WH WS Fn Op1 row Sat
attribute [local irreducible] slc jA diskA mailA nodesA nodesX entsA wrsA wrsX
end Go.Proofs.YtfolmcpfdcgliaaGreat.B

namespace Go.Proofs.YtfolmcpfdcgliaaGreat.B
open Go Go.Proofs
attribute [local irreducible] WL CS QS WQ WH WS Fn Op1 row Sat
attribute [local irreducible] diskA mapb slc
theorem disk_names {m b : Nat} {D : Disk} (hnd : (D.files.map (·.1)).Nodup) (hky : ∀ x ∈ D.files, x.1.size ≤ 30) (hct : D.files.length ≤ 20) (W0 : World) (F : List SL) :
    Fn Tryz.prog 61 [.pointer (some ⟨b, 0, none⟩)] W0 (row b 135 (diskCells m D) :: mapb strK fileV m D.files :: F)
      (Ret fun v G' => ∃ A c, v = .slice A D.names.length c ∧ G' = slc strE 9 A c D.names :: row b 135 (diskCells m D) :: mapb strK fileV m D.files :: F) := by
  refine Fn.enter Tryz.func61 rfl Tryz.ntmps61 rfl ?_
  simp only [diskCells]
  repeat' (first|refine bA ?_|refine bkq fun q=>?_|(refine bk2 ?_ ?_<;>(first|exact bkn|(refine bkk ?_;intro h))))
  refine WL.call c102 rfl rfl rfl rfl (file_keys m W0 _) ?_
  rintro _ _ ⟨q, rfl, rfl⟩
  repeat' (first|refine bA ?_|refine bkq fun q=>?_|(refine bk2 ?_ ?_<;>(first|exact bkn|(refine bkk ?_;intro h))))
  refine WL.call c101 rfl rfl rfl rfl ((file_names (m := m) (q := q) (kv := D.files) hnd hky hct W0 (row b 135 (diskCells m D) :: F)).pre (fun w hs => ?_)) ?_
  · exact hs.perm (List.Perm.cons _ (List.Perm.swap ..))
  rintro _ _ ⟨A, c, rfl, rfl⟩
  repeat' (first|refine bA ?_|refine bkq fun q=>?_|(refine bk2 ?_ ?_<;>(first|exact bkn|(refine bkk ?_;intro h))))
  refine QS.turn (G' := slc strE 9 A c D.names :: row b 135 (diskCells m D) :: mapb strK fileV m D.files :: F) (fun w hs => ?_) (QS.retV Tryz.results61 rfl ⟨A, c, rfl, rfl⟩)
  exact hs.perm (List.Perm.cons _ (List.Perm.swap ..))
theorem disk_Fuse {b : Nat} {D : Disk} (n : Int) (W0 : World) (F : List SL) :
    Fn Tryz.prog 24 [.pointer (some ⟨b, 0, none⟩), .int .i64 n] W0 (diskA b D :: F) (Ret fun v G' => v = .tuple #[] ∧ G' = diskA b (D.light n) :: F) := by
  refine Fn.ex (fun w hs => diskA_open w hs) (fun m => ?_)
  refine Fn.enter Tryz.func24 rfl Tryz.ntmps24 rfl ?_
  simp only [diskCells]
  repeat' (first|refine bA ?_|refine bkq fun q=>?_|(refine bk2 ?_ ?_<;>(first|exact bkn|(refine bkk ?_;intro h))))
  refine QS.turn (G' := diskA b (D.light n) :: F) (fun w hs => diskA_shut (m := m) w ?_) (QS.endV Tryz.results24 rfl ⟨rfl, rfl⟩)
  have e : (if 0 > n then 0 else n) = max n 0 := by split <;> omega
  rw [e] at hs
  exact hs
set_option maxHeartbeats 1000000 in
theorem disk_Crash {b : Nat} {D : Disk} (hD : DiskOk D) {A : Option Addr} {c : Nat} {keeps : List Int} (hk : ∀ x ∈ keeps, I64 x) (hkl : keeps.length ≤ 9223372036854775807) (W0 : World) (F : List SL) (hR : Rd W0 F intE A keeps) :
    Fn Tryz.prog 25 [.pointer (some ⟨b, 0, none⟩), .slice A keeps.length c] W0 (diskA b D :: F) (Ret fun v G' => v = .tuple #[] ∧ G' = diskA b (D.crash keeps) :: F) := by
  refine Fn.ex (fun w hs => diskA_open w hs) (fun m => ?_)
  have hnl := names_len hD
  have hcnt := hD.count
  refine Fn.enter Tryz.func25 rfl Tryz.ntmps25 rfl ?_
  simp only [diskCells]
  repeat' (first|refine bA ?_|refine bkq fun q=>?_|(refine bk2 ?_ ?_<;>(first|exact bkn|(refine bkk ?_;intro h))))
  refine WL.call c61 rfl rfl rfl rfl (disk_names (m := m) (b := b) (D := { D with used := 0 }) hD.nodup (fun x hx => (hD.keys x hx).2) hD.count W0 F) ?_
  rintro _ _ ⟨A2, c2, rfl, rfl⟩
  have hkn : ∀ x, x ∈ D.names → x.size ≤ 30 := fun x hx => by
    have := has_at hD ((names_has hD).1 hx)
    exact (hD.keys _ (aget_mem this)).2
  rw [show ({ D with used := 0 } : Disk).names = D.names from rfl]
  simp only [diskCells]
  repeat' (first|refine bA ?_|refine bkq fun q=>?_|(refine bk2 ?_ ?_<;>(first|exact bkn|(refine bkk ?_;intro h))))
  refine CS.loop (X := Nat) (fun i => [(0, .pointer (some ⟨b, 0, none⟩)), (1, .slice A keeps.length c), (13, .slice A2 D.names.length c2), (14, .int .i64 D.names.length), (15, .int .i64 (i : Int))])
    (fun i => slc strE 9 A2 c2 D.names :: row b 135 [.map (some m), .int .i64 D.room, .int .i64 (crashSt D keeps i).2, .int .i64 D.fuse, .bool D.down] :: mapb strK fileV m (crashSt D keeps i).1 :: F)
    (fun i => i ≤ D.names.length) (fun i => D.names.length - i) 0 ⟨rfl, rfl, rfl, rfl, rfl, trivial⟩ (fun w hs => hs) (Nat.zero_le _) ?_
  intro i hi
  obtain ⟨hs1, hs2, hs3⟩ := crashSt_sum hD keeps hi
  have hr1 := hD.room1
  have hr0 := hD.room0
  repeat' (first|refine bA ?_|refine bkq fun q=>?_|(refine bk2 ?_ ?_<;>(first|exact bkn|(refine bkk ?_;intro h))))
  · obtain ⟨nm, hnm⟩ : ∃ nm, D.names[i]? = some nm := ⟨D.names[i]'(by omega), List.getElem?_eq_getElem (by omega)⟩
    have hgd : D.names.getD i noStr = nm := by rw [List.getD_eq_getElem?_getD, hnm]; rfl
    have hnx := crashSt_next hD keeps (k := i) (by omega)
    rw [hgd] at hnx
    have hfo := hD.at_ok nm
    have hf0 := hfo.s0
    have hf1 := hfo.s1
    have hfm := hfo.most
    refine WL.idx TT (Rd.slc (i := 0) rfl) rfl rfl rfl (by omega) (by rw [Int.toNat_natCast]; exact hnm) rfl rfl rfl rfl (fun b2 o hA => ?_)
    refine WL.s (op1_at TT hA rfl rfl rfl rfl) rfl ?_
    repeat' (first|refine bA ?_|refine bkq fun q=>?_|(refine bk2 ?_ ?_<;>(first|exact bkn|(refine bkk ?_;intro h))))
    refine WL.s (op1_look1D TT (kk := strK) (ev := fileV) (u0 := ⟨noStr, 0⟩) (k := nm) 2 (D.at nm) rfl rfl rfl rfl rfl rfl rfl (by rw [hnx]; rfl)) rfl ?_
    refine WL.alloc TT rfl rfl rfl (fun q => ?_)
    refine WL.store TT 0 rfl rfl rfl rfl rfl rfl rfl rfl rfl ?_
    refine WL.s (op1_pure1 TT rfl) rfl ?_
    refine WL.nil ?_
    refine QS.then ?_
    refine CS.seq ?_
    refine CS.cut (X := Unit) (fun _ => [(0, .pointer (some ⟨b, 0, none⟩)), (1, .slice A keeps.length c), (13, .slice A2 D.names.length c2), (14, .int .i64 D.names.length), (15, .int .i64 (i : Int)), (4, .int .i64 (i : Int)), (5, .string nm), (6, .pointer (some ⟨q, 0, none⟩)), (7, .int .i64 (keeps.getD i 0))]) (fun _ => row q 138 [.string (D.at nm).data, .int .i64 (D.at nm).synced] :: slc strE 9 A2 c2 D.names :: row b 135 [.map (some m), .int .i64 D.room, .int .i64 (crashSt D keeps i).2, .int .i64 D.fuse, .bool D.down] :: mapb strK fileV m (crashSt D keeps i).1 :: F) (fun _ => True) ?_ ?_
    · repeat' (first|refine bA ?_|refine bkq fun q=>?_|(refine bk2 ?_ ?_<;>(first|exact bkn|(refine bkk ?_;intro h))))
      · refine WL.idx TT hR.cons.cons.cons.cons rfl rfl rfl (by omega) (x := keeps.getD i 0) (by rw [Int.toNat_natCast, List.getD_eq_getElem?_getD, List.getElem?_eq_getElem (by omega)]; rfl) rfl rfl rfl rfl (fun b3 o3 hA3 => ?_)
        refine WL.s (op1_at TT hA3 rfl rfl rfl rfl) rfl ?_
        repeat' (first|refine bA ?_|refine bkq fun q=>?_|(refine bk2 ?_ ?_<;>(first|exact bkn|(refine bkk ?_;intro h))))
        exact QS.met () trivial ⟨rfl, rfl, rfl, rfl, rfl, rfl, rfl, rfl, rfl, trivial⟩ (fun w hs => hs)
      · refine QS.met () trivial ⟨rfl, rfl, rfl, rfl, rfl, rfl, rfl, rfl, ?_, trivial⟩ (fun w hs => hs)
        rw [List.getD_eq_getElem?_getD, List.getElem?_eq_none (by omega)]; rfl
    rintro _ _
    have hz : I64 (keeps.getD i 0) := by
      rw [List.getD_eq_getElem?_getD]
      cases hg : keeps[i]? with
      | none => exact ⟨by simp, by simp⟩
      | some x => exact hk x (List.mem_of_getElem? hg)
    have hz1 := hz.1
    have hz2 := hz.2
    refine QS.then ?_
    refine CS.seq ?_
    refine CS.cut (X := Unit) (fun _ => [(0, .pointer (some ⟨b, 0, none⟩)), (1, .slice A keeps.length c), (13, .slice A2 D.names.length c2), (14, .int .i64 D.names.length), (15, .int .i64 (i : Int)), (4, .int .i64 (i : Int)), (5, .string nm), (6, .pointer (some ⟨q, 0, none⟩)), (7, .int .i64 (keepN keeps i))]) (fun _ => row q 138 [.string (D.at nm).data, .int .i64 (D.at nm).synced] :: slc strE 9 A2 c2 D.names :: row b 135 [.map (some m), .int .i64 D.room, .int .i64 (crashSt D keeps i).2, .int .i64 D.fuse, .bool D.down] :: mapb strK fileV m (crashSt D keeps i).1 :: F) (fun _ => True) ?_ ?_
    · repeat' (first|refine bA ?_|refine bkq fun q=>?_|(refine bk2 ?_ ?_<;>(first|exact bkn|(refine bkk ?_;intro h))))
      · refine QS.met () trivial ⟨rfl, rfl, rfl, rfl, rfl, rfl, rfl, rfl, ?_, trivial⟩ (fun w hs => hs)
        rw [keepN, if_pos h]
        exact congrArg (fun z => some (Value.int .i64 z)) (not_i64 ⟨hz1, h⟩)
      · refine QS.met () trivial ⟨rfl, rfl, rfl, rfl, rfl, rfl, rfl, rfl, ?_, trivial⟩ (fun w hs => hs)
        rw [keepN, if_neg h]; rfl
    rintro _ _
    have hkn := keepN_nonneg keeps i
    obtain ⟨hc1, hc2⟩ := crashN_ok hfo hkn
    repeat' (first|refine bA ?_|refine bkq fun q=>?_|(refine bk2 ?_ ?_<;>(first|exact bkn|(refine bkk ?_;intro h))))
    refine WQ.s (op1_remE TT rfl rfl (by omega)) rfl ?_
    have e0 : crashN (D.at nm) (keepN keeps i) = (D.at nm).synced + keepN keeps i % (((D.at nm).data.size : Int) - (D.at nm).synced + 1) := rfl
    refine WQ.s (op1_add TT rfl rfl (by rw [← e0]; omega)) rfl ?_
    rw [← e0]
    repeat' (first|refine bA ?_|refine bkq fun q=>?_|(refine bk2 ?_ ?_<;>(first|exact bkn|(refine bkk ?_;intro h))))
    · refine WL.delete TT (kk := strK) (ev := fileV) (k := nm) 3 rfl rfl rfl rfl rfl rfl rfl rfl ?_
      repeat' (first|refine bA ?_|refine bkq fun q=>?_|(refine bk2 ?_ ?_<;>(first|exact bkn|(refine bkk ?_;intro h))))
      have e1 : crashSt D keeps (i + 1) = (adel (crashSt D keeps i).1 nm, (crashSt D keeps i).2) := by
        show crashOne (crashSt D keeps i) (D.names.getD i noStr) (D.at (D.names.getD i noStr)) (keepN keeps i) = _
        rw [hgd, crashOne, show crashF (D.at nm) (keepN keeps i) = none from if_pos ⟨by assumption, by assumption⟩]
      refine QS.again (i + 1) (by omega) (by omega) ⟨rfl, rfl, rfl, rfl, ?_, trivial⟩ (fun w hs => ?_)
      · rw [show ((i + 1 : Nat) : Int) = (i : Int) + 1 from by omega]; rfl
      · rw [e1]; exact hs.drop
    · repeat' (first|refine bk ?_|refine bkc ?_|refine bks ?_|refine bkd ?_|refine bkh ?_|refine bkq (fun q => ?_)|((first|refine bk2 ?_ ?_|refine bk2h ?_ ?_)<;>(first|exact bkn|(refine bkk ?_;intro h))))
      refine WH.s (op1_slice TT (l := 0) (r := crashN (D.at nm) (keepN keeps i)) (s := (D.at nm).data) rfl rfl rfl rfl ⟨by omega, by omega, by omega⟩) rfl ?_
      repeat' (first|refine bk ?_|refine bkc ?_|refine bks ?_|refine bkd ?_|refine bkh ?_|refine bkq (fun q => ?_)|((first|refine bk2 ?_ ?_|refine bk2h ?_ ?_)<;>(first|exact bkn|(refine bkk ?_;intro h))))
      refine WL.mapUpdate TT (kk := strK) (ev := fileV) (k := nm) (u := ⟨(D.at nm).data.extract 0 (crashN (D.at nm) (keepN keeps i)).toNat, crashN (D.at nm) (keepN keeps i)⟩) 3 rfl rfl rfl rfl rfl rfl rfl rfl ?_
      have hrs := restSum_step (D := D) (k := i) (by omega)
      rw [hgd] at hrs
      have hrn : 0 ≤ restSum D (i + 1) := by
        have : ∀ l : List ByteArray, 0 ≤ (l.map fun nm => ((D.at nm).data.size : Int)).sum := fun l => by
          induction l with
          | nil => exact Int.le_refl _
          | cons x r ih => simp only [List.map_cons, List.sum_cons]; omega
        exact this _
      repeat' (first|refine bk ?_|refine bkc ?_|refine bks ?_|refine bkd ?_|refine bkh ?_|refine bkq (fun q => ?_)|((first|refine bk2 ?_ ?_|refine bk2h ?_ ?_)<;>(first|exact bkn|(refine bkk ?_;intro h))))
      all_goals
        have e1 : crashSt D keeps (i + 1) = (aput (crashSt D keeps i).1 nm ⟨(D.at nm).data.extract 0 (crashN (D.at nm) (keepN keeps i)).toNat, crashN (D.at nm) (keepN keeps i)⟩, (crashSt D keeps i).2 + crashN (D.at nm) (keepN keeps i)) := by
          show crashOne (crashSt D keeps i) (D.names.getD i noStr) (D.at (D.names.getD i noStr)) (keepN keeps i) = _
          rw [hgd, crashOne, show crashF (D.at nm) (keepN keeps i) = some ⟨(D.at nm).data.extract 0 (crashN (D.at nm) (keepN keeps i)).toNat, crashN (D.at nm) (keepN keeps i)⟩ from if_neg (by omega)]
        refine QS.again (i + 1) (by omega) (by omega) ⟨rfl, rfl, rfl, rfl, ?_, trivial⟩ (fun w hs => ?_)
        · rw [show ((i + 1 : Nat) : Int) = (i : Int) + 1 from by omega]; rfl
        · rw [e1]; exact hs.drop
  · have ei : i = D.names.length := by omega
    subst ei
    refine QS.turn (G' := diskA b (D.crash keeps) :: F) (fun w hs => diskA_shut (m := m) w hs.drop) (QS.endV Tryz.results25 rfl ⟨rfl, rfl⟩)
end Go.Proofs.YtfolmcpfdcgliaaGreat.B
