import Derived.Test.YtfolmcpfdcgliaaGreatMg31
import Derived.Test.YtfolmcpfdcgliaaGreatMg47
import Derived.Test.YtfolmcpfdcgliaaGreatMg14
import Derived.Test.YtfolmcpfdcgliaaGreatMg12
set_option linter.unusedVariables false
set_option linter.unusedSimpArgs false
set_option maxRecDepth 8000
/-! What is committed, in plain words. -/
namespace Go.Proofs.YtfolmcpfdcgliaaGreat.B
open Go

/-- How many logs of an epoch have so many entries. -/
def cnt (ls : List LogX) (E : Int) (k : Nat) : Nat := ls.countP fun x => decide (x.e = E) && decide (k ≤ x.xs.length)
def hit (E : Int) (k : Nat) (x : LogX) : Prop := x.e = E ∧ k ≤ x.xs.length
structure Comm (ls : List LogX) (need : Int) (E : Int) (K i : Nat) (x : LogX) : Prop where
  ep : need ≤ (cnt ls E 0 : Int)
  top : ∀ E', need ≤ (cnt ls E' 0 : Int) → E' ≤ E
  k0 : need ≤ (cnt ls E K : Int)
  k1 : (cnt ls E (K + 1) : Int) < need
  at_ : ls[i]? = some x
  is : hit E K x
  first : ∀ j y, j < i → ls[j]? = some y → ¬ hit E K y
def Nobody (ls : List LogX) (need : Int) : Prop := ∀ E, (cnt ls E 0 : Int) < need
/-- What is committed. -/
def Out (ls : List LogX) (need : Int) (out : List Ent) : Prop := (Nobody ls need ∧ out = []) ∨ ∃ E K i x, Comm ls need E K i x ∧ out = x.xs.take K
theorem cnt_le {ls : List LogX} {E : Int} {a b : Nat} (h : a ≤ b) : cnt ls E b ≤ cnt ls E a := by
  unfold cnt
  refine List.countP_mono_left (fun x _ hx => ?_)
  simp only [Bool.and_eq_true, decide_eq_true_eq] at hx ⊢
  exact ⟨hx.1, by omega⟩
theorem Out.same {ls : List LogX} {need : Int} {a b : List Ent} (ha : Out ls need a) (hb : Out ls need b) : a = b := by
  rcases ha with ⟨h1, rfl⟩ | ⟨E, K, i, x, h1, rfl⟩
  · rcases hb with ⟨h2, rfl⟩ | ⟨E', K', i', x', h2, rfl⟩
    · rfl
    · have := h1 E'; have := h2.ep; omega
  · rcases hb with ⟨h2, rfl⟩ | ⟨E', K', i', x', h2, rfl⟩
    · have := h2 E; have := h1.ep; omega
    · obtain rfl : E = E' := Int.le_antisymm (h2.top _ h1.ep) (h1.top _ h2.ep)
      obtain rfl : K = K' := by
        rcases Nat.lt_trichotomy K K' with h | h | h
        · have := cnt_le (ls := ls) (E := E) (show K + 1 ≤ K' from h)
          have := h2.k0; have := h1.k1; omega
        · exact h
        · have := cnt_le (ls := ls) (E := E) (show K' + 1 ≤ K from h)
          have := h1.k0; have := h2.k1; omega
      obtain rfl : i = i' := by
        rcases Nat.lt_trichotomy i i' with h | h | h
        · exact absurd h1.is (h2.first i x h h1.at_)
        · exact h
        · exact absurd h2.is (h1.first i' x' h h2.at_)
      have := h1.at_.symm.trans h2.at_
      injection this with this
      subst this; rfl
theorem cnt_pos {ls : List LogX} {E : Int} {k : Nat} (h : 0 < cnt ls E k) : ∃ (i : Nat) (x : LogX), ls[i]? = some x ∧ hit E k x ∧ ∀ j y, j < i → ls[j]? = some y → ¬ hit E k y := by
  induction ls with
  | nil => simp [cnt] at h
  | cons x r ih =>
    by_cases hx : hit E k x
    · exact ⟨0, x, rfl, hx, fun j y hj => by omega⟩
    · have h2 : 0 < cnt r E k := by
        unfold cnt at h ⊢
        rw [List.countP_cons_of_neg] at h
        · exact h
        · intro hh
          simp only [Bool.and_eq_true, decide_eq_true_eq] at hh
          exact hx hh
      obtain ⟨i, y, h3, h4, h5⟩ := ih h2
      refine ⟨i + 1, y, by simpa using h3, h4, fun j z hj hz => ?_⟩
      cases j with
      | zero => simp at hz; subst hz; exact hx
      | succ j => exact h5 j z (by omega) (by simpa using hz)
/-- The lengths of an epoch's logs among the first ones. -/
def lensOf (ls : List LogX) (i : Nat) (E : Int) : List Int := ((ls.take i).filter fun x => decide (x.e = E)).map fun x => (x.xs.length : Int)
theorem lensOf_next {ls : List LogX} {i : Nat} {x : LogX} (h : ls[i]? = some x) (E : Int) : lensOf ls (i + 1) E = lensOf ls i E ++ (if x.e = E then [(x.xs.length : Int)] else []) := by
  unfold lensOf
  rw [List.take_add_one, h, List.filter_append, List.map_append]
  by_cases he : x.e = E <;> simp [he]
theorem lensOf_len (ls : List LogX) (i : Nat) (E : Int) : (lensOf ls i E).length = cnt (ls.take i) E 0 := by
  unfold lensOf cnt
  rw [List.length_map, List.countP_eq_length_filter]
  simp
theorem lensOf_le (ls : List LogX) (i : Nat) (E : Int) : (lensOf ls i E).length ≤ i := by
  unfold lensOf
  rw [List.length_map]
  exact Nat.le_trans (List.length_filter_le _ _) (by rw [List.length_take]; omega)
theorem cnt_lens (ls : List LogX) (E : Int) (k : Nat) : cnt ls E k = (lensOf ls ls.length E).countP fun z => decide ((k : Int) ≤ z) := by
  unfold cnt lensOf
  rw [List.take_length, List.countP_map, List.countP_filter]
  congr 1
  funext x
  simp only [Function.comp, Int.ofNat_le]
  rw [Bool.and_comm]
theorem lensOf_mem {ls : List LogX} {i : Nat} {E z : Int} (h : z ∈ lensOf ls i E) : 0 ≤ z := by
  unfold lensOf at h
  obtain ⟨x, _, rfl⟩ := List.mem_map.1 h
  omega
/-- How far: any yet, and of which epoch. -/
def epS (ls : List LogX) (need : Int) : Nat → Bool × Int
  | 0 => (false, -1)
  | i + 1 => match ls[i]? with
    | some x => if need ≤ ((lensOf ls (i + 1) x.e).length : Int) ∧ ((epS ls need i).1 = false ∨ (epS ls need i).2 < x.e) then (true, x.e) else epS ls need i
    | none => epS ls need i
theorem epS_next {ls : List LogX} {need : Int} {i : Nat} {x : LogX} (h : ls[i]? = some x) : epS ls need (i + 1) = if need ≤ ((lensOf ls (i + 1) x.e).length : Int) ∧ ((epS ls need i).1 = false ∨ (epS ls need i).2 < x.e) then (true, x.e) else epS ls need i := by
  rw [epS, h]
theorem epS_ok (ls : List LogX) (need : Int) (hn : 1 ≤ need) : ∀ i, i ≤ ls.length → if (epS ls need i).1 = true then (need ≤ ((lensOf ls i (epS ls need i).2).length : Int) ∧ ∀ E, need ≤ ((lensOf ls i E).length : Int) → E ≤ (epS ls need i).2) else ∀ E, ((lensOf ls i E).length : Int) < need
  | 0, _ => by
    rw [epS, if_neg (by decide)]
    intro E
    simp [lensOf]; omega
  | i + 1, hi => by
    have ih := epS_ok ls need hn i (by omega)
    obtain ⟨x, hx⟩ : ∃ x, ls[i]? = some x := ⟨ls[i]'(by omega), List.getElem?_eq_getElem (by omega)⟩
    have hother : ∀ E, x.e ≠ E → lensOf ls (i + 1) E = lensOf ls i E := fun E h => by rw [lensOf_next hx, if_neg h, List.append_nil]
    have hmono : ∀ E, (lensOf ls i E).length ≤ (lensOf ls (i + 1) E).length := fun E => by rw [lensOf_next hx, List.length_append]; omega
    obtain ⟨b, E0, hS⟩ : ∃ b E0, epS ls need i = (b, E0) := ⟨_, _, rfl⟩
    rw [epS, hx]
    simp only
    rw [hS] at ih ⊢
    simp only at ih ⊢
    split
    · rename_i h
      rw [if_pos rfl]
      refine ⟨h.1, fun E hE => ?_⟩
      by_cases he : x.e = E
      · omega
      · rw [hother E he] at hE
        cases b with
        | false => rw [if_neg (by decide)] at ih; have := ih E; omega
        | true =>
          rw [if_pos rfl] at ih
          have := ih.2 E hE
          have := h.2.resolve_left (by simp)
          omega
    · rename_i h
      cases b with
      | false =>
        rw [if_neg (by simp)] at ih ⊢
        intro E
        by_cases he : x.e = E
        · subst he
          have := Classical.not_and_iff_not_or_not.1 h
          rcases this with h1 | h1
          · omega
          · exact absurd (.inl rfl) h1
        · rw [hother E he]; exact ih E
      | true =>
        rw [if_pos rfl] at ih ⊢
        refine ⟨by have := hmono E0; have := ih.1; simp only at *; omega, fun E hE => ?_⟩
        by_cases he : x.e = E
        · subst he
          rcases Classical.not_and_iff_not_or_not.1 h with h1 | h1
          · omega
          · have : ¬ E0 < x.e := fun h2 => h1 (.inr h2)
            omega
        · rw [hother E he] at hE; exact ih.2 E hE
/-- In a rising list: of so many from above. -/
theorem sorted_from {s : List Int} (hs : s.Pairwise (· ≤ ·)) {n : Nat} (h0 : 0 < n) (h1 : n ≤ s.length) {K : Int} (hK : s[s.length - n]? = some K) : n ≤ s.countP (fun z => decide (K ≤ z)) ∧ s.countP (fun z => decide (K + 1 ≤ z)) < n := by
  have e1 : s = s.take (s.length - n) ++ s.drop (s.length - n) := (List.take_append_drop _ _).symm
  have hd : s.drop (s.length - n) = K :: s.drop (s.length - n + 1) := by
    obtain ⟨hi, e⟩ := List.getElem?_eq_some_iff.1 hK
    rw [List.drop_eq_getElem_cons hi, e]
  have hp := hs
  rw [e1, List.pairwise_append] at hp
  obtain ⟨p1, p2, p3⟩ := hp
  constructor
  · have h2 : (s.drop (s.length - n)).countP (fun z => decide (K ≤ z)) = (s.drop (s.length - n)).length := by
      rw [List.countP_eq_length]
      intro z hz
      rw [hd] at hz p2
      rcases List.mem_cons.1 hz with rfl | hz
      · simp
      · simpa using (List.pairwise_cons.1 p2).1 z hz
    conv => rhs; rw [e1]
    rw [List.countP_append, h2, List.length_drop]; omega
  · have h2 : (s.take (s.length - n)).countP (fun z => decide (K + 1 ≤ z)) = 0 := by
      rw [List.countP_eq_zero]
      intro z hz
      have := p3 z hz K (by rw [hd]; exact List.mem_cons_self ..)
      simp; omega
    have h3 : (s.drop (s.length - n)).countP (fun z => decide (K + 1 ≤ z)) < n := by
      rw [hd, List.countP_cons_of_neg (by simp; omega)]
      have h4 : (s.drop (s.length - n + 1)).countP (fun z => decide (K + 1 ≤ z)) ≤ (s.drop (s.length - n + 1)).length := List.countP_le_length
      rw [List.length_drop] at h4
      omega
    conv => lhs; rw [e1]
    rw [List.countP_append, h2]; omega
theorem sortI_sorted (xs : List Int) : (sortI xs).Pairwise (· ≤ ·) := by
  have := List.pairwise_mergeSort (le := fun x y : Int => decide (x ≤ y)) (fun a b c h1 h2 => by simp at *; omega) (fun a b => by simp; omega) xs
  exact this.imp (fun h => by simpa using h)
theorem sortI_count (xs : List Int) (p : Int → Bool) : (sortI xs).countP p = xs.countP p := (List.mergeSort_perm xs _).countP_eq p
/-- Counted and sorted: what is committed. -/
theorem comm_of {ls : List LogX} {need : Int} (hn : 1 ≤ need) (h : (epS ls need ls.length).1 = true) {K : Int}
    (hK : (sortI (lensOf ls ls.length (epS ls need ls.length).2))[((lensOf ls ls.length (epS ls need ls.length).2).length - need).toNat]? = some K) : ∃ i x, Comm ls need (epS ls need ls.length).2 K.toNat i x := by
  have h1 := epS_ok ls need hn ls.length (Nat.le_refl _)
  rw [if_pos h] at h1
  obtain ⟨E, hE⟩ : ∃ E, E = (epS ls need ls.length).2 := ⟨_, rfl⟩
  rw [← hE] at h1 hK ⊢
  have hlen : ∀ E, (lensOf ls ls.length E).length = cnt ls E 0 := fun E => by rw [lensOf_len, List.take_length]
  have hsl := sortI_len (lensOf ls ls.length E)
  have hidx : ((lensOf ls ls.length E).length - need).toNat = (sortI (lensOf ls ls.length E)).length - need.toNat := by rw [hsl]; omega
  rw [hidx] at hK
  have h2 := sorted_from (sortI_sorted _) (n := need.toNat) (by omega) (by rw [hsl]; omega) hK
  rw [sortI_count, sortI_count] at h2
  have hK0 : 0 ≤ K := by
    have : K ∈ lensOf ls ls.length E := (List.mergeSort_perm _ _).mem_iff.1 (List.mem_of_getElem? hK)
    exact lensOf_mem this
  have c0 : cnt ls E K.toNat = (lensOf ls ls.length E).countP fun z => decide (K ≤ z) := by rw [cnt_lens, Int.toNat_of_nonneg hK0]
  have c1 : cnt ls E (K.toNat + 1) = (lensOf ls ls.length E).countP fun z => decide (K + 1 ≤ z) := by rw [cnt_lens]; congr 1; funext z; rw [show ((K.toNat + 1 : Nat) : Int) = K + 1 from by omega]
  obtain ⟨i, x, h3, h4, h5⟩ := cnt_pos (ls := ls) (E := E) (k := K.toNat) (by rw [c0]; omega)
  refine ⟨i, x, by rw [← hlen]; exact h1.1, fun E' hE' => h1.2 E' (by rw [hlen]; exact hE'), by rw [c0]; omega, by rw [c1]; omega, h3, h4, h5⟩
end Go.Proofs.YtfolmcpfdcgliaaGreat.B

set_option linter.unusedVariables false
set_option linter.unusedSimpArgs false
set_option maxRecDepth 8000
/-! A copy of entries. -/
namespace Go.Proofs.YtfolmcpfdcgliaaGreat.B
open Go Go.Proofs
attribute [local irreducible] WL CS QS WQ WH WS Fn Op1 row Sat
attribute [local irreducible] slc
set_option maxHeartbeats 1000000 in
theorem ent_Clone2 (A : Option Addr) (k c : Nat) (xs : List Ent) (hk : k = xs.length) (hkb : k ≤ 5864062014805) (W0 : World) (G : List SL) (hR : Rd W0 G entE A xs) :
    Fn Tryz.prog 35 [.slice A k c] W0 G
      (Ret fun v G' => ∃ A' c', v = .slice A' k c' ∧ G' = slc entE 49 A' c' xs :: G) := by
  refine Fn.fact (p := A = none → xs = []) (fun w hs hA => ?_) (fun hnil => ?_)
  · rcases hR w hs with h | ⟨b, o, h, _⟩
    · exact List.eq_nil_of_length_eq_zero (by
        have := congrArg List.length h
        rw [flat_len] at this
        have e2 : entE.sz = 2 := rfl
        rw [e2] at this
        simp only [List.length_nil] at this; omega)
    · rw [hA] at h; cases h
  refine Fn.enter Tryz.func35 rfl Tryz.ntmps35 rfl ?_
  repeat' (first|refine bk ?_|refine bkc ?_|refine bks ?_|refine bkd ?_|refine bkq (fun q => ?_)|(refine bk2 ?_ ?_<;>(first|exact bkn|(refine bkk ?_;intro h))))
  refine WL.s (op1_eqNil TT rfl rfl rfl) rfl ?_
  cases A with
  | none =>
    have hx := hnil rfl
    subst hx
    simp only [Option.isNone_none]
    repeat' (first|refine bk ?_|refine bkc ?_|refine bks ?_|refine bkd ?_|refine bkq (fun q => ?_)|(refine bk2 ?_ ?_<;>(first|exact bkn|(refine bkk ?_;intro h))))
    exact QS.turn (fun w hs => hs.slcNil entE 49) (QS.retV Tryz.results35 rfl ⟨none, 0, by rw [hk]; rfl, rfl⟩)
  | some a =>
    simp only [Option.isNone_some]
    repeat' (first|refine bk ?_|refine bkc ?_|refine bks ?_|refine bkd ?_|refine bkq (fun q => ?_)|(refine bk2 ?_ ?_<;>(first|exact bkn|(refine bkk ?_;intro h))))
    refine WL.buildSlice TT rfl rfl rfl rfl rfl rfl rfl rfl (fun qs => ?_)
    refine WL.turn (fun w hs => row_slc entE (b := qs) (t := 49) hs) ?_
    repeat' (first|refine bk ?_|refine bkc ?_|refine bks ?_|refine bkd ?_|refine bkq (fun q => ?_)|(refine bk2 ?_ ?_<;>(first|exact bkn|(refine bkk ?_;intro h))))
    refine WL.append TT (E := entE) (xs := ([] : List Ent)) (ys := xs) 0 rfl rfl rfl hk rfl hR.cons rfl rfl rfl rfl rfl (by decide) (by simp only [List.length_nil]; omega) (fun _ _ => rfl) rfl (fun A' c2 => ?_)
    rw [List.nil_append]
    repeat' (first|refine bk ?_|refine bkc ?_|refine bks ?_|refine bkd ?_|refine bkq (fun q => ?_)|(refine bk2 ?_ ?_<;>(first|exact bkn|(refine bkk ?_;intro h))))
    exact QS.retV Tryz.results35 rfl ⟨A', c2, by rw [hk]; rfl, rfl⟩

end Go.Proofs.YtfolmcpfdcgliaaGreat.B

set_option linter.unusedVariables false
set_option linter.unusedSimpArgs false
set_option maxRecDepth 8000
/-! Choosing a log: what is committed, walked. -/
namespace Go.Proofs.YtfolmcpfdcgliaaGreat.B
open Go Go.Proofs

/-- A list of sizes, and where it is. -/
structure SzX where
  A : Option Addr
  c : Nat
  xs : List Int
def szV (s : SzX) : Value := .slice s.A s.xs.length s.c
def szNil : SzX := ⟨none, 0, []⟩
def slcs : List (Int × SzX) → SL
  | [] => fun _ => True
  | p :: r => star (slc intE 3 p.2.A p.2.c p.2.xs) (slcs r)
section
variable {W0 : World} {G : List SL} {w : World}
theorem slcs_take : ∀ {D : List (Int × SzX)} {k : Int} {s : SzX} {G : List SL}, aget D k = some s → Sat W0 (slcs D :: G) w → Sat W0 (slc intE 3 s.A s.c s.xs :: slcs (adel D k) :: G) w
  | [], _, _, _, h, _ => by cases h
  | (k', y) :: r, k, s, G, h, hs => by
    simp only [aget] at h
    simp only [adel]
    have h1 := Sat.split (P := slc intE 3 y.A y.c y.xs) (Q := slcs r) hs
    split at h
    · rename_i e
      injection h with h
      subst h
      rw [if_pos e]
      exact h1
    · rename_i e
      rw [if_neg e]
      have h2 := slcs_take (G := slc intE 3 y.A y.c y.xs :: G) h (h1.perm (List.Perm.swap ..))
      have h3 := (h2.front (i := 2) rfl).front (i := 2) rfl
      have h4 := h3.front (i := 1) rfl
      exact (Sat.join (P := slc intE 3 y.A y.c y.xs) (Q := slcs (adel r k)) h4).front (i := 1) rfl
theorem slcs_put : ∀ {D : List (Int × SzX)} {k : Int} {s : SzX} {G : List SL}, Sat W0 (slc intE 3 s.A s.c s.xs :: slcs (adel D k) :: G) w → Sat W0 (slcs (aput D k s) :: G) w
  | [], k, s, G, hs => Sat.join (P := slc intE 3 s.A s.c s.xs) (Q := slcs []) hs
  | (k', y) :: r, k, s, G, hs => by
    simp only [adel] at hs
    simp only [aput]
    split at hs
    · rename_i e
      rw [if_pos e]
      exact Sat.join (P := slc intE 3 s.A s.c s.xs) (Q := slcs r) hs
    · rename_i e
      rw [if_neg e]
      have h1 := Sat.split (P := slc intE 3 y.A y.c y.xs) (Q := slcs (adel r k)) (hs.front (i := 1) rfl)
      have h2 := (h1.front (i := 1) rfl).front (i := 2) rfl
      have h3 := slcs_put (D := r) (k := k) (s := s) h2
      exact Sat.join (P := slc intE 3 y.A y.c y.xs) (Q := slcs (aput r k s)) (h3.perm (List.Perm.swap ..))
theorem aput_self : ∀ (D : List (Int × SzX)) (k : Int) (s : SzX), aget (aput D k s) k = some s
  | [], k, s => by simp [aput, aget]
  | (k', y) :: r, k, s => by
    simp only [aput]
    split
    · simp [aget]
    · rename_i e; simp only [aget]; rw [if_neg e]; exact aput_self r k s
theorem aput_other : ∀ (D : List (Int × SzX)) (k E : Int) (s : SzX), k ≠ E → aget (aput D k s) E = aget D E
  | [], k, E, s, h => by simp [aput, aget, h]
  | (k', y) :: r, k, E, s, h => by
    simp only [aput]
    split
    · rename_i e; subst e; simp [aget, h]
    · simp only [aget]; rw [aput_other r k E s h]
theorem slcs_nil (hs : Sat W0 G w) : Sat W0 (slcs [] :: G) w := hs.triv
theorem adel_none : ∀ {D : List (Int × SzX)} {k : Int}, aget D k = none → adel D k = D
  | [], _, _ => rfl
  | (k', y) :: r, k, h => by
    simp only [aget] at h
    simp only [adel]
    split at h
    · cases h
    · rename_i e; rw [if_neg e, adel_none h]
theorem slcs_look {D : List (Int × SzX)} {k : Int} (hs : Sat W0 (slcs D :: G) w) : Sat W0 (slc intE 3 ((aget D k).getD szNil).A ((aget D k).getD szNil).c ((aget D k).getD szNil).xs :: slcs (adel D k) :: G) w := by
  cases h : aget D k with
  | none => rw [adel_none h]; exact hs.slcNil _ _
  | some s => exact slcs_take h hs
end
attribute [local irreducible] WL CS QS WQ WH WS Fn Op1 row Sat
attribute [local irreducible] slcs slc mapb

/-- The closure's answer. -/
def hitB (E : Int) (K : Nat) (x : LogX) : Bool := decide (x.e = E) && decide (K ≤ x.xs.length)
theorem choose_hit (E : Int) (K : Nat) (x : LogX) (pe pk : Nat) (W0 : World) (G : List SL) :
    Fn Tryz.prog 79 [.agg #[.int .i64 x.e, .slice x.A x.xs.length x.c], .pointer (some ⟨pe, 0, none⟩), .pointer (some ⟨pk, 0, none⟩)] W0 (row pe 3 [.int .i64 E] :: row pk 3 [.int .i64 (K : Int)] :: G)
      (Ret fun v G' => v = .bool (hitB E K x) ∧ G' = row pe 3 [.int .i64 E] :: row pk 3 [.int .i64 (K : Int)] :: G) := by
  refine Fn.enter Tryz.func79 rfl Tryz.ntmps79 rfl ?_
  repeat' (first|refine bk ?_|refine bkc ?_|refine bks ?_|refine bkd ?_|refine bkq (fun q => ?_)|(refine bk2 ?_ ?_<;>(first|exact bkn|(refine bkk ?_;intro h))))
  all_goals
    refine QS.turn (fun w hs => hs.drop) (QS.retV Tryz.results79 rfl ⟨?_, rfl⟩)
    simp [hitB, resV, *]

set_option maxHeartbeats 1000000 in
theorem choose_IndexFunc (A : Option Addr) (k c : Nat) (ls : List LogX) (hk : k = ls.length) (hkb : k ≤ 9223372036854775807) (E : Int) (K : Nat) (i : Nat) (x : LogX) (hi : ls[i]? = some x) (hx : hit E K x) (hf : ∀ j y, j < i → ls[j]? = some y → ¬ hit E K y)
    (pe pk : Nat) (W0 : World) (G : List SL) (hR : Rd W0 G lgE A ls) :
    Fn Tryz.prog 78 [.slice A k c, .func (.func 79) #[] #[.pointer (some ⟨pe, 0, none⟩), .pointer (some ⟨pk, 0, none⟩)]] W0 (row pe 3 [.int .i64 E] :: row pk 3 [.int .i64 (K : Int)] :: G)
      (Ret fun v G' => v = .int .i64 (i : Int) ∧ G' = row pe 3 [.int .i64 E] :: row pk 3 [.int .i64 (K : Int)] :: G) := by
  refine Fn.enter Tryz.func78 rfl Tryz.ntmps78 rfl ?_
  have hil := (List.getElem?_eq_some_iff.1 hi).1
  repeat' (first|refine bk ?_|refine bkc ?_|refine bks ?_|refine bkd ?_|refine bkq (fun q => ?_)|(refine bk2 ?_ ?_<;>(first|exact bkn|(refine bkk ?_;intro h))))
  refine CS.loop (X := Nat) (fun j => [(0, .slice A k c), (1, .func (.func 79) #[] #[.pointer (some ⟨pe, 0, none⟩), .pointer (some ⟨pk, 0, none⟩)]), (7, .int .i64 (k : Int)), (8, .int .i64 (j : Int))]) (fun j => row pe 3 [.int .i64 E] :: row pk 3 [.int .i64 (K : Int)] :: G)
    (fun j => j ≤ i) (fun j => k - j) 0 ⟨rfl, rfl, rfl, rfl, trivial⟩ (fun w hs => hs) (Nat.zero_le _) ?_
  intro j hj
  repeat' (first|refine bk ?_|refine bkc ?_|refine bks ?_|refine bkd ?_|refine bkq (fun q => ?_)|(refine bk2 ?_ ?_<;>(first|exact bkn|(refine bkk ?_;intro h))))
  obtain ⟨y, hy⟩ : ∃ y, ls[j]? = some y := ⟨ls[j]'(by omega), List.getElem?_eq_getElem (by omega)⟩
  refine WL.idx TT hR.cons.cons rfl rfl hk (by omega) (by rw [Int.toNat_natCast]; exact hy) rfl rfl rfl rfl (fun b2 o hA => ?_)
  refine WL.s (op1_at TT hA rfl rfl rfl rfl) rfl ?_
  refine WL.call c79 rfl rfl rfl rfl (choose_hit E K y pe pk W0 _) ?_
  rintro _ _ ⟨rfl, rfl⟩
  by_cases hj2 : j = i
  · subst hj2
    obtain rfl : x = y := by rw [hi] at hy; exact Option.some.inj hy
    rw [show hitB E K x = true from by simpa [hitB, hit] using hx]
    repeat' (first|refine bk ?_|refine bkc ?_|refine bks ?_|refine bkd ?_|refine bkq (fun q => ?_)|(refine bk2 ?_ ?_<;>(first|exact bkn|(refine bkk ?_;intro h))))
    exact QS.retV Tryz.results78 rfl ⟨rfl, rfl⟩
  · have hn := hf j y (by omega) hy
    rw [show hitB E K y = false from by
      cases hb : hitB E K y with
      | false => rfl
      | true => exact absurd (show hit E K y from by simpa [hitB, hit] using hb) hn]
    repeat' (first|refine bk ?_|refine bkc ?_|refine bks ?_|refine bkd ?_|refine bkq (fun q => ?_)|(refine bk2 ?_ ?_<;>(first|exact bkn|(refine bkk ?_;intro h))))
    refine QS.again (j + 1) (by omega) (by omega) ⟨rfl, rfl, rfl, ?_, trivial⟩ (fun w hs => hs)
    rw [show ((j + 1 : Nat) : Int) = (j : Int) + 1 from by omega]; rfl

set_option maxHeartbeats 4000000 in
theorem choose_Committed (A : Option Addr) (k c : Nat) (ls : List LogX) (hk : k = ls.length) (hkb : k ≤ 1000) (hxs : ∀ x ∈ ls, x.xs.length ≤ 5864062014805 ∧ x.xs.length ≤ x.c) (need : Int) (hneed : need ≤ 9223372036854775807) (W0 : World) (G : List SL) (hR : Rd W0 G lgE A ls) (hL : ∀ x ∈ ls, Rd W0 G entE x.A x.xs) :
    Fn Tryz.prog 40 [.slice A k c, .int .i64 need] W0 G
      (Ret fun v G' => ∃ out A' c', Out ls (max need 1) out ∧ v = .slice A' out.length c' ∧ G' = slc entE 49 A' c' out :: G) := by
  refine Fn.enter Tryz.func40 rfl Tryz.ntmps40 rfl ?_
  repeat' (first|refine bk ?_|refine bkc ?_|refine bks ?_|refine bkd ?_|refine bkq (fun q => ?_)|(refine bk2 ?_ ?_<;>(first|exact bkn|(refine bkk ?_;intro h))))
  obtain ⟨N, hN, hN1⟩ : ∃ N, N = max need 1 ∧ (if 1 > need then (1 : Int) else need) = N := ⟨max need 1, rfl, by split <;> omega⟩
  rw [hN1, ← hN]
  have hN2 : 1 ≤ N := by omega
  refine WL.makeMap Int SzX intK szV rfl (fun m => ?_)
  repeat' (first|refine bk ?_|refine bkc ?_|refine bks ?_|refine bkd ?_|refine bkq (fun q => ?_)|(refine bk2 ?_ ?_<;>(first|exact bkn|(refine bkk ?_;intro h))))
  revert q
  intro q0
  refine CS.loop (X := Nat × List (Int × SzX)) (fun x => [(0, .slice A k c), (1, .int .i64 N), (5, .map (some m)), (6, .pointer (some ⟨q0, 0, none⟩)), (7, .bool (epS ls N x.1).1), (16, .slice A k c), (17, .int .i64 (k : Int)), (18, .int .i64 (x.1 : Int))])
    (fun x => mapb intK szV m x.2 :: slcs x.2 :: row q0 3 [.int .i64 (epS ls N x.1).2] :: G)
    (fun x => x.1 ≤ k ∧ ∀ E, ((aget x.2 E).getD szNil).xs = lensOf ls x.1 E) (fun x => k - x.1) (0, []) ⟨rfl, rfl, rfl, rfl, rfl, rfl, rfl, rfl, trivial⟩ (fun w hs => (slcs_nil hs).front (i := 2) rfl |>.perm (List.Perm.refl _)) ⟨Nat.zero_le _, fun E => rfl⟩ ?_
  rintro ⟨i, D⟩ ⟨hi, hD⟩
  simp only at *
  refine CS.world fun hw => ?_
  repeat' (first|refine bk ?_|refine bkc ?_|refine bks ?_|refine bkd ?_|refine bkq (fun q => ?_)|(refine bk2 ?_ ?_<;>(first|exact bkn|(refine bkk ?_;intro h))))
  · obtain ⟨x, hx⟩ : ∃ x, ls[i]? = some x := ⟨ls[i]'(by omega), List.getElem?_eq_getElem (by omega)⟩
    refine WL.idx TT hR.cons.cons.cons rfl rfl hk (by omega) (by rw [Int.toNat_natCast]; exact hx) rfl rfl rfl rfl (fun b2 o hA => ?_)
    refine WL.s (op1_at TT hA rfl rfl rfl rfl) rfl ?_
    obtain ⟨u, hu⟩ : ∃ u, u = (aget D x.e).getD szNil := ⟨_, rfl⟩
    have hux : u.xs = lensOf ls i x.e := by rw [hu]; exact hD x.e
    refine WL.turn (G' := slc intE 3 u.A u.c u.xs :: slcs (adel D x.e) :: mapb intK szV m D :: row q0 3 [.int .i64 (epS ls N i).2] :: G) (fun w hs => by rw [hu]; exact slcs_look (hs.front (i := 1) rfl)) ?_
    repeat' (first|refine bk ?_|refine bkc ?_|refine bks ?_|refine bkd ?_|refine bkq (fun q => ?_)|(refine bk2 ?_ ?_<;>(first|exact bkn|(refine bkk ?_;intro h))))
    have hul : u.xs.length ≤ 1000 := by rw [hux]; have := lensOf_le ls i x.e; omega
    have hu2 : u.xs ++ [(x.xs.length : Int)] = lensOf ls (i + 1) x.e := by rw [lensOf_next hx, if_pos rfl, hux]
    refine CS.drawZ 10 (row q 45 [.int .i64 x.e, .slice x.A x.xs.length x.c] :: mapb intK szV m D :: row q0 3 [.int .i64 (epS ls N i).2] :: G) (fun w hs => (hs.kick (i := 1) rfl).kick (i := 1) rfl) mixed (by kernel_rfl) (by kernel_rfl) rfl ?_
    iterate 6 refine bkz ?_
    refine WZ.s (op1_look1D TT 1 u (u0 := szNil) rfl rfl rfl rfl rfl rfl rfl hu) rfl rfl ?_
    iterate 3 refine bkz ?_
    refine WZ.two (R2 := fun v G1 uu G2 => ∃ b A' c', uu = .slice A' (lensOf ls (i + 1) x.e).length c' ∧ G2 = row b 3 [.int .i64 (x.xs.length : Int)] :: row q 45 [.int .i64 x.e, .slice x.A x.xs.length x.c] :: slc intE 3 A' c' (lensOf ls (i + 1) x.e) :: slcs (adel D x.e) :: mapb intK szV m D :: row q0 3 [.int .i64 (epS ls N i).2] :: G) rfl rfl (fun w hs => (hs.kick (i := 1) rfl).kick (i := 1) rfl) (Eff.buildSlice TT rfl rfl rfl rfl rfl rfl rfl) rfl rfl rfl ?_ rfl rfl rfl ?_
    · rintro v G1 ⟨b, rfl, rfl⟩
      refine ⟨fun w hs => ((hs.drop.kick (i := 1) rfl).kick (i := 1) rfl), ?_⟩
      refine Eff.mono (Eff.append TT (E := intE) (xs := u.xs) (ys := [(x.xs.length : Int)]) 2 rfl rfl rfl rfl rfl (Rd.row (i := 0) rfl rfl) rfl rfl rfl rfl rfl (by decide) (by simp only [List.length_cons, List.length_nil]; omega) (fun _ _ => rfl)) ?_
      rintro v G2 ⟨A', c', rfl, rfl⟩
      rw [hu2]
      exact ⟨b, A', c', rfl, rfl⟩
    rintro v G1 uu G2 ⟨b, rfl, rfl⟩ ⟨b', A', c', rfl, rfl⟩
    refine ⟨fun w hs => ((hs.drop.kick (i := 1) rfl).kick (i := 1) rfl), ?_⟩
    obtain ⟨s, hs⟩ : ∃ s : SzX, s = ⟨A', c', lensOf ls (i + 1) x.e⟩ := ⟨_, rfl⟩
    repeat' (first|refine bk ?_|refine bkc ?_|refine bks ?_|refine bkd ?_|refine bkq (fun q => ?_)|(refine bk2 ?_ ?_<;>(first|exact bkn|(refine bkk ?_;intro h))))
    refine WL.mapUpdate TT (kk := intK) (ev := szV) (u := s) 4 rfl rfl rfl rfl rfl rfl (by rw [hs]; rfl) rfl ?_
    repeat' (first|refine bk ?_|refine bkc ?_|refine bks ?_|refine bkd ?_|refine bkq (fun q => ?_)|(refine bk2 ?_ ?_<;>(first|exact bkn|(refine bkk ?_;intro h))))
    refine WL.turn (G' := slcs (aput D x.e s) :: row q 45 [.int .i64 x.e, .slice x.A x.xs.length x.c] :: mapb intK szV m (aput D x.e s) :: row q0 3 [.int .i64 (epS ls N i).2] :: G) (fun w h => slcs_put (s := s) (by subst hs; exact (h.drop.front (i := 2) rfl).front (i := 2) rfl)) ?_
    refine WL.s (op1_look1D TT 2 s (u0 := szNil) rfl rfl rfl rfl rfl rfl rfl (by rw [aput_self]; rfl)) rfl ?_
    have hnx := epS_next (need := N) hx
    have hD2 : ∀ E, ((aget (aput D x.e s) E).getD szNil).xs = lensOf ls (i + 1) E := fun E => by
      by_cases hE : x.e = E
      · subst hE; rw [aput_self, hs]; rfl
      · rw [aput_other _ _ _ _ hE, hD E, lensOf_next hx, if_neg hE, List.append_nil]
    have hsl : s.xs = lensOf ls (i + 1) x.e := by rw [hs]
    have hll := lensOf_le ls (i + 1) x.e
    simp only [szV, hsl]
    obtain ⟨an, ep, hS⟩ : ∃ an ep, epS ls N i = (an, ep) := ⟨_, _, rfl⟩
    rw [hS] at hnx ⊢
    simp only at hnx ⊢
    repeat' (first|refine bk ?_|refine bkc ?_|refine bks ?_|refine bkd ?_|refine bkq (fun q => ?_)|(refine bk2 ?_ ?_<;>(first|exact bkn|(refine bkk ?_;intro h))))
    all_goals
      first
        | rw [if_pos ⟨by assumption, .inl (by assumption)⟩] at hnx
        | rw [if_pos ⟨by assumption, .inr (by assumption)⟩] at hnx
        | rw [if_neg (fun h => absurd h.1 (by assumption))] at hnx
        | rw [if_neg (fun h => h.2.elim (fun h => by simp [*] at h) (fun h => absurd h (by assumption)))] at hnx
      refine QS.again (i + 1, aput D x.e s) ⟨by simp only; omega, hD2⟩ (by simp only; omega) ⟨rfl, rfl, rfl, rfl, ?_, rfl, rfl, ?_, trivial⟩ (fun w hs => ?_)
      · simp only [hnx]; rfl
      · rw [show ((i + 1 : Nat) : Int) = (i : Int) + 1 from by omega]; rfl
      · simp only [hnx]
        exact (hs.front (i := 2) rfl).kick (i := 2) rfl
  · have hie : i = ls.length := by omega
    have hok := epS_ok ls N hN2 i (by omega)
    have hany : (epS ls N i).1 = false := by assumption
    rw [if_neg (by rw [hany]; decide)] at hok
    refine QS.turn (G' := slc entE 49 none 0 ([] : List Ent) :: G) (fun w hs => hs.drop.drop.drop.slcNil _ _) (QS.retV Tryz.results40 rfl ⟨[], none, 0, .inl ⟨fun E => ?_, rfl⟩, rfl, rfl⟩)
    have := hok E
    rw [lensOf_len, hie, List.take_length] at this
    exact this
  · have hie : i = ls.length := by omega
    have hok := epS_ok ls N hN2 i (by omega)
    have hany : (epS ls N i).1 = true := by assumption
    rw [if_pos hany] at hok
    obtain ⟨E, hE⟩ : ∃ E, E = (epS ls N i).2 := ⟨_, rfl⟩
    rw [← hE] at hok ⊢
    obtain ⟨u, hu⟩ : ∃ u, u = (aget D E).getD szNil := ⟨_, rfl⟩
    have hux : u.xs = lensOf ls i E := by rw [hu]; exact hD E
    have hul : u.xs.length ≤ 1000 := by rw [hux]; have := lensOf_le ls i E; omega
    refine WL.turn (G' := slc intE 3 u.A u.c u.xs :: slcs (adel D E) :: mapb intK szV m D :: row q0 3 [.int .i64 E] :: G) (fun w hs => by rw [hu]; exact slcs_look (hs.front (i := 1) rfl)) ?_
    refine WL.s (op1_look1D TT 2 u (u0 := szNil) rfl rfl rfl rfl rfl rfl rfl hu) rfl ?_
    repeat' (first|refine bk ?_|refine bkc ?_|refine bks ?_|refine bkd ?_|refine bkq (fun q => ?_)|(refine bk2 ?_ ?_<;>(first|exact bkn|(refine bkk ?_;intro h))))
    refine WL.call c77 rfl rfl rfl rfl (sort_ints (xs := u.xs) (by omega) W0 _) ?_
    rintro _ _ ⟨rfl, rfl⟩
    simp only [szV]
    repeat' (first|refine bk ?_|refine bkc ?_|refine bks ?_|refine bkd ?_|refine bkq (fun q => ?_)|(refine bk2 ?_ ?_<;>(first|exact bkn|(refine bkk ?_;intro h))))
    have hNl : N ≤ (u.xs.length : Int) := by rw [hux]; exact hok.1
    have hsl := sortI_len u.xs
    obtain ⟨K, hK⟩ : ∃ K : Nat, (sortI u.xs)[((u.xs.length : Int) - N).toNat]? = some (K : Int) := by
      obtain ⟨z, hz⟩ : ∃ z, (sortI u.xs)[((u.xs.length : Int) - N).toNat]? = some z := ⟨_, List.getElem?_eq_getElem (by rw [hsl]; omega)⟩
      have hz0 : 0 ≤ z := lensOf_mem (ls := ls) (i := i) (E := E) (by rw [← hux]; exact (List.mergeSort_perm _ _).mem_iff.1 (List.mem_of_getElem? hz))
      exact ⟨z.toNat, by rw [hz, Int.toNat_of_nonneg hz0]⟩
    obtain ⟨j, x, hC⟩ : ∃ j x, Comm ls N E K j x := by
      have hany2 : (epS ls N ls.length).1 = true := by rw [← hie]; exact hany
      have := comm_of (ls := ls) (need := N) hN2 hany2 (K := (K : Int)) (by rw [← hie, ← hE, ← hux]; exact hK)
      rw [← hie, ← hE, Int.toNat_natCast] at this
      exact this
    have hjl := (List.getElem?_eq_some_iff.1 hC.at_).1
    have hxm := hxs x (List.mem_of_getElem? hC.at_)
    have hKx : K ≤ x.xs.length := hC.is.2
    refine WL.idx TT (Rd.slc (i := 0) rfl) rfl rfl hsl.symm (by omega) hK rfl rfl rfl rfl (fun b2 o hA => ?_)
    refine WL.s (op1_at TT hA rfl rfl rfl rfl) rfl ?_
    repeat' (first|refine bk ?_|refine bkc ?_|refine bks ?_|refine bkd ?_|refine bkq (fun q => ?_)|(refine bk2 ?_ ?_<;>(first|exact bkn|(refine bkk ?_;intro h))))
    refine WL.turn (G' := row q0 3 [.int .i64 E] :: row q 3 [.int .i64 (K : Int)] :: G) (fun w hs => (((hs.kick (i := 1) rfl).kick (i := 1) rfl).kick (i := 1) rfl).front (i := 1) rfl) ?_
    refine WL.call c78 rfl rfl rfl rfl (choose_IndexFunc A k c ls hk (by omega) E K j x hC.at_ hC.is hC.first q0 q W0 _ hR) ?_
    rintro _ _ ⟨rfl, rfl⟩
    refine WL.fact (fun w hs => Exists.intro w hs) (fun hw2 => ?_)
    refine WL.s (op1_pure1 TT rfl) rfl ?_
    refine WL.nil ?_
    refine QS.then ?_
    refine CS.seq ?_
    refine CS.drawT 6 mixed (by kernel_rfl) rfl ?_
    repeat' (first|refine bk ?_|refine bkh ?_|refine bkw ?_|refine bkq (fun q => ?_)|((first|refine bk2 ?_ ?_|refine bk2h ?_ ?_)<;>(first|exact bkn|(refine bkk ?_;intro h))))
    refine WH.idx TT hR.cons.cons rfl rfl hk (by omega) (by rw [Int.toNat_natCast]; exact hC.at_) rfl rfl rfl rfl hw2 (fun b3 o3 hA3 => ?_)
    repeat' (first|refine bk ?_|refine bkh ?_|refine bkw ?_|refine bkq (fun q => ?_)|((first|refine bk2 ?_ ?_|refine bk2h ?_ ?_)<;>(first|exact bkn|(refine bkk ?_;intro h))))
    refine WH.s (op1_atF TT 1 hA3 rfl rfl rfl rfl rfl) rfl ?_
    repeat' (first|refine bk ?_|refine bkh ?_|refine bkw ?_|refine bkq (fun q => ?_)|((first|refine bk2 ?_ ?_|refine bk2h ?_ ?_)<;>(first|exact bkn|(refine bkk ?_;intro h))))
    refine WL.s (op1_sliceS (E := entE) (xs := x.xs) (l := 0) (r := (K : Int)) TT (by rfl) (by rfl) rfl rfl rfl rfl rfl (by omega) hxm.2) rfl ?_
    simp only [Int.toNat_zero, Nat.sub_zero, Int.toNat_natCast]
    refine WL.call c35 rfl rfl rfl rfl (ent_Clone2 _ K x.c ((x.xs.take K).drop 0) (by rw [List.drop_zero, List.length_take]; omega) (by omega) W0 _ ((hL x (List.mem_of_getElem? hC.at_)).cons.cons.part hKx hxm.2)) ?_
    rintro _ _ ⟨A2, c2, rfl, rfl⟩
    repeat' (first|refine bk ?_|refine bkc ?_|refine bks ?_|refine bkd ?_|refine bkq (fun q => ?_)|(refine bk2 ?_ ?_<;>(first|exact bkn|(refine bkk ?_;intro h))))
    refine QS.turn (G' := slc entE 49 A2 c2 ((x.xs.take K).drop 0) :: G) (fun w hs => (hs.kick (i := 1) rfl).kick (i := 1) rfl) (QS.retV Tryz.results40 rfl ⟨(x.xs.take K).drop 0, A2, c2, .inr ⟨E, K, j, x, hC, List.drop_zero⟩, ?_, rfl⟩)
    rw [List.drop_zero, List.length_take, Nat.min_eq_left hKx]; rfl
end Go.Proofs.YtfolmcpfdcgliaaGreat.B

set_option linter.unusedVariables false
set_option linter.unusedSimpArgs false
set_option maxRecDepth 8000
/-! What is read of the nodes. -/
namespace Go.Proofs.YtfolmcpfdcgliaaGreat.B
open Go Go.Proofs
def seenM (fs : List Int) (xs : List Nd) (i : Nat) : Option Lg :=
  match xs[i]? with
  | some x => if x.J.dead = false ∧ (fateM fs i = 0 ∨ fateM fs i = 3) then some (x.J.e, x.J.xs) else none
  | none => none
def seenL (fs : List Int) (xs : List Nd) (k : Nat) : List Lg := (List.range k).filterMap (seenM fs xs)
def OutL (lg : List Lg) (need : Int) (out : List Ent) : Prop := ∃ ls : List LogX, ls.map lgOf = lg ∧ Out ls need out
def ReadM (xs : List Nd) (fs : List Int) (out : List Ent) (er : Int) : Prop :=
  ((xs.length = 0 ∨ ((seenL fs xs xs.length).length : Int) < mostM xs.length) ∧ out = [] ∧ er = 12) ∨
  (¬ (xs.length = 0 ∨ ((seenL fs xs xs.length).length : Int) < mostM xs.length) ∧ er = 0 ∧ OutL (seenL fs xs xs.length) (max (mostM xs.length) 1) out)
theorem seenL_succ (fs : List Int) (xs : List Nd) (i : Nat) : seenL fs xs (i + 1) = seenL fs xs i ++ (match seenM fs xs i with | some t => [t] | none => []) := by
  unfold seenL
  rw [List.range_succ, List.filterMap_append]
  cases h : seenM fs xs i <;> simp [h]
theorem seenL_len (fs : List Int) (xs : List Nd) (k : Nat) : (seenL fs xs k).length ≤ k := by
  have := List.length_filterMap_le (seenM fs xs) (List.range k)
  rw [List.length_range] at this
  exact this
theorem seenL_mem {fs : List Int} {xs : List Nd} {k : Nat} {t : Lg} (h : t ∈ seenL fs xs k) : ∃ (i : Nat) (x : Nd), i < k ∧ xs[i]? = some x ∧ x.J.dead = false ∧ t = (x.J.e, x.J.xs) := by
  obtain ⟨i, hi, hs⟩ := List.mem_filterMap.1 h
  unfold seenM at hs
  cases hx : xs[i]? with
  | none => rw [hx] at hs; cases hs
  | some x =>
    rw [hx] at hs
    simp only at hs
    split at hs
    · rename_i hc
      exact ⟨i, x, List.mem_range.1 hi, hx, hc.1, (Option.some.inj hs).symm⟩
    · cases hs
section
variable {W0 : World} {G : List SL} {ls : List LogX}
theorem ents_cap {x : LogX} (h : x ∈ ls) {i : Nat} (hG : G[i]? = some (entsA ls)) : ∀ w, Sat W0 G w → x.xs.length ≤ x.c := fun w hs => by
  obtain ⟨j, hj⟩ := List.mem_iff_getElem?.1 h
  have := bag_at (P := slc entE 49 x.A x.c x.xs) (i := j) (by rw [List.getElem?_map, hj]; rfl) (hs.pick hG)
  exact slc_cap (i := 0) rfl _ this
end
attribute [local irreducible] WL CS QS WQ WH WS Fn Op1 row Sat
attribute [local irreducible] slc jA diskA mailA nodesA nodesX entsA
theorem q_DeadR (b bd : Nat) (A : Option Addr) (c : Nat) (J : Jn) (W0 : World) (F : List SL) :
    Fn Tryz.prog 38 [.pointer (some ⟨b, 0, none⟩)] W0 (row b 103 (jCells bd A c J) :: F) (Ret fun v G' => v = .bool J.dead ∧ G' = row b 103 (jCells bd A c J) :: F) := by
  refine Fn.enter Tryz.func38 rfl Tryz.ntmps38 rfl ?_
  simp only [jCells]
  repeat' (first|refine bk ?_|refine bkc ?_|refine bks ?_|refine bkd ?_|refine bkq (fun q => ?_)|(refine bk2 ?_ ?_<;>(first|exact bkn|(refine bkk ?_;intro h))))
  exact QS.retV Tryz.results38 rfl ⟨rfl, rfl⟩
theorem q_DeadA (b bd : Nat) (J : Jn) (W0 : World) (F : List SL) :
    Fn Tryz.prog 38 [.pointer (some ⟨b, 0, none⟩)] W0 (jA b bd J :: F) (Ret fun v G' => v = .bool J.dead ∧ G' = jA b bd J :: F) := by
  refine Fn.ex (fun w hs => jA_open w hs) ?_
  rintro ⟨A, c⟩
  exact Fn.post (q_DeadR b bd A c J W0 _) (Ret.post fun v G' ⟨h1, h2⟩ => ⟨jA b bd J :: F, fun w hw => by rw [h2] at hw; exact jA_shut (A := A) (c := c) w hw, h1, rfl⟩)
theorem q_Dead {ys : List Nd} {i : Nat} {x : Nd} (hx : ys[i]? = some x) (W0 : World) (F : List SL) :
    Fn Tryz.prog 38 [.pointer (some ⟨x.b, 0, none⟩)] W0 (nodesA ys :: F) (Ret fun v G' => v = .bool x.J.dead ∧ G' = nodesA ys :: F) :=
  Fn.post ((q_DeadA x.b x.d x.J W0 (diskA x.d x.D :: nodesX ys i :: F)).pre (nodes_open hx)) (Ret.post fun v G' ⟨h1, h2⟩ => ⟨nodesA ys :: F, fun w hw => by
    rw [h2] at hw
    have h3 := nodes_shut hx w hw
    rwa [set_self hx] at h3, h1, rfl⟩)
set_option maxHeartbeats 8000000 in
theorem q_Read (bq : Nat) (Aj : Option Addr) (cj bm : Nat) (w : Wr) (xs : List Nd) (hok : ∀ x ∈ xs, NdOk x) (hn : xs.length ≤ 5) (A : Option Addr) (k c : Nat) (fs : List Int) (hk : k = fs.length) (hI : ∀ x ∈ fs, I64 x) (W0 : World) (F : List SL) (hR : Rd W0 F intE A fs) :
    Fn Tryz.prog 17 [.pointer (some ⟨bq, 0, none⟩), .slice A k c] W0
      (row bq 92 (wrC Aj xs.length cj bm w) :: slc bpE 46 Aj cj (xs.map (·.b)) :: nodesA xs :: F)
      (Ret fun v G' => ∃ out er Al cl, ReadM xs fs out er ∧ v = .tuple #[.slice Al out.length cl, .int .i64 er] ∧
        G' = slc entE 49 Al cl out :: row bq 92 (wrC Aj xs.length cj bm w) :: slc bpE 46 Aj cj (xs.map (·.b)) :: nodesA xs :: F) := by
  subst hk
  refine Fn.enter Tryz.func17 rfl Tryz.ntmps17 rfl ?_
  repeat' (first|refine bk ?_|refine bkc ?_|refine bks ?_|refine bkd ?_|refine bkq (fun q => ?_)|(refine bk2 ?_ ?_<;>(first|exact bkn|(refine bkk ?_;intro h))))
  refine CS.loop (X := {y : Nat × List LogX × Option Addr × Nat // y.2.1.map lgOf = seenL fs xs y.1}) (fun y => [(0, .pointer (some ⟨bq, 0, none⟩)), (1, .slice A fs.length c), (6, .slice y.1.2.2.1 y.1.2.1.length y.1.2.2.2), (14, .slice Aj xs.length cj), (15, .int .i64 (xs.length : Int)), (16, .int .i64 (y.1.1 : Int))])
    (fun y => slc lgE 45 y.1.2.2.1 y.1.2.2.2 y.1.2.1 :: entsA y.1.2.1 :: row bq 92 (wrC Aj xs.length cj bm w) :: slc bpE 46 Aj cj (xs.map (·.b)) :: nodesA xs :: F) (fun y => y.1.1 ≤ xs.length) (fun y => xs.length - y.1.1) ⟨(0, [], none, 0), rfl⟩ ⟨rfl, rfl, rfl, rfl, rfl, rfl, trivial⟩ (fun w hs => (ents_none w hs).slcNil lgE 45) (Nat.zero_le _) ?_
  rintro ⟨⟨i, ls, Al, cl⟩, hls⟩ hi
  simp only at hls hi ⊢
  have hll := congrArg List.length hls
  rw [List.length_map] at hll
  have hsl := seenL_len fs xs i
  by_cases hix : i < xs.length
  · obtain ⟨x, hx⟩ : ∃ x, xs[i]? = some x := ⟨xs[i]'hix, List.getElem?_eq_getElem hix⟩
    have hxo := hok x (List.mem_of_getElem? hx)
    have hnx := seenL_succ fs xs i
    have hsm : seenM fs xs i = if x.J.dead = false ∧ (fateM fs i = 0 ∨ fateM fs i = 3) then some (x.J.e, x.J.xs) else none := by unfold seenM; rw [hx]
    repeat' (first|refine bk ?_|refine bkc ?_|refine bks ?_|refine bkd ?_|refine bkq (fun q => ?_)|(refine bk2 ?_ ?_<;>(first|exact bkn|(refine bkk ?_;intro h))))
    refine WL.idx TT (Rd.slc (i := 3) rfl) rfl rfl (by rw [List.length_map]) (by omega) (x := x.b) (by rw [Int.toNat_natCast, List.getElem?_map, hx]; rfl) rfl rfl rfl rfl (fun bb2 o hA => ?_)
    refine WL.s (op1_at TT hA rfl rfl rfl rfl) rfl ?_
    repeat' (first|refine bk ?_|refine bkc ?_|refine bks ?_|refine bkd ?_|refine bkq (fun q => ?_)|(refine bk2 ?_ ?_<;>(first|exact bkn|(refine bkk ?_;intro h))))
    refine WL.call c37 rfl rfl rfl rfl (q_fate A _ c fs rfl hI i W0 _ hR.cons.cons.cons.cons.cons) ?_
    rintro _ G2 ⟨rfl, hG2⟩
    rw [hG2]; clear hG2 G2
    generalize fateM fs i = f at hsm ⊢
    repeat' (first|refine bk ?_|refine bkc ?_|refine bks ?_|refine bkd ?_|refine bkq (fun q => ?_)|(refine bk2 ?_ ?_<;>(first|exact bkn|(refine bkk ?_;intro h))))
    refine WL.call c38 rfl rfl rfl rfl ((q_Dead hx W0 _).pre (fun w hs => hs.front (i := 4) rfl)) ?_
    rintro _ _ ⟨rfl, rfl⟩
    by_cases hc : x.J.dead = false ∧ (f = 0 ∨ f = 3)
    · rw [if_pos hc] at hsm
      rw [hsm] at hnx
      obtain ⟨hc1, hc2⟩ := hc
      rw [hc1]
      simp only at hnx
      repeat' (first|refine bk ?_|refine bkc ?_|refine bks ?_|refine bkq (fun q => ?_)|(refine bk2 ?_ ?_<;>(first|exact bkn|(refine bkk ?_;intro h))))
      all_goals
        refine WL.call c16 rfl rfl rfl rfl (q_Log hx hxo hc1 W0 _) ?_
        rintro _ _ ⟨A4, c4, rfl, rfl⟩
        repeat' (first|refine bk ?_|refine bkc ?_|refine bks ?_|refine bkq (fun q => ?_)|(refine bk2 ?_ ?_<;>(first|exact bkn|(refine bkk ?_;intro h))))
        refine WL.buildSlice TT rfl rfl rfl rfl rfl rfl rfl rfl (fun q2 => ?_)
        refine WL.append TT 3 (E := lgE) (xs := ls) (ys := [⟨x.J.e, A4, c4, x.J.xs⟩]) rfl rfl rfl rfl rfl (Rd.row (i := 0) rfl rfl) rfl rfl rfl rfl rfl (by decide) (by simp only [List.length_cons, List.length_nil]; omega) (fun _ _ => rfl) rfl (fun A5 c5 => ?_)
        repeat' (first|refine bk ?_|refine bkc ?_|refine bks ?_|refine bkd ?_|refine bkq (fun q => ?_)|(refine bk2 ?_ ?_<;>(first|exact bkn|(refine bkk ?_;intro h))))
        refine QS.again ⟨(i + 1, ls ++ [⟨x.J.e, A4, c4, x.J.xs⟩], A5, c5), by simp only [List.map_append, hls, hnx]; rfl⟩ hix (by show xs.length - (i + 1) < xs.length - i; omega) ⟨rfl, rfl, rfl, rfl, rfl, ?_, trivial⟩ (fun w hs => ?_)
        · simp only
          rw [show ((i + 1 : Nat) : Int) = (i : Int) + 1 from by omega]; rfl
        · exact (ents_snoc (x := ⟨x.J.e, A4, c4, x.J.xs⟩) w (hs.ord 7 [1, 4, 3, 5, 6, 2] rfl)).ord 5 [1, 0, 2, 3, 4] rfl
    · rw [if_neg hc] at hsm
      rw [hsm, List.append_nil] at hnx
      repeat' (first|refine bk ?_|refine bkc ?_|refine bks ?_|refine bkq (fun q => ?_)|(refine bk2 ?_ ?_<;>(first|exact bkn|(refine bkk ?_;intro h))))
      all_goals first
        | exact absurd ⟨by assumption, .inl (by assumption)⟩ hc
        | exact absurd ⟨by assumption, .inr (by assumption)⟩ hc
        | (refine QS.again ⟨(i + 1, ls, Al, cl), by simp only [hls, hnx]⟩ hix (by show xs.length - (i + 1) < xs.length - i; omega) ⟨rfl, rfl, rfl, rfl, rfl, ?_, trivial⟩ (fun w hs => hs.ord 5 [1, 2, 3, 4, 0] rfl)
           simp only
           rw [show ((i + 1 : Nat) : Int) = (i : Int) + 1 from by omega]; rfl)
  · obtain rfl : i = xs.length := by omega
    repeat' (first|refine bk ?_|refine bkc ?_|refine bks ?_|refine bkq (fun q => ?_)|(refine bk2 ?_ ?_<;>(first|exact bkn|(refine bkk ?_;intro h))))
    refine WL.call c39 rfl rfl rfl rfl (choose_Most _ (mostM_i64 hn) W0 _) ?_
    rintro _ G2 ⟨rfl, hG2⟩
    rw [hG2]; clear hG2 G2
    obtain ⟨M, hM⟩ : ∃ M, M = mostM (xs.length : Int) := ⟨_, rfl⟩
    have hM2 : (if (xs.length : Int) < 1 then 0 else (xs.length : Int) / 2 + 1) = M := by rw [hM]; rfl
    have hMb : 0 ≤ M ∧ M ≤ 3 := by rw [← hM2]; split <;> omega
    rw [hM2]
    unfold ReadM
    rw [← hM, ← hll]
    repeat' (first|refine bk ?_|refine bkc ?_|refine bks ?_|refine bkq (fun q => ?_)|(refine bk2 ?_ ?_<;>(first|exact bkn|(refine bkk ?_;intro h))))
    · exact QS.turn (G' := slc entE 49 none 0 [] :: row bq 92 (wrC Aj xs.length cj bm w) :: slc bpE 46 Aj cj (xs.map (·.b)) :: nodesA xs :: F) (fun w hs => hs.drop.drop.slcNil entE 49) (QS.retV Tryz.results17 rfl ⟨[], 12, none, 0, .inl ⟨.inl (by omega), rfl, rfl⟩, rfl, rfl⟩)
    · exact QS.turn (G' := slc entE 49 none 0 [] :: row bq 92 (wrC Aj xs.length cj bm w) :: slc bpE 46 Aj cj (xs.map (·.b)) :: nodesA xs :: F) (fun w hs => hs.drop.drop.slcNil entE 49) (QS.retV Tryz.results17 rfl ⟨[], 12, none, 0, .inl ⟨.inr (by assumption), rfl, rfl⟩, rfl, rfl⟩)
    · refine WL.fact (p := ∀ x ∈ ls, x.xs.length ≤ x.c) (fun w hs x hx => ents_cap hx (i := 1) rfl w hs) (fun hcap => ?_)
      have hll2 : ∀ x ∈ ls, x.xs.length ≤ 300 := fun x hx => by
        have hm : lgOf x ∈ seenL fs xs xs.length := by rw [← hls]; exact List.mem_map_of_mem hx
        obtain ⟨j, y, _, hy, _, hye⟩ := seenL_mem hm
        have h3 := (hok y (List.mem_of_getElem? hy)).J.len
        simp only [lgOf, Prod.mk.injEq] at hye
        rw [hye.2]; exact h3
      refine WL.call c40 rfl rfl rfl rfl (choose_Committed Al _ cl ls rfl (by omega) (fun x hx => ⟨by have := hll2 x hx; omega, hcap x hx⟩) M (by omega) W0 _ (Rd.slc (i := 0) rfl) (fun x hx => ents_rd hx (i := 1) rfl)) ?_
      rintro _ _ ⟨out, A6, c6, ho, rfl, rfl⟩
      repeat' (first|refine bk ?_|refine bkc ?_|refine bks ?_|refine bkd ?_|refine bkq (fun q => ?_)|(refine bk2 ?_ ?_<;>(first|exact bkn|(refine bkk ?_;intro h))))
      rename_i h1 h2
      exact QS.turn (G' := slc entE 49 A6 c6 out :: row bq 92 (wrC Aj xs.length cj bm w) :: slc bpE 46 Aj cj (xs.map (·.b)) :: nodesA xs :: F) (fun w hs => hs.ord 6 [0, 3, 4, 5] rfl) (QS.retV Tryz.results17 rfl ⟨out, 0, A6, c6, .inr ⟨fun hh => hh.elim (fun hh => by omega) (fun hh => by omega), rfl, ⟨ls, hls, ho⟩⟩, rfl, rfl⟩)
end Go.Proofs.YtfolmcpfdcgliaaGreat.B
