import Derived.Test.YtpmekjailifaiaaCb
import Derived.Test.YtpmekjailifaiaaSi
set_option linter.unusedVariables false
set_option linter.unusedSimpArgs false
set_option maxRecDepth 8000
/-! What is committed, in plain words. -/
namespace Go.Proofs.Ytpmekjailifaiaa.B
open Go

/-- How many logs of an epoch have so many entries. -/
def cnt (ls : List LogX) (E : Int) (k : Nat) : Nat := ls.countP fun x => decide (x.e = E) && decide (k ≤ x.xs.length)
def hit (E : Int) (k : Nat) (x : LogX) : Prop := x.e = E ∧ k ≤ x.xs.length
structure Comm (ls : List LogX) (need : Int) (E : Int) (K i : Nat) (x : LogX) : Prop where
  ep : need ≤ (cnt ls E 0 : Int)
  top : ∀ E', need ≤ (cnt ls E' 0 : Int) → E' ≤ E
  k0 : need ≤ (cnt ls E K : Int)
  k1 : (cnt ls E (K + 1) : Int) < need
  at_ : ls[i]? = some x
  is : hit E K x
  first : ∀ j y, j < i → ls[j]? = some y → ¬ hit E K y
def Nobody (ls : List LogX) (need : Int) : Prop := ∀ E, (cnt ls E 0 : Int) < need
/-- What is committed. -/
def Out (ls : List LogX) (need : Int) (out : List Ent) : Prop := (Nobody ls need ∧ out = []) ∨ ∃ E K i x, Comm ls need E K i x ∧ out = x.xs.take K
theorem cnt_le {ls : List LogX} {E : Int} {a b : Nat} (h : a ≤ b) : cnt ls E b ≤ cnt ls E a := by
  unfold cnt
  refine List.countP_mono_left (fun x _ hx => ?_)
  simp only [Bool.and_eq_true, decide_eq_true_eq] at hx ⊢
  exact ⟨hx.1, by omega⟩
theorem Out.same {ls : List LogX} {need : Int} {a b : List Ent} (ha : Out ls need a) (hb : Out ls need b) : a = b := by
  rcases ha with ⟨h1, rfl⟩ | ⟨E, K, i, x, h1, rfl⟩
  · rcases hb with ⟨h2, rfl⟩ | ⟨E', K', i', x', h2, rfl⟩
    · rfl
    · have := h1 E'; have := h2.ep; omega
  · rcases hb with ⟨h2, rfl⟩ | ⟨E', K', i', x', h2, rfl⟩
    · have := h2 E; have := h1.ep; omega
    · obtain rfl : E = E' := Int.le_antisymm (h2.top _ h1.ep) (h1.top _ h2.ep)
      obtain rfl : K = K' := by
        rcases Nat.lt_trichotomy K K' with h | h | h
        · have := cnt_le (ls := ls) (E := E) (show K + 1 ≤ K' from h)
          have := h2.k0; have := h1.k1; omega
        · exact h
        · have := cnt_le (ls := ls) (E := E) (show K' + 1 ≤ K from h)
          have := h1.k0; have := h2.k1; omega
      obtain rfl : i = i' := by
        rcases Nat.lt_trichotomy i i' with h | h | h
        · exact absurd h1.is (h2.first i x h h1.at_)
        · exact h
        · exact absurd h2.is (h1.first i' x' h h2.at_)
      have := h1.at_.symm.trans h2.at_
      injection this with this
      subst this; rfl
theorem cnt_pos {ls : List LogX} {E : Int} {k : Nat} (h : 0 < cnt ls E k) : ∃ (i : Nat) (x : LogX), ls[i]? = some x ∧ hit E k x ∧ ∀ j y, j < i → ls[j]? = some y → ¬ hit E k y := by
  induction ls with
  | nil => simp [cnt] at h
  | cons x r ih =>
    by_cases hx : hit E k x
    · exact ⟨0, x, rfl, hx, fun j y hj => by omega⟩
    · have h2 : 0 < cnt r E k := by
        unfold cnt at h ⊢
        rw [List.countP_cons_of_neg] at h
        · exact h
        · intro hh
          simp only [Bool.and_eq_true, decide_eq_true_eq] at hh
          exact hx hh
      obtain ⟨i, y, h3, h4, h5⟩ := ih h2
      refine ⟨i + 1, y, by simpa using h3, h4, fun j z hj hz => ?_⟩
      cases j with
      | zero => simp at hz; subst hz; exact hx
      | succ j => exact h5 j z (by omega) (by simpa using hz)
/-- The lengths of an epoch's logs among the first ones. -/
def lensOf (ls : List LogX) (i : Nat) (E : Int) : List Int := ((ls.take i).filter fun x => decide (x.e = E)).map fun x => (x.xs.length : Int)
theorem lensOf_next {ls : List LogX} {i : Nat} {x : LogX} (h : ls[i]? = some x) (E : Int) : lensOf ls (i + 1) E = lensOf ls i E ++ (if x.e = E then [(x.xs.length : Int)] else []) := by
  unfold lensOf
  rw [List.take_add_one, h, List.filter_append, List.map_append]
  by_cases he : x.e = E <;> simp [he]
theorem lensOf_len (ls : List LogX) (i : Nat) (E : Int) : (lensOf ls i E).length = cnt (ls.take i) E 0 := by
  unfold lensOf cnt
  rw [List.length_map, List.countP_eq_length_filter]
  simp
theorem lensOf_le (ls : List LogX) (i : Nat) (E : Int) : (lensOf ls i E).length ≤ i := by
  unfold lensOf
  rw [List.length_map]
  exact Nat.le_trans (List.length_filter_le _ _) (by rw [List.length_take]; omega)
theorem cnt_lens (ls : List LogX) (E : Int) (k : Nat) : cnt ls E k = (lensOf ls ls.length E).countP fun z => decide ((k : Int) ≤ z) := by
  unfold cnt lensOf
  rw [List.take_length, List.countP_map, List.countP_filter]
  congr 1
  funext x
  simp only [Function.comp, Int.ofNat_le]
  rw [Bool.and_comm]
theorem lensOf_mem {ls : List LogX} {i : Nat} {E z : Int} (h : z ∈ lensOf ls i E) : 0 ≤ z := by
  unfold lensOf at h
  obtain ⟨x, _, rfl⟩ := List.mem_map.1 h
  omega
/-- How far: any yet, and of which epoch. -/
def epS (ls : List LogX) (need : Int) : Nat → Bool × Int
  | 0 => (false, -1)
  | i + 1 => match ls[i]? with
    | some x => if need ≤ ((lensOf ls (i + 1) x.e).length : Int) ∧ ((epS ls need i).1 = false ∨ (epS ls need i).2 < x.e) then (true, x.e) else epS ls need i
    | none => epS ls need i
theorem epS_next {ls : List LogX} {need : Int} {i : Nat} {x : LogX} (h : ls[i]? = some x) : epS ls need (i + 1) = if need ≤ ((lensOf ls (i + 1) x.e).length : Int) ∧ ((epS ls need i).1 = false ∨ (epS ls need i).2 < x.e) then (true, x.e) else epS ls need i := by
  rw [epS, h]
theorem epS_ok (ls : List LogX) (need : Int) (hn : 1 ≤ need) : ∀ i, i ≤ ls.length → if (epS ls need i).1 = true then (need ≤ ((lensOf ls i (epS ls need i).2).length : Int) ∧ ∀ E, need ≤ ((lensOf ls i E).length : Int) → E ≤ (epS ls need i).2) else ∀ E, ((lensOf ls i E).length : Int) < need
  | 0, _ => by
    rw [epS, if_neg (by decide)]
    intro E
    simp [lensOf]; omega
  | i + 1, hi => by
    have ih := epS_ok ls need hn i (by omega)
    obtain ⟨x, hx⟩ : ∃ x, ls[i]? = some x := ⟨ls[i]'(by omega), List.getElem?_eq_getElem (by omega)⟩
    have hother : ∀ E, x.e ≠ E → lensOf ls (i + 1) E = lensOf ls i E := fun E h => by rw [lensOf_next hx, if_neg h, List.append_nil]
    have hmono : ∀ E, (lensOf ls i E).length ≤ (lensOf ls (i + 1) E).length := fun E => by rw [lensOf_next hx, List.length_append]; omega
    obtain ⟨b, E0, hS⟩ : ∃ b E0, epS ls need i = (b, E0) := ⟨_, _, rfl⟩
    rw [epS, hx]
    simp only
    rw [hS] at ih ⊢
    simp only at ih ⊢
    split
    · rename_i h
      rw [if_pos rfl]
      refine ⟨h.1, fun E hE => ?_⟩
      by_cases he : x.e = E
      · omega
      · rw [hother E he] at hE
        cases b with
        | false => rw [if_neg (by decide)] at ih; have := ih E; omega
        | true =>
          rw [if_pos rfl] at ih
          have := ih.2 E hE
          have := h.2.resolve_left (by simp)
          omega
    · rename_i h
      cases b with
      | false =>
        rw [if_neg (by simp)] at ih ⊢
        intro E
        by_cases he : x.e = E
        · subst he
          have := Classical.not_and_iff_not_or_not.1 h
          rcases this with h1 | h1
          · omega
          · exact absurd (.inl rfl) h1
        · rw [hother E he]; exact ih E
      | true =>
        rw [if_pos rfl] at ih ⊢
        refine ⟨by have := hmono E0; have := ih.1; simp only at *; omega, fun E hE => ?_⟩
        by_cases he : x.e = E
        · subst he
          rcases Classical.not_and_iff_not_or_not.1 h with h1 | h1
          · omega
          · have : ¬ E0 < x.e := fun h2 => h1 (.inr h2)
            omega
        · rw [hother E he] at hE; exact ih.2 E hE
/-- In a rising list: of so many from above. -/
theorem sorted_from {s : List Int} (hs : s.Pairwise (· ≤ ·)) {n : Nat} (h0 : 0 < n) (h1 : n ≤ s.length) {K : Int} (hK : s[s.length - n]? = some K) : n ≤ s.countP (fun z => decide (K ≤ z)) ∧ s.countP (fun z => decide (K + 1 ≤ z)) < n := by
  have e1 : s = s.take (s.length - n) ++ s.drop (s.length - n) := (List.take_append_drop _ _).symm
  have hd : s.drop (s.length - n) = K :: s.drop (s.length - n + 1) := by
    obtain ⟨hi, e⟩ := List.getElem?_eq_some_iff.1 hK
    rw [List.drop_eq_getElem_cons hi, e]
  have hp := hs
  rw [e1, List.pairwise_append] at hp
  obtain ⟨p1, p2, p3⟩ := hp
  constructor
  · have h2 : (s.drop (s.length - n)).countP (fun z => decide (K ≤ z)) = (s.drop (s.length - n)).length := by
      rw [List.countP_eq_length]
      intro z hz
      rw [hd] at hz p2
      rcases List.mem_cons.1 hz with rfl | hz
      · simp
      · simpa using (List.pairwise_cons.1 p2).1 z hz
    conv => rhs; rw [e1]
    rw [List.countP_append, h2, List.length_drop]; omega
  · have h2 : (s.take (s.length - n)).countP (fun z => decide (K + 1 ≤ z)) = 0 := by
      rw [List.countP_eq_zero]
      intro z hz
      have := p3 z hz K (by rw [hd]; exact List.mem_cons_self ..)
      simp; omega
    have h3 : (s.drop (s.length - n)).countP (fun z => decide (K + 1 ≤ z)) < n := by
      rw [hd, List.countP_cons_of_neg (by simp; omega)]
      have h4 : (s.drop (s.length - n + 1)).countP (fun z => decide (K + 1 ≤ z)) ≤ (s.drop (s.length - n + 1)).length := List.countP_le_length
      rw [List.length_drop] at h4
      omega
    conv => lhs; rw [e1]
    rw [List.countP_append, h2]; omega
theorem sortI_sorted (xs : List Int) : (sortI xs).Pairwise (· ≤ ·) := by
  have := List.pairwise_mergeSort (le := fun x y : Int => decide (x ≤ y)) (fun a b c h1 h2 => by simp at *; omega) (fun a b => by simp; omega) xs
  exact this.imp (fun h => by simpa using h)
theorem sortI_count (xs : List Int) (p : Int → Bool) : (sortI xs).countP p = xs.countP p := (List.mergeSort_perm xs _).countP_eq p
/-- Counted and sorted: what is committed. -/
theorem comm_of {ls : List LogX} {need : Int} (hn : 1 ≤ need) (h : (epS ls need ls.length).1 = true) {K : Int}
    (hK : (sortI (lensOf ls ls.length (epS ls need ls.length).2))[((lensOf ls ls.length (epS ls need ls.length).2).length - need).toNat]? = some K) : ∃ i x, Comm ls need (epS ls need ls.length).2 K.toNat i x := by
  have h1 := epS_ok ls need hn ls.length (Nat.le_refl _)
  rw [if_pos h] at h1
  obtain ⟨E, hE⟩ : ∃ E, E = (epS ls need ls.length).2 := ⟨_, rfl⟩
  rw [← hE] at h1 hK ⊢
  have hlen : ∀ E, (lensOf ls ls.length E).length = cnt ls E 0 := fun E => by rw [lensOf_len, List.take_length]
  have hsl := sortI_len (lensOf ls ls.length E)
  have hidx : ((lensOf ls ls.length E).length - need).toNat = (sortI (lensOf ls ls.length E)).length - need.toNat := by rw [hsl]; omega
  rw [hidx] at hK
  have h2 := sorted_from (sortI_sorted _) (n := need.toNat) (by omega) (by rw [hsl]; omega) hK
  rw [sortI_count, sortI_count] at h2
  have hK0 : 0 ≤ K := by
    have : K ∈ lensOf ls ls.length E := (List.mergeSort_perm _ _).mem_iff.1 (List.mem_of_getElem? hK)
    exact lensOf_mem this
  have c0 : cnt ls E K.toNat = (lensOf ls ls.length E).countP fun z => decide (K ≤ z) := by rw [cnt_lens, Int.toNat_of_nonneg hK0]
  have c1 : cnt ls E (K.toNat + 1) = (lensOf ls ls.length E).countP fun z => decide (K + 1 ≤ z) := by rw [cnt_lens]; congr 1; funext z; rw [show ((K.toNat + 1 : Nat) : Int) = K + 1 from by omega]
  obtain ⟨i, x, h3, h4, h5⟩ := cnt_pos (ls := ls) (E := E) (k := K.toNat) (by rw [c0]; omega)
  refine ⟨i, x, by rw [← hlen]; exact h1.1, fun E' hE' => h1.2 E' (by rw [hlen]; exact hE'), by rw [c0]; omega, by rw [c1]; omega, h3, h4, h5⟩
end Go.Proofs.Ytpmekjailifaiaa.B
