import Derived.Test.YtpklbelejebcfaaGreatRb
import Derived.SizedLaws
set_option linter.unusedVariables false
set_option linter.unusedSimpArgs false
set_option linter.unusedSectionVars false
set_option maxRecDepth 8000
/-! Opening a slice of anything. -/
namespace Go.Proofs.YtpklbelejebcfaaGreat.B
open Go Go.Proofs Go.ChangeShapes Go.WideShapes Go.ChangeAt Go.RowKit
section
variable {H : Type} {enc : TypeId × Value → H} {P : Program} {w : World} {sp : Nat → Bool} {held : Bool}
theorem weightsAll_mem {e : TypeId} : ∀ {l : List (DataW H)} {d : DataW H}, d ∈ l → ∀ m ∈ d.weights P e, m ∈ DataW.weightsAll P e l
  | d0 :: r, d, hd, m, hm => by
    simp only [DataW.weightsAll, List.mem_append]
    rcases List.mem_cons.1 hd with rfl | h
    · exact .inl hm
    · exact .inr (weightsAll_mem h m hm)
theorem open_slcG {α : Type} (E : EncK α) {T e : Nat} (PX : α → DataW H → Prop) (hT : P.underlying T = some (.slice e)) (hC : P.cellsOf e = E.sz)
    (one : ∀ {fuel : Nat} {cs : List Value} {x : DataW H × List MemPlace}, cs.length = E.sz → DataW.trod enc P w 0 sp held fuel e cs = some x → ∃ a : α, cs = E.enc a ∧ PX a x.1)
    {fuel : Nat} {v : Value} {x : DataW H × List MemPlace} (h : DataW.trod enc P w 0 sp held fuel T [v] = some x) :
    ∃ A k c xs, v = .slice A k c ∧ k = xs.length ∧ k ≤ c ∧ c ≤ maxLen ∧ RdC w A (flat E xs) ∧ (∀ a ∈ xs, ∃ d, PX a d ∧ ∀ m ∈ d.weights P e, m ∈ x.1.weights P T) ∧ ((∀ m ∈ x.1.weights P T, m ≤ reachBytes) → k * P.bytesOf e ≤ reachBytes) := by
  rcases DataW.trod_slice hT h with ⟨hc, _⟩ | ⟨a, len, cap, elems, rest, n, _, hcs, hx, hb, hl, hm, hlen, hel, _⟩
  · simp only [List.cons.injEq, and_true] at hc
    subst hc
    exact ⟨none, 0, 0, [], rfl, rfl, Nat.le_refl _, by simp [maxLen], .inl rfl, fun l hl => absurd hl (List.not_mem_nil), fun _ => by omega⟩
  · simp only [List.cons.injEq, and_true] at hcs
    subst hcs
    have each : ∀ i, i < len → ∃ y : α, (∀ j u, (E.enc y)[j]? = some u → w.cell? ((a.add (i * E.sz)).add j) = some u) ∧ ∃ d, PX y d ∧ ∀ m ∈ d.weights P e, m ∈ x.1.weights P T := fun i hi => by
      have h1 := hel i hi
      rw [hC, List.getElem?_eq_getElem (by omega), Option.bind_eq_some_iff] at h1
      obtain ⟨cs, h2, h3⟩ := h1
      obtain ⟨_, hl2, hg⟩ := World.cells?_some h2
      obtain ⟨y, rfl, hy⟩ := one hl2 h3
      refine ⟨y, fun j u hj => ?_, elems[i].1, hy, fun m hm' => ?_⟩
      · have hjl : j < E.sz := by have := (List.getElem?_eq_some_iff.1 hj).1; rwa [E.len] at this
        have := hg j hjl
        rw [this, hj]
      · rw [hx]
        simp only [DataW.weights, hT]
        exact List.mem_cons_of_mem _ (List.mem_append_left _ (weightsAll_mem (d := elems[i].1) (List.mem_map.2 ⟨elems[i], List.getElem_mem _, rfl⟩) m hm'))
    have build : ∀ m, m ≤ len → ∃ xs : List α, xs.length = m ∧ (∀ i y, xs[i]? = some y → ∀ j u, (E.enc y)[j]? = some u → w.cell? ((a.add (i * E.sz)).add j) = some u) ∧ ∀ y ∈ xs, ∃ d, PX y d ∧ ∀ m ∈ d.weights P e, m ∈ x.1.weights P T := by
      intro m
      induction m with
      | zero => intro _; exact ⟨[], rfl, fun i y h => by simp at h, fun l hl => by cases hl⟩
      | succ m ih =>
        intro hm
        obtain ⟨xs, hl3, hx3, hx4⟩ := ih (by omega)
        obtain ⟨y, hy1, hy2⟩ := each m (by omega)
        refine ⟨xs ++ [y], by simp [hl3], fun i z hz => ?_, fun l hl => ?_⟩
        · by_cases hi : i < xs.length
          · rw [List.getElem?_append_left hi] at hz; exact hx3 i z hz
          · rw [List.getElem?_append_right (by omega)] at hz
            have : i - xs.length = 0 := by
              have := (List.getElem?_eq_some_iff.1 hz).1
              simp at this; omega
            rw [this] at hz
            simp at hz
            subst hz
            rw [show i = m from by omega]; exact hy1
        · rcases List.mem_append.1 hl with h | h
          · exact hx4 l h
          · rw [List.mem_singleton.1 h]; exact hy2
    obtain ⟨xs, hxl, hx5, hx6⟩ := build len (Nat.le_refl _)
    refine ⟨some a, len, cap, xs, rfl, hxl.symm, hl, hm, ?_, hx6, fun hw => ?_⟩
    · cases hxs : xs with
      | nil => exact .inl rfl
      | cons y0 yr =>
        have hp := E.pos
        obtain ⟨u0, hu0⟩ : ∃ u0, (E.enc y0)[0]? = some u0 := ⟨(E.enc y0)[0]'(by rw [E.len]; exact hp), List.getElem?_eq_getElem _⟩
        have hy0 := hx5 0 y0 (by rw [hxs]; rfl) 0 u0 hu0
        have hsp : a.spot = none := by have := spot_none hy0; simpa [Addr.add] using this
        obtain ⟨b, o, spt⟩ := a
        simp only at hsp
        subst hsp
        refine .inr ⟨b, o, rfl, fun j u hj => ?_⟩
        rw [← hxs] at hj
        have hjl : j < xs.length * E.sz := by
          have := (List.getElem?_eq_some_iff.1 hj).1
          rwa [flat_len] at this
        have hq : j / E.sz < xs.length := Nat.div_lt_of_lt_mul (by rw [Nat.mul_comm]; exact hjl)
        obtain ⟨y, hy⟩ : ∃ y, xs[j / E.sz]? = some y := ⟨xs[j / E.sz]'hq, List.getElem?_eq_getElem hq⟩
        have hr : j % E.sz < E.sz := Nat.mod_lt _ hp
        obtain ⟨u2, hu2⟩ : ∃ u2, (E.enc y)[j % E.sz]? = some u2 := ⟨(E.enc y)[j % E.sz]'(by rw [E.len]; exact hr), List.getElem?_eq_getElem _⟩
        have h3 := flat_get E xs (j / E.sz) (j % E.sz) y u2 hy hu2
        have ej : j / E.sz * E.sz + j % E.sz = j := Nat.div_add_mod' j E.sz
        rw [ej, hj] at h3
        injection h3 with h3
        rw [h3]
        have := hx5 _ _ hy _ _ hu2
        rw [add_off, add_off] at this
        rwa [show o + j = o + j / E.sz * E.sz + j % E.sz from by omega]
    · have h1 := hw ((elems.length + rest.length) * P.bytesOf e) (by
        rw [hx]
        simp only [DataW.weights, hT, List.length_map]
        exact List.mem_cons_self ..)
      refine Nat.le_trans (Nat.mul_le_mul_right _ ?_) h1
      omega
theorem open_intsT {fuel : Nat} {T e : Nat} (hT : P.underlying T = some (.slice e)) (hC : P.cellsOf e = 1) (he : P.underlying e = some (.int .i64)) {v : Value} {x : DataW H × List MemPlace} (h : DataW.trod enc P w 0 sp held fuel T [v] = some x) :
    ∃ A k c xs, v = .slice A k c ∧ k = xs.length ∧ k ≤ c ∧ c ≤ maxLen ∧ RdC w A (flat intE xs) ∧ ∀ a ∈ xs, I64 a := by
  obtain ⟨A, k, c, xs, h1, h2, h3, h4, h5, h6, _⟩ := open_slcG intE (fun a _ => I64 a) hT hC (fun {fuel cs x} hl h => by
    obtain ⟨n, rfl, _, hw⟩ := DataW.trod_int he h
    exact ⟨n, rfl, wf_i64 hw⟩) h
  exact ⟨A, k, c, xs, h1, h2, h3, h4, h5, fun a ha => (h6 a ha).choose_spec.1⟩
end
end Go.Proofs.YtpklbelejebcfaaGreat.B
