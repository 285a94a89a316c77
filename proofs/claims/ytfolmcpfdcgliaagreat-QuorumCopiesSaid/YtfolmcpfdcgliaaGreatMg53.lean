import Derived.Test.YtfolmcpfdcgliaaGreatMg52
set_option linter.unusedVariables false
set_option linter.unusedSimpArgs false
set_option maxRecDepth 8000
/-! Opening a slice of integers. -/
namespace Go.Proofs.YtfolmcpfdcgliaaGreat.B
open Go Go.Proofs Go.ChangeShapes Go.WideShapes Go.ChangeAt Go.RowKit
section
variable {H : Type} {enc : TypeId × Value → H} {w : World} {sp : Nat → Bool} {held : Bool}
theorem open_intsR {base : Nat} {r : Reach} {v : Value} {d : DataW H} {ps : List MemPlace} (hval : Value.okWide Tryz.prog w r base 28 v) (h : DataW.Trod enc Tryz.prog w 0 sp held 28 v d ps) :
    ∃ A k c xs, v = .slice A k c ∧ k = xs.length ∧ k ≤ c ∧ c ≤ maxLen ∧ RdC w A (flat intE xs) ∧ ∀ x ∈ xs, I64 x := by
  obtain ⟨A, k, c, rfl⟩ := okWide_slice Tryz.underlying28 hval
  obtain ⟨n, hf⟩ := h
  rcases open_ints Tryz.underlying28 Tryz.underlying3 (by kernel_rfl) hf with ⟨hcs, _⟩ | ⟨a, len, cap, ss, hcs, _, hl, hm, hz, _, hcell, hwf⟩
  · simp [Value.cells] at hcs
    obtain ⟨rfl, rfl, rfl⟩ := hcs
    exact ⟨none, 0, 0, [], rfl, rfl, Nat.le_refl _, by simp [maxLen], .inl rfl, fun x hx => by cases hx⟩
  · simp [Value.cells] at hcs
    obtain ⟨rfl, rfl, rfl⟩ := hcs
    have hsl : k ≤ ss.length := by rw [hz]; split <;> omega
    refine ⟨some a, k, c, ss.take k, rfl, by simp; omega, hl, hm, ?_, fun x hx => wf_i64 (hwf x (List.mem_of_mem_take hx))⟩
    rcases Nat.eq_zero_or_pos k with h0 | h0
    · subst h0; exact .inl (by simp [flat])
    · have h1 := hcell 0 (by omega)
      have hsp : a.spot = none := by have := spot_none h1; simpa [Addr.add] using this
      obtain ⟨b, o, spt⟩ := a
      simp only at hsp
      subst hsp
      refine .inr ⟨b, o, rfl, fun j u hj => ?_⟩
      have hjl : j < (ss.take k).length * 1 := by
        have := (List.getElem?_eq_some_iff.1 hj).1
        rwa [flat_len] at this
      have hjk : j < k := by simp at hjl; omega
      have hg : (ss.take k)[j]? = some (ss.getD j 0) := by
        rw [List.getElem?_take, if_pos hjk, List.getD_eq_getElem?_getD, List.getElem?_eq_getElem (by omega)]; rfl
      have h3 := flat_get intE (ss.take k) j 0 _ (.int .i64 (ss.getD j 0)) hg rfl
      have ej : j * intE.sz + 0 = j := by show j * 1 + 0 = j; omega
      rw [ej, hj] at h3
      injection h3 with h3
      rw [h3]
      have := hcell j (by omega)
      rw [add_off] at this
      exact this
end
end Go.Proofs.YtfolmcpfdcgliaaGreat.B
