import Derived.Test.YtpmekjailifaiaaTab
import Derived.Test.YtpmekjailifaiaaTm
import Derived.Test.YtpmekjailifaiaaSh
import Derived.Sort.OwnSortedInts
set_option linter.unusedVariables false
set_option linter.unusedSimpArgs false
set_option maxRecDepth 8000
/-! Sorting a slice of integers. -/
namespace Go.Proofs.Ytpmekjailifaiaa.B
open Go Go.Proofs Go.Sort

def sortI (xs : List Int) : List Int := xs.mergeSort fun x y => decide (x ≤ y)
theorem flat_int (xs : List Int) : flat intE xs = xs.map (Value.int .i64) := by
  induction xs with
  | nil => rfl
  | cons x r ih => simp only [flat, List.flatMap_cons, List.map_cons] at ih ⊢; rw [ih]; rfl
theorem sortI_len (xs : List Int) : (sortI xs).length = xs.length := List.length_mergeSort xs
theorem sort_ints {A : Option Addr} {c : Nat} {xs : List Int} (hl : xs.length ≤ 4000000000000000000) (W0 : World) (G : List SL) :
    Fn Try.prog 19 [.slice A xs.length c] W0 (slc intE 3 A c xs :: G) (Ret fun v G' => v = .tuple #[] ∧ G' = slc intE 3 A c (sortI xs) :: G) := fun w hs => by
  obtain ⟨h1, h2, h3⟩ := slc_at (i := 0) rfl w hs
  have hsl := sortI_len xs
  rcases h3 with ⟨rfl, rfl, rfl⟩ | ⟨g, rfl⟩
  · refine (sh_slices_Sort_int_none none 0 w).mono fun e w' h => ?_
    obtain ⟨rfl, rfl⟩ := h
    refine ⟨_, ⟨rfl, rfl⟩, ?_⟩
    simpa [sortI] using hs
  · obtain ⟨hp, h, hle⟩ := hs.head
    rcases h with ⟨h, _⟩ | ⟨g', cur, hg, hb, h3, h4, h5, h6⟩
    · cases h
    injection hg with hg
    injection hg with hg _ _
    subst hg
    have hb' := hle g _ hb
    have hsz : intE.sz = 1 := rfl
    rw [hsz, Nat.mul_one] at h5 h6
    rw [flat_int] at h6
    have hH : Holds (Value.int .i64) w g 0 xs.toArray := holds_of_blockI hb' h6
    have hlt : g < w.heap.size := (Array.getElem?_eq_some_iff.1 hb').1
    refine (sh_slices_Sort_int g 0 c xs w hH hlt (by omega)).mono fun e w' h => ?_
    obtain ⟨rfl, n, os, rfl⟩ := h
    have ho := ownsRow_sortedI (n := n) (os := os) (base := 0) (ts := sortI xs) hsl (Nat.zero_le _) hb' h3 h4 (by rw [h5, Nat.mul_one])
    obtain ⟨A', c', hA, s2⟩ := hs.slcTurn (v' := .slice (some ⟨g, 0, none⟩) xs.length c) (ys := sortI xs) (by rw [hsl, flat_int]; exact ho) (grownBy_sortedI (g := g) _) (.inl rfl)
    simp only [Value.slice.injEq] at hA
    obtain ⟨rfl, _, rfl⟩ := hA
    exact ⟨_, ⟨rfl, rfl⟩, s2⟩
end Go.Proofs.Ytpmekjailifaiaa.B
