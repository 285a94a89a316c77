import Derived.Test.YtpmekjailifaiaaRb
import Derived.Test.YtpmekjailifaiaaCb
import Derived.SizedLaws
set_option linter.unusedVariables false
set_option linter.unusedSimpArgs false
set_option maxRecDepth 8000
/-! Opening logs, and slices of them. -/
namespace Go.Proofs.Ytpmekjailifaiaa.B
open Go Go.Proofs Go.ChangeShapes Go.WideShapes Go.ChangeAt Go.RowKit
section
variable {H : Type} {enc : TypeId × Value → H} {w : World} {sp : Nat → Bool} {held : Bool}
theorem weightsAll_mem {P : Program} {e : TypeId} : ∀ {l : List (DataW H)} {d : DataW H}, d ∈ l → ∀ m ∈ d.weights P e, m ∈ DataW.weightsAll P e l
  | d0 :: r, d, hd, m, hm => by
    simp only [DataW.weightsAll, List.mem_append]
    rcases List.mem_cons.1 hd with rfl | h
    · exact .inl hm
    · exact .inr (weightsAll_mem h m hm)
/-- A log that can be read. -/
structure LogRd (w : World) (l : LogX) : Prop where
  rd : RdC w l.A (flat entE l.xs)
  cap : l.xs.length ≤ l.c
  most : l.c ≤ maxLen
  e : I64 l.e
theorem open_logC {fuel : Nat} {c0 c1 : Value} {x : DataW H × List MemPlace} (h : DataW.trod enc Try.prog w 0 sp held fuel 31 [c0, c1] = some x) :
    ∃ l : LogX, c0 = .int .i64 l.e ∧ c1 = .slice l.A l.xs.length l.c ∧ LogRd w l ∧ ((∀ m ∈ x.1.weights Try.prog 31, m ≤ reachBytes) → l.xs.length ≤ 5864062014805) := by
  obtain ⟨zs, m, _, hx, _, hzl, hz⟩ := DataW.trod_struct Try.underlying31 h
  have hc3 : Try.prog.cellsOf 3 = 1 := by kernel_rfl
  have hc9 : Try.prog.cellsOf 24 = 1 := by kernel_rfl
  have hz0 : DataW.trod enc Try.prog w 0 sp held m 3 (([c0, c1].drop 0).take (Try.prog.cellsOf 3)) = zs[0]? := hz 0 _ rfl
  have hz1 : DataW.trod enc Try.prog w 0 sp held m 24 (([c0, c1].drop 1).take (Try.prog.cellsOf 24)) = zs[1]? := hz 1 _ rfl
  rw [hc3] at hz0
  rw [hc9] at hz1
  have hzl' : zs.length = 2 := hzl
  obtain ⟨z0, z1, rfl⟩ : ∃ z0 z1, zs = [z0, z1] := by
    match zs, hzl' with
    | [z0, z1], _ => exact ⟨z0, z1, rfl⟩
  simp only [List.getElem?_cons_zero, List.getElem?_cons_succ, List.drop_zero, List.take_succ_cons, List.take_zero, List.drop_succ_cons] at hz0 hz1
  obtain ⟨e, hk, hx0, hwf⟩ := DataW.trod_int Try.underlying3 hz0
  simp only [List.cons.injEq, and_true] at hk
  have hm : ∃ A k c, c1 = .slice A k c ∧ c ≤ maxLen ∧ ((∀ m ∈ z1.1.weights Try.prog 24, m ≤ reachBytes) → k ≤ 5864062014805) := by
    rcases DataW.trod_slice Try.underlying24 hz1 with ⟨hc, _⟩ | ⟨a, len, cap, elems, rest, n, _, hcs, hx1, hb, hl, hm, hlen, hel, _⟩
    · simp only [List.cons.injEq, and_true] at hc
      exact ⟨none, 0, 0, hc, by simp [maxLen], fun _ => by omega⟩
    · simp only [List.cons.injEq, and_true] at hcs
      refine ⟨some a, len, cap, hcs, hm, fun hw => ?_⟩
      have hby : Try.prog.bytesOf 28 = 24 := by kernel_rfl
      have h1 := hw ((elems.length + rest.length) * 24) (by
        rw [hx1]
        simp only [DataW.weights, Try.underlying24, hby, List.length_map]
        exact List.mem_cons_self ..)
      have hr : reachBytes = 140737488351232 := by decide
      omega
  obtain ⟨A, k, c, rfl, hcm, hwt⟩ := hm
  obtain ⟨A', k', c', xs, he, hkx, hc, hR⟩ := open_entries hz1
  cases he
  refine ⟨⟨e, A, c, xs⟩, hk, by rw [hkx], ⟨hR, by rw [← hkx]; exact hc, hcm, wf_i64 hwf⟩, fun hw => ?_⟩
  rw [← hkx]
  refine hwt (fun q hq => hw q ?_)
  rw [hx]
  simp only [DataW.weights, Try.underlying31, List.map_cons, List.map_nil]
  simp only [DataW.weightsEach, List.mem_append]
  exact .inr (.inl hq)
theorem open_log {base : Nat} {r : Reach} {v : Value} {d : DataW H} {ps : List MemPlace} (hval : Value.okWide Try.prog w r base 31 v) (h : DataW.Trod enc Try.prog w 0 sp held 31 v d ps) (hw : ∀ m ∈ d.weights Try.prog 31, m ≤ reachBytes) :
    ∃ l : LogX, v = .agg #[.int .i64 l.e, .slice l.A l.xs.length l.c] ∧ LogRd w l ∧ l.xs.length ≤ 5864062014805 := by
  have h2 := h
  obtain ⟨u0, u1, y0, y1, n, rfl, _, _, t0, t1⟩ := Joins.open_agg2 Try.underlying31 (by kernel_rfl) (by kernel_rfl) hval h
  obtain ⟨fuel, hf⟩ := h2
  obtain ⟨l, e0, e1, h4, h5⟩ := open_logC (c0 := u0) (c1 := u1) (x := (d, ps)) hf
  exact ⟨l, by rw [e0, e1], h4, h5 hw⟩
/-- A slice of logs that can be read. -/
theorem open_logs {base : Nat} {r : Reach} {v : Value} {d : DataW H} {ps : List MemPlace} (hval : Value.okWide Try.prog w r base 22 v) (h : DataW.Trod enc Try.prog w 0 sp held 22 v d ps) (hw : ∀ m ∈ d.weights Try.prog 22, m ≤ reachBytes) :
    ∃ A k c ls, v = .slice A k c ∧ k = ls.length ∧ k ≤ c ∧ c ≤ maxLen ∧ RdC w A (flat lgE ls) ∧ ∀ l ∈ ls, LogRd w l ∧ l.xs.length ≤ 5864062014805 := by
  obtain ⟨A, k, c, rfl⟩ := okWide_slice Try.underlying22 hval
  obtain ⟨fuel, hf⟩ := h
  rcases DataW.trod_slice Try.underlying22 hf with ⟨hc, _⟩ | ⟨a, len, cap, elems, rest, n, _, hcs, hx, hb, hl, hm, hlen, hel, _⟩
  · simp [Value.cells] at hc
    obtain ⟨rfl, rfl, rfl⟩ := hc
    exact ⟨none, 0, 0, [], rfl, rfl, Nat.le_refl _, by simp [maxLen], .inl rfl, fun l hl => by cases hl⟩
  · simp [Value.cells] at hcs
    obtain ⟨rfl, rfl, rfl⟩ := hcs
    simp only [Prod.mk.injEq] at hx
    have hC : Try.prog.cellsOf 31 = 2 := by kernel_rfl
    have each : ∀ i, i < k → ∃ l : LogX, w.cell? (a.add (i * 2)) = some (.int .i64 l.e) ∧ w.cell? ((a.add (i * 2)).add 1) = some (.slice l.A l.xs.length l.c) ∧ LogRd w l ∧ l.xs.length ≤ 5864062014805 := fun i hi => by
      have h1 := hel i hi
      rw [hC, List.getElem?_eq_getElem (by omega), Option.bind_eq_some_iff] at h1
      obtain ⟨cs, h2, h3⟩ := h1
      obtain ⟨_, hl2, hg⟩ := World.cells?_some h2
      obtain ⟨c0, c1, rfl⟩ : ∃ c0 c1, cs = [c0, c1] := by
        match cs, hl2 with
        | [c0, c1], _ => exact ⟨c0, c1, rfl⟩
      obtain ⟨l, rfl, rfl, h4, h5⟩ := open_logC h3
      have g0 := hg 0 (by omega)
      have g1 := hg 1 (by omega)
      simp only [List.getElem?_cons_zero, List.getElem?_cons_succ] at g0 g1
      refine ⟨l, by simpa [Addr.add] using g0, g1, h4, h5 (fun m hm' => hw m ?_)⟩
      rw [hx.1]
      simp only [DataW.weights, Try.underlying22]
      refine List.mem_cons_of_mem _ (List.mem_append_left _ (weightsAll_mem (d := elems[i].1) (List.mem_map.2 ⟨elems[i], List.getElem_mem _, rfl⟩) m hm'))
    have build : ∀ m, m ≤ k → ∃ ls : List LogX, ls.length = m ∧ (∀ i l, ls[i]? = some l → w.cell? (a.add (i * 2)) = some (.int .i64 l.e) ∧ w.cell? ((a.add (i * 2)).add 1) = some (.slice l.A l.xs.length l.c)) ∧ ∀ l ∈ ls, LogRd w l ∧ l.xs.length ≤ 5864062014805 := by
      intro m
      induction m with
      | zero => intro _; exact ⟨[], rfl, fun i y h => by simp at h, fun l hl => by cases hl⟩
      | succ m ih =>
        intro hm
        obtain ⟨ls, hl3, hx3, hx4⟩ := ih (by omega)
        obtain ⟨y, hy1, hy2, hy3, hy4⟩ := each m (by omega)
        refine ⟨ls ++ [y], by simp [hl3], fun i z hz => ?_, fun l hl => ?_⟩
        · by_cases hi : i < ls.length
          · rw [List.getElem?_append_left hi] at hz; exact hx3 i z hz
          · rw [List.getElem?_append_right (by omega)] at hz
            have : i - ls.length = 0 := by
              have := (List.getElem?_eq_some_iff.1 hz).1
              simp at this; omega
            rw [this] at hz
            simp at hz
            subst hz
            rw [show i = m from by omega]; exact ⟨hy1, hy2⟩
        · rcases List.mem_append.1 hl with h | h
          · exact hx4 l h
          · rw [List.mem_singleton.1 h]; exact ⟨hy3, hy4⟩
    obtain ⟨ls, hxl, hx5, hx6⟩ := build k (Nat.le_refl _)
    refine ⟨some a, k, c, ls, rfl, hxl.symm, hl, hm, ?_, hx6⟩
    cases hxs : ls with
    | nil => exact .inl rfl
    | cons y0 yr =>
      have hy0 := hx5 0 y0 (by rw [hxs]; rfl)
      have hsp : a.spot = none := by have := spot_none hy0.1; simpa [Addr.add] using this
      obtain ⟨b, o, spt⟩ := a
      simp only at hsp
      subst hsp
      refine .inr ⟨b, o, rfl, fun j u hj => ?_⟩
      rw [← hxs] at hj
      have hjl : j < ls.length * 2 := by
        have := (List.getElem?_eq_some_iff.1 hj).1
        rwa [flat_len] at this
      obtain ⟨y, hy⟩ : ∃ y, ls[j / 2]? = some y := ⟨ls[j / 2]'(by omega), List.getElem?_eq_getElem (by omega)⟩
      have h2 := hx5 _ _ hy
      rcases Nat.mod_two_eq_zero_or_one j with hm2 | hm2
      · have h3 := flat_get lgE ls (j / 2) 0 y (.int .i64 y.e) hy rfl
        have ej : j / 2 * lgE.sz + 0 = j := by show j / 2 * 2 + 0 = j; omega
        rw [ej, hj] at h3
        injection h3 with h3
        rw [h3]
        have := h2.1
        rw [add_off] at this
        rwa [show o + j = o + j / 2 * 2 from by omega]
      · have h3 := flat_get lgE ls (j / 2) 1 y (.slice y.A y.xs.length y.c) hy rfl
        have ej : j / 2 * lgE.sz + 1 = j := by show j / 2 * 2 + 1 = j; omega
        rw [ej, hj] at h3
        injection h3 with h3
        rw [h3]
        have := h2.2
        rw [add_off, add_off] at this
        rwa [show o + j = o + j / 2 * 2 + 1 from by omega]
end
end Go.Proofs.Ytpmekjailifaiaa.B
