import Derived.Test.YthdalbpfnamomaaRo
import Derived.Test.YthdalbpfnamomaaDx
set_option linter.unusedVariables false
set_option linter.unusedSimpArgs false
set_option linter.unusedSectionVars false
set_option maxRecDepth 8000
/-! Opening the disk's deeds. -/
namespace Go.Proofs.Ythdalbpfnamomaa.B
open Go Go.Proofs Go.ChangeShapes Go.WideShapes Go.ChangeAt Go.RowKit
structure DeedD where
  kind : Int
  frm : ByteArray
  to : ByteArray
  data : ByteArray
  n : Int
  A : Option Addr
  keeps : List Int
  c : Nat
def dvE : EncK DeedD := ⟨fun d => [.int .i64 d.kind, .string d.frm, .string d.to, .string d.data, .int .i64 d.n, .slice d.A d.keeps.length d.c], 6, fun _ => rfl, by decide, fun _ u hu => by
  simp only [List.mem_cons, List.not_mem_nil, or_false] at hu
  rcases hu with rfl | rfl | rfl | rfl | rfl | rfl <;> rfl⟩
structure DeedOk (d : DeedD) : Prop where
  kind : I64 d.kind
  frm : d.frm.size ≤ maxLen
  to : d.to.size ≤ maxLen
  data : d.data.size ≤ maxLen
  n : I64 d.n
  ints : ∀ x ∈ d.keeps, I64 x
  len : d.keeps.length ≤ maxLen
section
variable {H : Type} {enc : TypeId × Value → H} {w : World} {sp : Nat → Bool} {held : Bool}
theorem open_deedC {fuel : Nat} {cs : List Value} {x : DataW H × List MemPlace} (hl : cs.length = 6) (h : DataW.trod enc Try.prog w 0 sp held fuel 43 cs = some x) :
    ∃ d : DeedD, cs = dvE.enc d ∧ DeedOk d ∧ RdC w d.A (flat intE d.keeps) := by
  obtain ⟨c0, c1, c2, c3, c4, c5, rfl⟩ : ∃ c0 c1 c2 c3 c4 c5, cs = [c0, c1, c2, c3, c4, c5] := by
    match cs, hl with
    | [c0, c1, c2, c3, c4, c5], _ => exact ⟨c0, c1, c2, c3, c4, c5, rfl⟩
  obtain ⟨zs, m, _, hx, _, hzl, hz⟩ := DataW.trod_struct Try.underlying43 h
  have hci : Try.prog.cellsOf 3 = 1 := by kernel_rfl
  have hcs : Try.prog.cellsOf 9 = 1 := by kernel_rfl
  have hcl : Try.prog.cellsOf 23 = 1 := by kernel_rfl
  have hzl' : zs.length = 6 := hzl
  have f : ∀ i, i < 6 → ∃ z, zs[i]? = some z := fun i hi => ⟨zs[i]'(by omega), List.getElem?_eq_getElem (by omega)⟩
  obtain ⟨z0, e0⟩ := f 0 (by omega)
  obtain ⟨z1, e1⟩ := f 1 (by omega)
  obtain ⟨z2, e2⟩ := f 2 (by omega)
  obtain ⟨z3, e3⟩ := f 3 (by omega)
  obtain ⟨z4, e4⟩ := f 4 (by omega)
  obtain ⟨z5, e5⟩ := f 5 (by omega)
  have h0 : DataW.trod enc Try.prog w 0 sp held m 3 (([c0, c1, c2, c3, c4, c5].drop 0).take (Try.prog.cellsOf 3)) = zs[0]? := hz 0 _ rfl
  have h1 : DataW.trod enc Try.prog w 0 sp held m 9 (([c0, c1, c2, c3, c4, c5].drop 1).take (Try.prog.cellsOf 9)) = zs[1]? := hz 1 _ rfl
  have h2 : DataW.trod enc Try.prog w 0 sp held m 9 (([c0, c1, c2, c3, c4, c5].drop 2).take (Try.prog.cellsOf 9)) = zs[2]? := hz 2 _ rfl
  have h3 : DataW.trod enc Try.prog w 0 sp held m 9 (([c0, c1, c2, c3, c4, c5].drop 3).take (Try.prog.cellsOf 9)) = zs[3]? := hz 3 _ rfl
  have h4 : DataW.trod enc Try.prog w 0 sp held m 3 (([c0, c1, c2, c3, c4, c5].drop 4).take (Try.prog.cellsOf 3)) = zs[4]? := hz 4 _ rfl
  have h5 : DataW.trod enc Try.prog w 0 sp held m 23 (([c0, c1, c2, c3, c4, c5].drop 5).take (Try.prog.cellsOf 23)) = zs[5]? := hz 5 _ rfl
  rw [hci, e0] at h0
  rw [hcs, e1] at h1
  rw [hcs, e2] at h2
  rw [hcs, e3] at h3
  rw [hci, e4] at h4
  rw [hcl, e5] at h5
  simp only [List.drop_zero, List.take_succ_cons, List.take_zero, List.drop_succ_cons] at h0 h1 h2 h3 h4 h5
  obtain ⟨k, hk, _, wk⟩ := DataW.trod_int Try.underlying3 h0
  obtain ⟨s1, hs1, _, w1⟩ := DataW.trod_string Try.underlying9 h1
  obtain ⟨s2, hs2, _, w2⟩ := DataW.trod_string Try.underlying9 h2
  obtain ⟨s3, hs3, _, w3⟩ := DataW.trod_string Try.underlying9 h3
  obtain ⟨n, hn, _, wn⟩ := DataW.trod_int Try.underlying3 h4
  obtain ⟨A, k5, c, xs, hv, hkl, hkc, hcm, hR, hI⟩ := open_intsT Try.underlying23 hci Try.underlying3 h5
  simp only [List.cons.injEq, and_true] at hk hs1 hs2 hs3 hn
  subst hk hs1 hs2 hs3 hn hv hkl
  exact ⟨⟨k, s1, s2, s3, n, A, xs, c⟩, rfl, ⟨wf_i64 wk, w1, w2, w3, wf_i64 wn, hI, by simp only; omega⟩, hR⟩
theorem open_deeds {base : Nat} {r : Reach} {v : Value} {d : DataW H} {ps : List MemPlace} (hval : Value.okWide Try.prog w r base 41 v) (h : DataW.Trod enc Try.prog w 0 sp held 41 v d ps) :
    ∃ A k c ls, v = .slice A k c ∧ k = ls.length ∧ k ≤ c ∧ c ≤ maxLen ∧ RdC w A (flat dvE ls) ∧ ∀ l ∈ ls, DeedOk l ∧ RdC w l.A (flat intE l.keeps) := by
  obtain ⟨A, k, c, rfl⟩ := okWide_slice Try.underlying41 hval
  obtain ⟨fuel, hf⟩ := h
  obtain ⟨A', k', c', ls, h1, h2, h3, h4, h5, h6, _⟩ := open_slcG dvE (fun l _ => DeedOk l ∧ RdC w l.A (flat intE l.keeps)) Try.underlying41 (by kernel_rfl) (fun {fuel cs x} hl h => open_deedC hl h) (v := .slice A k c) hf
  exact ⟨A', k', c', ls, h1, h2, h3, h4, h5, fun l hl => (h6 l hl).choose_spec.1⟩
end
end Go.Proofs.Ythdalbpfnamomaa.B
