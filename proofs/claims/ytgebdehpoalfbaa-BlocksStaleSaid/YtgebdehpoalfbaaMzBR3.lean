import Derived.Test.YtgebdehpoalfbaaMg21
import Derived.Test.YtgebdehpoalfbaaMg23
import Derived.Test.YtgebdehpoalfbaaMg22
/- What is proved: no replica of a block that is needed, with its generation, is stale, and each other one is (the law BlocksStale), for every report and every list of blocks. -/
set_option linter.unusedVariables false
set_option linter.unusedSimpArgs false
/-! The row of the law BlocksStale. -/
namespace Go.Proofs.Ytgebdehpoalfbaa.B
open Go Go.Proofs Go.ChangeShapes Go.WideShapes Go.ChangeAt Go.RowKit Go.ChangeMaps
namespace BlocksStale
set_option maxRecDepth 100000 in
theorem contract (H : Type) (enc : TypeId × Value → H) (W : World) (base : Nat) (args : Array Value) (ds gs : List (DataW H)) (before : List MemPlace)
    (hval : ∀ (j : Nat) t v, (Try.f3).params[j]? = some t → args[j]? = some v → Value.okWide Try.prog W .any base t v)
    (hW : DataW.Whole enc Try.prog (Try.f3).params.toList Rows.blocksStaleSpec.vars false W args.toList ds gs before) :
    Calls Try.prog 3 args W fun e W' => ∃ v, e = .returned v ∧ Rows.blocksStaleSpec.post enc Try.prog (Try.f3) false true false false W args v W' := by
  have hW' := hW
  obtain ⟨p, q, hA0, hV, rfl, hfz, hnd⟩ := hW
  have hA : DataW.TrodAll enc Try.prog W 0 (fun _ => true) true (Try.f3).params.toList args.toList ds p := hA0
  rw [Try.params3] at hA hval
  obtain ⟨v0, vs0, d0, ds0, p0, q0, hargs, rfl, rfl, h0, r0⟩ := trodAll_cons hA
  obtain ⟨v1, vs1, d1, ds1, p1, q1, rfl, rfl, rfl, h1, r1⟩ := trodAll_cons r0
  obtain ⟨rfl, rfl, rfl⟩ := trodAll_nil r1
  obtain rfl : args = #[v0, v1] := by cases args; simp_all
  obtain ⟨A0, k0, c0, x0, rfl, hk0, hc0, hm0, R0, L0⟩ := open_Reps (hval 0 22 v0 rfl rfl) h0
  unfold maxLen at hm0
  obtain ⟨A1, k1, c1, x1, rfl, hk1, hc1, hm1, R1, L1⟩ := open_Blks (hval 1 23 v1 rfl rfl) h1
  unfold maxLen at hm1
  refine (Fn.row (law_BlocksStale A0 k0 c0 x0 hk0 hc0 (by omega) A1 k1 c1 x1 hk1 hc1 (by omega) W _ (Rd.old R0) (Rd.old R1))).mono fun e W' ⟨he, hb⟩ => ?_
  subst he
  exact ⟨_, rfl, law_post prog_laid rfl (by kernel_rfl) hW' hb (trodAll_cons_mk (shut_bool Try.underlying4 _) trodAll_mk0) rfl rfl⟩

set_option maxRecDepth 100000 in
theorem lifted (os : Os) (started : os.Started) (H : Type) (enc : TypeId × Value → H) :
    ReturnsInHanded {} Try.checked os 3 .any (Rows.blocksStaleSpec.pre6 enc Try.prog (Try.f3) Rows.blocksStaleRow.domain false) (Rows.blocksStaleSpec.post enc Try.prog (Try.f3) false true false false) := by
  refine returnsInHanded_of_change (C := Try.checked) prog_own started (by kernel_rfl) Try.func3
    (ChangeSpec.witness6 (enc := enc) (C := Try.checked) false ⟨#[], #[.slice none 0 0, .slice none 0 0], []⟩ 8 (by kernel_rfl) (by kernel_rfl) (by kernel_rfl) (by kernel_rfl)) ?_
  intro W base args ds gs before hval hW _ _
  exact contract H enc W base args ds gs before hval hW

theorem over : Rows.BlocksStaleSaid :=
  OpenClaim.holds_of_wide 3 (Try.f3) rfl rfl rfl rfl rfl rfl rfl ⟨rfl, rfl, rfl, rfl, rfl⟩ rfl rfl rfl rfl rfl (by kernel_rfl) Try.func3 (by kernel_rfl)
    (of_decide_eq_true (by kernel_rfl)) (by unfold Func.isWrapper; first | (rw [if_pos (by decide +kernel)]; kernel_rfl) | (rw [if_neg (by decide +kernel)]; exact ⟨rfl, rfl⟩))
    (fun os started H enc _ => lifted os started H enc)
end BlocksStale
end Go.Proofs.Ytgebdehpoalfbaa.B
