import Derived.Test.YtgebdehpoalfbaaMg21
import Derived.Test.YtgebdehpoalfbaaMg23
import Derived.Test.YtgebdehpoalfbaaMg22
/- What is proved: with one node's report more no block is held by fewer, and no fewer are held (the law BlocksMore), for every two reports and every list of blocks. -/
set_option linter.unusedVariables false
set_option linter.unusedSimpArgs false
/-! The row of the law BlocksMore. -/
namespace Go.Proofs.Ytgebdehpoalfbaa.B
open Go Go.Proofs Go.ChangeShapes Go.WideShapes Go.ChangeAt Go.RowKit Go.ChangeMaps
namespace BlocksMore
set_option maxRecDepth 100000 in
theorem contract (H : Type) (enc : TypeId × Value → H) (W : World) (base : Nat) (args : Array Value) (ds gs : List (DataW H)) (before : List MemPlace)
    (hval : ∀ (j : Nat) t v, (Try.f4).params[j]? = some t → args[j]? = some v → Value.okWide Try.prog W .any base t v)
    (hW : DataW.Whole enc Try.prog (Try.f4).params.toList Rows.blocksMoreSpec.vars false W args.toList ds gs before) :
    Calls Try.prog 4 args W fun e W' => ∃ v, e = .returned v ∧ Rows.blocksMoreSpec.post enc Try.prog (Try.f4) false true false false W args v W' := by
  have hW' := hW
  obtain ⟨p, q, hA0, hV, rfl, hfz, hnd⟩ := hW
  have hA : DataW.TrodAll enc Try.prog W 0 (fun _ => true) true (Try.f4).params.toList args.toList ds p := hA0
  rw [Try.params4] at hA hval
  obtain ⟨v0, vs0, d0, ds0, p0, q0, hargs, rfl, rfl, h0, r0⟩ := trodAll_cons hA
  obtain ⟨v1, vs1, d1, ds1, p1, q1, rfl, rfl, rfl, h1, r1⟩ := trodAll_cons r0
  obtain ⟨v2, vs2, d2, ds2, p2, q2, rfl, rfl, rfl, h2, r2⟩ := trodAll_cons r1
  obtain ⟨rfl, rfl, rfl⟩ := trodAll_nil r2
  obtain rfl : args = #[v0, v1, v2] := by cases args; simp_all
  obtain ⟨A0, k0, c0, x0, rfl, hk0, hc0, hm0, R0, L0⟩ := open_Reps (hval 0 22 v0 rfl rfl) h0
  unfold maxLen at hm0
  obtain ⟨A1, k1, c1, x1, rfl, hk1, hc1, hm1, R1, L1⟩ := open_Reps (hval 1 22 v1 rfl rfl) h1
  unfold maxLen at hm1
  obtain ⟨A2, k2, c2, x2, rfl, hk2, hc2, hm2, R2, L2⟩ := open_Blks (hval 2 23 v2 rfl rfl) h2
  unfold maxLen at hm2
  refine (Fn.row (law_BlocksMore A0 k0 c0 x0 hk0 hc0 (by omega) A1 k1 c1 x1 hk1 hc1 (by omega) A2 k2 c2 x2 hk2 hc2 (by omega) W _ (Rd.old R0) (Rd.old R1) (Rd.old R2))).mono fun e W' ⟨he, hb⟩ => ?_
  subst he
  exact ⟨_, rfl, law_post prog_laid rfl (by kernel_rfl) hW' hb (trodAll_cons_mk (shut_bool Try.underlying4 _) trodAll_mk0) rfl rfl⟩

set_option maxRecDepth 100000 in
theorem lifted (os : Os) (started : os.Started) (H : Type) (enc : TypeId × Value → H) :
    ReturnsInHanded {} Try.checked os 4 .any (Rows.blocksMoreSpec.pre6 enc Try.prog (Try.f4) Rows.blocksMoreRow.domain false) (Rows.blocksMoreSpec.post enc Try.prog (Try.f4) false true false false) := by
  refine returnsInHanded_of_change (C := Try.checked) prog_own started (by kernel_rfl) Try.func4
    (ChangeSpec.witness6 (enc := enc) (C := Try.checked) false ⟨#[], #[.slice none 0 0, .slice none 0 0, .slice none 0 0], []⟩ 8 (by kernel_rfl) (by kernel_rfl) (by kernel_rfl) (by kernel_rfl)) ?_
  intro W base args ds gs before hval hW _ _
  exact contract H enc W base args ds gs before hval hW

theorem over : Rows.BlocksMoreSaid :=
  OpenClaim.holds_of_wide 4 (Try.f4) rfl rfl rfl rfl rfl rfl rfl ⟨rfl, rfl, rfl, rfl, rfl⟩ rfl rfl rfl rfl rfl (by kernel_rfl) Try.func4 (by kernel_rfl)
    (of_decide_eq_true (by kernel_rfl)) (by unfold Func.isWrapper; first | (rw [if_pos (by decide +kernel)]; kernel_rfl) | (rw [if_neg (by decide +kernel)]; exact ⟨rfl, rfl⟩))
    (fun os started H enc _ => lifted os started H enc)
end BlocksMore
end Go.Proofs.Ytgebdehpoalfbaa.B
