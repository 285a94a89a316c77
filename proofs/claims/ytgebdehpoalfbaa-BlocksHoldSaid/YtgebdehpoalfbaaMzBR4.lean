import Derived.Test.YtgebdehpoalfbaaMg24
import Derived.Test.YtgebdehpoalfbaaMg22
/- What is proved: who holds a block has reported it, with that generation, and as many bytes at least, and nobody else (the law BlocksHold), for every reports and every block. -/
set_option linter.unusedVariables false
set_option linter.unusedSimpArgs false
/-! The row of the law BlocksHold. -/
namespace Go.Proofs.Ytgebdehpoalfbaa.B
open Go Go.Proofs Go.ChangeShapes Go.WideShapes Go.ChangeAt Go.RowKit Go.ChangeMaps
namespace BlocksHold
set_option maxRecDepth 100000 in
theorem contract (H : Type) (enc : TypeId × Value → H) (W : World) (base : Nat) (args : Array Value) (ds gs : List (DataW H)) (before : List MemPlace)
    (hval : ∀ (j : Nat) t v, (Try.f6).params[j]? = some t → args[j]? = some v → Value.okWide Try.prog W .any base t v)
    (hW : DataW.Whole enc Try.prog (Try.f6).params.toList Rows.blocksHoldSpec.vars false W args.toList ds gs before) :
    Calls Try.prog 6 args W fun e W' => ∃ v, e = .returned v ∧ Rows.blocksHoldSpec.post enc Try.prog (Try.f6) false true false false W args v W' := by
  have hW' := hW
  obtain ⟨p, q, hA0, hV, rfl, hfz, hnd⟩ := hW
  have hA : DataW.TrodAll enc Try.prog W 0 (fun _ => true) true (Try.f6).params.toList args.toList ds p := hA0
  rw [Try.params6] at hA hval
  obtain ⟨v0, vs0, d0, ds0, p0, q0, hargs, rfl, rfl, h0, r0⟩ := trodAll_cons hA
  obtain ⟨v1, vs1, d1, ds1, p1, q1, rfl, rfl, rfl, h1, r1⟩ := trodAll_cons r0
  obtain ⟨rfl, rfl, rfl⟩ := trodAll_nil r1
  obtain rfl : args = #[v0, v1] := by cases args; simp_all
  obtain ⟨A0, k0, c0, x0, rfl, hk0, hc0, hm0, R0, L0⟩ := open_RepLs (hval 0 44 v0 rfl rfl) h0
  unfold maxLen at hm0
  obtain ⟨u1, rfl, L1⟩ := open_BlkV (hval 1 28 v1 rfl rfl) h1
  refine (Fn.row (law_BlocksHold A0 k0 c0 x0 hk0 hc0 (by omega) (fun x hx => by have := (L0 x hx).1; unfold maxLen at this; omega) u1 L1.id W _ (Rd.old R0) (fun x hx => Rd.old (L0 x hx).2))).mono fun e W' ⟨he, hb⟩ => ?_
  subst he
  exact ⟨_, rfl, law_post prog_laid rfl (by kernel_rfl) hW' hb (trodAll_cons_mk (shut_bool Try.underlying4 _) trodAll_mk0) rfl rfl⟩

set_option maxRecDepth 100000 in
theorem lifted (os : Os) (started : os.Started) (H : Type) (enc : TypeId × Value → H) :
    ReturnsInHanded {} Try.checked os 6 .any (Rows.blocksHoldSpec.pre6 enc Try.prog (Try.f6) Rows.blocksHoldRow.domain false) (Rows.blocksHoldSpec.post enc Try.prog (Try.f6) false true false false) := by
  refine returnsInHanded_of_change (C := Try.checked) prog_own started (by kernel_rfl) Try.func6
    (ChangeSpec.witness6 (enc := enc) (C := Try.checked) false ⟨#[], #[.slice none 0 0, .agg #[.int .i64 0, .int .i64 0, .int .i64 0]], []⟩ 8 (by kernel_rfl) (by kernel_rfl) (by kernel_rfl) (by kernel_rfl)) ?_
  intro W base args ds gs before hval hW _ _
  exact contract H enc W base args ds gs before hval hW

theorem over : Rows.BlocksHoldSaid :=
  OpenClaim.holds_of_wide 6 (Try.f6) rfl rfl rfl rfl rfl rfl rfl ⟨rfl, rfl, rfl, rfl, rfl⟩ rfl rfl rfl rfl rfl (by kernel_rfl) Try.func6 (by kernel_rfl)
    (of_decide_eq_true (by kernel_rfl)) (by unfold Func.isWrapper; first | (rw [if_pos (by decide +kernel)]; kernel_rfl) | (rw [if_neg (by decide +kernel)]; exact ⟨rfl, rfl⟩))
    (fun os started H enc _ => lifted os started H enc)
end BlocksHold
end Go.Proofs.Ytgebdehpoalfbaa.B
