/- What is proved: for all lists of texts that are handed in, tabulariumlaw14.LogFull returns true, and the lists read behind the call as they read before it; no condition. -/
import Derived.Test.YtfdfkgooicaaoaaLi
import Derived.Test.YtfdfkgooicaaoaaRb
set_option linter.unusedVariables false
set_option linter.unusedSimpArgs false
/-! The law on a disk without room: the row. -/
namespace Go.Proofs.Ytfdfkgooicaaoaa.B
open Go Go.Proofs Go.ChangeShapes Go.WideShapes Go.ChangeAt Go.RowKit

namespace LogFull
set_option maxRecDepth 100000 in
theorem contract (H : Type) (enc : TypeId × Value → H) (W : World) (base : Nat) (args : Array Value) (ds gs : List (DataW H)) (before : List MemPlace)
    (hval : ∀ (j : Nat) t v, (Try.f6).params[j]? = some t → args[j]? = some v → Value.okWide Try.prog W .any base t v)
    (hW : DataW.Whole enc Try.prog (Try.f6).params.toList Rows.logFullSpec.vars false W args.toList ds gs before) :
    Calls Try.prog 6 args W fun e W' => ∃ v, e = .returned v ∧ Rows.logFullSpec.post enc Try.prog (Try.f6) false true false false W args v W' := by
  have hW' := hW
  obtain ⟨p, q, hA0, hV, rfl, hfz, hnd⟩ := hW
  have hA : DataW.TrodAll enc Try.prog W 0 (fun _ => true) true (Try.f6).params.toList args.toList ds p := hA0
  rw [Try.params6] at hA hval
  obtain ⟨v0, vs0, d0, ds0, p0, q0, hargs, rfl, rfl, h0, r0⟩ := trodAll_cons hA
  obtain ⟨v1, vs1, d1, ds1, p1, q1, rfl, rfl, rfl, h1, r1⟩ := trodAll_cons r0
  obtain ⟨rfl, rfl, rfl⟩ := trodAll_nil r1
  obtain rfl : args = #[v0, v1] := by cases args; simp_all
  obtain ⟨A, k, c, xs, rfl, hk, _, _, hR⟩ := open_strs (hval 0 44 v0 rfl rfl) h0
  obtain ⟨B, k2, c2, ys, rfl, hk2, _, _, hR2⟩ := open_strs (hval 1 44 v1 rfl rfl) h1
  refine (Fn.row (law_LogFull A B k c k2 c2 xs ys hk hk2 W _ (Rd.old hR) (Rd.old hR2))).mono fun e W' ⟨he, hb⟩ => ?_
  subst he
  exact ⟨_, rfl, law_post prog_laid rfl (by kernel_rfl) hW' hb (trodAll_cons_mk (shut_bool Try.underlying4 _) trodAll_mk0) rfl rfl⟩

set_option maxRecDepth 100000 in
theorem lifted (os : Os) (started : os.Started) (H : Type) (enc : TypeId × Value → H) :
    ReturnsInHanded {} Try.checked os 6 .any (Rows.logFullSpec.pre6 enc Try.prog (Try.f6) Rows.logFullRow.domain false) (Rows.logFullSpec.post enc Try.prog (Try.f6) false true false false) := by
  refine returnsInHanded_of_change (C := Try.checked) prog_own started (by kernel_rfl) Try.func6
    (ChangeSpec.witness6 (enc := enc) (C := Try.checked) false ⟨#[], #[.slice none 0 0, .slice none 0 0], []⟩ 8 (by kernel_rfl) (by kernel_rfl) (by kernel_rfl) (by kernel_rfl)) ?_
  intro W base args ds gs before hval hW _ _
  exact contract H enc W base args ds gs before hval hW

theorem over : Rows.LogFullSaid :=
  OpenClaim.holds_of_wide 6 (Try.f6) rfl rfl rfl rfl rfl rfl rfl ⟨rfl, rfl, rfl, rfl, rfl⟩ rfl rfl rfl rfl rfl (by kernel_rfl) Try.func6 (by kernel_rfl)
    (of_decide_eq_true (by kernel_rfl)) (by unfold Func.isWrapper; first | (rw [if_pos (by decide +kernel)]; kernel_rfl) | (rw [if_neg (by decide +kernel)]; exact ⟨rfl, rfl⟩))
    (fun os started H enc _ => lifted os started H enc)
end LogFull
end Go.Proofs.Ytfdfkgooicaaoaa.B
