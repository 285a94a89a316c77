/- What is proved: for all logs and numbers that are handed in, tabulariumlaw16.ChooseMore returns true, and they read behind the call as they read before it; no condition. -/
import Derived.Test.YtpmekjailifaiaaCk
import Derived.Test.YtpmekjailifaiaaRl
set_option linter.unusedVariables false
set_option linter.unusedSimpArgs false
/-! The row of the law ChooseMore. -/
namespace Go.Proofs.Ytpmekjailifaiaa.B
open Go Go.Proofs Go.ChangeShapes Go.WideShapes Go.ChangeAt Go.RowKit Go.ChangeMaps
namespace ChooseMore
set_option maxRecDepth 100000 in
theorem contract (H : Type) (enc : TypeId × Value → H) (W : World) (base : Nat) (args : Array Value) (ds gs : List (DataW H)) (before : List MemPlace)
    (hval : ∀ (j : Nat) t v, (Try.f5).params[j]? = some t → args[j]? = some v → Value.okWide Try.prog W .any base t v)
    (hW : DataW.Whole enc Try.prog (Try.f5).params.toList Rows.chooseMoreSpec.vars false W args.toList ds gs before)
    (hsz : (DataW.weightsEach Try.prog ((Try.f5).params.toList ++ Rows.chooseMoreSpec.plain.varTypes Try.prog) (ds ++ gs)).all (· ≤ reachBytes) = true) :
    Calls Try.prog 5 args W fun e W' => ∃ v, e = .returned v ∧ Rows.chooseMoreSpec.post enc Try.prog (Try.f5) false true false false W args v W' := by
  have hW' := hW
  obtain ⟨p, q, hA0, hV, rfl, hfz, hnd⟩ := hW
  have hA : DataW.TrodAll enc Try.prog W 0 (fun _ => true) true (Try.f5).params.toList args.toList ds p := hA0
  rw [Try.params5] at hA hval hsz
  obtain ⟨v0, vs0, d0, ds0, p0, q0, hargs, rfl, rfl, h0, r0⟩ := trodAll_cons hA
  obtain ⟨v1, vs1, d1, ds1, p1, q1, rfl, rfl, rfl, h1, r1⟩ := trodAll_cons r0
  obtain ⟨v2, vs2, d2, ds2, p2, q2, rfl, rfl, rfl, h2, r2⟩ := trodAll_cons r1
  obtain ⟨v3, vs3, d3, ds3, p3, q3, rfl, rfl, rfl, h3, r3⟩ := trodAll_cons r2
  obtain ⟨rfl, rfl, rfl⟩ := trodAll_nil r3
  obtain rfl : args = #[v0, v1, v2, v3] := by cases args; simp_all
  have hw0 : ∀ m ∈ d0.weights Try.prog 22, m ≤ reachBytes := fun m hm => by
    have := List.all_eq_true.1 hsz m (DataW.weights_mem_each (j := 0) (d := d0) rfl rfl m hm)
    simpa using this
  obtain ⟨A0, k0, c0, x0, rfl, hk0, hc0, hm0, R0, L0⟩ := open_logs (hval 0 22 v0 rfl rfl) h0 hw0
  unfold maxLen at hm0
  obtain ⟨n1, rfl, _, _, w1⟩ := open_int Try.underlying3 (hval 1 3 v1 rfl rfl) h1
  have i1 := wf_i64 w1
  have hw2 : ∀ m ∈ d2.weights Try.prog 31, m ≤ reachBytes := fun m hm => by
    have := List.all_eq_true.1 hsz m (DataW.weights_mem_each (j := 2) (d := d2) rfl rfl m hm)
    simpa using this
  obtain ⟨x2, rfl, L2, M2⟩ := open_log (hval 2 31 v2 rfl rfl) h2 hw2
  obtain ⟨n3, rfl, _, _, w3⟩ := open_int Try.underlying3 (hval 3 3 v3 rfl rfl) h3
  have i3 := wf_i64 w3
  refine (Fn.row (law_ChooseMore A0 k0 c0 x0 hk0 hc0 (fun x hx => ⟨(L0 x hx).2, (L0 x hx).1.cap⟩) n1 i1 x2 ⟨M2, L2.cap⟩ n3 i3 W _ (Rd.old R0) (fun x hx => Rd.old (L0 x hx).1.rd) (Rd.old L2.rd) (by omega))).mono fun e W' ⟨he, hb⟩ => ?_
  subst he
  exact ⟨_, rfl, law_post prog_laid rfl (by kernel_rfl) hW' hb (trodAll_cons_mk (shut_bool Try.underlying4 _) trodAll_mk0) rfl rfl⟩

set_option maxRecDepth 100000 in
theorem lifted (os : Os) (started : os.Started) (H : Type) (enc : TypeId × Value → H) :
    ReturnsInHanded {} Try.checked os 5 .any (Rows.chooseMoreSpec.pre6 enc Try.prog (Try.f5) Rows.chooseMoreRow.domain false) (Rows.chooseMoreSpec.post enc Try.prog (Try.f5) false true false false) := by
  refine returnsInHanded_of_change_sized (C := Try.checked) prog_own started (by kernel_rfl) Try.func5
    (ChangeSpec.witness6 (enc := enc) (C := Try.checked) false ⟨#[], #[.slice none 0 0, .int .i64 0, .agg #[.int .i64 0, .slice none 0 0], .int .i64 0], []⟩ 8 (by kernel_rfl) (by kernel_rfl) (by kernel_rfl) (by kernel_rfl)) ?_
  intro W base args ds gs before hval hW _ hsz _
  exact contract H enc W base args ds gs before hval hW hsz

theorem over : Rows.ChooseMoreSaid :=
  OpenClaim.holds_of_wide 5 (Try.f5) rfl rfl rfl rfl rfl rfl rfl ⟨rfl, rfl, rfl, rfl, rfl⟩ rfl rfl rfl rfl rfl (by kernel_rfl) Try.func5 (by kernel_rfl)
    (of_decide_eq_true (by kernel_rfl)) (by unfold Func.isWrapper; first | (rw [if_pos (by decide +kernel)]; kernel_rfl) | (rw [if_neg (by decide +kernel)]; exact ⟨rfl, rfl⟩))
    (fun os started H enc _ => lifted os started H enc)
end ChooseMore
end Go.Proofs.Ytpmekjailifaiaa.B
