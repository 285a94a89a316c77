import Derived.Test.YtfolmcpfdcgliaaGreatMg51
import Derived.Test.YtfolmcpfdcgliaaGreatMg47
/- What is proved: three writers of some nodes do, deed by deed, just what the document's do (the law QuorumPlays), for every number of nodes and all deeds -/
set_option linter.unusedVariables false
set_option linter.unusedSimpArgs false
/-! The row of the law QuorumPlays. -/
set_option maxRecDepth 8000
namespace Go.Proofs.YtfolmcpfdcgliaaGreat.B
open Go Go.Proofs Go.ChangeShapes Go.WideShapes Go.ChangeAt Go.RowKit Go.ChangeMaps
namespace QuorumPlays
set_option maxRecDepth 100000 in
theorem contract (H : Type) (enc : TypeId × Value → H) (W : World) (base : Nat) (args : Array Value) (ds gs : List (DataW H)) (before : List MemPlace)
    (hval : ∀ (j : Nat) t v, (Tryz.f6).params[j]? = some t → args[j]? = some v → Value.okWide Tryz.prog W .any base t v)
    (hW : DataW.Whole enc Tryz.prog (Tryz.f6).params.toList Rows.quorumPlaysSpec.vars false W args.toList ds gs before) :
    Calls Tryz.prog 6 args W fun e W' => ∃ v, e = .returned v ∧ Rows.quorumPlaysSpec.post enc Tryz.prog (Tryz.f6) false true false false W args v W' := by
  have hW' := hW
  obtain ⟨p, q, hA0, hV, rfl, hfz, hnd⟩ := hW
  have hA : DataW.TrodAll enc Tryz.prog W 0 (fun _ => true) true (Tryz.f6).params.toList args.toList ds p := hA0
  rw [Tryz.params6] at hA hval
  obtain ⟨v0, vs0, d0, ds0, p0, q0, hargs, rfl, rfl, h0, r0⟩ := trodAll_cons hA
  obtain ⟨v1, vs1, d1, ds1, p1, q1, rfl, rfl, rfl, h1, r1⟩ := trodAll_cons r0
  obtain ⟨rfl, rfl, rfl⟩ := trodAll_nil r1
  obtain rfl : args = #[v0, v1] := by cases args; simp_all
  obtain ⟨n0, rfl, _, _, w0⟩ := open_int Tryz.underlying3 (hval 0 3 v0 rfl rfl) h0
  have i0 := wf_i64 w0
  obtain ⟨A1, k1, c1, x1, rfl, hk1, hc1, hm1, R1, L1⟩ := open_DeedQs (hval 1 53 v1 rfl rfl) h1
  unfold maxLen at hm1
  refine (Fn.row (law_QuorumPlays n0 i0 A1 k1 c1 x1 hk1 (fun x hx => (L1 x hx).1) W _ (Rd.old R1) (fun x hx => Rd.old (L1 x hx).2.fates) (fun x hx => Rd.old (L1 x hx).2.keeps))).mono fun e W' ⟨he, hb⟩ => ?_
  subst he
  exact ⟨_, rfl, law_post prog_laid rfl (by kernel_rfl) hW' hb (trodAll_cons_mk (shut_bool Tryz.underlying4 _) trodAll_mk0) rfl rfl⟩
set_option maxRecDepth 100000 in
theorem lifted (os : Os) (started : os.Started) (H : Type) (enc : TypeId × Value → H) :
    ReturnsInHanded {} Tryz.checked os 6 .any (Rows.quorumPlaysSpec.pre6 enc Tryz.prog (Tryz.f6) Rows.quorumPlaysRow.domain false) (Rows.quorumPlaysSpec.post enc Tryz.prog (Tryz.f6) false true false false) := by
  refine returnsInHanded_of_change (C := Tryz.checked) prog_own started (by kernel_rfl) Tryz.func6
    (ChangeSpec.witness6 (enc := enc) (C := Tryz.checked) false ⟨#[], #[.int .i64 0, .slice none 0 0], []⟩ 8 (by kernel_rfl) (by kernel_rfl) (by kernel_rfl) (by kernel_rfl)) ?_
  intro W base args ds gs before hval hW _ _
  exact contract H enc W base args ds gs before hval hW
theorem over : Rows.QuorumPlaysSaid :=
  OpenClaim.holds_of_wide 6 (Tryz.f6) rfl rfl rfl rfl rfl rfl rfl ⟨rfl, rfl, rfl, rfl, rfl⟩ rfl rfl rfl rfl rfl (by kernel_rfl) Tryz.func6 (by kernel_rfl)
    (of_decide_eq_true (by kernel_rfl)) (by unfold Func.isWrapper; first | (rw [if_pos (by decide +kernel)]; kernel_rfl) | (rw [if_neg (by decide +kernel)]; exact ⟨rfl, rfl⟩))
    (fun os started H enc _ => lifted os started H enc)
end QuorumPlays
end Go.Proofs.YtfolmcpfdcgliaaGreat.B
