import Derived.Test.YtpklbelejebcfaaGreatRo
import Derived.Test.YtpklbelejebcfaaGreatLp
set_option linter.unusedVariables false
set_option linter.unusedSimpArgs false
set_option linter.unusedSectionVars false
set_option maxRecDepth 8000
/-! Opening the deeds of law14. -/
namespace Go.Proofs.YtpklbelejebcfaaGreat.B
open Go Go.Proofs Go.ChangeShapes Go.WideShapes Go.ChangeAt Go.RowKit
structure EntOk (d : Ent) : Prop where
  n : I64 d.n
  s : d.s.size ≤ maxLen
structure DeedL where
  kind : Int
  name : ByteArray
  le : Int
  lxA : Option Addr
  lx : List Ent
  lxc : Nat
  xn : Int
  xs : ByteArray
  n : Int
  keepsA : Option Addr
  keeps : List Int
  keepsc : Nat
def dlE : EncK DeedL := ⟨fun d => [.int .i64 d.kind, .string d.name, .int .i64 d.le, .slice d.lxA d.lx.length d.lxc, .int .i64 d.xn, .string d.xs, .int .i64 d.n, .slice d.keepsA d.keeps.length d.keepsc], 8, fun _ => rfl, by decide, fun _ u hu => by
  simp only [List.mem_cons, List.not_mem_nil, or_false] at hu
  rcases hu with rfl | rfl | rfl | rfl | rfl | rfl | rfl | rfl <;> rfl⟩
structure DeedLOk (d : DeedL) : Prop where
  kind : I64 d.kind
  name : d.name.size ≤ maxLen
  le : I64 d.le
  lx : (d.lx.length ≤ d.lxc ∧ d.lxc ≤ maxLen) ∧ ∀ a ∈ d.lx, EntOk a
  xn : I64 d.xn
  xs : d.xs.size ≤ maxLen
  n : I64 d.n
  keeps : (d.keeps.length ≤ d.keepsc ∧ d.keepsc ≤ maxLen) ∧ ∀ a ∈ d.keeps, I64 a
structure DeedLRd (w : World) (d : DeedL) : Prop where
  lx : RdC w d.lxA (flat entE d.lx)
  keeps : RdC w d.keepsA (flat intE d.keeps)
section
variable {H : Type} {enc : TypeId × Value → H} {w : World} {sp : Nat → Bool} {held : Bool}
theorem open_EntC {fuel : Nat} {cs : List Value} {x : DataW H × List MemPlace} (hl : cs.length = 2) (h : DataW.trod enc Tryz.prog w 0 sp held fuel 32 cs = some x) :
    ∃ d : Ent, cs = entE.enc d ∧ EntOk d := by
  obtain ⟨c0, c1, rfl⟩ : ∃ c0 c1, cs = [c0, c1] := by
    match cs, hl with
    | [c0, c1], _ => exact ⟨c0, c1, rfl⟩
  obtain ⟨zs, m, _, hx, _, hzl, hz⟩ := DataW.trod_struct Tryz.underlying32 h
  have hzl' : zs.length = 2 := hzl
  obtain ⟨z_0, e_0⟩ : ∃ z, zs[0]? = some z := ⟨zs[0]'(by omega), List.getElem?_eq_getElem (by omega)⟩
  have h_0 : DataW.trod enc Tryz.prog w 0 sp held m 3 (([c0, c1].drop 0).take (Tryz.prog.cellsOf 3)) = zs[0]? := hz 0 _ rfl
  rw [show Tryz.prog.cellsOf 3 = 1 from by kernel_rfl, e_0] at h_0
  simp only [List.drop_zero, List.take_succ_cons, List.take_zero, List.drop_succ_cons] at h_0
  obtain ⟨v_0, k_0, _, w_0⟩ := DataW.trod_int Tryz.underlying3 h_0
  simp only [List.cons.injEq, and_true] at k_0
  obtain ⟨z_1, e_1⟩ : ∃ z, zs[1]? = some z := ⟨zs[1]'(by omega), List.getElem?_eq_getElem (by omega)⟩
  have h_1 : DataW.trod enc Tryz.prog w 0 sp held m 9 (([c0, c1].drop 1).take (Tryz.prog.cellsOf 9)) = zs[1]? := hz 1 _ rfl
  rw [show Tryz.prog.cellsOf 9 = 1 from by kernel_rfl, e_1] at h_1
  simp only [List.drop_zero, List.take_succ_cons, List.take_zero, List.drop_succ_cons] at h_1
  obtain ⟨v_1, k_1, _, w_1⟩ := DataW.trod_string Tryz.underlying9 h_1
  simp only [List.cons.injEq, and_true] at k_1
  subst k_0 k_1
  exact ⟨⟨v_0, v_1⟩, rfl, ⟨wf_i64 w_0, w_1⟩⟩
theorem open_DeedLC {fuel : Nat} {cs : List Value} {x : DataW H × List MemPlace} (hl : cs.length = 8) (h : DataW.trod enc Tryz.prog w 0 sp held fuel 35 cs = some x) :
    ∃ d : DeedL, cs = dlE.enc d ∧ DeedLOk d ∧ DeedLRd w d := by
  obtain ⟨c0, c1, c2, c3, c4, c5, c6, c7, rfl⟩ : ∃ c0 c1 c2 c3 c4 c5 c6 c7, cs = [c0, c1, c2, c3, c4, c5, c6, c7] := by
    match cs, hl with
    | [c0, c1, c2, c3, c4, c5, c6, c7], _ => exact ⟨c0, c1, c2, c3, c4, c5, c6, c7, rfl⟩
  obtain ⟨zs, m, _, hx, _, hzl, hz⟩ := DataW.trod_struct Tryz.underlying35 h
  have hzl' : zs.length = 6 := hzl
  obtain ⟨z_0, e_0⟩ : ∃ z, zs[0]? = some z := ⟨zs[0]'(by omega), List.getElem?_eq_getElem (by omega)⟩
  have h_0 : DataW.trod enc Tryz.prog w 0 sp held m 3 (([c0, c1, c2, c3, c4, c5, c6, c7].drop 0).take (Tryz.prog.cellsOf 3)) = zs[0]? := hz 0 _ rfl
  rw [show Tryz.prog.cellsOf 3 = 1 from by kernel_rfl, e_0] at h_0
  simp only [List.drop_zero, List.take_succ_cons, List.take_zero, List.drop_succ_cons] at h_0
  obtain ⟨v_0, k_0, _, w_0⟩ := DataW.trod_int Tryz.underlying3 h_0
  simp only [List.cons.injEq, and_true] at k_0
  obtain ⟨z_1, e_1⟩ : ∃ z, zs[1]? = some z := ⟨zs[1]'(by omega), List.getElem?_eq_getElem (by omega)⟩
  have h_1 : DataW.trod enc Tryz.prog w 0 sp held m 9 (([c0, c1, c2, c3, c4, c5, c6, c7].drop 1).take (Tryz.prog.cellsOf 9)) = zs[1]? := hz 1 _ rfl
  rw [show Tryz.prog.cellsOf 9 = 1 from by kernel_rfl, e_1] at h_1
  simp only [List.drop_zero, List.take_succ_cons, List.take_zero, List.drop_succ_cons] at h_1
  obtain ⟨v_1, k_1, _, w_1⟩ := DataW.trod_string Tryz.underlying9 h_1
  simp only [List.cons.injEq, and_true] at k_1
  obtain ⟨z_2, e_2⟩ : ∃ z, zs[2]? = some z := ⟨zs[2]'(by omega), List.getElem?_eq_getElem (by omega)⟩
  have h_2 : DataW.trod enc Tryz.prog w 0 sp held m 30 (([c0, c1, c2, c3, c4, c5, c6, c7].drop 2).take (Tryz.prog.cellsOf 30)) = zs[2]? := hz 2 _ rfl
  rw [show Tryz.prog.cellsOf 30 = 2 from by kernel_rfl, e_2] at h_2
  simp only [List.drop_zero, List.take_succ_cons, List.take_zero, List.drop_succ_cons] at h_2
  obtain ⟨zs_2, m_2, _, hx_2, _, hzl_2, hz_2⟩ := DataW.trod_struct Tryz.underlying30 h_2
  have hzl'_2 : zs_2.length = 2 := hzl_2
  obtain ⟨z_2_0, e_2_0⟩ : ∃ z, zs_2[0]? = some z := ⟨zs_2[0]'(by omega), List.getElem?_eq_getElem (by omega)⟩
  have h_2_0 : DataW.trod enc Tryz.prog w 0 sp held m_2 3 (([c2, c3].drop 0).take (Tryz.prog.cellsOf 3)) = zs_2[0]? := hz_2 0 _ rfl
  rw [show Tryz.prog.cellsOf 3 = 1 from by kernel_rfl, e_2_0] at h_2_0
  simp only [List.drop_zero, List.take_succ_cons, List.take_zero, List.drop_succ_cons] at h_2_0
  obtain ⟨v_2_0, k_2_0, _, w_2_0⟩ := DataW.trod_int Tryz.underlying3 h_2_0
  simp only [List.cons.injEq, and_true] at k_2_0
  obtain ⟨z_2_1, e_2_1⟩ : ∃ z, zs_2[1]? = some z := ⟨zs_2[1]'(by omega), List.getElem?_eq_getElem (by omega)⟩
  have h_2_1 : DataW.trod enc Tryz.prog w 0 sp held m_2 28 (([c2, c3].drop 1).take (Tryz.prog.cellsOf 28)) = zs_2[1]? := hz_2 1 _ rfl
  rw [show Tryz.prog.cellsOf 28 = 1 from by kernel_rfl, e_2_1] at h_2_1
  simp only [List.drop_zero, List.take_succ_cons, List.take_zero, List.drop_succ_cons] at h_2_1
  obtain ⟨A_2_1, k_2_1, cc_2_1, x_2_1, v_2_1, hk_2_1, hc_2_1, hm_2_1, R_2_1, I_2_1, _⟩ := open_slcG entE (fun a _ => EntOk a) Tryz.underlying28 (by kernel_rfl) (fun {fuel cs x} hl h => open_EntC hl h) h_2_1
  obtain ⟨z_3, e_3⟩ : ∃ z, zs[3]? = some z := ⟨zs[3]'(by omega), List.getElem?_eq_getElem (by omega)⟩
  have h_3 : DataW.trod enc Tryz.prog w 0 sp held m 32 (([c0, c1, c2, c3, c4, c5, c6, c7].drop 4).take (Tryz.prog.cellsOf 32)) = zs[3]? := hz 3 _ rfl
  rw [show Tryz.prog.cellsOf 32 = 2 from by kernel_rfl, e_3] at h_3
  simp only [List.drop_zero, List.take_succ_cons, List.take_zero, List.drop_succ_cons] at h_3
  obtain ⟨zs_3, m_3, _, hx_3, _, hzl_3, hz_3⟩ := DataW.trod_struct Tryz.underlying32 h_3
  have hzl'_3 : zs_3.length = 2 := hzl_3
  obtain ⟨z_3_0, e_3_0⟩ : ∃ z, zs_3[0]? = some z := ⟨zs_3[0]'(by omega), List.getElem?_eq_getElem (by omega)⟩
  have h_3_0 : DataW.trod enc Tryz.prog w 0 sp held m_3 3 (([c4, c5].drop 0).take (Tryz.prog.cellsOf 3)) = zs_3[0]? := hz_3 0 _ rfl
  rw [show Tryz.prog.cellsOf 3 = 1 from by kernel_rfl, e_3_0] at h_3_0
  simp only [List.drop_zero, List.take_succ_cons, List.take_zero, List.drop_succ_cons] at h_3_0
  obtain ⟨v_3_0, k_3_0, _, w_3_0⟩ := DataW.trod_int Tryz.underlying3 h_3_0
  simp only [List.cons.injEq, and_true] at k_3_0
  obtain ⟨z_3_1, e_3_1⟩ : ∃ z, zs_3[1]? = some z := ⟨zs_3[1]'(by omega), List.getElem?_eq_getElem (by omega)⟩
  have h_3_1 : DataW.trod enc Tryz.prog w 0 sp held m_3 9 (([c4, c5].drop 1).take (Tryz.prog.cellsOf 9)) = zs_3[1]? := hz_3 1 _ rfl
  rw [show Tryz.prog.cellsOf 9 = 1 from by kernel_rfl, e_3_1] at h_3_1
  simp only [List.drop_zero, List.take_succ_cons, List.take_zero, List.drop_succ_cons] at h_3_1
  obtain ⟨v_3_1, k_3_1, _, w_3_1⟩ := DataW.trod_string Tryz.underlying9 h_3_1
  simp only [List.cons.injEq, and_true] at k_3_1
  obtain ⟨z_4, e_4⟩ : ∃ z, zs[4]? = some z := ⟨zs[4]'(by omega), List.getElem?_eq_getElem (by omega)⟩
  have h_4 : DataW.trod enc Tryz.prog w 0 sp held m 3 (([c0, c1, c2, c3, c4, c5, c6, c7].drop 6).take (Tryz.prog.cellsOf 3)) = zs[4]? := hz 4 _ rfl
  rw [show Tryz.prog.cellsOf 3 = 1 from by kernel_rfl, e_4] at h_4
  simp only [List.drop_zero, List.take_succ_cons, List.take_zero, List.drop_succ_cons] at h_4
  obtain ⟨v_4, k_4, _, w_4⟩ := DataW.trod_int Tryz.underlying3 h_4
  simp only [List.cons.injEq, and_true] at k_4
  obtain ⟨z_5, e_5⟩ : ∃ z, zs[5]? = some z := ⟨zs[5]'(by omega), List.getElem?_eq_getElem (by omega)⟩
  have h_5 : DataW.trod enc Tryz.prog w 0 sp held m 33 (([c0, c1, c2, c3, c4, c5, c6, c7].drop 7).take (Tryz.prog.cellsOf 33)) = zs[5]? := hz 5 _ rfl
  rw [show Tryz.prog.cellsOf 33 = 1 from by kernel_rfl, e_5] at h_5
  simp only [List.drop_zero, List.take_succ_cons, List.take_zero, List.drop_succ_cons] at h_5
  obtain ⟨A_5, k_5, cc_5, x_5, v_5, hk_5, hc_5, hm_5, R_5, I_5, _⟩ := open_slcG intE (fun a _ => I64 a) Tryz.underlying33 (by kernel_rfl) (fun {fuel cs x} hl h => by
    obtain ⟨n, rfl, _, hw⟩ := DataW.trod_int Tryz.underlying3 h
    exact ⟨n, rfl, wf_i64 hw⟩) h_5
  subst k_0 k_1 k_2_0 v_2_1 hk_2_1 k_3_0 k_3_1 k_4 v_5 hk_5
  exact ⟨⟨v_0, v_1, v_2_0, A_2_1, x_2_1, cc_2_1, v_3_0, v_3_1, v_4, A_5, x_5, cc_5⟩, rfl, ⟨wf_i64 w_0, w_1, wf_i64 w_2_0, ⟨⟨hc_2_1, hm_2_1⟩, fun a ha => (I_2_1 a ha).choose_spec.1⟩, wf_i64 w_3_0, w_3_1, wf_i64 w_4, ⟨⟨hc_5, hm_5⟩, fun a ha => (I_5 a ha).choose_spec.1⟩⟩, ⟨R_2_1, R_5⟩⟩
theorem open_DeedLs {base : Nat} {r : Reach} {v : Value} {d : DataW H} {ps : List MemPlace} (hval : Value.okWide Tryz.prog w r base 22 v) (h : DataW.Trod enc Tryz.prog w 0 sp held 22 v d ps) :
    ∃ A k c ls, v = .slice A k c ∧ k = ls.length ∧ k ≤ c ∧ c ≤ maxLen ∧ RdC w A (flat dlE ls) ∧ ∀ l ∈ ls, DeedLOk l ∧ DeedLRd w l := by
  obtain ⟨A, k, c, rfl⟩ := okWide_slice Tryz.underlying22 hval
  obtain ⟨fuel, hf⟩ := h
  obtain ⟨A', k', c', ls, h1, h2, h3, h4, h5, h6, _⟩ := open_slcG dlE (fun l _ => DeedLOk l ∧ DeedLRd w l) Tryz.underlying22 (by kernel_rfl) (fun {fuel cs x} hl h => open_DeedLC hl h) (v := .slice A k c) hf
  exact ⟨A', k', c', ls, h1, h2, h3, h4, h5, fun l hl => (h6 l hl).choose_spec.1⟩
end
end Go.Proofs.YtpklbelejebcfaaGreat.B
