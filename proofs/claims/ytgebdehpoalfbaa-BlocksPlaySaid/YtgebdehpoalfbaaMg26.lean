import Derived.Test.YtgebdehpoalfbaaMg25
import Derived.Test.YtgebdehpoalfbaaMg13
import Derived.Test.YtgebdehpoalfbaaMg21
set_option linter.unusedVariables false
set_option linter.unusedSimpArgs false
set_option linter.unusedSectionVars false
set_option maxRecDepth 8000
/-! Opening the deeds of law20. -/
namespace Go.Proofs.Ytgebdehpoalfbaa.B
open Go Go.Proofs Go.ChangeShapes Go.WideShapes Go.ChangeAt Go.RowKit
structure RepOk (d : Rep) : Prop where
  id : I64 d.id
  gen : I64 d.gen
  len : I64 d.len
structure BlkOk (d : Blk) : Prop where
  id : I64 d.id
  gen : I64 d.gen
  len : I64 d.len
structure DeedB where
  kind : Int
  node : Int
  lA : Option Addr
  l : List Rep
  lc : Nat
  allA : Option Addr
  all : List Blk
  allc : Nat
  bid : Int
  bgen : Int
  blen : Int
  n : Int
def dbE : EncK DeedB := ⟨fun d => [.int .i64 d.kind, .int .i64 d.node, .slice d.lA d.l.length d.lc, .slice d.allA d.all.length d.allc, .int .i64 d.bid, .int .i64 d.bgen, .int .i64 d.blen, .int .i64 d.n], 8, fun _ => rfl, by decide, fun _ u hu => by
  simp only [List.mem_cons, List.not_mem_nil, or_false] at hu
  rcases hu with rfl | rfl | rfl | rfl | rfl | rfl | rfl | rfl <;> rfl⟩
structure DeedBOk (d : DeedB) : Prop where
  kind : I64 d.kind
  node : I64 d.node
  l : (d.l.length ≤ d.lc ∧ d.lc ≤ maxLen) ∧ ∀ a ∈ d.l, RepOk a
  all : (d.all.length ≤ d.allc ∧ d.allc ≤ maxLen) ∧ ∀ a ∈ d.all, BlkOk a
  bid : I64 d.bid
  bgen : I64 d.bgen
  blen : I64 d.blen
  n : I64 d.n
structure DeedBRd (w : World) (d : DeedB) : Prop where
  l : RdC w d.lA (flat repE d.l)
  all : RdC w d.allA (flat blkE d.all)
section
variable {H : Type} {enc : TypeId × Value → H} {w : World} {sp : Nat → Bool} {held : Bool}
theorem open_RepC {fuel : Nat} {cs : List Value} {x : DataW H × List MemPlace} (hl : cs.length = 4) (h : DataW.trod enc Try.prog w 0 sp held fuel 30 cs = some x) :
    ∃ d : Rep, cs = repE.enc d ∧ RepOk d := by
  obtain ⟨c0, c1, c2, c3, rfl⟩ : ∃ c0 c1 c2 c3, cs = [c0, c1, c2, c3] := by
    match cs, hl with
    | [c0, c1, c2, c3], _ => exact ⟨c0, c1, c2, c3, rfl⟩
  obtain ⟨zs, m, _, hx, _, hzl, hz⟩ := DataW.trod_struct Try.underlying30 h
  have hzl' : zs.length = 2 := hzl
  obtain ⟨z_0, e_0⟩ : ∃ z, zs[0]? = some z := ⟨zs[0]'(by omega), List.getElem?_eq_getElem (by omega)⟩
  have h_0 : DataW.trod enc Try.prog w 0 sp held m 28 (([c0, c1, c2, c3].drop 0).take (Try.prog.cellsOf 28)) = zs[0]? := hz 0 _ rfl
  rw [show Try.prog.cellsOf 28 = 3 from by kernel_rfl, e_0] at h_0
  simp only [List.drop_zero, List.take_succ_cons, List.take_zero, List.drop_succ_cons] at h_0
  obtain ⟨zs_0, m_0, _, hx_0, _, hzl_0, hz_0⟩ := DataW.trod_struct Try.underlying28 h_0
  have hzl'_0 : zs_0.length = 3 := hzl_0
  obtain ⟨z_0_0, e_0_0⟩ : ∃ z, zs_0[0]? = some z := ⟨zs_0[0]'(by omega), List.getElem?_eq_getElem (by omega)⟩
  have h_0_0 : DataW.trod enc Try.prog w 0 sp held m_0 3 (([c0, c1, c2].drop 0).take (Try.prog.cellsOf 3)) = zs_0[0]? := hz_0 0 _ rfl
  rw [show Try.prog.cellsOf 3 = 1 from by kernel_rfl, e_0_0] at h_0_0
  simp only [List.drop_zero, List.take_succ_cons, List.take_zero, List.drop_succ_cons] at h_0_0
  obtain ⟨v_0_0, k_0_0, _, w_0_0⟩ := DataW.trod_int Try.underlying3 h_0_0
  simp only [List.cons.injEq, and_true] at k_0_0
  obtain ⟨z_0_1, e_0_1⟩ : ∃ z, zs_0[1]? = some z := ⟨zs_0[1]'(by omega), List.getElem?_eq_getElem (by omega)⟩
  have h_0_1 : DataW.trod enc Try.prog w 0 sp held m_0 3 (([c0, c1, c2].drop 1).take (Try.prog.cellsOf 3)) = zs_0[1]? := hz_0 1 _ rfl
  rw [show Try.prog.cellsOf 3 = 1 from by kernel_rfl, e_0_1] at h_0_1
  simp only [List.drop_zero, List.take_succ_cons, List.take_zero, List.drop_succ_cons] at h_0_1
  obtain ⟨v_0_1, k_0_1, _, w_0_1⟩ := DataW.trod_int Try.underlying3 h_0_1
  simp only [List.cons.injEq, and_true] at k_0_1
  obtain ⟨z_0_2, e_0_2⟩ : ∃ z, zs_0[2]? = some z := ⟨zs_0[2]'(by omega), List.getElem?_eq_getElem (by omega)⟩
  have h_0_2 : DataW.trod enc Try.prog w 0 sp held m_0 3 (([c0, c1, c2].drop 2).take (Try.prog.cellsOf 3)) = zs_0[2]? := hz_0 2 _ rfl
  rw [show Try.prog.cellsOf 3 = 1 from by kernel_rfl, e_0_2] at h_0_2
  simp only [List.drop_zero, List.take_succ_cons, List.take_zero, List.drop_succ_cons] at h_0_2
  obtain ⟨v_0_2, k_0_2, _, w_0_2⟩ := DataW.trod_int Try.underlying3 h_0_2
  simp only [List.cons.injEq, and_true] at k_0_2
  obtain ⟨z_1, e_1⟩ : ∃ z, zs[1]? = some z := ⟨zs[1]'(by omega), List.getElem?_eq_getElem (by omega)⟩
  have h_1 : DataW.trod enc Try.prog w 0 sp held m 4 (([c0, c1, c2, c3].drop 3).take (Try.prog.cellsOf 4)) = zs[1]? := hz 1 _ rfl
  rw [show Try.prog.cellsOf 4 = 1 from by kernel_rfl, e_1] at h_1
  simp only [List.drop_zero, List.take_succ_cons, List.take_zero, List.drop_succ_cons] at h_1
  obtain ⟨v_1, k_1, _⟩ := DataW.trod_bool Try.underlying4 h_1
  simp only [List.cons.injEq, and_true] at k_1
  subst k_0_0 k_0_1 k_0_2 k_1
  exact ⟨⟨v_0_0, v_0_1, v_0_2, v_1⟩, rfl, ⟨wf_i64 w_0_0, wf_i64 w_0_1, wf_i64 w_0_2⟩⟩
theorem open_BlkC {fuel : Nat} {cs : List Value} {x : DataW H × List MemPlace} (hl : cs.length = 3) (h : DataW.trod enc Try.prog w 0 sp held fuel 28 cs = some x) :
    ∃ d : Blk, cs = blkE.enc d ∧ BlkOk d := by
  obtain ⟨c0, c1, c2, rfl⟩ : ∃ c0 c1 c2, cs = [c0, c1, c2] := by
    match cs, hl with
    | [c0, c1, c2], _ => exact ⟨c0, c1, c2, rfl⟩
  obtain ⟨zs, m, _, hx, _, hzl, hz⟩ := DataW.trod_struct Try.underlying28 h
  have hzl' : zs.length = 3 := hzl
  obtain ⟨z_0, e_0⟩ : ∃ z, zs[0]? = some z := ⟨zs[0]'(by omega), List.getElem?_eq_getElem (by omega)⟩
  have h_0 : DataW.trod enc Try.prog w 0 sp held m 3 (([c0, c1, c2].drop 0).take (Try.prog.cellsOf 3)) = zs[0]? := hz 0 _ rfl
  rw [show Try.prog.cellsOf 3 = 1 from by kernel_rfl, e_0] at h_0
  simp only [List.drop_zero, List.take_succ_cons, List.take_zero, List.drop_succ_cons] at h_0
  obtain ⟨v_0, k_0, _, w_0⟩ := DataW.trod_int Try.underlying3 h_0
  simp only [List.cons.injEq, and_true] at k_0
  obtain ⟨z_1, e_1⟩ : ∃ z, zs[1]? = some z := ⟨zs[1]'(by omega), List.getElem?_eq_getElem (by omega)⟩
  have h_1 : DataW.trod enc Try.prog w 0 sp held m 3 (([c0, c1, c2].drop 1).take (Try.prog.cellsOf 3)) = zs[1]? := hz 1 _ rfl
  rw [show Try.prog.cellsOf 3 = 1 from by kernel_rfl, e_1] at h_1
  simp only [List.drop_zero, List.take_succ_cons, List.take_zero, List.drop_succ_cons] at h_1
  obtain ⟨v_1, k_1, _, w_1⟩ := DataW.trod_int Try.underlying3 h_1
  simp only [List.cons.injEq, and_true] at k_1
  obtain ⟨z_2, e_2⟩ : ∃ z, zs[2]? = some z := ⟨zs[2]'(by omega), List.getElem?_eq_getElem (by omega)⟩
  have h_2 : DataW.trod enc Try.prog w 0 sp held m 3 (([c0, c1, c2].drop 2).take (Try.prog.cellsOf 3)) = zs[2]? := hz 2 _ rfl
  rw [show Try.prog.cellsOf 3 = 1 from by kernel_rfl, e_2] at h_2
  simp only [List.drop_zero, List.take_succ_cons, List.take_zero, List.drop_succ_cons] at h_2
  obtain ⟨v_2, k_2, _, w_2⟩ := DataW.trod_int Try.underlying3 h_2
  simp only [List.cons.injEq, and_true] at k_2
  subst k_0 k_1 k_2
  exact ⟨⟨v_0, v_1, v_2⟩, rfl, ⟨wf_i64 w_0, wf_i64 w_1, wf_i64 w_2⟩⟩
theorem open_DeedBC {fuel : Nat} {cs : List Value} {x : DataW H × List MemPlace} (hl : cs.length = 8) (h : DataW.trod enc Try.prog w 0 sp held fuel 54 cs = some x) :
    ∃ d : DeedB, cs = dbE.enc d ∧ DeedBOk d ∧ DeedBRd w d := by
  obtain ⟨c0, c1, c2, c3, c4, c5, c6, c7, rfl⟩ : ∃ c0 c1 c2 c3 c4 c5 c6 c7, cs = [c0, c1, c2, c3, c4, c5, c6, c7] := by
    match cs, hl with
    | [c0, c1, c2, c3, c4, c5, c6, c7], _ => exact ⟨c0, c1, c2, c3, c4, c5, c6, c7, rfl⟩
  obtain ⟨zs, m, _, hx, _, hzl, hz⟩ := DataW.trod_struct Try.underlying54 h
  have hzl' : zs.length = 6 := hzl
  obtain ⟨z_0, e_0⟩ : ∃ z, zs[0]? = some z := ⟨zs[0]'(by omega), List.getElem?_eq_getElem (by omega)⟩
  have h_0 : DataW.trod enc Try.prog w 0 sp held m 3 (([c0, c1, c2, c3, c4, c5, c6, c7].drop 0).take (Try.prog.cellsOf 3)) = zs[0]? := hz 0 _ rfl
  rw [show Try.prog.cellsOf 3 = 1 from by kernel_rfl, e_0] at h_0
  simp only [List.drop_zero, List.take_succ_cons, List.take_zero, List.drop_succ_cons] at h_0
  obtain ⟨v_0, k_0, _, w_0⟩ := DataW.trod_int Try.underlying3 h_0
  simp only [List.cons.injEq, and_true] at k_0
  obtain ⟨z_1, e_1⟩ : ∃ z, zs[1]? = some z := ⟨zs[1]'(by omega), List.getElem?_eq_getElem (by omega)⟩
  have h_1 : DataW.trod enc Try.prog w 0 sp held m 3 (([c0, c1, c2, c3, c4, c5, c6, c7].drop 1).take (Try.prog.cellsOf 3)) = zs[1]? := hz 1 _ rfl
  rw [show Try.prog.cellsOf 3 = 1 from by kernel_rfl, e_1] at h_1
  simp only [List.drop_zero, List.take_succ_cons, List.take_zero, List.drop_succ_cons] at h_1
  obtain ⟨v_1, k_1, _, w_1⟩ := DataW.trod_int Try.underlying3 h_1
  simp only [List.cons.injEq, and_true] at k_1
  obtain ⟨z_2, e_2⟩ : ∃ z, zs[2]? = some z := ⟨zs[2]'(by omega), List.getElem?_eq_getElem (by omega)⟩
  have h_2 : DataW.trod enc Try.prog w 0 sp held m 22 (([c0, c1, c2, c3, c4, c5, c6, c7].drop 2).take (Try.prog.cellsOf 22)) = zs[2]? := hz 2 _ rfl
  rw [show Try.prog.cellsOf 22 = 1 from by kernel_rfl, e_2] at h_2
  simp only [List.drop_zero, List.take_succ_cons, List.take_zero, List.drop_succ_cons] at h_2
  obtain ⟨A_2, k_2, cc_2, x_2, v_2, hk_2, hc_2, hm_2, R_2, I_2, _⟩ := open_slcG repE (fun a _ => RepOk a) Try.underlying22 (by kernel_rfl) (fun {fuel cs x} hl h => open_RepC hl h) h_2
  obtain ⟨z_3, e_3⟩ : ∃ z, zs[3]? = some z := ⟨zs[3]'(by omega), List.getElem?_eq_getElem (by omega)⟩
  have h_3 : DataW.trod enc Try.prog w 0 sp held m 23 (([c0, c1, c2, c3, c4, c5, c6, c7].drop 3).take (Try.prog.cellsOf 23)) = zs[3]? := hz 3 _ rfl
  rw [show Try.prog.cellsOf 23 = 1 from by kernel_rfl, e_3] at h_3
  simp only [List.drop_zero, List.take_succ_cons, List.take_zero, List.drop_succ_cons] at h_3
  obtain ⟨A_3, k_3, cc_3, x_3, v_3, hk_3, hc_3, hm_3, R_3, I_3, _⟩ := open_slcG blkE (fun a _ => BlkOk a) Try.underlying23 (by kernel_rfl) (fun {fuel cs x} hl h => open_BlkC hl h) h_3
  obtain ⟨z_4, e_4⟩ : ∃ z, zs[4]? = some z := ⟨zs[4]'(by omega), List.getElem?_eq_getElem (by omega)⟩
  have h_4 : DataW.trod enc Try.prog w 0 sp held m 28 (([c0, c1, c2, c3, c4, c5, c6, c7].drop 4).take (Try.prog.cellsOf 28)) = zs[4]? := hz 4 _ rfl
  rw [show Try.prog.cellsOf 28 = 3 from by kernel_rfl, e_4] at h_4
  simp only [List.drop_zero, List.take_succ_cons, List.take_zero, List.drop_succ_cons] at h_4
  obtain ⟨zs_4, m_4, _, hx_4, _, hzl_4, hz_4⟩ := DataW.trod_struct Try.underlying28 h_4
  have hzl'_4 : zs_4.length = 3 := hzl_4
  obtain ⟨z_4_0, e_4_0⟩ : ∃ z, zs_4[0]? = some z := ⟨zs_4[0]'(by omega), List.getElem?_eq_getElem (by omega)⟩
  have h_4_0 : DataW.trod enc Try.prog w 0 sp held m_4 3 (([c4, c5, c6].drop 0).take (Try.prog.cellsOf 3)) = zs_4[0]? := hz_4 0 _ rfl
  rw [show Try.prog.cellsOf 3 = 1 from by kernel_rfl, e_4_0] at h_4_0
  simp only [List.drop_zero, List.take_succ_cons, List.take_zero, List.drop_succ_cons] at h_4_0
  obtain ⟨v_4_0, k_4_0, _, w_4_0⟩ := DataW.trod_int Try.underlying3 h_4_0
  simp only [List.cons.injEq, and_true] at k_4_0
  obtain ⟨z_4_1, e_4_1⟩ : ∃ z, zs_4[1]? = some z := ⟨zs_4[1]'(by omega), List.getElem?_eq_getElem (by omega)⟩
  have h_4_1 : DataW.trod enc Try.prog w 0 sp held m_4 3 (([c4, c5, c6].drop 1).take (Try.prog.cellsOf 3)) = zs_4[1]? := hz_4 1 _ rfl
  rw [show Try.prog.cellsOf 3 = 1 from by kernel_rfl, e_4_1] at h_4_1
  simp only [List.drop_zero, List.take_succ_cons, List.take_zero, List.drop_succ_cons] at h_4_1
  obtain ⟨v_4_1, k_4_1, _, w_4_1⟩ := DataW.trod_int Try.underlying3 h_4_1
  simp only [List.cons.injEq, and_true] at k_4_1
  obtain ⟨z_4_2, e_4_2⟩ : ∃ z, zs_4[2]? = some z := ⟨zs_4[2]'(by omega), List.getElem?_eq_getElem (by omega)⟩
  have h_4_2 : DataW.trod enc Try.prog w 0 sp held m_4 3 (([c4, c5, c6].drop 2).take (Try.prog.cellsOf 3)) = zs_4[2]? := hz_4 2 _ rfl
  rw [show Try.prog.cellsOf 3 = 1 from by kernel_rfl, e_4_2] at h_4_2
  simp only [List.drop_zero, List.take_succ_cons, List.take_zero, List.drop_succ_cons] at h_4_2
  obtain ⟨v_4_2, k_4_2, _, w_4_2⟩ := DataW.trod_int Try.underlying3 h_4_2
  simp only [List.cons.injEq, and_true] at k_4_2
  obtain ⟨z_5, e_5⟩ : ∃ z, zs[5]? = some z := ⟨zs[5]'(by omega), List.getElem?_eq_getElem (by omega)⟩
  have h_5 : DataW.trod enc Try.prog w 0 sp held m 3 (([c0, c1, c2, c3, c4, c5, c6, c7].drop 7).take (Try.prog.cellsOf 3)) = zs[5]? := hz 5 _ rfl
  rw [show Try.prog.cellsOf 3 = 1 from by kernel_rfl, e_5] at h_5
  simp only [List.drop_zero, List.take_succ_cons, List.take_zero, List.drop_succ_cons] at h_5
  obtain ⟨v_5, k_5, _, w_5⟩ := DataW.trod_int Try.underlying3 h_5
  simp only [List.cons.injEq, and_true] at k_5
  subst k_0 k_1 v_2 hk_2 v_3 hk_3 k_4_0 k_4_1 k_4_2 k_5
  exact ⟨⟨v_0, v_1, A_2, x_2, cc_2, A_3, x_3, cc_3, v_4_0, v_4_1, v_4_2, v_5⟩, rfl, ⟨wf_i64 w_0, wf_i64 w_1, ⟨⟨hc_2, hm_2⟩, fun a ha => (I_2 a ha).choose_spec.1⟩, ⟨⟨hc_3, hm_3⟩, fun a ha => (I_3 a ha).choose_spec.1⟩, wf_i64 w_4_0, wf_i64 w_4_1, wf_i64 w_4_2, wf_i64 w_5⟩, ⟨R_2, R_3⟩⟩
theorem open_DeedBs {base : Nat} {r : Reach} {v : Value} {d : DataW H} {ps : List MemPlace} (hval : Value.okWide Try.prog w r base 47 v) (h : DataW.Trod enc Try.prog w 0 sp held 47 v d ps) :
    ∃ A k c ls, v = .slice A k c ∧ k = ls.length ∧ k ≤ c ∧ c ≤ maxLen ∧ RdC w A (flat dbE ls) ∧ ∀ l ∈ ls, DeedBOk l ∧ DeedBRd w l := by
  obtain ⟨A, k, c, rfl⟩ := okWide_slice Try.underlying47 hval
  obtain ⟨fuel, hf⟩ := h
  obtain ⟨A', k', c', ls, h1, h2, h3, h4, h5, h6, _⟩ := open_slcG dbE (fun l _ => DeedBOk l ∧ DeedBRd w l) Try.underlying47 (by kernel_rfl) (fun {fuel cs x} hl h => open_DeedBC hl h) (v := .slice A k c) hf
  exact ⟨A', k', c', ls, h1, h2, h3, h4, h5, fun l hl => (h6 l hl).choose_spec.1⟩
end
end Go.Proofs.Ytgebdehpoalfbaa.B

set_option linter.unusedVariables false
set_option linter.unusedSimpArgs false
set_option maxRecDepth 8000
/-! The chapter's example. -/
namespace Go.Proofs.Ytgebdehpoalfbaa.B
open Go Go.Proofs
attribute [local irreducible] WL CS QS WQ WH WS Fn Op1 row Sat
attribute [local irreducible] slc mapb bmA inners
set_option maxHeartbeats 2000000 in
theorem law_examples (W0 : World) (G : List SL) :
    Fn Try.prog 8 [] W0 G (Ret fun v G' => v = .bool true ∧ G' = G) := by
  refine Fn.enter Try.func8 rfl Try.ntmps8 rfl ?_
  repeat' (first|refine bk ?_|refine bkc ?_|refine bks ?_|refine bkd ?_|refine bkq (fun q => ?_)|(refine bk2 ?_ ?_<;>(first|exact bkn|(refine bkk ?_;intro h))))
  refine WL.call c9 rfl rfl rfl rfl (blocks_New W0 _) ?_
  rintro _ _ ⟨b, rfl, rfl⟩
  repeat' (first|refine bk ?_|refine bkc ?_|refine bks ?_|refine bkd ?_|refine bkq (fun q => ?_)|(refine bk2 ?_ ?_<;>(first|exact bkn|(refine bkk ?_;intro h))))
  revert q; intro q2
  refine WL.buildSlice TT rfl rfl rfl rfl rfl rfl rfl rfl (fun q3 => ?_)
  have hc := blocks_Report b b0 0 (some ⟨q3, 0, none⟩) 1 [⟨7, 2, 5, false⟩] (by decide) W0 (row q3 30 [.int .i64 7, .int .i64 2, .int .i64 5, .bool false] :: row q2 28 (blkC exB) :: G) (Rd.row (i := 0) rfl rfl)
  rw [if_pos (by decide)] at hc
  refine WL.call c10 rfl rfl rfl rfl (hc.pre (fun w hs => hs.front (i := 2) rfl)) ?_
  clear hc
  rintro _ _ ⟨rfl, rfl⟩
  repeat' (first|refine bk ?_|refine bkc ?_|refine bks ?_|refine bkd ?_|refine bkq (fun q => ?_)|(refine bk2 ?_ ?_<;>(first|exact bkn|(refine bkk ?_;intro h))))
  refine WL.buildSlice TT rfl rfl rfl rfl rfl rfl rfl rfl (fun q4 => ?_)
  have hc := blocks_Report b (b0.report 0 [⟨7, 2, 5, false⟩]) 1 (some ⟨q4, 0, none⟩) 1 [⟨7, 1, 9, false⟩] (by decide) W0 (row q4 30 [.int .i64 7, .int .i64 1, .int .i64 9, .bool false] :: row q3 30 [.int .i64 7, .int .i64 2, .int .i64 5, .bool false] :: row q2 28 (blkC exB) :: G) (Rd.row (i := 0) rfl rfl)
  rw [if_pos (by decide)] at hc
  refine WL.call c10 rfl rfl rfl rfl (hc.pre (fun w hs => hs.front (i := 1) rfl)) ?_
  clear hc
  rintro _ _ ⟨rfl, rfl⟩
  rw [show (b0.report 0 [⟨7, 2, 5, false⟩]).report 1 [⟨7, 1, 9, false⟩] = exM from rfl]
  repeat' (first|refine bk ?_|refine bkc ?_|refine bks ?_|refine bkd ?_|refine bkq (fun q => ?_)|(refine bk2 ?_ ?_<;>(first|exact bkn|(refine bkk ?_;intro h))))
  have hc := blocks_Hold b exM exM_ok exB W0 (row q4 30 [.int .i64 7, .int .i64 1, .int .i64 9, .bool false] :: row q3 30 [.int .i64 7, .int .i64 2, .int .i64 5, .bool false] :: row q2 28 (blkC exB) :: G)
  rw [ex_hold] at hc
  refine WL.call c13 rfl rfl rfl rfl hc ?_
  clear hc
  rintro _ _ ⟨A5, c5, rfl, rfl⟩
  repeat' (first|refine bk ?_|refine bkc ?_|refine bks ?_|refine bkd ?_|refine bkq (fun q => ?_)|(refine bk2 ?_ ?_<;>(first|exact bkn|(refine bkk ?_;intro h))))
  refine WL.buildSlice TT rfl rfl rfl rfl rfl rfl rfl rfl (fun q5 => ?_)
  refine WL.call c15 rfl rfl rfl rfl (law_numbers A5 (some ⟨q5, 0, none⟩) c5 1 [0] (by decide) W0 _ (Rd.slc (i := 1) rfl) (Rd.row (i := 0) rfl rfl)) ?_
  rintro _ G2 ⟨rfl, hG2⟩
  rw [hG2]; clear hG2 G2
  repeat' (first|refine bk ?_|refine bkc ?_|refine bks ?_|refine bkd ?_|refine bkq (fun q => ?_)|(refine bk2 ?_ ?_<;>(first|exact bkn|(refine bkk ?_;intro h))))
  refine WL.buildSlice TT rfl rfl rfl rfl rfl rfl rfl rfl (fun q6 => ?_)
  have hc := blocks_Stale b exM (some ⟨q6, 0, none⟩) 1 [exB] (by decide) 1 (by decide) W0 (row q6 28 (blkC exB) :: row q5 3 [.int .i64 0] :: slc intE 3 A5 c5 [0] :: row q4 30 [.int .i64 7, .int .i64 1, .int .i64 9, .bool false] :: row q3 30 [.int .i64 7, .int .i64 2, .int .i64 5, .bool false] :: row q2 28 (blkC exB) :: G) (Rd.row (i := 0) rfl rfl)
  rw [ex_stale] at hc
  refine WL.call c11 rfl rfl rfl rfl (hc.pre (fun w hs => hs.front (i := 3) rfl)) ?_
  clear hc
  rintro _ _ ⟨A7, c7, rfl, rfl⟩
  repeat' (first|refine bk ?_|refine bkc ?_|refine bks ?_|refine bkd ?_|refine bkq (fun q => ?_)|(refine bk2 ?_ ?_<;>(first|exact bkn|(refine bkk ?_;intro h))))
  refine WL.buildSlice TT rfl rfl rfl rfl rfl rfl rfl rfl (fun q7 => ?_)
  refine WL.call c15 rfl rfl rfl rfl (law_numbers A7 (some ⟨q7, 0, none⟩) c7 1 [7] (by decide) W0 _ (Rd.slc (i := 1) rfl) (Rd.row (i := 0) rfl rfl)) ?_
  rintro _ G2 ⟨rfl, hG2⟩
  rw [hG2]; clear hG2 G2
  repeat' (first|refine bk ?_|refine bkc ?_|refine bks ?_|refine bkd ?_|refine bkq (fun q => ?_)|(refine bk2 ?_ ?_<;>(first|exact bkn|(refine bkk ?_;intro h))))
  refine WL.buildSlice TT rfl rfl rfl rfl rfl rfl rfl rfl (fun q8 => ?_)
  have hc := fun F hR => blocks_Held b exM exM_ok (some ⟨q8, 0, none⟩) 1 [exB] (by decide) W0 F hR
  simp only [ex_held] at hc
  repeat' (first|refine bk ?_|refine bkc ?_|refine bks ?_|refine bkd ?_|refine bkq (fun q => ?_)|(refine bk2 ?_ ?_<;>(first|exact bkn|(refine bkk ?_;intro h))))
  refine WL.call c12 rfl rfl rfl rfl ((hc _ (Rd.row (i := 0) rfl rfl)).pre (fun w hs => hs.front (i := 3) rfl)) ?_
  clear hc
  rintro _ _ ⟨rfl, rfl⟩
  repeat' (first|refine bk ?_|refine bkc ?_|refine bks ?_|refine bkd ?_|refine bkq (fun q => ?_)|(refine bk2 ?_ ?_<;>(first|exact bkn|(refine bkk ?_;intro h))))
  exact QS.turn (G' := G) (fun w hs => hs.drop.drop.drop.drop.drop.drop.drop.drop.drop.drop) (QS.retV Try.results8 rfl ⟨rfl, rfl⟩)
end Go.Proofs.Ytgebdehpoalfbaa.B
