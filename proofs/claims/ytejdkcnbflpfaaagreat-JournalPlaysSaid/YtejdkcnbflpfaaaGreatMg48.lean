import Derived.Test.YtejdkcnbflpfaaaGreatMg47
import Derived.Test.YtejdkcnbflpfaaaGreatMg18
import Derived.Test.YtejdkcnbflpfaaaGreatMg20
import Derived.Shelf.SlIter.Nil
import Derived.Shelf.SortM.Plain
import Derived.Shelf.SortM.SortNone
import Derived.Ground.GgzProg
import Derived.Ground.SlgmProg
import Derived.Test.YtejdkcnbflpfaaaGreatProg
set_option linter.unusedVariables false
set_option linter.unusedSimpArgs false
set_option linter.unusedSectionVars false
set_option maxRecDepth 8000
/-! Opening the deeds of law15. -/
namespace Go.Proofs.YtejdkcnbflpfaaaGreat.B
open Go Go.Proofs Go.ChangeShapes Go.WideShapes Go.ChangeAt Go.RowKit
structure EntOk (d : Ent) : Prop where
  n : I64 d.n
  s : d.s.size ≤ maxLen
structure DeedJ where
  kind : Int
  epoch : Int
  lA : Option Addr
  l : List Ent
  lc : Nat
  xn : Int
  xs : ByteArray
  raw : ByteArray
  n : Int
  keepsA : Option Addr
  keeps : List Int
  keepsc : Nat
def djE : EncK DeedJ := ⟨fun d => [.int .i64 d.kind, .int .i64 d.epoch, .slice d.lA d.l.length d.lc, .int .i64 d.xn, .string d.xs, .string d.raw, .int .i64 d.n, .slice d.keepsA d.keeps.length d.keepsc], 8, fun _ => rfl, by decide, fun _ u hu => by
  simp only [List.mem_cons, List.not_mem_nil, or_false] at hu
  rcases hu with rfl | rfl | rfl | rfl | rfl | rfl | rfl | rfl <;> rfl⟩
structure DeedJOk (d : DeedJ) : Prop where
  kind : I64 d.kind
  epoch : I64 d.epoch
  l : (d.l.length ≤ d.lc ∧ d.lc ≤ maxLen) ∧ ∀ a ∈ d.l, EntOk a
  xn : I64 d.xn
  xs : d.xs.size ≤ maxLen
  raw : d.raw.size ≤ maxLen
  n : I64 d.n
  keeps : (d.keeps.length ≤ d.keepsc ∧ d.keepsc ≤ maxLen) ∧ ∀ a ∈ d.keeps, I64 a
structure DeedJRd (w : World) (d : DeedJ) : Prop where
  l : RdC w d.lA (flat entE d.l)
  keeps : RdC w d.keepsA (flat intE d.keeps)
section
variable {H : Type} {enc : TypeId × Value → H} {w : World} {sp : Nat → Bool} {held : Bool}
theorem open_EntC {fuel : Nat} {cs : List Value} {x : DataW H × List MemPlace} (hl : cs.length = 2) (h : DataW.trod enc Tryz.prog w 0 sp held fuel 41 cs = some x) :
    ∃ d : Ent, cs = entE.enc d ∧ EntOk d := by
  obtain ⟨c0, c1, rfl⟩ : ∃ c0 c1, cs = [c0, c1] := by
    match cs, hl with
    | [c0, c1], _ => exact ⟨c0, c1, rfl⟩
  obtain ⟨zs, m, _, hx, _, hzl, hz⟩ := DataW.trod_struct Tryz.underlying41 h
  have hzl' : zs.length = 2 := hzl
  obtain ⟨z_0, e_0⟩ : ∃ z, zs[0]? = some z := ⟨zs[0]'(by omega), List.getElem?_eq_getElem (by omega)⟩
  have h_0 : DataW.trod enc Tryz.prog w 0 sp held m 3 (([c0, c1].drop 0).take (Tryz.prog.cellsOf 3)) = zs[0]? := hz 0 _ rfl
  rw [show Tryz.prog.cellsOf 3 = 1 from by kernel_rfl, e_0] at h_0
  simp only [List.drop_zero, List.take_succ_cons, List.take_zero, List.drop_succ_cons] at h_0
  obtain ⟨v_0, k_0, _, w_0⟩ := DataW.trod_int Tryz.underlying3 h_0
  simp only [List.cons.injEq, and_true] at k_0
  obtain ⟨z_1, e_1⟩ : ∃ z, zs[1]? = some z := ⟨zs[1]'(by omega), List.getElem?_eq_getElem (by omega)⟩
  have h_1 : DataW.trod enc Tryz.prog w 0 sp held m 9 (([c0, c1].drop 1).take (Tryz.prog.cellsOf 9)) = zs[1]? := hz 1 _ rfl
  rw [show Tryz.prog.cellsOf 9 = 1 from by kernel_rfl, e_1] at h_1
  simp only [List.drop_zero, List.take_succ_cons, List.take_zero, List.drop_succ_cons] at h_1
  obtain ⟨v_1, k_1, _, w_1⟩ := DataW.trod_string Tryz.underlying9 h_1
  simp only [List.cons.injEq, and_true] at k_1
  subst k_0 k_1
  exact ⟨⟨v_0, v_1⟩, rfl, ⟨wf_i64 w_0, w_1⟩⟩
theorem open_DeedJC {fuel : Nat} {cs : List Value} {x : DataW H × List MemPlace} (hl : cs.length = 8) (h : DataW.trod enc Tryz.prog w 0 sp held fuel 44 cs = some x) :
    ∃ d : DeedJ, cs = djE.enc d ∧ DeedJOk d ∧ DeedJRd w d := by
  obtain ⟨c0, c1, c2, c3, c4, c5, c6, c7, rfl⟩ : ∃ c0 c1 c2 c3 c4 c5 c6 c7, cs = [c0, c1, c2, c3, c4, c5, c6, c7] := by
    match cs, hl with
    | [c0, c1, c2, c3, c4, c5, c6, c7], _ => exact ⟨c0, c1, c2, c3, c4, c5, c6, c7, rfl⟩
  obtain ⟨zs, m, _, hx, _, hzl, hz⟩ := DataW.trod_struct Tryz.underlying44 h
  have hzl' : zs.length = 7 := hzl
  obtain ⟨z_0, e_0⟩ : ∃ z, zs[0]? = some z := ⟨zs[0]'(by omega), List.getElem?_eq_getElem (by omega)⟩
  have h_0 : DataW.trod enc Tryz.prog w 0 sp held m 3 (([c0, c1, c2, c3, c4, c5, c6, c7].drop 0).take (Tryz.prog.cellsOf 3)) = zs[0]? := hz 0 _ rfl
  rw [show Tryz.prog.cellsOf 3 = 1 from by kernel_rfl, e_0] at h_0
  simp only [List.drop_zero, List.take_succ_cons, List.take_zero, List.drop_succ_cons] at h_0
  obtain ⟨v_0, k_0, _, w_0⟩ := DataW.trod_int Tryz.underlying3 h_0
  simp only [List.cons.injEq, and_true] at k_0
  obtain ⟨z_1, e_1⟩ : ∃ z, zs[1]? = some z := ⟨zs[1]'(by omega), List.getElem?_eq_getElem (by omega)⟩
  have h_1 : DataW.trod enc Tryz.prog w 0 sp held m 3 (([c0, c1, c2, c3, c4, c5, c6, c7].drop 1).take (Tryz.prog.cellsOf 3)) = zs[1]? := hz 1 _ rfl
  rw [show Tryz.prog.cellsOf 3 = 1 from by kernel_rfl, e_1] at h_1
  simp only [List.drop_zero, List.take_succ_cons, List.take_zero, List.drop_succ_cons] at h_1
  obtain ⟨v_1, k_1, _, w_1⟩ := DataW.trod_int Tryz.underlying3 h_1
  simp only [List.cons.injEq, and_true] at k_1
  obtain ⟨z_2, e_2⟩ : ∃ z, zs[2]? = some z := ⟨zs[2]'(by omega), List.getElem?_eq_getElem (by omega)⟩
  have h_2 : DataW.trod enc Tryz.prog w 0 sp held m 39 (([c0, c1, c2, c3, c4, c5, c6, c7].drop 2).take (Tryz.prog.cellsOf 39)) = zs[2]? := hz 2 _ rfl
  rw [show Tryz.prog.cellsOf 39 = 1 from by kernel_rfl, e_2] at h_2
  simp only [List.drop_zero, List.take_succ_cons, List.take_zero, List.drop_succ_cons] at h_2
  obtain ⟨A_2, k_2, cc_2, x_2, v_2, hk_2, hc_2, hm_2, R_2, I_2, _⟩ := open_slcG entE (fun a _ => EntOk a) Tryz.underlying39 (by kernel_rfl) (fun {fuel cs x} hl h => open_EntC hl h) h_2
  obtain ⟨z_3, e_3⟩ : ∃ z, zs[3]? = some z := ⟨zs[3]'(by omega), List.getElem?_eq_getElem (by omega)⟩
  have h_3 : DataW.trod enc Tryz.prog w 0 sp held m 41 (([c0, c1, c2, c3, c4, c5, c6, c7].drop 3).take (Tryz.prog.cellsOf 41)) = zs[3]? := hz 3 _ rfl
  rw [show Tryz.prog.cellsOf 41 = 2 from by kernel_rfl, e_3] at h_3
  simp only [List.drop_zero, List.take_succ_cons, List.take_zero, List.drop_succ_cons] at h_3
  obtain ⟨zs_3, m_3, _, hx_3, _, hzl_3, hz_3⟩ := DataW.trod_struct Tryz.underlying41 h_3
  have hzl'_3 : zs_3.length = 2 := hzl_3
  obtain ⟨z_3_0, e_3_0⟩ : ∃ z, zs_3[0]? = some z := ⟨zs_3[0]'(by omega), List.getElem?_eq_getElem (by omega)⟩
  have h_3_0 : DataW.trod enc Tryz.prog w 0 sp held m_3 3 (([c3, c4].drop 0).take (Tryz.prog.cellsOf 3)) = zs_3[0]? := hz_3 0 _ rfl
  rw [show Tryz.prog.cellsOf 3 = 1 from by kernel_rfl, e_3_0] at h_3_0
  simp only [List.drop_zero, List.take_succ_cons, List.take_zero, List.drop_succ_cons] at h_3_0
  obtain ⟨v_3_0, k_3_0, _, w_3_0⟩ := DataW.trod_int Tryz.underlying3 h_3_0
  simp only [List.cons.injEq, and_true] at k_3_0
  obtain ⟨z_3_1, e_3_1⟩ : ∃ z, zs_3[1]? = some z := ⟨zs_3[1]'(by omega), List.getElem?_eq_getElem (by omega)⟩
  have h_3_1 : DataW.trod enc Tryz.prog w 0 sp held m_3 9 (([c3, c4].drop 1).take (Tryz.prog.cellsOf 9)) = zs_3[1]? := hz_3 1 _ rfl
  rw [show Tryz.prog.cellsOf 9 = 1 from by kernel_rfl, e_3_1] at h_3_1
  simp only [List.drop_zero, List.take_succ_cons, List.take_zero, List.drop_succ_cons] at h_3_1
  obtain ⟨v_3_1, k_3_1, _, w_3_1⟩ := DataW.trod_string Tryz.underlying9 h_3_1
  simp only [List.cons.injEq, and_true] at k_3_1
  obtain ⟨z_4, e_4⟩ : ∃ z, zs[4]? = some z := ⟨zs[4]'(by omega), List.getElem?_eq_getElem (by omega)⟩
  have h_4 : DataW.trod enc Tryz.prog w 0 sp held m 9 (([c0, c1, c2, c3, c4, c5, c6, c7].drop 5).take (Tryz.prog.cellsOf 9)) = zs[4]? := hz 4 _ rfl
  rw [show Tryz.prog.cellsOf 9 = 1 from by kernel_rfl, e_4] at h_4
  simp only [List.drop_zero, List.take_succ_cons, List.take_zero, List.drop_succ_cons] at h_4
  obtain ⟨v_4, k_4, _, w_4⟩ := DataW.trod_string Tryz.underlying9 h_4
  simp only [List.cons.injEq, and_true] at k_4
  obtain ⟨z_5, e_5⟩ : ∃ z, zs[5]? = some z := ⟨zs[5]'(by omega), List.getElem?_eq_getElem (by omega)⟩
  have h_5 : DataW.trod enc Tryz.prog w 0 sp held m 3 (([c0, c1, c2, c3, c4, c5, c6, c7].drop 6).take (Tryz.prog.cellsOf 3)) = zs[5]? := hz 5 _ rfl
  rw [show Tryz.prog.cellsOf 3 = 1 from by kernel_rfl, e_5] at h_5
  simp only [List.drop_zero, List.take_succ_cons, List.take_zero, List.drop_succ_cons] at h_5
  obtain ⟨v_5, k_5, _, w_5⟩ := DataW.trod_int Tryz.underlying3 h_5
  simp only [List.cons.injEq, and_true] at k_5
  obtain ⟨z_6, e_6⟩ : ∃ z, zs[6]? = some z := ⟨zs[6]'(by omega), List.getElem?_eq_getElem (by omega)⟩
  have h_6 : DataW.trod enc Tryz.prog w 0 sp held m 42 (([c0, c1, c2, c3, c4, c5, c6, c7].drop 7).take (Tryz.prog.cellsOf 42)) = zs[6]? := hz 6 _ rfl
  rw [show Tryz.prog.cellsOf 42 = 1 from by kernel_rfl, e_6] at h_6
  simp only [List.drop_zero, List.take_succ_cons, List.take_zero, List.drop_succ_cons] at h_6
  obtain ⟨A_6, k_6, cc_6, x_6, v_6, hk_6, hc_6, hm_6, R_6, I_6, _⟩ := open_slcG intE (fun a _ => I64 a) Tryz.underlying42 (by kernel_rfl) (fun {fuel cs x} hl h => by
    obtain ⟨n, rfl, _, hw⟩ := DataW.trod_int Tryz.underlying3 h
    exact ⟨n, rfl, wf_i64 hw⟩) h_6
  subst k_0 k_1 v_2 hk_2 k_3_0 k_3_1 k_4 k_5 v_6 hk_6
  exact ⟨⟨v_0, v_1, A_2, x_2, cc_2, v_3_0, v_3_1, v_4, v_5, A_6, x_6, cc_6⟩, rfl, ⟨wf_i64 w_0, wf_i64 w_1, ⟨⟨hc_2, hm_2⟩, fun a ha => (I_2 a ha).choose_spec.1⟩, wf_i64 w_3_0, w_3_1, w_4, wf_i64 w_5, ⟨⟨hc_6, hm_6⟩, fun a ha => (I_6 a ha).choose_spec.1⟩⟩, ⟨R_2, R_6⟩⟩
theorem open_DeedJs {base : Nat} {r : Reach} {v : Value} {d : DataW H} {ps : List MemPlace} (hval : Value.okWide Tryz.prog w r base 22 v) (h : DataW.Trod enc Tryz.prog w 0 sp held 22 v d ps) :
    ∃ A k c ls, v = .slice A k c ∧ k = ls.length ∧ k ≤ c ∧ c ≤ maxLen ∧ RdC w A (flat djE ls) ∧ ∀ l ∈ ls, DeedJOk l ∧ DeedJRd w l := by
  obtain ⟨A, k, c, rfl⟩ := okWide_slice Tryz.underlying22 hval
  obtain ⟨fuel, hf⟩ := h
  obtain ⟨A', k', c', ls, h1, h2, h3, h4, h5, h6, _⟩ := open_slcG djE (fun l _ => DeedJOk l ∧ DeedJRd w l) Tryz.underlying22 (by kernel_rfl) (fun {fuel cs x} hl h => open_DeedJC hl h) (v := .slice A k c) hf
  exact ⟨A', k', c', ls, h1, h2, h3, h4, h5, fun l hl => (h6 l hl).choose_spec.1⟩
end
end Go.Proofs.YtejdkcnbflpfaaaGreat.B

set_option linter.unusedVariables false
set_option linter.unusedSimpArgs false
set_option maxRecDepth 8000
/-! Whether a disk is down. -/
namespace Go.Proofs.YtejdkcnbflpfaaaGreat.B
open Go Go.Proofs
attribute [local irreducible] WL CS QS WQ WH WS Fn Op1 row Sat
attribute [local irreducible] diskA mapb
theorem disk_Down {b : Nat} {D : Disk} (W0 : World) (F : List SL) :
    Fn Tryz.prog 20 [.pointer (some ⟨b, 0, none⟩)] W0 (diskA b D :: F) (Ret fun v G' => v = .bool D.down ∧ G' = diskA b D :: F) := by
  refine Fn.ex (fun w hs => diskA_open w hs) (fun m => ?_)
  refine Fn.enter Tryz.func20 rfl Tryz.ntmps20 rfl ?_
  simp only [diskCells]
  repeat' (first|refine bk ?_|refine bkc ?_|refine bks ?_|refine bkd ?_|refine bkq (fun q => ?_)|(refine bk2 ?_ ?_<;>(first|exact bkn|(refine bkk ?_;intro h))))
  exact QS.turn (G' := diskA b D :: F) (fun w hs => diskA_shut (m := m) w hs) (QS.retV Tryz.results20 rfl ⟨rfl, rfl⟩)
end Go.Proofs.YtejdkcnbflpfaaaGreat.B

/-! The library's contracts on a map's keys, sorted, at this program. -/
namespace Go.Proofs.YtejdkcnbflpfaaaGreat.B
open Go Go.Proofs
open Go.Shelf
def it_keys105_ren : Go.Shelf.Ren := ⟨fun | 7 => 105 | 10 => 132 | n => n, fun | 23 => 61 | 26 => 9 | 3 => 68 | 28 => 159 | 0 => 0 | 27 => 158 | 33 => 71 | 4 => 4 | n => n, fun | n => n⟩
theorem it_keys105 : Go.Proofs.SlLaysZ.n7 Tryz.prog it_keys105_ren := {
  mixed := by kernel_rfl
  f7 := ⟨Tryz.f105.name, by decide, Tryz.func105.trans (congrArg some (by kernel_rfl))⟩
  f10 := ⟨Tryz.f132.name, by decide, Tryz.func132.trans (congrArg some (by kernel_rfl))⟩
  t0 := Tryz.underlying0
  a0 := Tryz.isAgg0
  z0 := Tryz.sizeOf0
  v0 := Tryz.zeroValue0
  t4 := Tryz.underlying4
  a4 := Tryz.isAgg4
  z4 := Tryz.sizeOf4
  v4 := Tryz.zeroValue4
  t23 := Tryz.underlying61
  a23 := Tryz.isAgg61
  z23 := Tryz.sizeOf61
  v23 := Tryz.zeroValue61
  t26 := Tryz.underlying9
  a26 := Tryz.isAgg9
  z26 := Tryz.sizeOf9
  v26 := Tryz.zeroValue9
  t27 := Tryz.underlying158
  a27 := Tryz.isAgg158
  z27 := Tryz.sizeOf158
  v27 := Tryz.zeroValue158
  t28 := Tryz.underlying159
  a28 := Tryz.isAgg159
  z28 := Tryz.sizeOf159
  v28 := Tryz.zeroValue159
  t33 := Tryz.underlying71
  a33 := Tryz.isAgg71
  z33 := Tryz.sizeOf71
  v33 := Tryz.zeroValue71 }
def it_sorted104_ren : Go.Shelf.Ren := ⟨fun | 6 => 104 | 8 => 130 | 9 => 131 | 11 => 138 | 13 => 140 | 12 => 139 | 23 => 152 | 24 => 153 | 14 => 143 | 15 => 144 | 16 => 145 | 17 => 146 | 18 => 147 | 19 => 148 | 20 => 149 | 21 => 150 | 22 => 151 | 25 => 155 | 26 => 156 | 27 => 157 | 28 => 158 | 29 => 159 | 30 => 160 | 31 => 161 | n => n, fun | 26 => 9 | 28 => 159 | 24 => 101 | 0 => 0 | 3 => 3 | 37 => 121 | 48 => 130 | 50 => 120 | 4 => 4 | 40 => 188 | 39 => 187 | 45 => 92 | 5 => 5 | 9 => 9 | 51 => 197 | 55 => 201 | 57 => 203 | 58 => 204 | 33 => 71 | n => n, fun | n => n⟩
theorem it_sorted104 : Go.Proofs.SlLaysZ.n6 Tryz.prog it_sorted104_ren := {
  mixed := by kernel_rfl
  f6 := ⟨Tryz.f104.name, by decide, Tryz.func104.trans (congrArg some (by kernel_rfl))⟩
  f8 := ⟨Tryz.f130.name, by decide, Tryz.func130.trans (congrArg some (by kernel_rfl))⟩
  f11 := ⟨Tryz.f138.name, by decide, Tryz.func138.trans (congrArg some (by kernel_rfl))⟩
  t0 := Tryz.underlying0
  a0 := Tryz.isAgg0
  z0 := Tryz.sizeOf0
  v0 := Tryz.zeroValue0
  t24 := Tryz.underlying101
  a24 := Tryz.isAgg101
  z24 := Tryz.sizeOf101
  v24 := Tryz.zeroValue101
  t26 := Tryz.underlying9
  a26 := Tryz.isAgg9
  z26 := Tryz.sizeOf9
  v26 := Tryz.zeroValue9
  t28 := Tryz.underlying159
  a28 := Tryz.isAgg159
  z28 := Tryz.sizeOf159
  v28 := Tryz.zeroValue159
  i26 := by kernel_rfl }
def it_sort131_ren : Go.Shelf.Ren := ⟨fun | 6 => 131 | 8 => 140 | 9 => 139 | 19 => 152 | 20 => 153 | 21 => 143 | 22 => 144 | 23 => 145 | 24 => 146 | 25 => 147 | 26 => 148 | 27 => 149 | 28 => 150 | 29 => 151 | 36 => 155 | 31 => 156 | 32 => 157 | 37 => 158 | 38 => 159 | 39 => 160 | 41 => 161 | n => n, fun | 27 => 101 | 29 => 9 | 3 => 3 | 32 => 121 | 26 => 101 | 0 => 0 | 44 => 130 | 46 => 120 | 4 => 4 | 36 => 188 | 35 => 187 | 41 => 92 | 5 => 5 | 9 => 9 | 53 => 197 | 57 => 201 | 63 => 203 | 64 => 204 | n => n, fun | n => n⟩
theorem it_sort131 : Go.Proofs.SlLaysM.n6 Tryz.prog it_sort131_ren := {
  mixed := by kernel_rfl
  f6 := ⟨Tryz.f131.name, by decide, Tryz.func131.trans (congrArg some (by kernel_rfl))⟩
  f8 := Tryz.func140.trans (congrArg some (by kernel_rfl))
  f9 := ⟨Tryz.f139.name, by decide, Tryz.func139.trans (congrArg some (by kernel_rfl))⟩
  f19 := Tryz.func152.trans (congrArg some (by kernel_rfl))
  f20 := Tryz.func153.trans (congrArg some (by kernel_rfl))
  f21 := ⟨Tryz.f143.name, by decide, Tryz.func143.trans (congrArg some (by kernel_rfl))⟩
  f22 := ⟨Tryz.f144.name, by decide, Tryz.func144.trans (congrArg some (by kernel_rfl))⟩
  f23 := ⟨Tryz.f145.name, by decide, Tryz.func145.trans (congrArg some (by kernel_rfl))⟩
  f24 := ⟨Tryz.f146.name, by decide, Tryz.func146.trans (congrArg some (by kernel_rfl))⟩
  f25 := ⟨Tryz.f147.name, by decide, Tryz.func147.trans (congrArg some (by kernel_rfl))⟩
  f26 := ⟨Tryz.f148.name, by decide, Tryz.func148.trans (congrArg some (by kernel_rfl))⟩
  f27 := ⟨Tryz.f149.name, by decide, Tryz.func149.trans (congrArg some (by kernel_rfl))⟩
  f28 := ⟨Tryz.f150.name, by decide, Tryz.func150.trans (congrArg some (by kernel_rfl))⟩
  f29 := ⟨Tryz.f151.name, by decide, Tryz.func151.trans (congrArg some (by kernel_rfl))⟩
  f31 := Tryz.func156.trans (congrArg some (by kernel_rfl))
  f32 := Tryz.func157.trans (congrArg some (by kernel_rfl))
  f36 := ⟨Tryz.f155.name, by decide, Tryz.func155.trans (congrArg some (by kernel_rfl))⟩
  f37 := ⟨Tryz.f158.name, by decide, Tryz.func158.trans (congrArg some (by kernel_rfl))⟩
  f38 := ⟨Tryz.f159.name, by decide, Tryz.func159.trans (congrArg some (by kernel_rfl))⟩
  f39 := ⟨Tryz.f160.name, by decide, Tryz.func160.trans (congrArg some (by kernel_rfl))⟩
  f41 := ⟨Tryz.f161.name, by decide, Tryz.func161.trans (congrArg some (by kernel_rfl))⟩
  t0 := Tryz.underlying0
  a0 := Tryz.isAgg0
  z0 := Tryz.sizeOf0
  v0 := Tryz.zeroValue0
  t3 := Tryz.underlying3
  a3 := Tryz.isAgg3
  z3 := Tryz.sizeOf3
  v3 := Tryz.zeroValue3
  t4 := Tryz.underlying4
  a4 := Tryz.isAgg4
  z4 := Tryz.sizeOf4
  v4 := Tryz.zeroValue4
  t5 := Tryz.underlying5
  a5 := Tryz.isAgg5
  z5 := Tryz.sizeOf5
  v5 := Tryz.zeroValue5
  t9 := Tryz.underlying9
  a9 := Tryz.isAgg9
  z9 := Tryz.sizeOf9
  v9 := Tryz.zeroValue9
  t26 := Tryz.underlying101
  a26 := Tryz.isAgg101
  z26 := Tryz.sizeOf101
  v26 := Tryz.zeroValue101
  t27 := Tryz.underlying101
  a27 := Tryz.isAgg101
  z27 := Tryz.sizeOf101
  v27 := Tryz.zeroValue101
  t29 := Tryz.underlying9
  a29 := Tryz.isAgg9
  z29 := Tryz.sizeOf9
  v29 := Tryz.zeroValue9
  t32 := Tryz.underlying121
  a32 := Tryz.isAgg121
  z32 := Tryz.sizeOf121
  v32 := Tryz.zeroValue121
  t35 := Tryz.underlying187
  a35 := Tryz.isAgg187
  z35 := Tryz.sizeOf187
  v35 := Tryz.zeroValue187
  t36 := Tryz.underlying188
  a36 := Tryz.isAgg188
  z36 := Tryz.sizeOf188
  v36 := Tryz.zeroValue188
  t41 := Tryz.underlying92
  a41 := Tryz.isAgg92
  z41 := Tryz.sizeOf92
  v41 := Tryz.zeroValue92
  t44 := Tryz.underlying130
  a44 := Tryz.isAgg130
  z44 := Tryz.sizeOf130
  v44 := Tryz.zeroValue130
  t46 := Tryz.underlying120
  a46 := Tryz.isAgg120
  z46 := Tryz.sizeOf120
  v46 := Tryz.zeroValue120
  t53 := Tryz.underlying197
  a53 := Tryz.isAgg197
  z53 := Tryz.sizeOf197
  v53 := Tryz.zeroValue197
  t57 := Tryz.underlying201
  a57 := Tryz.isAgg201
  z57 := Tryz.sizeOf201
  v57 := Tryz.zeroValue201
  t63 := Tryz.underlying203
  a63 := Tryz.isAgg203
  z63 := Tryz.sizeOf203
  v63 := Tryz.zeroValue203
  t64 := Tryz.underlying204
  a64 := Tryz.isAgg204
  z64 := Tryz.sizeOf204
  v64 := Tryz.zeroValue204 }
open Go.RowKit Go.Maps Go.Sort Go.Shelf


theorem it_sorts104 (m : Nat) : AnyZ.SortsIn Tryz.prog it_sorted104_ren Fence.wide m :=
  ⟨fun blk off cap ss W hH hblk hsz => callsIn_wide.2 (AnyM.slices_Sort_string it_sort131 blk off cap ss W hH hblk hsz),
   fun p cap W => callsIn_wide.2 (AnyM.slices_Sort_string_none it_sort131 p cap W)⟩

theorem it_maps_Keys_105 (mb : Option Nat) (W : World) : CallsIn Fence.wide 5 Tryz.prog 105 #[.map mb] W fun e w' => e = .returned (.func (.func 132) #[] #[.pointer (some ⟨W.heap.size, 0, none⟩)]) ∧ w' = W.alloc (.cells #[.map mb] 61) :=
  AnyZ.keys_in it_keys105 Fence.wide 5 trivial rfl mb W

set_option maxHeartbeats 1000000 in
theorem it_slices_Sorted_keys_104_105 {H : Type} (b nn : Nat) (D0 : DataW H) (R : Value → Option (DataW H × List MemPlace)) (w : World) (hown : w.ownsMap Tryz.prog 9 R b nn D0) (hmax : Maps.size D0 ≤ maxLen) (hbytes : Maps.size D0 * 16 ≤ 140737488355328) :
    CallsIn Fence.wide 5 Tryz.prog 104 #[.func (.func 132) #[] #[.pointer (some ⟨w.heap.size, 0, none⟩)]] (w.alloc (.cells #[.map (some b)] 61)) fun e w' => ∃ (v : Value) (ss : List (List UInt8)), e = .returned v ∧ ss.Perm (strKeys D0) ∧
      w'.ownsRow (w.alloc (.cells #[.map (some b)] 61)).heap.size 9 1 v ss.length ((ss.mergeSort (fun x y => decide (x ≤ y))).map encStr) ∧ (v = .slice none 0 0 ↔ ss = []) ∧ Below (w.alloc (.cells #[.map (some b)] 61)).heap.size (w.alloc (.cells #[.map (some b)] 61)) w' := by
  have hbl := hown.lt
  have hseq : SeqGives Fence.wide 2 Tryz.prog 132 #[.pointer (some ⟨w.heap.size, 0, none⟩)] encStr (fun ss => ss.Perm (strKeys D0)) (Maps.size D0) (w.alloc (.cells #[.map (some b)] 61)) :=
    AnyZ.keys_gives (ρ := it_keys105_ren) { it_keys105 with } Fence.wide _ trivial rfl (by omega) w.heap.size b nn D0 _ (by simp) (by simp) (by
      obtain ⟨es, clock, hb, Ft, hs, hD⟩ := hown
      exact ⟨es, clock, (Below.heap_alloc _ _ b hbl).trans hb, Ft, hs, hD⟩)
  exact AnyZ.sorted_in it_sorted104 Fence.wide 5 trivial trivial trivial trivial rfl (by omega) (it_sorts104 _) (enters_of Tryz.func131 (by kernel_rfl) rfl) 132 #[.pointer (some ⟨w.heap.size, 0, none⟩)] trivial (enters_of Tryz.func132 (by kernel_rfl) rfl) _ _ hmax hbytes _ hseq

set_option maxHeartbeats 1000000 in
theorem it_slices_Sorted_keys_nil_104_105 (w : World) :
    CallsIn Fence.wide 5 Tryz.prog 104 #[.func (.func 132) #[] #[.pointer (some ⟨w.heap.size, 0, none⟩)]] (w.alloc (.cells #[.map none] 61)) fun e w' => ∃ (v : Value) (ss : List (List UInt8)), e = .returned v ∧ ss = [] ∧
      w'.ownsRow (w.alloc (.cells #[.map none] 61)).heap.size 9 1 v ss.length ((ss.mergeSort (fun x y => decide (x ≤ y))).map encStr) ∧ (v = .slice none 0 0 ↔ ss = []) ∧ Below (w.alloc (.cells #[.map none] 61)).heap.size (w.alloc (.cells #[.map none] 61)) w' := by
  have hseq : SeqGives Fence.wide 2 Tryz.prog 132 #[.pointer (some ⟨w.heap.size, 0, none⟩)] encStr (fun ss : List (List UInt8) => ss = []) 0 (w.alloc (.cells #[.map none] 61)) :=
    AnyZ.keys_gives_nil (ρ := it_keys105_ren) { it_keys105 with } Fence.wide _ trivial rfl w.heap.size _ (by simp) (by simp)
  exact AnyZ.sorted_in it_sorted104 Fence.wide 5 trivial trivial trivial trivial rfl (by omega) (it_sorts104 _) (enters_of Tryz.func131 (by kernel_rfl) rfl) 132 #[.pointer (some ⟨w.heap.size, 0, none⟩)] trivial (enters_of Tryz.func132 (by kernel_rfl) rfl) _ 0 (Nat.zero_le _) (by omega) _ hseq



end Go.Proofs.YtejdkcnbflpfaaaGreat.B
