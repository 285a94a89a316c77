import Derived.Test.YtejdkcnbflpfaaaMg35
import Derived.Test.YtejdkcnbflpfaaaMg18
set_option linter.unusedVariables false
set_option linter.unusedSimpArgs false
set_option linter.unusedSectionVars false
set_option maxRecDepth 8000
/-! Opening the deeds of law15. -/
namespace Go.Proofs.Ytejdkcnbflpfaaa.B
open Go Go.Proofs Go.ChangeShapes Go.WideShapes Go.ChangeAt Go.RowKit
structure EntOk (d : Ent) : Prop where
  n : I64 d.n
  s : d.s.size ≤ maxLen
structure DeedJ where
  kind : Int
  epoch : Int
  lA : Option Addr
  l : List Ent
  lc : Nat
  xn : Int
  xs : ByteArray
  raw : ByteArray
  n : Int
  keepsA : Option Addr
  keeps : List Int
  keepsc : Nat
def djE : EncK DeedJ := ⟨fun d => [.int .i64 d.kind, .int .i64 d.epoch, .slice d.lA d.l.length d.lc, .int .i64 d.xn, .string d.xs, .string d.raw, .int .i64 d.n, .slice d.keepsA d.keeps.length d.keepsc], 8, fun _ => rfl, by decide, fun _ u hu => by
  simp only [List.mem_cons, List.not_mem_nil, or_false] at hu
  rcases hu with rfl | rfl | rfl | rfl | rfl | rfl | rfl | rfl <;> rfl⟩
structure DeedJOk (d : DeedJ) : Prop where
  kind : I64 d.kind
  epoch : I64 d.epoch
  l : (d.l.length ≤ d.lc ∧ d.lc ≤ maxLen) ∧ ∀ a ∈ d.l, EntOk a
  xn : I64 d.xn
  xs : d.xs.size ≤ maxLen
  raw : d.raw.size ≤ maxLen
  n : I64 d.n
  keeps : (d.keeps.length ≤ d.keepsc ∧ d.keepsc ≤ maxLen) ∧ ∀ a ∈ d.keeps, I64 a
structure DeedJRd (w : World) (d : DeedJ) : Prop where
  l : RdC w d.lA (flat entE d.l)
  keeps : RdC w d.keepsA (flat intE d.keeps)
section
variable {H : Type} {enc : TypeId × Value → H} {w : World} {sp : Nat → Bool} {held : Bool}
theorem open_EntC {fuel : Nat} {cs : List Value} {x : DataW H × List MemPlace} (hl : cs.length = 2) (h : DataW.trod enc Try.prog w 0 sp held fuel 24 cs = some x) :
    ∃ d : Ent, cs = entE.enc d ∧ EntOk d := by
  obtain ⟨c0, c1, rfl⟩ : ∃ c0 c1, cs = [c0, c1] := by
    match cs, hl with
    | [c0, c1], _ => exact ⟨c0, c1, rfl⟩
  obtain ⟨zs, m, _, hx, _, hzl, hz⟩ := DataW.trod_struct Try.underlying24 h
  have hzl' : zs.length = 2 := hzl
  obtain ⟨z_0, e_0⟩ : ∃ z, zs[0]? = some z := ⟨zs[0]'(by omega), List.getElem?_eq_getElem (by omega)⟩
  have h_0 : DataW.trod enc Try.prog w 0 sp held m 3 (([c0, c1].drop 0).take (Try.prog.cellsOf 3)) = zs[0]? := hz 0 _ rfl
  rw [show Try.prog.cellsOf 3 = 1 from by kernel_rfl, e_0] at h_0
  simp only [List.drop_zero, List.take_succ_cons, List.take_zero, List.drop_succ_cons] at h_0
  obtain ⟨v_0, k_0, _, w_0⟩ := DataW.trod_int Try.underlying3 h_0
  simp only [List.cons.injEq, and_true] at k_0
  obtain ⟨z_1, e_1⟩ : ∃ z, zs[1]? = some z := ⟨zs[1]'(by omega), List.getElem?_eq_getElem (by omega)⟩
  have h_1 : DataW.trod enc Try.prog w 0 sp held m 9 (([c0, c1].drop 1).take (Try.prog.cellsOf 9)) = zs[1]? := hz 1 _ rfl
  rw [show Try.prog.cellsOf 9 = 1 from by kernel_rfl, e_1] at h_1
  simp only [List.drop_zero, List.take_succ_cons, List.take_zero, List.drop_succ_cons] at h_1
  obtain ⟨v_1, k_1, _, w_1⟩ := DataW.trod_string Try.underlying9 h_1
  simp only [List.cons.injEq, and_true] at k_1
  subst k_0 k_1
  exact ⟨⟨v_0, v_1⟩, rfl, ⟨wf_i64 w_0, w_1⟩⟩
theorem open_DeedJC {fuel : Nat} {cs : List Value} {x : DataW H × List MemPlace} (hl : cs.length = 8) (h : DataW.trod enc Try.prog w 0 sp held fuel 45 cs = some x) :
    ∃ d : DeedJ, cs = djE.enc d ∧ DeedJOk d ∧ DeedJRd w d := by
  obtain ⟨c0, c1, c2, c3, c4, c5, c6, c7, rfl⟩ : ∃ c0 c1 c2 c3 c4 c5 c6 c7, cs = [c0, c1, c2, c3, c4, c5, c6, c7] := by
    match cs, hl with
    | [c0, c1, c2, c3, c4, c5, c6, c7], _ => exact ⟨c0, c1, c2, c3, c4, c5, c6, c7, rfl⟩
  obtain ⟨zs, m, _, hx, _, hzl, hz⟩ := DataW.trod_struct Try.underlying45 h
  have hzl' : zs.length = 7 := hzl
  obtain ⟨z_0, e_0⟩ : ∃ z, zs[0]? = some z := ⟨zs[0]'(by omega), List.getElem?_eq_getElem (by omega)⟩
  have h_0 : DataW.trod enc Try.prog w 0 sp held m 3 (([c0, c1, c2, c3, c4, c5, c6, c7].drop 0).take (Try.prog.cellsOf 3)) = zs[0]? := hz 0 _ rfl
  rw [show Try.prog.cellsOf 3 = 1 from by kernel_rfl, e_0] at h_0
  simp only [List.drop_zero, List.take_succ_cons, List.take_zero, List.drop_succ_cons] at h_0
  obtain ⟨v_0, k_0, _, w_0⟩ := DataW.trod_int Try.underlying3 h_0
  simp only [List.cons.injEq, and_true] at k_0
  obtain ⟨z_1, e_1⟩ : ∃ z, zs[1]? = some z := ⟨zs[1]'(by omega), List.getElem?_eq_getElem (by omega)⟩
  have h_1 : DataW.trod enc Try.prog w 0 sp held m 3 (([c0, c1, c2, c3, c4, c5, c6, c7].drop 1).take (Try.prog.cellsOf 3)) = zs[1]? := hz 1 _ rfl
  rw [show Try.prog.cellsOf 3 = 1 from by kernel_rfl, e_1] at h_1
  simp only [List.drop_zero, List.take_succ_cons, List.take_zero, List.drop_succ_cons] at h_1
  obtain ⟨v_1, k_1, _, w_1⟩ := DataW.trod_int Try.underlying3 h_1
  simp only [List.cons.injEq, and_true] at k_1
  obtain ⟨z_2, e_2⟩ : ∃ z, zs[2]? = some z := ⟨zs[2]'(by omega), List.getElem?_eq_getElem (by omega)⟩
  have h_2 : DataW.trod enc Try.prog w 0 sp held m 22 (([c0, c1, c2, c3, c4, c5, c6, c7].drop 2).take (Try.prog.cellsOf 22)) = zs[2]? := hz 2 _ rfl
  rw [show Try.prog.cellsOf 22 = 1 from by kernel_rfl, e_2] at h_2
  simp only [List.drop_zero, List.take_succ_cons, List.take_zero, List.drop_succ_cons] at h_2
  obtain ⟨A_2, k_2, cc_2, x_2, v_2, hk_2, hc_2, hm_2, R_2, I_2, _⟩ := open_slcG entE (fun a _ => EntOk a) Try.underlying22 (by kernel_rfl) (fun {fuel cs x} hl h => open_EntC hl h) h_2
  obtain ⟨z_3, e_3⟩ : ∃ z, zs[3]? = some z := ⟨zs[3]'(by omega), List.getElem?_eq_getElem (by omega)⟩
  have h_3 : DataW.trod enc Try.prog w 0 sp held m 24 (([c0, c1, c2, c3, c4, c5, c6, c7].drop 3).take (Try.prog.cellsOf 24)) = zs[3]? := hz 3 _ rfl
  rw [show Try.prog.cellsOf 24 = 2 from by kernel_rfl, e_3] at h_3
  simp only [List.drop_zero, List.take_succ_cons, List.take_zero, List.drop_succ_cons] at h_3
  obtain ⟨zs_3, m_3, _, hx_3, _, hzl_3, hz_3⟩ := DataW.trod_struct Try.underlying24 h_3
  have hzl'_3 : zs_3.length = 2 := hzl_3
  obtain ⟨z_3_0, e_3_0⟩ : ∃ z, zs_3[0]? = some z := ⟨zs_3[0]'(by omega), List.getElem?_eq_getElem (by omega)⟩
  have h_3_0 : DataW.trod enc Try.prog w 0 sp held m_3 3 (([c3, c4].drop 0).take (Try.prog.cellsOf 3)) = zs_3[0]? := hz_3 0 _ rfl
  rw [show Try.prog.cellsOf 3 = 1 from by kernel_rfl, e_3_0] at h_3_0
  simp only [List.drop_zero, List.take_succ_cons, List.take_zero, List.drop_succ_cons] at h_3_0
  obtain ⟨v_3_0, k_3_0, _, w_3_0⟩ := DataW.trod_int Try.underlying3 h_3_0
  simp only [List.cons.injEq, and_true] at k_3_0
  obtain ⟨z_3_1, e_3_1⟩ : ∃ z, zs_3[1]? = some z := ⟨zs_3[1]'(by omega), List.getElem?_eq_getElem (by omega)⟩
  have h_3_1 : DataW.trod enc Try.prog w 0 sp held m_3 9 (([c3, c4].drop 1).take (Try.prog.cellsOf 9)) = zs_3[1]? := hz_3 1 _ rfl
  rw [show Try.prog.cellsOf 9 = 1 from by kernel_rfl, e_3_1] at h_3_1
  simp only [List.drop_zero, List.take_succ_cons, List.take_zero, List.drop_succ_cons] at h_3_1
  obtain ⟨v_3_1, k_3_1, _, w_3_1⟩ := DataW.trod_string Try.underlying9 h_3_1
  simp only [List.cons.injEq, and_true] at k_3_1
  obtain ⟨z_4, e_4⟩ : ∃ z, zs[4]? = some z := ⟨zs[4]'(by omega), List.getElem?_eq_getElem (by omega)⟩
  have h_4 : DataW.trod enc Try.prog w 0 sp held m 9 (([c0, c1, c2, c3, c4, c5, c6, c7].drop 5).take (Try.prog.cellsOf 9)) = zs[4]? := hz 4 _ rfl
  rw [show Try.prog.cellsOf 9 = 1 from by kernel_rfl, e_4] at h_4
  simp only [List.drop_zero, List.take_succ_cons, List.take_zero, List.drop_succ_cons] at h_4
  obtain ⟨v_4, k_4, _, w_4⟩ := DataW.trod_string Try.underlying9 h_4
  simp only [List.cons.injEq, and_true] at k_4
  obtain ⟨z_5, e_5⟩ : ∃ z, zs[5]? = some z := ⟨zs[5]'(by omega), List.getElem?_eq_getElem (by omega)⟩
  have h_5 : DataW.trod enc Try.prog w 0 sp held m 3 (([c0, c1, c2, c3, c4, c5, c6, c7].drop 6).take (Try.prog.cellsOf 3)) = zs[5]? := hz 5 _ rfl
  rw [show Try.prog.cellsOf 3 = 1 from by kernel_rfl, e_5] at h_5
  simp only [List.drop_zero, List.take_succ_cons, List.take_zero, List.drop_succ_cons] at h_5
  obtain ⟨v_5, k_5, _, w_5⟩ := DataW.trod_int Try.underlying3 h_5
  simp only [List.cons.injEq, and_true] at k_5
  obtain ⟨z_6, e_6⟩ : ∃ z, zs[6]? = some z := ⟨zs[6]'(by omega), List.getElem?_eq_getElem (by omega)⟩
  have h_6 : DataW.trod enc Try.prog w 0 sp held m 43 (([c0, c1, c2, c3, c4, c5, c6, c7].drop 7).take (Try.prog.cellsOf 43)) = zs[6]? := hz 6 _ rfl
  rw [show Try.prog.cellsOf 43 = 1 from by kernel_rfl, e_6] at h_6
  simp only [List.drop_zero, List.take_succ_cons, List.take_zero, List.drop_succ_cons] at h_6
  obtain ⟨A_6, k_6, cc_6, x_6, v_6, hk_6, hc_6, hm_6, R_6, I_6, _⟩ := open_slcG intE (fun a _ => I64 a) Try.underlying43 (by kernel_rfl) (fun {fuel cs x} hl h => by
    obtain ⟨n, rfl, _, hw⟩ := DataW.trod_int Try.underlying3 h
    exact ⟨n, rfl, wf_i64 hw⟩) h_6
  subst k_0 k_1 v_2 hk_2 k_3_0 k_3_1 k_4 k_5 v_6 hk_6
  exact ⟨⟨v_0, v_1, A_2, x_2, cc_2, v_3_0, v_3_1, v_4, v_5, A_6, x_6, cc_6⟩, rfl, ⟨wf_i64 w_0, wf_i64 w_1, ⟨⟨hc_2, hm_2⟩, fun a ha => (I_2 a ha).choose_spec.1⟩, wf_i64 w_3_0, w_3_1, w_4, wf_i64 w_5, ⟨⟨hc_6, hm_6⟩, fun a ha => (I_6 a ha).choose_spec.1⟩⟩, ⟨R_2, R_6⟩⟩
theorem open_DeedJs {base : Nat} {r : Reach} {v : Value} {d : DataW H} {ps : List MemPlace} (hval : Value.okWide Try.prog w r base 42 v) (h : DataW.Trod enc Try.prog w 0 sp held 42 v d ps) :
    ∃ A k c ls, v = .slice A k c ∧ k = ls.length ∧ k ≤ c ∧ c ≤ maxLen ∧ RdC w A (flat djE ls) ∧ ∀ l ∈ ls, DeedJOk l ∧ DeedJRd w l := by
  obtain ⟨A, k, c, rfl⟩ := okWide_slice Try.underlying42 hval
  obtain ⟨fuel, hf⟩ := h
  obtain ⟨A', k', c', ls, h1, h2, h3, h4, h5, h6, _⟩ := open_slcG djE (fun l _ => DeedJOk l ∧ DeedJRd w l) Try.underlying42 (by kernel_rfl) (fun {fuel cs x} hl h => open_DeedJC hl h) (v := .slice A k c) hf
  exact ⟨A', k', c', ls, h1, h2, h3, h4, h5, fun l hl => (h6 l hl).choose_spec.1⟩
end
end Go.Proofs.Ytejdkcnbflpfaaa.B

set_option linter.unusedVariables false
set_option linter.unusedSimpArgs false
set_option maxRecDepth 8000
/-! JournalCopies: the walk. -/
namespace Go.Proofs.Ytejdkcnbflpfaaa.B
open Go Go.Proofs
attribute [local irreducible] WL CS QS WQ WH WS Fn Op1 row Sat
attribute [local irreducible] slc diskA jA

theorem askd (u : DeedJ) (hu : DeedJOk u) (W0 : World) (G : List SL) (hR : Rd W0 G entE u.lA u.l) :
    Fn Try.prog 19 [deedV u.kind u.epoch u.lA u.l.length u.lc ⟨u.xn, u.xs⟩ u.raw u.n u.keepsA u.keeps.length u.keepsc] W0 G
      (Ret fun v G' => v = .string (askM u.kind u.epoch u.l ⟨u.xn, u.xs⟩ u.raw) ∧ G' = G) :=
  law_asked u.kind u.epoch u.lA _ u.lc u.l ⟨u.xn, u.xs⟩ u.raw u.n u.keepsA _ u.keepsc hu.kind hu.epoch rfl (by have := hu.l.1; unfold maxLen at this; omega) W0 G hR
theorem askd_size (u : DeedJ) (hu : DeedJOk u) : (askM u.kind u.epoch u.l ⟨u.xn, u.xs⟩ u.raw).size ≤ 9223372036854775807 := ask_size hu.epoch (by have := hu.raw; unfold maxLen at this; omega)
set_option maxHeartbeats 8000000 in
theorem law_JournalCopies (A : Option Addr) (k c : Nat) (ls : List DeedJ) (hk : k = ls.length) (hL : ∀ x ∈ ls, DeedJOk x) (ep : Int) (hep : I64 ep) (W0 : World) (G : List SL) (hR : Rd W0 G djE A ls) (hR2 : ∀ x ∈ ls, Rd W0 G entE x.lA x.l) :
    Fn Try.prog 5 [.slice A k c, .int .i64 ep] W0 G (Ret fun v G' => v = .bool true ∧ G' = G) := by
  subst hk
  have sz : ∀ {l : List ByteArray}, joinOk l = true → (mk (joinB l)).size ≤ 9223372036854775807 := fun h => by rw [mk_size]; have := joinB_len h; omega
  have ok0 : DiskOk (jD 400000 jn0) := jD_ok (by decide) (by decide)
  refine Fn.enter Try.func5 rfl Try.ntmps5 rfl ?_
  repeat' (first|refine bk ?_|refine bkc ?_|refine bks ?_|refine bkd ?_|refine bkq (fun q => ?_)|(refine bk2 ?_ ?_<;>(first|exact bkn|(refine bkk ?_;intro h))))
  refine WL.call c6 rfl rfl rfl rfl (law_examples W0 G) ?_
  rintro _ G2 ⟨rfl, hG2⟩
  rw [hG2]; clear hG2 G2
  repeat' (first|refine bk ?_|refine bkc ?_|refine bks ?_|refine bkd ?_|refine bkq (fun q => ?_)|(refine bk2 ?_ ?_<;>(first|exact bkn|(refine bkk ?_;intro h))))
  refine WL.call c17 rfl rfl rfl rfl (disk_New 400000 W0 _) ?_
  rintro _ _ ⟨d1, rfl, rfl⟩
  repeat' (first|refine bk ?_|refine bkc ?_|refine bks ?_|refine bkd ?_|refine bkq (fun q => ?_)|(refine bk2 ?_ ?_<;>(first|exact bkn|(refine bkk ?_;intro h))))
  refine WL.call c16 rfl rfl rfl rfl (open_fresh d1 400000 (by decide) (by decide) W0 _) ?_
  rintro _ _ ⟨b1, rfl, rfl⟩
  repeat' (first|refine bk ?_|refine bkc ?_|refine bks ?_|refine bkd ?_|refine bkq (fun q => ?_)|(refine bk2 ?_ ?_<;>(first|exact bkn|(refine bkk ?_;intro h))))
  refine WL.call c17 rfl rfl rfl rfl (disk_New 400000 W0 _) ?_
  rintro _ _ ⟨d2, rfl, rfl⟩
  repeat' (first|refine bk ?_|refine bkc ?_|refine bks ?_|refine bkd ?_|refine bkq (fun q => ?_)|(refine bk2 ?_ ?_<;>(first|exact bkn|(refine bkk ?_;intro h))))
  refine WL.call c16 rfl rfl rfl rfl (open_fresh d2 400000 (by decide) (by decide) W0 _) ?_
  rintro _ _ ⟨b2, rfl, rfl⟩
  repeat' (first|refine bk ?_|refine bkc ?_|refine bks ?_|refine bkd ?_|refine bkq (fun q => ?_)|(refine bk2 ?_ ?_<;>(first|exact bkn|(refine bkk ?_;intro h))))
  refine CS.loop (X := Jn × Nat) (fun y => [(0, .slice A ls.length c), (1, .int .i64 ep), (5, .bool true), (6, .pointer (some ⟨b1, 0, none⟩)), (8, .pointer (some ⟨b2, 0, none⟩)), (10, .int .i64 (y.2 : Int))])
    (fun y => jA b1 d1 y.1 :: diskA d1 (jD 400000 y.1) :: jA b2 d2 jn0 :: diskA d2 (jD 400000 jn0) :: G) (fun y => JWell y.1 ∧ DiskOk (jD 400000 y.1) ∧ y.2 ≤ ls.length) (fun y => ls.length - y.2) (jn0, 0) ⟨rfl, rfl, rfl, rfl, rfl, rfl, trivial⟩ (fun w hs => (hs.front (i := 3) rfl).front (i := 3) rfl) ⟨well0, ok0, Nat.zero_le _⟩ ?_
  rintro ⟨J, i⟩ ⟨hJ, hD, hi⟩
  simp only at hJ hD hi ⊢
  repeat' (first|refine bk ?_|refine bkc ?_|refine bks ?_|refine bkd ?_|refine bkq (fun q => ?_)|(refine bk2 ?_ ?_<;>(first|exact bkn|(refine bkk ?_;intro h))))
  · obtain ⟨u, hu⟩ : ∃ x, ls[i]? = some x := ⟨ls[i]'(by omega), List.getElem?_eq_getElem (by omega)⟩
    have hum := List.mem_of_getElem? hu
    have huo := hL u hum
    refine WL.idx TT hR.cons.cons.cons.cons rfl rfl rfl (by omega) (by rw [Int.toNat_natCast]; exact hu) rfl rfl rfl rfl (fun bb o hA => ?_)
    refine WL.s (op1_at TT hA rfl rfl rfl rfl) rfl ?_
    repeat' (first|refine bk ?_|refine bkc ?_|refine bks ?_|refine bkd ?_|refine bkq (fun q => ?_)|(refine bk2 ?_ ?_<;>(first|exact bkn|(refine bkk ?_;intro h))))
    refine WL.call c19 rfl rfl rfl rfl (askd u huo W0 _ (hR2 u hum).cons.cons.cons.cons) ?_
    rintro _ G2 ⟨rfl, hG2⟩
    rw [hG2]; clear hG2 G2
    repeat' (first|refine bk ?_|refine bkc ?_|refine bks ?_|refine bkd ?_|refine bkq (fun q => ?_)|(refine bk2 ?_ ?_<;>(first|exact bkn|(refine bkk ?_;intro h))))
    have hq := askd_size u huo
    generalize askM u.kind u.epoch u.l ⟨u.xn, u.xs⟩ u.raw = s at hq ⊢
    have hok := hand_jok hJ.ok hD (bs s)
    obtain ⟨a, J', h1, h2⟩ := hand_well hJ (bs s)
    have hc := j_Handle b1 d1 J hJ.ok _ hD s hq W0 (jA b2 d2 jn0 :: diskA d2 (jD 400000 jn0) :: G)
    rw [h1] at hc hok
    refine WL.call c18 rfl rfl rfl rfl hc ?_
    clear hc
    rintro _ _ ⟨rfl, rfl⟩
    repeat' (first|refine bk ?_|refine bkc ?_|refine bks ?_|refine bkd ?_|refine bkq (fun q => ?_)|(refine bk2 ?_ ?_<;>(first|exact bkn|(refine bkk ?_;intro h))))
    refine QS.again (J', i + 1) ⟨h2, hok.2, by simp only; omega⟩ (by simp only; omega) ⟨rfl, rfl, rfl, rfl, rfl, ?_, trivial⟩ (fun w hs => hs)
    rw [show ((i + 1 : Nat) : Int) = (i : Int) + 1 from by omega]; rfl
  all_goals
    refine WL.call c14 rfl rfl rfl rfl (j_Promise ep hep W0 _) ?_
    rintro _ G2 ⟨rfl, hG2⟩
    rw [hG2]; clear hG2 G2
    repeat' (first|refine bk ?_|refine bkc ?_|refine bks ?_|refine bkd ?_|refine bkq (fun q => ?_)|(refine bk2 ?_ ?_<;>(first|exact bkn|(refine bkk ?_;intro h))))
    have hc := j_Handle b1 d1 J hJ.ok _ hD (mk (joinB (promL ep))) (sz (promL_ok hep)) W0 (jA b2 d2 jn0 :: diskA d2 (jD 400000 jn0) :: G)
    have hok := hand_jok hJ.ok hD (joinB (promL ep))
    rw [bs_mk] at hc
    by_cases h1 : (1 ≤ ep ∧ ep ≤ 9007199254740991) ∧ J.p < ep
    · obtain ⟨h1, h2⟩ := h1
      rw [hand_promW hJ hep, if_pos h1, if_pos h2] at hc hok
      simp only [hJ.alive] at hc hok
      refine WL.call c18 rfl rfl rfl rfl hc ?_
      clear hc
      rintro _ _ ⟨rfl, rfl⟩
      repeat' (first|refine bk ?_|refine bkc ?_|refine bks ?_|refine bkd ?_|refine bkq (fun q => ?_)|(refine bk2 ?_ ?_<;>(first|exact bkn|(refine bkk ?_;intro h))))
      have hlog : logOk ep J.xs = true := by
        obtain ⟨⟨l1, l2, l3⟩, l4⟩ := logOk_iff.1 hJ.ok.log
        exact logOk_iff.2 ⟨⟨by omega, h1.2, l3⟩, l4⟩
      have hxl := hJ.ok.len
      have hc := j_Told (mk (toldB J.e J.xs)) (sz (toldL_ok J.e J.xs)) W0 (jA b1 d1 ⟨ep, J.e, J.xs, false⟩ :: diskA d1 (jD 400000 ⟨ep, J.e, J.xs, false⟩) :: jA b2 d2 jn0 :: diskA d2 (jD 400000 jn0) :: G)
      rw [bs_mk, told_told hJ.ok.log] at hc
      simp only at hc
      refine WL.call c11 rfl rfl rfl rfl hc ?_
      clear hc
      rintro _ _ ⟨A1, c1, rfl, rfl⟩
      repeat' (first|refine bk ?_|refine bkc ?_|refine bks ?_|refine bkd ?_|refine bkq (fun q => ?_)|(refine bk2 ?_ ?_<;>(first|exact bkn|(refine bkk ?_;intro h))))
      revert q; intro q1
      have hc := j_Accept ep hep A1 J.xs.length c1 J.xs rfl (by omega) W0 (row q1 34 [.int .i64 J.e, .slice A1 J.xs.length c1] :: slc entE 24 A1 c1 J.xs :: jA b1 d1 ⟨ep, J.e, J.xs, false⟩ :: diskA d1 (jD 400000 ⟨ep, J.e, J.xs, false⟩) :: jA b2 d2 jn0 :: diskA d2 (jD 400000 jn0) :: G) (Rd.slc (i := 1) rfl)
      rw [if_pos hlog] at hc
      refine WL.call c7 rfl rfl rfl rfl hc ?_
      clear hc
      rintro _ G2 ⟨rfl, hG2⟩
      rw [hG2]; clear hG2 G2
      repeat' (first|refine bk ?_|refine bkc ?_|refine bks ?_|refine bkd ?_|refine bkq (fun q => ?_)|(refine bk2 ?_ ?_<;>(first|exact bkn|(refine bkk ?_;intro h))))
      have hc := j_Handle b2 d2 jn0 well0.ok _ ok0 (mk (joinB (accL ep J.xs))) (sz (accL_ok hlog)) W0 (row q1 34 [.int .i64 J.e, .slice A1 J.xs.length c1] :: slc entE 24 A1 c1 J.xs :: jA b1 d1 ⟨ep, J.e, J.xs, false⟩ :: diskA d1 (jD 400000 ⟨ep, J.e, J.xs, false⟩) :: G)
      rw [bs_mk, hand_accW hlog h1.1] at hc
      simp only at hc
      refine WL.call c18 rfl rfl rfl rfl (hc.pre (fun w hs => (hs.front (i := 5) rfl).front (i := 5) rfl)) ?_
      clear hc
      rintro _ _ ⟨rfl, rfl⟩
      repeat' (first|refine bk ?_|refine bkc ?_|refine bks ?_|refine bkd ?_|refine bkq (fun q => ?_)|(refine bk2 ?_ ?_<;>(first|exact bkn|(refine bkk ?_;intro h))))
      have hc := law_said (mk (saidB 0)) (sz (saidL_ok (by unfold I64; decide))) W0 (jA b2 d2 ⟨ep, ep, J.xs, false⟩ :: diskA d2 (jD 400000 ⟨ep, ep, J.xs, false⟩) :: row q1 34 [.int .i64 J.e, .slice A1 J.xs.length c1] :: slc entE 24 A1 c1 J.xs :: jA b1 d1 ⟨ep, J.e, J.xs, false⟩ :: diskA d1 (jD 400000 ⟨ep, J.e, J.xs, false⟩) :: G)
      rw [bs_mk, told_said (by decide) (by decide)] at hc
      simp only at hc
      refine WL.call c23 rfl rfl rfl rfl hc ?_
      clear hc
      rintro _ G2 ⟨rfl, hG2⟩
      rw [hG2]; clear hG2 G2
      repeat' (first|refine bk ?_|refine bkc ?_|refine bks ?_|refine bkd ?_|refine bkq (fun q => ?_)|(refine bk2 ?_ ?_<;>(first|exact bkn|(refine bkk ?_;intro h))))
      have hc := j_Log b1 d1 ⟨ep, J.e, J.xs, false⟩ (by simp only; omega) W0 (jA b2 d2 ⟨ep, ep, J.xs, false⟩ :: diskA d2 (jD 400000 ⟨ep, ep, J.xs, false⟩) :: row q1 34 [.int .i64 J.e, .slice A1 J.xs.length c1] :: slc entE 24 A1 c1 J.xs :: diskA d1 (jD 400000 ⟨ep, J.e, J.xs, false⟩) :: G)
      simp only [Bool.false_eq_true, if_false] at hc
      refine WL.call c20 rfl rfl rfl rfl (hc.pre (fun w hs => hs.front (i := 4) rfl)) ?_
      clear hc
      rintro _ _ ⟨A2, c2, rfl, rfl⟩
      repeat' (first|refine bk ?_|refine bkc ?_|refine bks ?_|refine bkd ?_|refine bkq (fun q => ?_)|(refine bk2 ?_ ?_<;>(first|exact bkn|(refine bkk ?_;intro h))))
      revert q; intro q2
      have hc := j_Log b2 d2 ⟨ep, ep, J.xs, false⟩ (by simp only; omega) W0 (row q2 34 [.int .i64 J.e, .slice A2 J.xs.length c2] :: slc entE 24 A2 c2 J.xs :: jA b1 d1 ⟨ep, J.e, J.xs, false⟩ :: diskA d2 (jD 400000 ⟨ep, ep, J.xs, false⟩) :: row q1 34 [.int .i64 J.e, .slice A1 J.xs.length c1] :: slc entE 24 A1 c1 J.xs :: diskA d1 (jD 400000 ⟨ep, J.e, J.xs, false⟩) :: G)
      simp only [Bool.false_eq_true, if_false] at hc
      refine WL.call c20 rfl rfl rfl rfl (hc.pre (fun w hs => hs.front (i := 3) rfl)) ?_
      clear hc
      rintro _ _ ⟨A3, c3, rfl, rfl⟩
      repeat' (first|refine bk ?_|refine bkc ?_|refine bks ?_|refine bkd ?_|refine bkq (fun q => ?_)|(refine bk2 ?_ ?_<;>(first|exact bkn|(refine bkk ?_;intro h))))
      revert q; intro q3
      refine WL.call c22 rfl rfl rfl rfl (law_begins A2 A3 J.xs.length c2 J.xs.length c3 J.xs J.xs rfl rfl (by omega) (by omega) W0 _ (Rd.slc (i := 4) rfl) (Rd.slc (i := 1) rfl)) ?_
      rintro _ G2 ⟨rfl, hG2⟩
      rw [hG2]; clear hG2 G2
      rw [beg_refl]
      repeat' (first|refine bk ?_|refine bkc ?_|refine bks ?_|refine bkd ?_|refine bkq (fun q => ?_)|(refine bk2 ?_ ?_<;>(first|exact bkn|(refine bkk ?_;intro h))))
      refine WL.call c21 rfl rfl rfl rfl ((j_Promised b2 d2 ⟨ep, ep, J.xs, false⟩ W0 _).pre (fun w hs => hs.front (i := 2) rfl)) ?_
      simp only [Bool.false_eq_true, if_false]
      rintro _ G2 ⟨rfl, hG2⟩
      rw [hG2]; clear hG2 G2
      repeat' (first|refine bk ?_|refine bkc ?_|refine bks ?_|refine bkd ?_|refine bkq (fun q => ?_)|(refine bk2 ?_ ?_<;>(first|exact bkn|(refine bkk ?_;intro h))))
      all_goals first
        | exact absurd trivial (by assumption)
        | exact QS.turn (G' := G) (fun w hs => hs.drop.drop.drop.drop.drop.drop.drop.drop.drop.drop) (QS.retV Try.results5 rfl ⟨congrArg Value.bool (decide_eq_true rfl), rfl⟩)
    · obtain ⟨e, he0, he1, hh, hcond⟩ : ∃ e : Int, (0 ≤ e ∧ e ≤ 14) ∧ e ≠ 0 ∧ handJ J (jD 400000 J) (joinB (promL ep)) = (saidB e, J, jD 400000 J) ∧ (ep ≤ J.p ∨ 9007199254740991 < ep) := by
        rw [hand_promW hJ hep]
        have hp0 := hJ.ok.p0
        by_cases h2 : 1 ≤ ep ∧ ep ≤ 9007199254740991
        · exact ⟨10, by decide, by decide, by rw [if_pos h2, if_neg (fun h => h1 ⟨h2, h⟩)], .inl (by have : ¬ J.p < ep := fun h => h1 ⟨h2, h⟩; omega)⟩
        · exact ⟨2, by decide, by decide, by rw [if_neg h2], by omega⟩
      rw [hh] at hc
      simp only at hc
      refine WL.call c18 rfl rfl rfl rfl hc ?_
      clear hc
      rintro _ _ ⟨rfl, rfl⟩
      repeat' (first|refine bk ?_|refine bkc ?_|refine bks ?_|refine bkd ?_|refine bkq (fun q => ?_)|(refine bk2 ?_ ?_<;>(first|exact bkn|(refine bkk ?_;intro h))))
      have hc := j_Told (mk (saidB e)) (sz (saidL_ok (by unfold I64; omega))) W0 (jA b1 d1 J :: diskA d1 (jD 400000 J) :: jA b2 d2 jn0 :: diskA d2 (jD 400000 jn0) :: G)
      rw [bs_mk, told_said he0.1 he0.2] at hc
      simp only at hc
      refine WL.call c11 rfl rfl rfl rfl hc ?_
      clear hc
      rintro _ _ ⟨A1, c1, rfl, rfl⟩
      repeat' (first|refine bk ?_|refine bkc ?_|refine bks ?_|refine bkd ?_|refine bkq (fun q => ?_)|(refine bk2 ?_ ?_<;>(first|exact bkn|(refine bkk ?_;intro h))))
      revert q; intro q1
      have hc := j_Promised b1 d1 J W0 (row q1 34 [.int .i64 0, .slice A1 0 c1] :: slc entE 24 A1 c1 ([] : List Ent) :: diskA d1 (jD 400000 J) :: jA b2 d2 jn0 :: diskA d2 (jD 400000 jn0) :: G)
      simp only [hJ.alive, Bool.false_eq_true, if_false] at hc
      refine WL.call c21 rfl rfl rfl rfl (hc.pre (fun w hs => hs.front (i := 2) rfl)) ?_
      clear hc
      rintro _ G2 ⟨rfl, hG2⟩
      rw [hG2]; clear hG2 G2
      by_cases h3 : ep ≤ J.p
      · repeat' (first|refine bk ?_|refine bkc ?_|refine bks ?_|refine bkd ?_|refine bkq (fun q => ?_)|(refine bk2 ?_ ?_<;>(first|exact bkn|(refine bkk ?_;intro h))))
        all_goals first
          | exact absurd h3 (by assumption)
          | exact QS.turn (G' := G) (fun w hs => hs.drop.drop.drop.drop.drop.drop) (QS.retV Try.results5 rfl ⟨rfl, rfl⟩)
      · have h4 : 9007199254740991 < ep := hcond.elim (fun h => absurd h h3) id
        repeat' (first|refine bk ?_|refine bkc ?_|refine bks ?_|refine bkd ?_|refine bkq (fun q => ?_)|(refine bk2 ?_ ?_<;>(first|exact bkn|(refine bkk ?_;intro h))))
        all_goals first
          | exact absurd (by assumption) h3
          | exact QS.turn (G' := G) (fun w hs => hs.drop.drop.drop.drop.drop.drop) (QS.retV Try.results5 rfl ⟨congrArg Value.bool (decide_eq_true h4), rfl⟩)
end Go.Proofs.Ytejdkcnbflpfaaa.B
