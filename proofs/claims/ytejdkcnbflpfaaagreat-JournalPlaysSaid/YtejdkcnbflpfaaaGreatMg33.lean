import Derived.Test.YtejdkcnbflpfaaaGreatMg30
import Derived.Test.YtejdkcnbflpfaaaGreatMg31
set_option linter.unusedVariables false
set_option linter.unusedSimpArgs false
set_option linter.unusedSectionVars false
set_option maxRecDepth 8000
/-! What the document's disk does with its blocks: the rest. -/
namespace Go.Proofs.YtejdkcnbflpfaaaGreat.B
open Go Go.Proofs
attribute [local irreducible] WL CS QS WQ WH WS Fn Op1 row Sat
attribute [local irreducible] refA slc

set_option maxHeartbeats 1000000 in
theorem rdisk_out (b : Nat) (A : Option Addr) (c : Nat) (R : RDisk) (hl : R.files.length ≤ 1000) (i : Nat) (hi : i < R.files.length) (W0 : World) (F : List SL) :
    Fn Tryz.prog 137 [.pointer (some ⟨b, 0, none⟩), .int .i64 i] W0 (row b 66 (refCells A c R) :: slc rfE 73 A c R.files :: F)
      (Ret fun v G' => v = .tuple #[] ∧ G' = refA b { R with files := R.files.eraseIdx i } :: F) := by
  refine Fn.fact (slc_cap (i := 1) rfl) (fun hcap => ?_)
  refine Fn.enter Tryz.func137 rfl Tryz.ntmps137 rfl ?_
  simp only [refCells]
  repeat' (first|refine bk ?_|refine bkc ?_|refine bks ?_|refine bkd ?_|refine bkq (fun q => ?_)|(refine bk2 ?_ ?_<;>(first|exact bkn|(refine bkk ?_;intro h))))
  refine WL.s (op1_sliceS (E := rfE) (xs := R.files) (l := 0) (r := (i : Int)) TT (by rfl) (by rfl) rfl rfl rfl rfl rfl (by omega) hcap) rfl ?_
  simp only [Int.toNat_zero, Nat.sub_zero, Int.toNat_natCast]
  refine WL.turn (fun w hs => hs.slcNil rfE 73) ?_
  refine WL.append TT (E := rfE) (xs := ([] : List RFile)) (ys := (R.files.take i).drop 0) 0 rfl rfl rfl (by rw [List.drop_zero, List.length_take]; omega) rfl ((Rd.slc (i := 2) rfl).part (by omega) hcap) rfl rfl rfl rfl rfl (by decide) (by rw [List.drop_zero, List.length_take]; simp; omega) (fun _ _ => rfl) rfl (fun A1 c1 => ?_)
  obtain ⟨X, hX⟩ : ∃ X, X = ([] : List RFile) ++ (R.files.take i).drop 0 := ⟨_, rfl⟩
  have hXl : X.length = i := by rw [hX, List.nil_append, List.drop_zero, List.length_take]; omega
  rw [← hX]
  repeat' (first|refine bk ?_|refine bkc ?_|refine bks ?_|refine bkd ?_|refine bkq (fun q => ?_)|(refine bk2 ?_ ?_<;>(first|exact bkn|(refine bkk ?_;intro h))))
  refine WL.s (op1_sliceS (E := rfE) (xs := R.files) (l := (i : Int) + 1) (r := (R.files.length : Int)) TT (by rfl) (by rfl) rfl rfl rfl rfl rfl (by omega) hcap) rfl ?_
  rw [show ((i : Int) + 1).toNat = i + 1 from by omega]
  simp only [Int.toNat_natCast]
  refine WL.append TT (E := rfE) (xs := X) (ys := (R.files.take R.files.length).drop (i + 1)) 0 rfl rfl rfl (by rw [List.take_length, List.length_drop]) rfl ((Rd.slc (i := 2) rfl).part (by omega) hcap) rfl rfl rfl rfl rfl (by decide) (by rw [List.take_length, List.length_drop]; simp only []; omega) (fun _ _ => rfl) rfl (fun A3 c3 => ?_)
  repeat' (first|refine bk ?_|refine bkc ?_|refine bks ?_|refine bkd ?_|refine bkq (fun q => ?_)|(refine bk2 ?_ ?_<;>(first|exact bkn|(refine bkk ?_;intro h))))
  have hZ : X ++ (R.files.take R.files.length).drop (i + 1) = R.files.eraseIdx i := by rw [hX, List.nil_append, List.drop_zero, List.take_length, List.eraseIdx_eq_take_drop_succ]
  rw [hZ]
  exact QS.turn (G' := refA b { R with files := R.files.eraseIdx i } :: F) (fun w hs => refA_shut (A := A3) (c := c3) w ((hs.kick (i := 2) rfl).perm (List.Perm.swap ..))) (QS.endV Tryz.results137 rfl ⟨rfl, rfl⟩)

theorem rdisk_Used (b : Nat) (R : RDisk) (hR : ROk R) (W0 : World) (F : List SL) :
    Fn Tryz.prog 68 [.pointer (some ⟨b, 0, none⟩)] W0 (refA b R :: F) (Ret fun v G' => v = .int .i64 R.usedOf ∧ G' = refA b R :: F) := by
  refine Fn.ex (fun w hs => refA_open w hs) (fun x => ?_)
  obtain ⟨A, c⟩ := x
  simp only
  refine Fn.enter Tryz.func68 rfl Tryz.ntmps68 rfl ?_
  simp only [refCells]
  repeat' (first|refine bk ?_|refine bkc ?_|refine bks ?_|refine bkd ?_|refine bkq (fun q => ?_)|(refine bk2 ?_ ?_<;>(first|exact bkn|(refine bkk ?_;intro h))))
  · refine QS.turn (G' := refA b R :: F) (fun w hs => refA_shut (A := A) (c := c) w hs) (QS.retV Tryz.results68 rfl ⟨?_, rfl⟩)
    rw [RDisk.usedOf, if_pos (by assumption)]; rfl
  · refine WL.call c36 rfl rfl rfl rfl (rdisk_Bytes b A c R hR W0 F) ?_
    rintro _ _ ⟨rfl, rfl⟩
    repeat' (first|refine bk ?_|refine bkc ?_|refine bks ?_|refine bkd ?_|refine bkq (fun q => ?_)|(refine bk2 ?_ ?_<;>(first|exact bkn|(refine bkk ?_;intro h))))
    refine QS.turn (G' := refA b R :: F) (fun w hs => refA_shut (A := A) (c := c) w hs) (QS.retV Tryz.results68 rfl ⟨?_, rfl⟩)
    rw [RDisk.usedOf, if_neg (by simp [*])]; rfl

theorem rdisk_Fuse (b : Nat) (R : RDisk) (n : Int) (W0 : World) (F : List SL) :
    Fn Tryz.prog 26 [.pointer (some ⟨b, 0, none⟩), .int .i64 n] W0 (refA b R :: F) (Ret fun v G' => v = .tuple #[] ∧ G' = refA b (R.light n) :: F) := by
  refine Fn.ex (fun w hs => refA_open w hs) (fun x => ?_)
  obtain ⟨A, c⟩ := x
  simp only
  refine Fn.enter Tryz.func26 rfl Tryz.ntmps26 rfl ?_
  simp only [refCells]
  repeat' (first|refine bk ?_|refine bkc ?_|refine bks ?_|refine bkd ?_|refine bkq (fun q => ?_)|(refine bk2 ?_ ?_<;>(first|exact bkn|(refine bkk ?_;intro h))))
  refine QS.turn (G' := refA b (R.light n) :: F) (fun w hs => refA_shut (A := A) (c := c) w ?_) (QS.endV Tryz.results26 rfl ⟨rfl, rfl⟩)
  have e : (if 0 > n then 0 else n) = max n 0 := by split <;> omega
  rw [e] at hs
  exact hs

set_option maxHeartbeats 1000000 in
theorem rdisk_List (b : Nat) (R : RDisk) (hR : ROk R) (W0 : World) (F : List SL) :
    Fn Tryz.prog 66 [.pointer (some ⟨b, 0, none⟩)] W0 (refA b R :: F)
      (Ret fun v G' => ∃ A c, v = .slice A R.list.length c ∧ G' = slc strE 9 A c R.list :: refA b R :: F) := by
  have hcn := hR.count
  refine Fn.ex (fun w hs => refA_open w hs) (fun x => ?_)
  obtain ⟨A, c⟩ := x
  simp only
  refine Fn.enter Tryz.func66 rfl Tryz.ntmps66 rfl ?_
  simp only [refCells]
  repeat' (first|refine bk ?_|refine bkc ?_|refine bks ?_|refine bkd ?_|refine bkq (fun q => ?_)|(refine bk2 ?_ ?_<;>(first|exact bkn|(refine bkk ?_;intro h))))
  refine CS.loop (X := Nat × Option Addr × Nat) (fun y => [(0, .pointer (some ⟨b, 0, none⟩)), (3, .slice y.2.1 y.1 y.2.2), (4, .int .i64 (y.1 : Int))])
    (fun y => slc strE 9 y.2.1 y.2.2 ((R.files.map (·.name)).take y.1) :: row b 66 (refCells A c R) :: slc rfE 73 A c R.files :: F)
    (fun y => y.1 ≤ R.files.length ∧ (R.off = true → y.1 = 0)) (fun y => R.files.length - y.1) (0, none, 0) ⟨rfl, rfl, rfl, trivial⟩ (fun w hs => hs.slcNil strE 9) ⟨Nat.zero_le _, fun _ => rfl⟩ ?_
  rintro ⟨i, A2, c2⟩ ⟨hi, hoff⟩
  simp only [refCells] at hi hoff ⊢
  have htl : ((R.files.map (·.name)).take i).length = i := by rw [List.length_take, List.length_map]; omega
  repeat' (first|refine bk ?_|refine bkc ?_|refine bks ?_|refine bkd ?_|refine bkq (fun q => ?_)|(refine bk2 ?_ ?_<;>(first|exact bkn|(refine bkk ?_;intro h))))
  · obtain ⟨x, hx⟩ : ∃ x, R.files[i]? = some x := ⟨R.files[i]'(by omega), List.getElem?_eq_getElem (by omega)⟩
    refine WL.idx TT (Rd.slc (i := 2) rfl) rfl rfl rfl (by omega) (by rw [Int.toNat_natCast]; exact hx) rfl rfl rfl rfl (fun b2 o hA => ?_)
    repeat' (first|refine bk ?_|refine bkc ?_|refine bks ?_|refine bkd ?_|refine bkq (fun q => ?_)|(refine bk2 ?_ ?_<;>(first|exact bkn|(refine bkk ?_;intro h))))
    refine WL.s (op1_atF TT 0 hA rfl rfl rfl rfl rfl) rfl ?_
    refine WL.buildSlice TT rfl rfl rfl rfl rfl rfl rfl rfl (fun qs => ?_)
    refine WL.append TT (E := strE) (xs := (R.files.map (·.name)).take i) (ys := [x.name]) 1 rfl htl.symm rfl rfl rfl (Rd.row (i := 0) rfl rfl) rfl rfl rfl rfl rfl (by decide) (by rw [htl]; simp only [List.length_cons, List.length_nil]; omega) (fun _ _ => rfl) rfl (fun A3 c3 => ?_)
    have hnext : (R.files.map (·.name)).take i ++ [x.name] = (R.files.map (·.name)).take (i + 1) := by
      rw [List.take_add_one, List.getElem?_map, hx]; rfl
    have hnl : ((R.files.map (·.name)).take (i + 1)).length = i + 1 := by rw [List.length_take, List.length_map]; omega
    rw [hnext, hnl]
    repeat' (first|refine bk ?_|refine bkc ?_|refine bks ?_|refine bkd ?_|refine bkq (fun q => ?_)|(refine bk2 ?_ ?_<;>(first|exact bkn|(refine bkk ?_;intro h))))
    refine QS.again (i + 1, A3, c3) ⟨by simp only; omega, fun e => by rw [e] at h; cases h⟩ (by simp only; omega) ⟨rfl, rfl, ?_, trivial⟩ (fun w hs => hs.drop)
    rw [show ((i + 1 : Nat) : Int) = (i : Int) + 1 from by omega]; rfl
  · have ho : R.off = true := by simpa using h
    have hi0 := hoff ho
    have hlist : R.list = (R.files.map (·.name)).take i := by rw [RDisk.list, if_pos ho, hi0, List.take_zero]
    refine QS.turn (G' := slc strE 9 A2 c2 R.list :: refA b R :: F) (fun w hs => ?_) (QS.retV Tryz.results66 rfl ⟨A2, c2, ?_, rfl⟩)
    · rw [hlist]
      exact (refA_shut (A := A) (c := c) w ((hs.front (i := 2) rfl).front (i := 2) rfl)).front (i := 1) rfl
    · rw [hlist, htl]; rfl
  · have hlist : R.list = (R.files.map (·.name)).take i := by
      have hil : i = R.files.length := by omega
      rw [RDisk.list, hil, List.take_of_length_le (by simp)]
      by_cases ho : R.off = true
      · have := hoff ho
        have h0 : R.files = [] := List.eq_nil_of_length_eq_zero (by omega)
        rw [if_pos ho, h0]; rfl
      · rw [if_neg ho]
    refine QS.turn (G' := slc strE 9 A2 c2 R.list :: refA b R :: F) (fun w hs => ?_) (QS.retV Tryz.results66 rfl ⟨A2, c2, ?_, rfl⟩)
    · rw [hlist]
      exact (refA_shut (A := A) (c := c) w ((hs.front (i := 2) rfl).front (i := 2) rfl)).front (i := 1) rfl
    · rw [hlist, htl]; rfl

set_option maxHeartbeats 1000000 in
theorem rdisk_Sync (b : Nat) (R : RDisk) (hR : ROk R) (nm : ByteArray) (W0 : World) (F : List SL) :
    Fn Tryz.prog 122 [.pointer (some ⟨b, 0, none⟩), .string nm] W0 (refA b R :: F) (Ret fun v G' => v = .int .i64 (R.sync nm).1 ∧ G' = refA b (R.sync nm).2 :: F) := by
  have hcn := hR.count
  have hmost := hR.most
  have hl0 := hR.left0
  have hl1 := hR.left1
  refine Fn.ex (fun w hs => refA_open w hs) (fun x => ?_)
  obtain ⟨A, c⟩ := x
  simp only
  refine Fn.fact (slc_at (i := 1) rfl) (fun hat => ?_)
  refine Fn.enter Tryz.func122 rfl Tryz.ntmps122 rfl ?_
  repeat' (first|refine bk ?_|refine bkc ?_|refine bks ?_|refine bkd ?_|refine bkq (fun q => ?_)|(refine bk2 ?_ ?_<;>(first|exact bkn|(refine bkk ?_;intro h))))
  refine WL.call c34 rfl rfl rfl rfl (rdisk_at b A c R (by omega) nm W0 _) ?_
  rintro _ _ ⟨rfl, rfl⟩
  simp only [refCells]
  repeat' (first|refine bk ?_|refine bkc ?_|refine bks ?_|refine bkd ?_|refine bkq (fun q => ?_)|(refine bk2 ?_ ?_<;>(first|exact bkn|(refine bkk ?_;intro h))))
  · rw [show R.sync nm = (12, R) from by unfold RDisk.sync; rw [if_pos (by assumption)]]
    exact QS.turn (G' := refA b R :: F) (fun w hs => refA_shut (A := A) (c := c) w hs) (QS.retV Tryz.results122 rfl ⟨rfl, rfl⟩)
  · rw [show R.sync nm = (5, R) from by unfold RDisk.sync; rw [if_neg (by simp [*]), if_pos (by assumption)]]
    exact QS.turn (G' := refA b R :: F) (fun w hs => refA_shut (A := A) (c := c) w hs) (QS.retV Tryz.results122 rfl ⟨rfl, rfl⟩)
  · have hoff : ¬ R.off = true := by simp [*]
    have hnn : ¬ atF nm R.files < 0 := by omega
    refine WL.call c37 rfl rfl rfl rfl (rdisk_blows b A c R hl0 hl1 W0 _) ?_
    rintro _ _ ⟨rfl, rfl⟩
    obtain ⟨B, R2, hB⟩ : ∃ B R2, R.blow = (B, R2) := ⟨R.blow.1, R.blow.2, rfl⟩
    have hbf : R2.files = R.files := by rw [show R2 = R.blow.2 from by rw [hB]]; unfold RDisk.blow; split <;> rfl
    rw [hB]
    simp only [refCells]
    obtain ⟨i, hi⟩ : ∃ i, findF nm R.files = some i := by
      cases hf : findF nm R.files with
      | some i => exact ⟨i, rfl⟩
      | none => exfalso; simp [atF, hf] at *
    obtain ⟨x, hx, hxn⟩ := findF_get hi
    have hil := (List.getElem?_eq_some_iff.1 hx).1
    have hai : atF nm R.files = (i : Int) := by rw [atF, hi]
    rw [hai]
    obtain ⟨g, rfl⟩ : ∃ g, A = some ⟨g, 0, none⟩ := by
      rcases hat.2.2 with ⟨_, _, h0⟩ | h0
      · exfalso; rw [h0] at hil; simp at hil
      · exact h0
    repeat' (first|refine bk ?_|refine bkc ?_|refine bks ?_|refine bkd ?_|refine bkh ?_|refine bkq (fun q => ?_)|((first|refine bk2 ?_ ?_|refine bk2h ?_ ?_)<;>(first|exact bkn|(refine bkk ?_;intro h))))
    · rw [show R.sync nm = (12, R2) from by unfold RDisk.sync; rw [if_neg hoff, if_neg hnn, hB, if_pos (by assumption)]]
      exact QS.turn (G' := refA b R2 :: F) (fun w hs => refA_shut (A := some ⟨g, 0, none⟩) (c := c) w (by simp only [refCells, hbf] at hs ⊢; exact hs)) (QS.retV Tryz.results122 rfl ⟨rfl, rfl⟩)
    · refine WH.s (op1_idxA TT rfE rfl rfl (by rw [hbf]; omega) rfl rfl rfl) rfl ?_
      repeat' (first|refine bk ?_|refine bkc ?_|refine bks ?_|refine bkd ?_|refine bkh ?_|refine bkq (fun q => ?_)|((first|refine bk2 ?_ ?_|refine bk2h ?_ ?_)<;>(first|exact bkn|(refine bkk ?_;intro h))))
      refine WH.s (op1_loadS TT (E := rfE) 1 (j := i) (k := 1) rfl rfl rfl hx rfl rfl rfl) rfl ?_
      repeat' (first|refine bk ?_|refine bkc ?_|refine bks ?_|refine bkd ?_|refine bkh ?_|refine bkq (fun q => ?_)|((first|refine bk2 ?_ ?_|refine bk2h ?_ ?_)<;>(first|exact bkn|(refine bkk ?_;intro h))))
      refine WH.s (op1_idxA TT rfE rfl rfl (by rw [hbf]; omega) rfl rfl rfl) rfl ?_
      repeat' (first|refine bk ?_|refine bkc ?_|refine bks ?_|refine bkd ?_|refine bkh ?_|refine bkq (fun q => ?_)|((first|refine bk2 ?_ ?_|refine bk2h ?_ ?_)<;>(first|exact bkn|(refine bkk ?_;intro h))))
      refine WL.storeS TT (E := rfE) 1 (j := i) (k := 2) (z := x) (z' := { x with syn := x.data.size }) rfl rfl rfl rfl hx rfl rfl rfl rfl rfl rfl ?_
      repeat' (first|refine bk ?_|refine bkc ?_|refine bks ?_|refine bkd ?_|refine bkq (fun q => ?_)|(refine bk2 ?_ ?_<;>(first|exact bkn|(refine bkk ?_;intro h))))
      rw [show R.sync nm = (0, { R2 with files := R.files.set i { x with syn := x.data.size } }) from by unfold RDisk.sync; rw [if_neg hoff, if_neg hnn, hB, if_neg (by simp [*])]; unfold syncF; rw [hi]; simp only [hx]]
      exact QS.turn (G' := refA b { R2 with files := R.files.set i { x with syn := x.data.size } } :: F) (fun w hs => refA_shut (A := some ⟨g, 0, none⟩) (c := c) w (by simp only [refCells, hbf, List.length_set] at hs ⊢; exact hs)) (QS.retV Tryz.results122 rfl ⟨rfl, rfl⟩)
end Go.Proofs.YtejdkcnbflpfaaaGreat.B
