import Derived.Test.YtfolmcpfdcgliaaGreatMg41
set_option linter.unusedVariables false
set_option linter.unusedSimpArgs false
set_option linter.unusedSectionVars false
set_option maxRecDepth 8000
namespace Go.Proofs.YtfolmcpfdcgliaaGreat.B
open Go Go.Proofs
attribute [local irreducible] WL CS QS WQ WH WS Fn Op1 row Sat
attribute [local irreducible] refA slc
set_option maxHeartbeats 1000000 in
theorem rdisk_out (b : Nat) (A : Option Addr) (c : Nat) (R : RDisk) (hl : R.files.length ≤ 1000) (i : Nat) (hi : i < R.files.length) (W0 : World) (F : List SL) :
    Fn Tryz.prog 182 [.pointer (some ⟨b, 0, none⟩), .int .i64 i] W0 (row b 149 (refCells A c R) :: slc rfE 176 A c R.files :: F)
      (Ret fun v G' => v = .tuple #[] ∧ G' = refA b { R with files := R.files.eraseIdx i } :: F) := by
  refine Fn.fact (slc_cap (i := 1) rfl) (fun hcap => ?_)
  refine Fn.enter Tryz.func182 rfl Tryz.ntmps182 rfl ?_
  simp only [refCells]
  repeat' (first|refine bA ?_|refine bkq fun q=>?_|(refine bk2 ?_ ?_<;>(first|exact bkn|(refine bkk ?_;intro h))))
  refine WL.s (op1_sliceS (E := rfE) (xs := R.files) (l := 0) (r := (i : Int)) TT (by rfl) (by rfl) rfl rfl rfl rfl rfl (by omega) hcap) rfl ?_
  simp only [Int.toNat_zero, Nat.sub_zero, Int.toNat_natCast]
  refine WL.turn (fun w hs => hs.slcNil rfE 176) ?_
  refine WL.append TT (E := rfE) (xs := ([] : List RFile)) (ys := (R.files.take i).drop 0) 0 rfl rfl rfl (by rw [List.drop_zero, List.length_take]; omega) rfl ((Rd.slc (i := 2) rfl).part (by omega) hcap) rfl rfl rfl rfl rfl (by decide) (by rw [List.drop_zero, List.length_take]; simp; omega) (fun _ _ => rfl) rfl (fun A1 c1 => ?_)
  obtain ⟨X, hX⟩ : ∃ X, X = ([] : List RFile) ++ (R.files.take i).drop 0 := ⟨_, rfl⟩
  have hXl : X.length = i := by rw [hX, List.nil_append, List.drop_zero, List.length_take]; omega
  rw [← hX]
  repeat' (first|refine bA ?_|refine bkq fun q=>?_|(refine bk2 ?_ ?_<;>(first|exact bkn|(refine bkk ?_;intro h))))
  refine WL.s (op1_sliceS (E := rfE) (xs := R.files) (l := (i : Int) + 1) (r := (R.files.length : Int)) TT (by rfl) (by rfl) rfl rfl rfl rfl rfl (by omega) hcap) rfl ?_
  rw [show ((i : Int) + 1).toNat = i + 1 from by omega]
  simp only [Int.toNat_natCast]
  refine WL.append TT (E := rfE) (xs := X) (ys := (R.files.take R.files.length).drop (i + 1)) 0 rfl rfl rfl (by rw [List.take_length, List.length_drop]) rfl ((Rd.slc (i := 2) rfl).part (by omega) hcap) rfl rfl rfl rfl rfl (by decide) (by rw [List.take_length, List.length_drop]; simp only []; omega) (fun _ _ => rfl) rfl (fun A3 c3 => ?_)
  repeat' (first|refine bA ?_|refine bkq fun q=>?_|(refine bk2 ?_ ?_<;>(first|exact bkn|(refine bkk ?_;intro h))))
  have hZ : X ++ (R.files.take R.files.length).drop (i + 1) = R.files.eraseIdx i := by rw [hX, List.nil_append, List.drop_zero, List.take_length, List.eraseIdx_eq_take_drop_succ]
  rw [hZ]
  exact QS.turn (G' := refA b { R with files := R.files.eraseIdx i } :: F) (fun w hs => refA_shut (A := A3) (c := c3) w ((hs.kick (i := 2) rfl).perm (List.Perm.swap ..))) (QS.endV Tryz.results182 rfl ⟨rfl, rfl⟩)
theorem rdisk_Fuse (b : Nat) (R : RDisk) (n : Int) (W0 : World) (F : List SL) :
    Fn Tryz.prog 47 [.pointer (some ⟨b, 0, none⟩), .int .i64 n] W0 (refA b R :: F) (Ret fun v G' => v = .tuple #[] ∧ G' = refA b (R.light n) :: F) := by
  refine Fn.ex (fun w hs => refA_open w hs) (fun x => ?_)
  obtain ⟨A, c⟩ := x
  simp only
  refine Fn.enter Tryz.func47 rfl Tryz.ntmps47 rfl ?_
  simp only [refCells]
  repeat' (first|refine bA ?_|refine bkq fun q=>?_|(refine bk2 ?_ ?_<;>(first|exact bkn|(refine bkk ?_;intro h))))
  refine QS.turn (G' := refA b (R.light n) :: F) (fun w hs => refA_shut (A := A) (c := c) w ?_) (QS.endV Tryz.results47 rfl ⟨rfl, rfl⟩)
  have e : (if 0 > n then 0 else n) = max n 0 := by split <;> omega
  rw [e] at hs
  exact hs
set_option maxHeartbeats 1000000 in
theorem rdisk_Sync (b : Nat) (R : RDisk) (hR : ROk R) (nm : ByteArray) (W0 : World) (F : List SL) :
    Fn Tryz.prog 157 [.pointer (some ⟨b, 0, none⟩), .string nm] W0 (refA b R :: F) (Ret fun v G' => v = .int .i64 (R.sync nm).1 ∧ G' = refA b (R.sync nm).2 :: F) := by
  have hcn := hR.count
  have hmost := hR.most
  have hl0 := hR.left0
  have hl1 := hR.left1
  refine Fn.ex (fun w hs => refA_open w hs) (fun x => ?_)
  obtain ⟨A, c⟩ := x
  simp only
  refine Fn.fact (slc_at (i := 1) rfl) (fun hat => ?_)
  refine Fn.enter Tryz.func157 rfl Tryz.ntmps157 rfl ?_
  repeat' (first|refine bA ?_|refine bkq fun q=>?_|(refine bk2 ?_ ?_<;>(first|exact bkn|(refine bkk ?_;intro h))))
  refine WL.call c111 rfl rfl rfl rfl (rdisk_at b A c R (by omega) nm W0 _) ?_
  rintro _ _ ⟨rfl, rfl⟩
  simp only [refCells]
  repeat' (first|refine bA ?_|refine bkq fun q=>?_|(refine bk2 ?_ ?_<;>(first|exact bkn|(refine bkk ?_;intro h))))
  · rw [show R.sync nm = (12, R) from by unfold RDisk.sync; rw [if_pos (by assumption)]]
    exact QS.turn (G' := refA b R :: F) (fun w hs => refA_shut (A := A) (c := c) w hs) (QS.retV Tryz.results157 rfl ⟨rfl, rfl⟩)
  · rw [show R.sync nm = (5, R) from by unfold RDisk.sync; rw [if_neg (by simp [*]), if_pos (by assumption)]]
    exact QS.turn (G' := refA b R :: F) (fun w hs => refA_shut (A := A) (c := c) w hs) (QS.retV Tryz.results157 rfl ⟨rfl, rfl⟩)
  · have hoff : ¬ R.off = true := by simp [*]
    have hnn : ¬ atF nm R.files < 0 := by omega
    refine WL.call c181 rfl rfl rfl rfl (rdisk_blows b A c R hl0 hl1 W0 _) ?_
    rintro _ _ ⟨rfl, rfl⟩
    obtain ⟨B, R2, hB⟩ : ∃ B R2, R.blow = (B, R2) := ⟨R.blow.1, R.blow.2, rfl⟩
    have hbf : R2.files = R.files := by rw [show R2 = R.blow.2 from by rw [hB]]; unfold RDisk.blow; split <;> rfl
    rw [hB]
    simp only [refCells]
    obtain ⟨i, hi⟩ : ∃ i, findF nm R.files = some i := by
      cases hf : findF nm R.files with
      | some i => exact ⟨i, rfl⟩
      | none => exfalso; simp [atF, hf] at *
    obtain ⟨x, hx, hxn⟩ := findF_get hi
    have hil := (List.getElem?_eq_some_iff.1 hx).1
    have hai : atF nm R.files = (i : Int) := by rw [atF, hi]
    rw [hai]
    obtain ⟨g, rfl⟩ : ∃ g, A = some ⟨g, 0, none⟩ := by
      rcases hat.2.2 with ⟨_, _, h0⟩ | h0
      · exfalso; rw [h0] at hil; simp at hil
      · exact h0
    repeat' (first|refine bk ?_|refine bkc ?_|refine bks ?_|refine bkd ?_|refine bkh ?_|refine bkq (fun q => ?_)|((first|refine bk2 ?_ ?_|refine bk2h ?_ ?_)<;>(first|exact bkn|(refine bkk ?_;intro h))))
    · rw [show R.sync nm = (12, R2) from by unfold RDisk.sync; rw [if_neg hoff, if_neg hnn, hB, if_pos (by assumption)]]
      exact QS.turn (G' := refA b R2 :: F) (fun w hs => refA_shut (A := some ⟨g, 0, none⟩) (c := c) w (by simp only [refCells, hbf] at hs ⊢; exact hs)) (QS.retV Tryz.results157 rfl ⟨rfl, rfl⟩)
    · refine WH.s (op1_idxA TT rfE rfl rfl (by rw [hbf]; omega) rfl rfl rfl) rfl ?_
      repeat' (first|refine bk ?_|refine bkc ?_|refine bks ?_|refine bkd ?_|refine bkh ?_|refine bkq (fun q => ?_)|((first|refine bk2 ?_ ?_|refine bk2h ?_ ?_)<;>(first|exact bkn|(refine bkk ?_;intro h))))
      refine WH.s (op1_loadS TT (E := rfE) 1 (j := i) (k := 1) rfl rfl rfl hx rfl rfl rfl) rfl ?_
      repeat' (first|refine bk ?_|refine bkc ?_|refine bks ?_|refine bkd ?_|refine bkh ?_|refine bkq (fun q => ?_)|((first|refine bk2 ?_ ?_|refine bk2h ?_ ?_)<;>(first|exact bkn|(refine bkk ?_;intro h))))
      refine WH.s (op1_idxA TT rfE rfl rfl (by rw [hbf]; omega) rfl rfl rfl) rfl ?_
      repeat' (first|refine bk ?_|refine bkc ?_|refine bks ?_|refine bkd ?_|refine bkh ?_|refine bkq (fun q => ?_)|((first|refine bk2 ?_ ?_|refine bk2h ?_ ?_)<;>(first|exact bkn|(refine bkk ?_;intro h))))
      refine WL.storeS TT (E := rfE) 1 (j := i) (k := 2) (z := x) (z' := { x with syn := x.data.size }) rfl rfl rfl rfl hx rfl rfl rfl rfl rfl rfl ?_
      repeat' (first|refine bA ?_|refine bkq fun q=>?_|(refine bk2 ?_ ?_<;>(first|exact bkn|(refine bkk ?_;intro h))))
      rw [show R.sync nm = (0, { R2 with files := R.files.set i { x with syn := x.data.size } }) from by unfold RDisk.sync; rw [if_neg hoff, if_neg hnn, hB, if_neg (by simp [*])]; unfold syncF; rw [hi]; simp only [hx]]
      exact QS.turn (G' := refA b { R2 with files := R.files.set i { x with syn := x.data.size } } :: F) (fun w hs => refA_shut (A := some ⟨g, 0, none⟩) (c := c) w (by simp only [refCells, hbf, List.length_set] at hs ⊢; exact hs)) (QS.retV Tryz.results157 rfl ⟨rfl, rfl⟩)
end Go.Proofs.YtfolmcpfdcgliaaGreat.B

namespace Go.Proofs.YtfolmcpfdcgliaaGreat.B
open Go Go.Proofs
attribute [local irreducible] WL CS QS WQ WH WS Fn Op1 row Sat
attribute [local irreducible] refA slc
theorem at_some {nm : ByteArray} {l : List RFile} (h : ¬ atF nm l < 0) : ∃ i x, findF nm l = some i ∧ l[i]? = some x ∧ x.name = nm ∧ i < l.length ∧ atF nm l = (i : Int) := by
  cases hf : findF nm l with
  | none => exfalso; simp [atF, hf] at h
  | some i =>
    obtain ⟨x, hx, hxn⟩ := findF_get hf
    exact ⟨i, x, rfl, hx, hxn, (List.getElem?_eq_some_iff.1 hx).1, by rw [atF, hf]⟩
theorem at_none {nm : ByteArray} {l : List RFile} (h : atF nm l < 0) : findF nm l = none ∧ atF nm l = -1 := by
  cases hf : findF nm l with
  | none => exact ⟨rfl, by rw [atF, hf]⟩
  | some i => exfalso; simp [atF, hf] at h; omega
theorem blow_files {R R2 : RDisk} {B : Bool} (hB : R.blow = (B, R2)) : R2.files = R.files := by
  rw [show R2 = R.blow.2 from by rw [hB]]; unfold RDisk.blow; split <;> rfl
set_option maxHeartbeats 1000000 in
theorem rdisk_Delete (b : Nat) (R : RDisk) (hR : ROk R) (nm : ByteArray) (W0 : World) (F : List SL) :
    Fn Tryz.prog 155 [.pointer (some ⟨b, 0, none⟩), .string nm] W0 (refA b R :: F) (Ret fun v G' => v = .int .i64 (R.delete nm).1 ∧ G' = refA b (R.delete nm).2 :: F) := by
  have hcn := hR.count
  have hl0 := hR.left0
  have hl1 := hR.left1
  refine Fn.ex (fun w hs => refA_open w hs) (fun x => ?_)
  obtain ⟨A, c⟩ := x
  simp only
  refine Fn.enter Tryz.func155 rfl Tryz.ntmps155 rfl ?_
  repeat' (first|refine bA ?_|refine bkq fun q=>?_|(refine bk2 ?_ ?_<;>(first|exact bkn|(refine bkk ?_;intro h))))
  refine WL.call c111 rfl rfl rfl rfl (rdisk_at b A c R (by omega) nm W0 _) ?_
  rintro _ _ ⟨rfl, rfl⟩
  simp only [refCells]
  repeat' (first|refine bA ?_|refine bkq fun q=>?_|(refine bk2 ?_ ?_<;>(first|exact bkn|(refine bkk ?_;intro h))))
  · rw [show R.delete nm = (12, R) from by unfold RDisk.delete; rw [if_pos (by assumption)]]
    exact QS.turn (G' := refA b R :: F) (fun w hs => refA_shut (A := A) (c := c) w hs) (QS.retV Tryz.results155 rfl ⟨rfl, rfl⟩)
  · rw [show R.delete nm = (5, R) from by unfold RDisk.delete; rw [if_neg (by simp [*]), if_pos (by assumption)]]
    exact QS.turn (G' := refA b R :: F) (fun w hs => refA_shut (A := A) (c := c) w hs) (QS.retV Tryz.results155 rfl ⟨rfl, rfl⟩)
  · have hoff : ¬ R.off = true := by simp [*]
    have hnn : ¬ atF nm R.files < 0 := by omega
    refine WL.call c181 rfl rfl rfl rfl (rdisk_blows b A c R hl0 hl1 W0 _) ?_
    rintro _ _ ⟨rfl, rfl⟩
    obtain ⟨B, R2, hB⟩ : ∃ B R2, R.blow = (B, R2) := ⟨R.blow.1, R.blow.2, rfl⟩
    have hbf := blow_files hB
    rw [hB]
    obtain ⟨i, x, hi, hx, hxn, hil, hai⟩ := at_some hnn
    rw [hai]
    simp only [refCells]
    repeat' (first|refine bA ?_|refine bkq fun q=>?_|(refine bk2 ?_ ?_<;>(first|exact bkn|(refine bkk ?_;intro h))))
    · rw [show R.delete nm = (12, R2) from by unfold RDisk.delete; rw [if_neg hoff, if_neg hnn, hB, if_pos (by assumption)]]
      exact QS.turn (G' := refA b R2 :: F) (fun w hs => refA_shut (A := A) (c := c) w (by simp only [refCells, hbf] at hs ⊢; exact hs)) (QS.retV Tryz.results155 rfl ⟨rfl, rfl⟩)
    · refine WL.turn (G' := row b 149 (refCells A c R2) :: slc rfE 176 A c R2.files :: F) (fun w hs => by simp only [refCells, hbf] at hs ⊢; exact hs) ?_
      refine WL.call c182 rfl rfl rfl rfl (rdisk_out b A c R2 (by rw [hbf]; omega) i (by rw [hbf]; omega) W0 _) ?_
      rintro _ _ ⟨rfl, rfl⟩
      repeat' (first|refine bA ?_|refine bkq fun q=>?_|(refine bk2 ?_ ?_<;>(first|exact bkn|(refine bkk ?_;intro h))))
      rw [show R.delete nm = (0, { R2 with files := R2.files.eraseIdx i }) from by unfold RDisk.delete; rw [if_neg hoff, if_neg hnn, hB, if_neg (by simp [*])]; unfold outF; rw [hi, hbf]]
      exact QS.retV Tryz.results155 rfl ⟨rfl, rfl⟩
set_option maxHeartbeats 2000000 in
theorem rdisk_Rename (b : Nat) (R : RDisk) (hR : ROk R) (frm to : ByteArray) (W0 : World) (F : List SL) :
    Fn Tryz.prog 158 [.pointer (some ⟨b, 0, none⟩), .string frm, .string to] W0 (refA b R :: F) (Ret fun v G' => v = .int .i64 (R.rename frm to).1 ∧ G' = refA b (R.rename frm to).2 :: F) := by
  have hcn := hR.count
  have hl0 := hR.left0
  have hl1 := hR.left1
  refine Fn.ex (fun w hs => refA_open w hs) (fun x => ?_)
  obtain ⟨A, c⟩ := x
  simp only
  refine Fn.enter Tryz.func158 rfl Tryz.ntmps158 rfl ?_
  repeat' (first|refine bA ?_|refine bkq fun q=>?_|(refine bk2 ?_ ?_<;>(first|exact bkn|(refine bkk ?_;intro h))))
  refine WL.call c111 rfl rfl rfl rfl (rdisk_at b A c R (by omega) frm W0 _) ?_
  rintro _ _ ⟨rfl, rfl⟩
  repeat' (first|refine bA ?_|refine bkq fun q=>?_|(refine bk2 ?_ ?_<;>(first|exact bkn|(refine bkk ?_;intro h))))
  refine WL.call c183 rfl rfl rfl rfl (rdisk_Name to W0 _) ?_
  rintro _ _ ⟨rfl, rfl⟩
  simp only [refCells]
  repeat' (first|refine bA ?_|refine bkq fun q=>?_|(refine bk2 ?_ ?_<;>(first|exact bkn|(refine bkk ?_;intro h))))
  · rw [show R.rename frm to = (12, R) from by unfold RDisk.rename; rw [if_pos (by assumption)]]
    exact QS.turn (G' := refA b R :: F) (fun w hs => refA_shut (A := A) (c := c) w hs) (QS.retV Tryz.results158 rfl ⟨rfl, rfl⟩)
  · rw [show R.rename frm to = (1, R) from by unfold RDisk.rename; rw [if_neg (by simp [*]), if_pos (by assumption)]]
    exact QS.turn (G' := refA b R :: F) (fun w hs => refA_shut (A := A) (c := c) w hs) (QS.retV Tryz.results158 rfl ⟨rfl, rfl⟩)
  · rw [show R.rename frm to = (5, R) from by unfold RDisk.rename; rw [if_neg (by simp [*]), if_neg (fun h => h (by assumption)), if_pos (by assumption)]]
    exact QS.turn (G' := refA b R :: F) (fun w hs => refA_shut (A := A) (c := c) w hs) (QS.retV Tryz.results158 rfl ⟨rfl, rfl⟩)
  · have hoff : ¬ R.off = true := by simp [*]
    have hnm : ¬ ¬ (1 ≤ (to.size : Int) ∧ (to.size : Int) ≤ 30) := fun h => h (by assumption)
    have hnn : ¬ atF frm R.files < 0 := by omega
    refine WL.call c181 rfl rfl rfl rfl (rdisk_blows b A c R hl0 hl1 W0 _) ?_
    rintro _ _ ⟨rfl, rfl⟩
    obtain ⟨B, R2, hB⟩ : ∃ B R2, R.blow = (B, R2) := ⟨R.blow.1, R.blow.2, rfl⟩
    have hbf := blow_files hB
    rw [hB]
    obtain ⟨i, x, hi, hx, hxn, hil, hai⟩ := at_some hnn
    rw [hai]
    simp only [refCells]
    repeat' (first|refine bA ?_|refine bkq fun q=>?_|(refine bk2 ?_ ?_<;>(first|exact bkn|(refine bkk ?_;intro h))))
    · rw [show R.rename frm to = (12, R2) from by unfold RDisk.rename; rw [if_neg hoff, if_neg hnm, if_neg hnn, hB, if_pos (by assumption)]]
      exact QS.turn (G' := refA b R2 :: F) (fun w hs => refA_shut (A := A) (c := c) w (by simp only [refCells, hbf] at hs ⊢; exact hs)) (QS.retV Tryz.results158 rfl ⟨rfl, rfl⟩)
    · rw [show R.rename frm to = (0, R2) from by unfold RDisk.rename; rw [if_neg hoff, if_neg hnm, if_neg hnn, hB, if_neg (by simp [*]), if_pos (by assumption)]]
      exact QS.turn (G' := refA b R2 :: F) (fun w hs => refA_shut (A := A) (c := c) w (by simp only [refCells, hbf] at hs ⊢; exact hs)) (QS.retV Tryz.results158 rfl ⟨rfl, rfl⟩)
    · refine WL.idx TT (Rd.slc (i := 1) rfl) rfl rfl (by rw [hbf]) (by omega) (by rw [Int.toNat_natCast]; exact hx) rfl rfl rfl rfl (fun b2 o hA => ?_)
      refine WL.s (op1_at TT hA rfl rfl rfl rfl) rfl ?_
      repeat' (first|refine bA ?_|refine bkq fun q=>?_|(refine bk2 ?_ ?_<;>(first|exact bkn|(refine bkk ?_;intro h))))
      refine WL.turn (G' := row b 149 (refCells A c R2) :: slc rfE 176 A c R2.files :: row q 176 [.string x.name, .string x.data, .int .i64 x.syn] :: F) (fun w hs => by simp only [refCells, hbf] at hs ⊢; exact (hs.front (i := 2) rfl).front (i := 2) rfl) ?_
      refine WL.call c182 rfl rfl rfl rfl (rdisk_out b A c R2 (by rw [hbf]; omega) i (by rw [hbf]; omega) W0 _) ?_
      rintro _ _ ⟨rfl, rfl⟩
      repeat' (first|refine bA ?_|refine bkq fun q=>?_|(refine bk2 ?_ ?_<;>(first|exact bkn|(refine bkk ?_;intro h))))
      have hfa : ({ R.fileAt frm with name := to } : RFile) = ⟨to, x.data, x.syn⟩ := by unfold RDisk.fileAt; rw [hi]; simp only [hx]; rfl
      have ho1 : outF frm R.files = R.files.eraseIdx i := by unfold outF; rw [hi]
      obtain ⟨R3, hR3⟩ : ∃ R3 : RDisk, R3 = { R2 with files := R2.files.eraseIdx i } := ⟨_, rfl⟩
      have hf3 : R3.files = outF frm R.files := by rw [hR3, ho1, hbf]
      have hl3 : R3.files.length + 1 = R.files.length := by rw [hf3, ho1, List.length_eraseIdx, if_pos hil]; omega
      rw [← hR3]
      refine WL.ex (fun w hs => refA_open w hs) (fun y => ?_)
      obtain ⟨A3, c3⟩ := y
      simp only
      refine WL.call c111 rfl rfl rfl rfl (rdisk_at b A3 c3 R3 (by omega) to W0 _) ?_
      rintro _ _ ⟨rfl, rfl⟩
      repeat' (first|refine bA ?_|refine bkq fun q=>?_|(refine bk2 ?_ ?_<;>(first|exact bkn|(refine bkk ?_;intro h))))
      · obtain ⟨k, y, hk, hy, hyn, hkl, hak⟩ := at_some (show ¬ atF to R3.files < 0 from by omega)
        rw [hak]
        refine WL.call c182 rfl rfl rfl rfl (rdisk_out b A3 c3 R3 (by omega) k hkl W0 _) ?_
        rintro _ _ ⟨rfl, rfl⟩
        obtain ⟨R4, hR4⟩ : ∃ R4 : RDisk, R4 = { R3 with files := R3.files.eraseIdx k } := ⟨_, rfl⟩
        have hf4 : R4.files = outF to (outF frm R.files) := by rw [hR4, ← hf3]; unfold outF; rw [hk]
        have hl4 : R4.files.length ≤ R3.files.length := by rw [hR4]; exact (List.eraseIdx_sublist ..).length_le
        have e4 : ∀ l, ({ R4 with files := l } : RDisk) = { R2 with files := l } := fun l => by rw [hR4, hR3]
        rw [← hR4]
        repeat' (first|refine bA ?_|refine bkq fun q=>?_|(refine bk2 ?_ ?_<;>(first|exact bkn|(refine bkk ?_;intro h))))
        refine WL.ex (fun w hs => refA_open w (hs.front (i := 0) rfl)) (fun y => ?_)
        obtain ⟨A5, c5⟩ := y
        simp only
        refine WL.call c185 rfl rfl rfl rfl (rdisk_put b A5 c5 R4 (by omega) ⟨to, x.data, x.syn⟩ W0 _) ?_
        rintro _ _ ⟨rfl, rfl⟩
        repeat' (first|refine bA ?_|refine bkq fun q=>?_|(refine bk2 ?_ ?_<;>(first|exact bkn|(refine bkk ?_;intro h))))
        rw [show R.rename frm to = (0, { R4 with files := insF ⟨to, x.data, x.syn⟩ R4.files }) from by
          unfold RDisk.rename; rw [if_neg hoff, if_neg hnm, if_neg hnn, hB, if_neg (by simp [*]), if_neg (by assumption), hfa]
          rw [e4, hf4]]
        exact QS.turn (G' := refA b { R4 with files := insF ⟨to, x.data, x.syn⟩ R4.files } :: F) (fun w hs => hs.kick (i := 1) rfl) (QS.retV Tryz.results158 rfl ⟨rfl, rfl⟩)
      · have hn3 := (at_none (show atF to R3.files < 0 from by omega)).1
        refine WL.turn (G' := refA b R3 :: row q 176 [.string to, .string x.data, .int .i64 x.syn] :: F) (fun w hs => refA_shut (A := A3) (c := c3) w hs) ?_
        obtain ⟨R4, hR4⟩ : ∃ R4 : RDisk, R4 = R3 := ⟨_, rfl⟩
        have hf4 : R4.files = outF to (outF frm R.files) := by rw [hR4, ← hf3]; unfold outF; rw [hn3]
        have hl4 : R4.files.length ≤ R3.files.length := by rw [hR4]; exact Nat.le_refl _
        have e4 : ∀ l, ({ R4 with files := l } : RDisk) = { R2 with files := l } := fun l => by rw [hR4, hR3]
        rw [← hR4]
        repeat' (first|refine bA ?_|refine bkq fun q=>?_|(refine bk2 ?_ ?_<;>(first|exact bkn|(refine bkk ?_;intro h))))
        refine WL.ex (fun w hs => refA_open w (hs.front (i := 0) rfl)) (fun y => ?_)
        obtain ⟨A5, c5⟩ := y
        simp only
        refine WL.call c185 rfl rfl rfl rfl (rdisk_put b A5 c5 R4 (by omega) ⟨to, x.data, x.syn⟩ W0 _) ?_
        rintro _ _ ⟨rfl, rfl⟩
        repeat' (first|refine bA ?_|refine bkq fun q=>?_|(refine bk2 ?_ ?_<;>(first|exact bkn|(refine bkk ?_;intro h))))
        rw [show R.rename frm to = (0, { R4 with files := insF ⟨to, x.data, x.syn⟩ R4.files }) from by
          unfold RDisk.rename; rw [if_neg hoff, if_neg hnm, if_neg hnn, hB, if_neg (by simp [*]), if_neg (by assumption), hfa]
          rw [e4, hf4]]
        exact QS.turn (G' := refA b { R4 with files := insF ⟨to, x.data, x.syn⟩ R4.files } :: F) (fun w hs => hs.kick (i := 1) rfl) (QS.retV Tryz.results158 rfl ⟨rfl, rfl⟩)
set_option maxHeartbeats 2000000 in
theorem rdisk_Append (b : Nat) (R : RDisk) (hR : ROk R) (name data : ByteArray) (hda : data.size ≤ 9223372036854775807) (W0 : World) (F : List SL) :
    Fn Tryz.prog 156 [.pointer (some ⟨b, 0, none⟩), .string name, .string data] W0 (refA b R :: F)
      (Ret fun v G' => v = .int .i64 (R.append name data).1 ∧ G' = refA b (R.append name data).2 :: F) := by
  cases hfn : findF name R.files with
  | none => exact rdisk_Append0 b R hR name data hda hfn W0 F
  | some i =>
  have hcnt := hR.count
  have hmost := hR.most
  have hsum := sumF_bound hmost
  have hl0 := hR.left0
  have hl1 := hR.left1
  obtain ⟨x, hx, hxn⟩ := findF_get hfn
  have hxs := hmost x (List.mem_of_getElem? hx)
  have hil := (List.getElem?_eq_some_iff.1 hx).1
  have hai : atF name R.files = (i : Int) := by rw [atF, hfn]
  have hda2 : R.dataAt name = x.data := by rw [RDisk.dataAt, hfn]; simp [hx]
  refine Fn.ex (fun w hs => refA_open w hs) (fun y => ?_)
  obtain ⟨A, c⟩ := y
  simp only
  refine Fn.fact (slc_at (i := 1) rfl) (fun hcap => ?_)
  obtain ⟨g, rfl⟩ : ∃ g, A = some ⟨g, 0, none⟩ := by
    rcases hcap.2.2 with ⟨_, _, h0⟩ | h0
    · exfalso; rw [h0] at hil; simp at hil
    · exact h0
  refine Fn.enter Tryz.func156 rfl Tryz.ntmps156 rfl ?_
  repeat' (first|refine bA ?_|refine bkq fun q=>?_|(refine bk2 ?_ ?_<;>(first|exact bkn|(refine bkk ?_;intro h))))
  refine WL.call c111 rfl rfl rfl rfl (rdisk_at b _ c R (by omega) name W0 _) ?_
  rintro _ _ ⟨rfl, rfl⟩
  rw [hai]
  repeat' (first|refine bA ?_|refine bkq fun q=>?_|(refine bk2 ?_ ?_<;>(first|exact bkn|(refine bkk ?_;intro h))))
  refine WL.call c183 rfl rfl rfl rfl (rdisk_Name name W0 _) ?_
  rintro _ _ ⟨rfl, rfl⟩
  simp only [refCells]
  repeat' (first|refine bA ?_|refine bkq fun q=>?_|(refine bk2 ?_ ?_<;>(first|exact bkn|(refine bkk ?_;intro h))))
  · rw [show R.append name data = (12, R) from by unfold RDisk.append; rw [if_pos (by assumption)]]
    exact QS.turn (G' := refA b R :: F) (fun w hs => refA_shut (A := some ⟨g, 0, none⟩) (c := c) w hs) (QS.retV Tryz.results156 rfl ⟨rfl, rfl⟩)
  · rw [show R.append name data = (1, R) from by unfold RDisk.append; rw [if_neg (by simp [*]), if_pos (by assumption)]]
    exact QS.turn (G' := refA b R :: F) (fun w hs => refA_shut (A := some ⟨g, 0, none⟩) (c := c) w hs) (QS.retV Tryz.results156 rfl ⟨rfl, rfl⟩)
  · rw [show R.append name data = (4, R) from by unfold RDisk.append; rw [if_neg (by simp [*]), if_neg (fun h => h (by assumption)), if_pos (.inl (by assumption))]]
    exact QS.turn (G' := refA b R :: F) (fun w hs => refA_shut (A := some ⟨g, 0, none⟩) (c := c) w hs) (QS.retV Tryz.results156 rfl ⟨rfl, rfl⟩)
  refine WL.s (op1_idxA TT rfE rfl rfl (by omega) rfl rfl rfl) rfl ?_
  repeat' (first|refine bA ?_|refine bkq fun q=>?_|(refine bk2 ?_ ?_<;>(first|exact bkn|(refine bkk ?_;intro h))))
  refine WL.s (op1_loadS TT (E := rfE) 1 (j := i) (k := 1) rfl rfl rfl hx rfl rfl rfl) rfl ?_
  repeat' (first|refine bA ?_|refine bkq fun q=>?_|(refine bk2 ?_ ?_<;>(first|exact bkn|(refine bkk ?_;intro h))))
  · rw [show R.append name data = (4, R) from by unfold RDisk.append; rw [if_neg (by simp [*]), if_neg (fun h => h (by assumption)), if_pos (.inr (.inl ⟨by omega, by rw [hda2]; assumption⟩))]]
    exact QS.turn (G' := refA b R :: F) (fun w hs => refA_shut (A := some ⟨g, 0, none⟩) (c := c) w hs) (QS.retV Tryz.results156 rfl ⟨rfl, rfl⟩)
  · have hoff : ¬ R.off = true := by simp [*]
    have hnm : ¬ ¬ (1 ≤ (name.size : Int) ∧ (name.size : Int) ≤ 30) := fun h => h (by assumption)
    have hlong : ¬ (400000 < (data.size : Int) ∨ (0 ≤ atF name R.files ∧ 400000 < ((R.dataAt name).size : Int) + data.size) ∨ (atF name R.files < 0 ∧ 20 ≤ (R.files.length : Int))) := by rw [hda2, hai]; omega
    refine WQ.call c184 rfl rfl rfl rfl (rdisk_Bytes b _ c R hR W0 _) ?_
    repeat' (first|refine bA ?_|refine bkq fun q=>?_|(refine bk2 ?_ ?_<;>(first|exact bkn|(refine bkk ?_;intro h))))
    · rw [show R.append name data = (8, R) from by unfold RDisk.append; rw [if_neg hoff, if_neg hnm, if_neg hlong, if_pos (by assumption)]]
      exact QS.turn (G' := refA b R :: F) (fun w hs => refA_shut (A := some ⟨g, 0, none⟩) (c := c) w hs) (QS.retV Tryz.results156 rfl ⟨rfl, rfl⟩)
    · have hroom : ¬ R.room < sumF R.files + data.size := by omega
      refine WL.call c181 rfl rfl rfl rfl (rdisk_blows b _ c R hl0 hl1 W0 _) ?_
      rintro _ _ ⟨rfl, rfl⟩
      obtain ⟨B, R2, hB⟩ : ∃ B R2, R.blow = (B, R2) := ⟨R.blow.1, R.blow.2, rfl⟩
      have hbf := blow_files hB
      rw [hB]
      simp only [refCells]
      repeat' (first|refine bk ?_|refine bkc ?_|refine bks ?_|refine bkd ?_|refine bkh ?_|refine bkq (fun q => ?_)|((first|refine bk2 ?_ ?_|refine bk2h ?_ ?_)<;>(first|exact bkn|(refine bkk ?_;intro h))))
      · rw [show R.append name data = (12, R2) from by unfold RDisk.append; rw [if_neg hoff, if_neg hnm, if_neg hlong, if_neg hroom, hB, if_pos (by assumption)]]
        exact QS.turn (G' := refA b R2 :: F) (fun w hs => refA_shut (A := some ⟨g, 0, none⟩) (c := c) w (by simp only [refCells, hbf] at hs ⊢; exact hs)) (QS.retV Tryz.results156 rfl ⟨rfl, rfl⟩)
      · refine WH.s (op1_idxA TT rfE rfl rfl (by rw [hbf]; omega) rfl rfl rfl) rfl ?_
        repeat' (first|refine bk ?_|refine bkc ?_|refine bks ?_|refine bkd ?_|refine bkh ?_|refine bkq (fun q => ?_)|((first|refine bk2 ?_ ?_|refine bk2h ?_ ?_)<;>(first|exact bkn|(refine bkk ?_;intro h))))
        refine WH.s (op1_loadS TT (E := rfE) 1 (j := i) (k := 1) rfl rfl rfl hx rfl rfl rfl) rfl ?_
        repeat' (first|refine bk ?_|refine bkc ?_|refine bks ?_|refine bkd ?_|refine bkh ?_|refine bkq (fun q => ?_)|((first|refine bk2 ?_ ?_|refine bk2h ?_ ?_)<;>(first|exact bkn|(refine bkk ?_;intro h))))
        refine WH.s (op1_idxA TT rfE rfl rfl (by rw [hbf]; omega) rfl rfl rfl) rfl ?_
        repeat' (first|refine bk ?_|refine bkc ?_|refine bks ?_|refine bkd ?_|refine bkh ?_|refine bkq (fun q => ?_)|((first|refine bk2 ?_ ?_|refine bk2h ?_ ?_)<;>(first|exact bkn|(refine bkk ?_;intro h))))
        refine WL.storeS TT (E := rfE) 1 (j := i) (k := 1) (z := x) (z' := { x with data := x.data ++ data }) rfl rfl rfl rfl hx rfl rfl rfl rfl rfl rfl ?_
        repeat' (first|refine bA ?_|refine bkq fun q=>?_|(refine bk2 ?_ ?_<;>(first|exact bkn|(refine bkk ?_;intro h))))
        rw [show R.append name data = (0, { R2 with files := R.files.set i { x with data := x.data ++ data } }) from by unfold RDisk.append; rw [if_neg hoff, if_neg hnm, if_neg hlong, if_neg hroom, hB, if_neg (by simp [*])]; unfold addF; rw [hfn]; simp only [hx]]
        exact QS.turn (G' := refA b { R2 with files := R.files.set i { x with data := x.data ++ data } } :: F) (fun w hs => refA_shut (A := some ⟨g, 0, none⟩) (c := c) w (by simp only [refCells, hbf, List.length_set] at hs ⊢; exact hs)) (QS.retV Tryz.results156 rfl ⟨rfl, rfl⟩)
end Go.Proofs.YtfolmcpfdcgliaaGreat.B
