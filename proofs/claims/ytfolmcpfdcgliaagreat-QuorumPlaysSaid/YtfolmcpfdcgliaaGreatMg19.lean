import Derived.Test.YtfolmcpfdcgliaaGreatMg8
import Derived.Test.YtfolmcpfdcgliaaGreatMg18
set_option linter.unusedVariables false
set_option linter.unusedSimpArgs false
set_option maxRecDepth 8000
namespace Go.Proofs.YtfolmcpfdcgliaaGreat.B
open Go Go.Proofs
attribute [local irreducible] WL CS QS WQ WH WS Fn Op1 row Sat
def fileV (f : File) : Value := .agg #[.string f.data, .int .i64 f.synced]
def diskCells (m : Nat) (D : Disk) : List Value := [.map (some m), .int .i64 D.room, .int .i64 D.used, .int .i64 D.fuse, .bool D.down]
def diskA (b : Nat) (D : Disk) : SL := fun h => ∃ m, star (row b 135 (diskCells m D)) (mapb strK fileV m D.files) h
section
variable {W0 : World} {F : List SL} {b : Nat} {D : Disk}
theorem diskA_open : ∀ w, Sat W0 (diskA b D :: F) w → ∃ m, Sat W0 (row b 135 (diskCells m D) :: mapb strK fileV m D.files :: F) w := fun w hs => by
  obtain ⟨m, hm⟩ := Sat.ex (R := fun m => star (row b 135 (diskCells m D)) (mapb strK fileV m D.files)) hs
  exact ⟨m, hm.split⟩
theorem diskA_shut {m : Nat} : ∀ w, Sat W0 (row b 135 (diskCells m D) :: mapb strK fileV m D.files :: F) w → Sat W0 (diskA b D :: F) w := fun w hs =>
  hs.join.imp fun hp h => ⟨m, h⟩
end
attribute [local irreducible] diskA mapb
theorem disk_blown (b m : Nat) (D : Disk) (W0 : World) (F : List SL) (h0 : 0 ≤ D.fuse) (h1 : D.fuse ≤ 9223372036854775807) :
    Fn Tryz.prog 179 [.pointer (some ⟨b, 0, none⟩)] W0 (row b 135 (diskCells m D) :: F)
      (Ret fun v G' => v = .bool D.blow.1 ∧ G' = row b 135 (diskCells m D.blow.2) :: F) := by
  refine Fn.enter Tryz.func179 rfl Tryz.ntmps179 rfl ?_
  simp only [diskCells]
  repeat' (first|refine bk ?_|refine bkc ?_|refine bks ?_|refine bkd ?_|refine bkh ?_|refine bkq (fun q => ?_)|((first|refine bk2 ?_ ?_|refine bk2h ?_ ?_)<;>(first|exact bkn|(refine bkk ?_;intro h))))
  · refine QS.retV Tryz.results179 rfl ⟨?_, ?_⟩ <;> simp [Disk.blow, h, resV]
  · refine QS.retV Tryz.results179 rfl ⟨?_, ?_⟩ <;> simp [Disk.blow, show ¬ 0 < D.fuse from by omega, resV]
theorem disk_New (r : Int) (W0 : World) (F : List SL) :
    Fn Tryz.prog 28 [.int .i64 r] W0 F (Ret fun v G' => ∃ b, v = .pointer (some ⟨b, 0, none⟩) ∧ G' = diskA b (Disk.new r) :: F) := by
  refine Fn.enter Tryz.func28 rfl Tryz.ntmps28 rfl ?_
  repeat' (first|refine bk ?_|refine bkc ?_|refine bks ?_|refine bkd ?_|refine bkh ?_|refine bkq (fun q => ?_)|((first|refine bk2 ?_ ?_|refine bk2h ?_ ?_)<;>(first|exact bkn|(refine bkk ?_;intro h))))
  refine WL.makeMap ByteArray File strK fileV rfl (fun m => ?_)
  repeat' (first|refine bk ?_|refine bkc ?_|refine bks ?_|refine bkd ?_|refine bkh ?_|refine bkq (fun q => ?_)|((first|refine bk2 ?_ ?_|refine bk2h ?_ ?_)<;>(first|exact bkn|(refine bkk ?_;intro h))))
  refine QS.turn (G' := diskA q (Disk.new r) :: F) (fun w hs => diskA_shut (m := m) w ?_) (QS.retV Tryz.results28 rfl ⟨q, rfl, rfl⟩)
  have e : (if 0 > r then 0 else r) = max r 0 := by split <;> omega
  rw [e] at hs
  exact hs
set_option maxHeartbeats 400000 in
theorem disk_Read (b : Nat) (D : Disk) (name : ByteArray) (W0 : World) (F : List SL) :
    Fn Tryz.prog 62 [.pointer (some ⟨b, 0, none⟩), .string name] W0 (diskA b D :: F)
      (Ret fun v G' => v = .tuple #[.string (D.read name).1, .int .i64 (D.read name).2] ∧ G' = diskA b D :: F) := by
  refine Fn.ex (fun w hs => diskA_open w hs) (fun m => ?_)
  refine Fn.enter Tryz.func62 rfl Tryz.ntmps62 rfl ?_
  simp only [diskCells]
  repeat' (first|refine bk ?_|refine bkc ?_|refine bks ?_|refine bkd ?_|refine bkh ?_|refine bkq (fun q => ?_)|((first|refine bk2 ?_ ?_|refine bk2h ?_ ?_)<;>(first|exact bkn|(refine bkk ?_;intro h))))
  refine WL.lookupD TT (kk := strK) 1 (D.at name) (D.has name) rfl rfl rfl rfl rfl rfl rfl rfl rfl rfl ?_
  repeat' (first|refine bk ?_|refine bkc ?_|refine bks ?_|refine bkd ?_|refine bkh ?_|refine bkq (fun q => ?_)|((first|refine bk2 ?_ ?_|refine bk2h ?_ ?_)<;>(first|exact bkn|(refine bkk ?_;intro h))))
  all_goals
    refine QS.turn (G' := diskA b D :: F) (fun w hs => diskA_shut (m := m) w hs.drop) (QS.retV Tryz.results62 rfl ⟨?_, rfl⟩)
    simp [Disk.read, resV, *]
set_option maxHeartbeats 1000000 in
theorem disk_Append (b : Nat) (D : Disk) (hD : DiskOk D) (name data : ByteArray) (hda : data.size ≤ 9223372036854775807) (W0 : World) (F : List SL) :
    Fn Tryz.prog 148 [.pointer (some ⟨b, 0, none⟩), .string name, .string data] W0 (diskA b D :: F)
      (Ret fun v G' => v = .int .i64 (D.append name data).1 ∧ G' = diskA b (D.append name data).2 :: F) := by
  refine Fn.ex (fun w hs => diskA_open w hs) (fun m => ?_)
  have hu0 := hD.used0
  have hr0 := hD.room0
  have hr1 := hD.room1
  have hfo := (hD.at_ok name).most
  have hcnt := hD.count
  refine Fn.enter Tryz.func148 rfl Tryz.ntmps148 rfl ?_
  simp only [diskCells]
  repeat' (first|refine bk ?_|refine bkc ?_|refine bks ?_|refine bkd ?_|refine bkh ?_|refine bkq (fun q => ?_)|((first|refine bk2 ?_ ?_|refine bk2h ?_ ?_)<;>(first|exact bkn|(refine bkk ?_;intro h))))
  have e1 := blow_same (D := D)
  refine WL.lookupD TT (kk := strK) 1 (D.at name) (D.has name) rfl rfl rfl rfl rfl rfl rfl rfl rfl rfl ?_
  repeat' (first|refine bk ?_|refine bkc ?_|refine bks ?_|refine bkd ?_|refine bkh ?_|refine bkq (fun q => ?_)|((first|refine bk2 ?_ ?_|refine bk2h ?_ ?_)<;>(first|exact bkn|(refine bkk ?_;intro h))))
  all_goals try (refine QS.turn (G' := diskA b D :: F) (fun w hs => diskA_shut (m := m) w hs.drop) (QS.retV Tryz.results148 rfl ⟨?_, ?_⟩) <;> simp [Disk.append, resV, *]; done)
  all_goals
    refine WL.call c179 rfl rfl rfl rfl ((disk_blown b m D W0 (row q 138 [.string (D.at name).data, .int .i64 (D.at name).synced] :: mapb strK fileV m D.files :: F) hD.fuse0 hD.fuse1).pre (fun w hs => hs.front (i := 1) rfl)) ?_
    rintro _ _ ⟨rfl, rfl⟩
    have hb1 : 0 ≤ D.blow.2.used := by rw [e1.2.2]; exact hu0
    have hb2 : D.blow.2.used + data.size ≤ 9223372036854775807 := by rw [e1.2.2]; omega
    repeat' (first|refine bk ?_|refine bkc ?_|refine bks ?_|refine bkd ?_|refine bkh ?_|refine bkq (fun q => ?_)|((first|refine bk2 ?_ ?_|refine bk2h ?_ ?_)<;>(first|exact bkn|(refine bkk ?_;intro h))))
    · refine QS.turn (G' := diskA b D.blow.2 :: F) (fun w hs => diskA_shut (m := m) w (by rw [e1.1]; exact hs.kick (i := 1) rfl)) (QS.retV Tryz.results148 rfl ⟨?_, ?_⟩) <;> simp [Disk.append, resV, *]
    · refine WL.mapUpdate TT (kk := strK) (ev := fileV) (u := ⟨(D.at name).data ++ data, (D.at name).synced⟩) 2 rfl rfl rfl rfl rfl rfl rfl rfl ?_
      repeat' (first|refine bk ?_|refine bkc ?_|refine bks ?_|refine bkd ?_|refine bkh ?_|refine bkq (fun q => ?_)|((first|refine bk2 ?_ ?_|refine bk2h ?_ ?_)<;>(first|exact bkn|(refine bkk ?_;intro h))))
      refine QS.turn (G' := diskA b { D.blow.2 with files := aput D.files name ⟨(D.at name).data ++ data, (D.at name).synced⟩, used := D.used + data.size } :: F) (fun w hs => diskA_shut (m := m) w (by rw [e1.2.2] at hs; exact hs.kick (i := 1) rfl)) (QS.retV Tryz.results148 rfl ⟨?_, ?_⟩) <;> simp [Disk.append, resV, *]
set_option maxHeartbeats 1000000 in
theorem disk_Sync (b : Nat) (D : Disk) (hD : DiskOk D) (name : ByteArray) (W0 : World) (F : List SL) :
    Fn Tryz.prog 150 [.pointer (some ⟨b, 0, none⟩), .string name] W0 (diskA b D :: F)
      (Ret fun v G' => v = .int .i64 (D.sync name).1 ∧ G' = diskA b (D.sync name).2 :: F) := by
  refine Fn.ex (fun w hs => diskA_open w hs) (fun m => ?_)
  refine Fn.enter Tryz.func150 rfl Tryz.ntmps150 rfl ?_
  simp only [diskCells]
  repeat' (first|refine bk ?_|refine bkc ?_|refine bks ?_|refine bkd ?_|refine bkh ?_|refine bkq (fun q => ?_)|((first|refine bk2 ?_ ?_|refine bk2h ?_ ?_)<;>(first|exact bkn|(refine bkk ?_;intro h))))
  have e1 := blow_same (D := D)
  refine WL.lookupD TT (kk := strK) 1 (D.at name) (D.has name) rfl rfl rfl rfl rfl rfl rfl rfl rfl rfl ?_
  repeat' (first|refine bk ?_|refine bkc ?_|refine bks ?_|refine bkd ?_|refine bkh ?_|refine bkq (fun q => ?_)|((first|refine bk2 ?_ ?_|refine bk2h ?_ ?_)<;>(first|exact bkn|(refine bkk ?_;intro h))))
  all_goals try (refine QS.turn (G' := diskA b D :: F) (fun w hs => diskA_shut (m := m) w hs.drop) (QS.retV Tryz.results150 rfl ⟨?_, ?_⟩) <;> simp [Disk.sync, resV, *]; done)
  refine WL.call c179 rfl rfl rfl rfl ((disk_blown b m D W0 (row q 138 [.string (D.at name).data, .int .i64 (D.at name).synced] :: mapb strK fileV m D.files :: F) hD.fuse0 hD.fuse1).pre (fun w hs => hs.front (i := 1) rfl)) ?_
  rintro _ _ ⟨rfl, rfl⟩
  repeat' (first|refine bk ?_|refine bkc ?_|refine bks ?_|refine bkd ?_|refine bkh ?_|refine bkq (fun q => ?_)|((first|refine bk2 ?_ ?_|refine bk2h ?_ ?_)<;>(first|exact bkn|(refine bkk ?_;intro h))))
  · refine QS.turn (G' := diskA b D.blow.2 :: F) (fun w hs => diskA_shut (m := m) w (by rw [e1.1]; exact hs.kick (i := 1) rfl)) (QS.retV Tryz.results150 rfl ⟨?_, ?_⟩) <;> simp [Disk.sync, resV, *]
  · refine WL.mapUpdate TT (kk := strK) (ev := fileV) (u := ⟨(D.at name).data, (D.at name).data.size⟩) 2 rfl rfl rfl rfl rfl rfl rfl rfl ?_
    repeat' (first|refine bk ?_|refine bkc ?_|refine bks ?_|refine bkd ?_|refine bkh ?_|refine bkq (fun q => ?_)|((first|refine bk2 ?_ ?_|refine bk2h ?_ ?_)<;>(first|exact bkn|(refine bkk ?_;intro h))))
    refine QS.turn (G' := diskA b { D.blow.2 with files := aput D.files name ⟨(D.at name).data, (D.at name).data.size⟩ } :: F) (fun w hs => diskA_shut (m := m) w (hs.kick (i := 1) rfl)) (QS.retV Tryz.results150 rfl ⟨?_, ?_⟩) <;> simp [Disk.sync, resV, *]
set_option maxHeartbeats 1000000 in
theorem disk_Delete (b : Nat) (D : Disk) (hD : DiskOk D) (name : ByteArray) (W0 : World) (F : List SL) :
    Fn Tryz.prog 146 [.pointer (some ⟨b, 0, none⟩), .string name] W0 (diskA b D :: F)
      (Ret fun v G' => v = .int .i64 (D.delete name).1 ∧ G' = diskA b (D.delete name).2 :: F) := by
  refine Fn.ex (fun w hs => diskA_open w hs) (fun m => ?_)
  have hu0 := hD.used0
  have hr0 := hD.room0
  have hr1 := hD.room1
  have hfo := (hD.at_ok name).most
  refine Fn.enter Tryz.func146 rfl Tryz.ntmps146 rfl ?_
  simp only [diskCells]
  repeat' (first|refine bk ?_|refine bkc ?_|refine bks ?_|refine bkd ?_|refine bkh ?_|refine bkq (fun q => ?_)|((first|refine bk2 ?_ ?_|refine bk2h ?_ ?_)<;>(first|exact bkn|(refine bkk ?_;intro h))))
  have e1 := blow_same (D := D)
  refine WL.lookupD TT (kk := strK) 1 (D.at name) (D.has name) rfl rfl rfl rfl rfl rfl rfl rfl rfl rfl ?_
  repeat' (first|refine bk ?_|refine bkc ?_|refine bks ?_|refine bkd ?_|refine bkh ?_|refine bkq (fun q => ?_)|((first|refine bk2 ?_ ?_|refine bk2h ?_ ?_)<;>(first|exact bkn|(refine bkk ?_;intro h))))
  all_goals try (refine QS.turn (G' := diskA b D :: F) (fun w hs => diskA_shut (m := m) w hs.drop) (QS.retV Tryz.results146 rfl ⟨?_, ?_⟩) <;> simp [Disk.delete, resV, *]; done)
  refine WL.call c179 rfl rfl rfl rfl ((disk_blown b m D W0 (row q 138 [.string (D.at name).data, .int .i64 (D.at name).synced] :: mapb strK fileV m D.files :: F) hD.fuse0 hD.fuse1).pre (fun w hs => hs.front (i := 1) rfl)) ?_
  rintro _ _ ⟨rfl, rfl⟩
  have hb1 : 0 ≤ D.blow.2.used := by rw [e1.2.2]; exact hu0
  have hb2 : D.blow.2.used ≤ 9223372036854775807 := by rw [e1.2.2]; omega
  repeat' (first|refine bk ?_|refine bkc ?_|refine bks ?_|refine bkd ?_|refine bkh ?_|refine bkq (fun q => ?_)|((first|refine bk2 ?_ ?_|refine bk2h ?_ ?_)<;>(first|exact bkn|(refine bkk ?_;intro h))))
  · refine QS.turn (G' := diskA b D.blow.2 :: F) (fun w hs => diskA_shut (m := m) w (by rw [e1.1]; exact hs.kick (i := 1) rfl)) (QS.retV Tryz.results146 rfl ⟨?_, ?_⟩) <;> simp [Disk.delete, resV, *]
  · refine WL.delete TT (kk := strK) (ev := fileV) 2 rfl rfl rfl rfl rfl rfl rfl rfl ?_
    repeat' (first|refine bk ?_|refine bkc ?_|refine bks ?_|refine bkd ?_|refine bkh ?_|refine bkq (fun q => ?_)|((first|refine bk2 ?_ ?_|refine bk2h ?_ ?_)<;>(first|exact bkn|(refine bkk ?_;intro h))))
    refine QS.turn (G' := diskA b { D.blow.2 with files := adel D.files name, used := D.used - (D.at name).data.size } :: F) (fun w hs => diskA_shut (m := m) w (by rw [e1.2.2] at hs; exact hs.kick (i := 1) rfl)) (QS.retV Tryz.results146 rfl ⟨?_, ?_⟩) <;> simp [Disk.delete, resV, *]
set_option maxHeartbeats 1000000 in
theorem disk_Rename (b : Nat) (D : Disk) (hD : DiskOk D) (frm to : ByteArray) (W0 : World) (F : List SL) :
    Fn Tryz.prog 151 [.pointer (some ⟨b, 0, none⟩), .string frm, .string to] W0 (diskA b D :: F)
      (Ret fun v G' => v = .int .i64 (D.rename frm to).1 ∧ G' = diskA b (D.rename frm to).2 :: F) := by
  refine Fn.ex (fun w hs => diskA_open w hs) (fun m => ?_)
  have hu0 := hD.used0
  have hr0 := hD.room0
  have hr1 := hD.room1
  have hfo := (hD.at_ok frm).most
  have hft := (hD.at_ok to).most
  refine Fn.enter Tryz.func151 rfl Tryz.ntmps151 rfl ?_
  simp only [diskCells]
  repeat' (first|refine bk ?_|refine bkc ?_|refine bks ?_|refine bkd ?_|refine bkh ?_|refine bkq (fun q => ?_)|((first|refine bk2 ?_ ?_|refine bk2h ?_ ?_)<;>(first|exact bkn|(refine bkk ?_;intro h))))
  have e1 := blow_same (D := D)
  refine WL.lookupD TT (kk := strK) 1 (D.at frm) (D.has frm) rfl rfl rfl rfl rfl rfl rfl rfl rfl rfl ?_
  repeat' (first|refine bk ?_|refine bkc ?_|refine bks ?_|refine bkd ?_|refine bkh ?_|refine bkq (fun q => ?_)|((first|refine bk2 ?_ ?_|refine bk2h ?_ ?_)<;>(first|exact bkn|(refine bkk ?_;intro h))))
  all_goals try (refine QS.turn (G' := diskA b D :: F) (fun w hs => diskA_shut (m := m) w hs.drop) (QS.retV Tryz.results151 rfl ⟨?_, ?_⟩) <;> simp [Disk.rename, resV, *]; done)
  refine WL.call c179 rfl rfl rfl rfl ((disk_blown b m D W0 (row q 138 [.string (D.at frm).data, .int .i64 (D.at frm).synced] :: mapb strK fileV m D.files :: F) hD.fuse0 hD.fuse1).pre (fun w hs => hs.front (i := 1) rfl)) ?_
  rintro _ _ ⟨rfl, rfl⟩
  have hb1 : 0 ≤ D.blow.2.used := by rw [e1.2.2]; exact hu0
  have hb2 : D.blow.2.used ≤ 9223372036854775807 := by rw [e1.2.2]; omega
  repeat' (first|refine bk ?_|refine bkc ?_|refine bks ?_|refine bkd ?_|refine bkh ?_|refine bkq (fun q => ?_)|((first|refine bk2 ?_ ?_|refine bk2h ?_ ?_)<;>(first|exact bkn|(refine bkk ?_;intro h))))
  · refine QS.turn (G' := diskA b D.blow.2 :: F) (fun w hs => diskA_shut (m := m) w (by rw [e1.1]; exact hs.kick (i := 1) rfl)) (QS.retV Tryz.results151 rfl ⟨?_, ?_⟩) <;> simp [Disk.rename, resV, *]
  · refine WH.s (op1_look1D TT (kk := strK) 2 (D.at to) rfl rfl rfl rfl rfl rfl rfl rfl) rfl ?_
    repeat' (first|refine bk ?_|refine bkc ?_|refine bks ?_|refine bkd ?_|refine bkh ?_|refine bkq (fun q => ?_)|((first|refine bk2 ?_ ?_|refine bk2h ?_ ?_)<;>(first|exact bkn|(refine bkk ?_;intro h))))
    refine WL.delete TT (kk := strK) (ev := fileV) 2 rfl rfl rfl rfl rfl rfl rfl rfl ?_
    repeat' (first|refine bk ?_|refine bkc ?_|refine bks ?_|refine bkd ?_|refine bkh ?_|refine bkq (fun q => ?_)|((first|refine bk2 ?_ ?_|refine bk2h ?_ ?_)<;>(first|exact bkn|(refine bkk ?_;intro h))))
    refine WL.mapUpdate TT (kk := strK) (ev := fileV) (u := D.at frm) 2 rfl rfl rfl rfl rfl rfl rfl rfl ?_
    repeat' (first|refine bk ?_|refine bkc ?_|refine bks ?_|refine bkd ?_|refine bkh ?_|refine bkq (fun q => ?_)|((first|refine bk2 ?_ ?_|refine bk2h ?_ ?_)<;>(first|exact bkn|(refine bkk ?_;intro h))))
    refine QS.turn (G' := diskA b { D.blow.2 with files := aput (adel D.files frm) to (D.at frm), used := D.used - (D.at to).data.size } :: F) (fun w hs => diskA_shut (m := m) w (by rw [e1.2.2] at hs; exact hs.kick (i := 1) rfl)) (QS.retV Tryz.results151 rfl ⟨?_, ?_⟩) <;> simp [Disk.rename, resV, *]
  · refine QS.turn (G' := diskA b D.blow.2 :: F) (fun w hs => diskA_shut (m := m) w (by rw [e1.1]; exact hs.kick (i := 1) rfl)) (QS.retV Tryz.results151 rfl ⟨?_, ?_⟩) <;> (subst h; simp [Disk.rename, resV, *])
end Go.Proofs.YtfolmcpfdcgliaaGreat.B
