import Derived.Test.YtpklbelejebcfaaGreatDc
set_option linter.unusedVariables false
set_option linter.unusedSimpArgs false
set_option maxRecDepth 8000
/-! The disk's list, what is used, and whether it is down. -/
namespace Go.Proofs.YtpklbelejebcfaaGreat.B
open Go Go.Proofs
attribute [local irreducible] WL CS QS WQ WH WS Fn Op1 row Sat
attribute [local irreducible] diskA mapb slc

theorem disk_List {b : Nat} {D : Disk} (hD : DiskOk D) (W0 : World) (F : List SL) :
    Fn Tryz.prog 40 [.pointer (some ⟨b, 0, none⟩)] W0 (diskA b D :: F)
      (Ret fun v G' => ∃ A c, v = .slice A D.list.length c ∧ G' = slc strE 9 A c D.list :: diskA b D :: F) := by
  refine Fn.ex (fun w hs => diskA_open w hs) (fun m => ?_)
  refine Fn.enter Tryz.func40 rfl Tryz.ntmps40 rfl ?_
  simp only [diskCells]
  repeat' (first|refine bk ?_|refine bkc ?_|refine bks ?_|refine bkd ?_|refine bkq (fun q => ?_)|(refine bk2 ?_ ?_<;>(first|exact bkn|(refine bkk ?_;intro h))))
  · refine QS.turn (G' := slc strE 9 none 0 D.list :: diskA b D :: F) (fun w hs => ?_) (QS.retV Tryz.results40 rfl ⟨none, 0, ?_, rfl⟩)
    · rw [Disk.list, if_pos h]
      exact (diskA_shut (m := m) w hs).slcNil strE _
    · rw [Disk.list, if_pos h]; rfl
  · refine WL.call c33 rfl rfl rfl rfl (disk_names (m := m) (b := b) hD.nodup (fun x hx => (hD.keys x hx).2) hD.count W0 F) ?_
    rintro _ _ ⟨A, c, rfl, rfl⟩
    repeat' (first|refine bk ?_|refine bkc ?_|refine bks ?_|refine bkd ?_|refine bkq (fun q => ?_)|(refine bk2 ?_ ?_<;>(first|exact bkn|(refine bkk ?_;intro h))))
    refine QS.turn (G' := slc strE 9 A c D.list :: diskA b D :: F) (fun w hs => ?_) (QS.retV Tryz.results40 rfl ⟨A, c, ?_, rfl⟩)
    · rw [Disk.list, if_neg (by rw [h]; decide)]
      exact (diskA_shut (m := m) w ((hs.front (i := 2) rfl).front (i := 2) rfl)).front (i := 1) rfl
    · rw [Disk.list, if_neg (by rw [h]; decide)]; rfl

theorem disk_Used {b : Nat} {D : Disk} (W0 : World) (F : List SL) :
    Fn Tryz.prog 42 [.pointer (some ⟨b, 0, none⟩)] W0 (diskA b D :: F) (Ret fun v G' => v = .int .i64 D.usedOf ∧ G' = diskA b D :: F) := by
  refine Fn.ex (fun w hs => diskA_open w hs) (fun m => ?_)
  refine Fn.enter Tryz.func42 rfl Tryz.ntmps42 rfl ?_
  simp only [diskCells]
  repeat' (first|refine bk ?_|refine bkc ?_|refine bks ?_|refine bkd ?_|refine bkq (fun q => ?_)|(refine bk2 ?_ ?_<;>(first|exact bkn|(refine bkk ?_;intro h))))
  all_goals
    refine QS.turn (G' := diskA b D :: F) (fun w hs => diskA_shut (m := m) w hs) (QS.retV Tryz.results42 rfl ⟨?_, rfl⟩)
    simp [Disk.usedOf, resV, *]
end Go.Proofs.YtpklbelejebcfaaGreat.B
