import Derived.Test.YtpklbelejebcfaaGreatLf
import Derived.Test.YtpklbelejebcfaaGreatLq
set_option linter.unusedVariables false
set_option linter.unusedSimpArgs false
set_option maxRecDepth 8000
/-! The chapter's example; the law on a log's bytes. -/
namespace Go.Proofs.YtpklbelejebcfaaGreat.B
open Go Go.Proofs
attribute [local irreducible] WL CS QS WQ WH WS Fn Op1 row Sat

abbrev logName : ByteArray := ⟨#[108, 111, 103]⟩
abbrev entX : Ent := ⟨1, ⟨#[120]⟩⟩
set_option maxHeartbeats 4000000 in
theorem law_examples (W0 : World) (G : List SL) : Fn Tryz.prog 4 [] W0 G (Ret fun v G' => v = .bool true ∧ G' = G) := by
  obtain ⟨hS, hA, hL, hO⟩ := example_disk
  have ok0 : DiskOk (Disk.new 1000) := new_ok 1000 (by decide)
  refine Fn.enter Tryz.func4 rfl Tryz.ntmps4 rfl ?_
  repeat' (first|refine bk ?_|refine bkc ?_|refine bks ?_|refine bkd ?_|refine bkq (fun q => ?_)|(refine bk2 ?_ ?_<;>(first|exact bkn|(refine bkk ?_;intro h))))
  refine WL.call c5 rfl rfl rfl rfl (disk_New 1000 W0 _) ?_
  rintro _ _ ⟨b, rfl, rfl⟩
  repeat' (first|refine bk ?_|refine bkc ?_|refine bks ?_|refine bkd ?_|refine bkq (fun q => ?_)|(refine bk2 ?_ ?_<;>(first|exact bkn|(refine bkk ?_;intro h))))
  refine WL.call c8 rfl rfl rfl rfl ((log_Store b (Disk.new 1000) ok0 logName 3 none 0 0 [] rfl W0 _ Rd.nil).pre (fun w hs => hs.front (i := 1) rfl)) ?_
  rw [hS]
  rintro _ _ ⟨rfl, rfl⟩
  have ok1 : DiskOk (disk1 1000 logName (mk (logB 3 []))) := by have := storeM_ok ok0 3 [] logName; rwa [hS] at this
  repeat' (first|refine bk ?_|refine bkc ?_|refine bks ?_|refine bkd ?_|refine bkq (fun q => ?_)|(refine bk2 ?_ ?_<;>(first|exact bkn|(refine bkk ?_;intro h))))
  refine WL.call c10 rfl rfl rfl rfl (log_Add b _ ok1 logName 1 ⟨#[120]⟩ W0 _) ?_
  rw [hA]
  rintro _ _ ⟨rfl, rfl⟩
  repeat' (first|refine bk ?_|refine bkc ?_|refine bks ?_|refine bkd ?_|refine bkq (fun q => ?_)|(refine bk2 ?_ ?_<;>(first|exact bkn|(refine bkk ?_;intro h))))
  have hR1 : (disk1 1000 logName (mk (logB 3 [entX]))).read logName = (mk (logB 3 [entX]), 0) := read_one
  have hlen : (logB 3 [entX]).length ≤ 1300000 := logB_len hO
  refine WL.call c16 rfl rfl rfl rfl (log_Load b (disk1 1000 logName (mk (logB 3 [entX]))) logName (by rw [hR1]; show (mk (logB 3 [entX])).size ≤ _; rw [mk_size]; omega) W0 _) ?_
  rw [hR1]
  simp only
  rw [hL]
  rintro _ _ ⟨A, c, rfl, rfl⟩
  repeat' (first|refine bk ?_|refine bkc ?_|refine bks ?_|refine bkd ?_|refine bkq (fun q => ?_)|(refine bk2 ?_ ?_<;>(first|exact bkn|(refine bkk ?_;intro h))))
  rename_i q2
  refine WL.buildSlice TT rfl rfl rfl rfl rfl rfl rfl rfl (fun qs => ?_)
  repeat' (first|refine bk ?_|refine bkc ?_|refine bks ?_|refine bkd ?_|refine bkq (fun q => ?_)|(refine bk2 ?_ ?_<;>(first|exact bkn|(refine bkk ?_;intro h))))
  refine WL.call c18 rfl rfl rfl rfl (law_same 3 3 A (some ⟨qs, 0, none⟩) 1 c 1 1 [entX] [entX] rfl rfl (by decide) W0 _ (Rd.slc (i := 2) rfl) (Rd.row (i := 0) rfl (flat_ent entX))) ?_
  rintro _ _ ⟨rfl, rfl⟩
  have hd : decide ([entX] = [entX] ∧ (3 : Int) = 3) = true := decide_eq_true ⟨rfl, rfl⟩
  rw [hd]
  repeat' (first|refine bk ?_|refine bkc ?_|refine bks ?_|refine bkd ?_|refine bkq (fun q => ?_)|(refine bk2 ?_ ?_<;>(first|exact bkn|(refine bkk ?_;intro h))))
  refine WL.call c20 rfl rfl rfl rfl (log_Right 3 A 1 c [entX] rfl W0 _ (Rd.slc (i := 2) rfl)) ?_
  rintro _ _ ⟨rfl, rfl⟩
  rw [hO]
  repeat' (first|refine bk ?_|refine bkc ?_|refine bks ?_|refine bkd ?_|refine bkq (fun q => ?_)|(refine bk2 ?_ ?_<;>(first|exact bkn|(refine bkk ?_;intro h))))
  exact QS.turn (G' := G) (fun w hs => (((((hs.drop).drop).drop).drop).drop)) (QS.retV Tryz.results4 rfl ⟨rfl, rfl⟩)

end Go.Proofs.YtpklbelejebcfaaGreat.B
