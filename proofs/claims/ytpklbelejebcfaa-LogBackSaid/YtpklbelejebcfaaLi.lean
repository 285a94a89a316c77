import Derived.Test.YtpklbelejebcfaaLg
set_option linter.unusedVariables false
set_option linter.unusedSimpArgs false
set_option maxRecDepth 8000
/-! The law on a disk without room. -/
namespace Go.Proofs.Ytpklbelejebcfaa.B
open Go Go.Proofs
attribute [local irreducible] WL CS QS WQ WH WS Fn Op1 row Sat

theorem ofM_ok (n : Int) (ds : List ByteArray) : logOk (pickM n 1000) (ofM ds) = true := by
  have h := pickM_range (n := n) (m := 1000) (by decide)
  have hl : (ofM ds).length = min ds.length 30 := ofT_len ds _ (Nat.min_le_left _ _)
  rw [logOk_iff]
  exact ⟨⟨h.1, by omega, by omega⟩, ofT_ok ds _ (Nat.min_le_left _ _)⟩
theorem ofM_len (ds : List ByteArray) : (ofM ds).length ≤ 30 := by
  have hl : (ofM ds).length = min ds.length 30 := ofT_len ds _ (Nat.min_le_left _ _)
  omega
theorem logB_short {e : Int} {xs : List Ent} (h : logOk e xs = true) (hl : xs.length ≤ 30) : (logB e xs).length ≤ 130000 ∧ 5 ≤ (logB e xs).length := by
  obtain ⟨⟨h1, h2, h3⟩, h4⟩ := logOk_iff.1 h
  have hI : I64 e := by unfold I64; constructor <;> omega
  have h5 : (entB (xs.take xs.length)).length ≤ 120420 := Nat.le_trans (entB_len h4 h3 xs.length) (Nat.mul_le_mul_right 4014 hl)
  rw [List.take_length] at h5
  have hp := partB_len e hI []
  have hn := num_len hI
  have hs := sealB_len (s := numB e ++ []) (by simp; omega)
  have hq : partB e [] = sealB (numB e ++ []) := by rw [partB, if_neg (by simp; omega)]
  rw [logB, List.length_append]
  rw [hq] at hp ⊢
  omega
theorem store_full {room e : Int} {xs : List Ent} {name t : ByteArray} (hok : logOk e xs = true) (h1 : name ≠ noStr) (h2 : name.size ≤ 16) (ht : (logB e xs).length ≤ 400000) (hr : room - t.size < ((logB e xs).length : Int)) :
    storeM (disk1 room name t) e xs name = (8, disk1 room name t) := by
  obtain ⟨h3, h4, h5⟩ := cat_dot_ne (name := name)
  unfold storeM
  rw [if_neg (by simp only [hok, Bool.true_eq_false, false_or, not_or]; exact ⟨h1, by omega⟩)]
  have hg : aget (disk1 room name t).files (name ++ dotNew) = none := by
    simp only [disk1, aget]
    rw [if_neg (fun e => h3 e.symm)]
  unfold place1
  rw [read_none rfl hg, if_pos rfl]
  have ha : (disk1 room name t).append (name ++ dotNew) (mk (logB e xs)) = (8, disk1 room name t) := by
    unfold Disk.append
    rw [if_neg (by simp [disk1]), if_neg (by simp only [not_or]; exact ⟨h4, by omega⟩), if_neg (by have := mk_size (logB e xs); simp only [Disk.at, Disk.has, hg]; simp [noStr_size, disk1] at *; omega), if_pos (by rw [mk_size]; exact hr)]
  unfold place2
  rw [ha, if_pos (by simp)]

set_option maxHeartbeats 4000000 in
theorem law_LogFull (A B : Option Addr) (k c k2 c2 : Nat) (ds es : List ByteArray) (hk : k = ds.length) (hk2 : k2 = es.length) (W0 : World) (G : List SL) (hR : Rd W0 G strE A ds) (hR2 : Rd W0 G strE B es) :
    Fn Try.prog 6 [.slice A k c, .slice B k2 c2] W0 G (Ret fun v G' => v = .bool true ∧ G' = G) := by
  refine Fn.enter Try.func6 rfl Try.ntmps6 rfl ?_
  have okA := ofM_ok 1 ds
  have okB := ofM_ok 2 es
  have lA := logB_short okA (ofM_len ds)
  have lB := logB_short okB (ofM_len es)
  repeat' (first|refine bk ?_|refine bkc ?_|refine bks ?_|refine bkd ?_|refine bkq (fun q => ?_)|(refine bk2 ?_ ?_<;>(first|exact bkn|(refine bkk ?_;intro h))))
  refine WL.call c10 rfl rfl rfl rfl (law_examples W0 _) ?_
  rintro _ _ ⟨rfl, rfl⟩
  repeat' (first|refine bk ?_|refine bkc ?_|refine bks ?_|refine bkd ?_|refine bkq (fun q => ?_)|(refine bk2 ?_ ?_<;>(first|exact bkn|(refine bkk ?_;intro h))))
  refine WL.call c22 rfl rfl rfl rfl (law_of 1 (by unfold I64; decide) A k c ds hk W0 _ hR) ?_
  rintro _ _ ⟨A1, c1, rfl, rfl⟩
  repeat' (first|refine bk ?_|refine bkc ?_|refine bks ?_|refine bkd ?_|refine bkq (fun q => ?_)|(refine bk2 ?_ ?_<;>(first|exact bkn|(refine bkk ?_;intro h))))
  refine WL.call c22 rfl rfl rfl rfl (law_of 2 (by unfold I64; decide) B k2 c2 es hk2 W0 _ hR2.cons.cons) ?_
  rintro _ _ ⟨A2, c3, rfl, rfl⟩
  repeat' (first|refine bk ?_|refine bkc ?_|refine bks ?_|refine bkd ?_|refine bkq (fun q => ?_)|(refine bk2 ?_ ?_<;>(first|exact bkn|(refine bkk ?_;intro h))))
  rename_i qa
  refine WL.call c11 rfl rfl rfl rfl (log_Bytes (pickM 1 1000) A1 (ofM ds).length c1 (ofM ds) rfl W0 _ (Rd.slc (i := 3) rfl)) ?_
  rw [okA]
  rintro _ _ ⟨rfl, rfl⟩
  simp only [if_true]
  repeat' (first|refine bk ?_|refine bkc ?_|refine bks ?_|refine bkd ?_|refine bkq (fun q => ?_)|(refine bk2 ?_ ?_<;>(first|exact bkn|(refine bkk ?_;intro h))))
  refine WL.call c11 rfl rfl rfl rfl (log_Bytes (pickM 2 1000) A2 (ofM es).length c3 (ofM es) rfl W0 _ (Rd.slc (i := 1) rfl)) ?_
  rw [okB]
  rintro _ _ ⟨rfl, rfl⟩
  simp only [if_true]
  have mA := mk_size (logB (pickM 1 1000) (ofM ds))
  have mB := mk_size (logB (pickM 2 1000) (ofM es))
  repeat' (first|refine bk ?_|refine bkc ?_|refine bks ?_|refine bkd ?_|refine bkq (fun q => ?_)|(refine bk2 ?_ ?_<;>(first|exact bkn|(refine bkk ?_;intro h))))
  refine WL.call c15 rfl rfl rfl rfl (disk_New _ W0 _) ?_
  rintro _ _ ⟨b, rfl, rfl⟩
  repeat' (first|refine bk ?_|refine bkc ?_|refine bks ?_|refine bkd ?_|refine bkq (fun q => ?_)|(refine bk2 ?_ ?_<;>(first|exact bkn|(refine bkk ?_;intro h))))
  · exact QS.turn (fun w hs => hs.drop.drop.drop.drop.drop) (QS.retV Try.results6 rfl ⟨rfl, rfl⟩)
  have hroom0 : (0 : Int) ≤ ((mk (logB (pickM 1 1000) (ofM ds))).size : Int) + ((mk (logB (pickM 2 1000) (ofM es))).size : Int) - 1 := by omega
  have ok0 : DiskOk (Disk.new (((mk (logB (pickM 1 1000) (ofM ds))).size : Int) + ((mk (logB (pickM 2 1000) (ofM es))).size : Int) - 1)) := new_ok _ (by omega)
  have hS1 := store_first (name := ⟨#[106]⟩) hroom0 okA (by decide) (by decide) (by omega) (by omega)
  have ok1 := storeM_ok ok0 (pickM 1 1000) (ofM ds) ⟨#[106]⟩
  refine WL.call c25 rfl rfl rfl rfl (log_Store b _ ok0 ⟨#[106]⟩ (pickM 1 1000) A1 (ofM ds).length c1 (ofM ds) rfl W0 _ (Rd.slc (i := 4) rfl)) ?_
  rw [hS1] at ok1 ⊢
  rintro _ _ ⟨rfl, rfl⟩
  repeat' (first|refine bk ?_|refine bkc ?_|refine bks ?_|refine bkd ?_|refine bkq (fun q => ?_)|(refine bk2 ?_ ?_<;>(first|exact bkn|(refine bkk ?_;intro h))))
  have hS2 := store_full (room := ((mk (logB (pickM 1 1000) (ofM ds))).size : Int) + ((mk (logB (pickM 2 1000) (ofM es))).size : Int) - 1) (t := mk (logB (pickM 1 1000) (ofM ds))) (name := ⟨#[106]⟩) okB (by decide) (by decide) (by omega) (by omega)
  refine WL.call c25 rfl rfl rfl rfl (log_Store b _ ok1 ⟨#[106]⟩ (pickM 2 1000) A2 (ofM es).length c3 (ofM es) rfl W0 _ (Rd.slc (i := 2) rfl)) ?_
  rw [hS2]
  rintro _ _ ⟨rfl, rfl⟩
  repeat' (first|refine bk ?_|refine bkc ?_|refine bks ?_|refine bkd ?_|refine bkq (fun q => ?_)|(refine bk2 ?_ ?_<;>(first|exact bkn|(refine bkk ?_;intro h))))
  have hL := parseP_log okA [] (.inr (takeEnt_nil _))
  rw [List.append_nil] at hL
  have hR1 : (disk1 (((mk (logB (pickM 1 1000) (ofM ds))).size : Int) + ((mk (logB (pickM 2 1000) (ofM es))).size : Int) - 1) ⟨#[106]⟩ (mk (logB (pickM 1 1000) (ofM ds)))).read ⟨#[106]⟩ = (mk (logB (pickM 1 1000) (ofM ds)), 0) := read_one
  have hM : loadM (bs (mk (logB (pickM 1 1000) (ofM ds)))) 0 = (pickM 1 1000, ofM ds, true, 0) := by
    rw [loadM, if_pos rfl, bs_mk, hL]; simp
  refine WL.call c19 rfl rfl rfl rfl (log_Load b _ ⟨#[106]⟩ (by rw [hR1]; show (mk (logB (pickM 1 1000) (ofM ds))).size ≤ _; omega) W0 _) ?_
  rw [hR1]
  simp only
  rw [hM]
  rintro _ _ ⟨A4, c4, rfl, rfl⟩
  repeat' (first|refine bk ?_|refine bkc ?_|refine bks ?_|refine bkd ?_|refine bkq (fun q => ?_)|(refine bk2 ?_ ?_<;>(first|exact bkn|(refine bkk ?_;intro h))))
  refine WL.s (op1_load TT 5 rfl rfl rfl) rfl ?_
  have hlA := ofM_len ds
  refine WL.call c21 rfl rfl rfl rfl (law_same (pickM 1 1000) (pickM 1 1000) A4 A1 (ofM ds).length c4 (ofM ds).length c1 (ofM ds) (ofM ds) rfl rfl (by omega) W0 _ (Rd.slc (i := 1) rfl) (Rd.slc (i := 6) rfl)) ?_
  rintro _ _ ⟨rfl, rfl⟩
  rw [show decide (ofM ds = ofM ds ∧ pickM 1 1000 = pickM 1 1000) = true from decide_eq_true ⟨rfl, rfl⟩]
  repeat' (first|refine bk ?_|refine bkc ?_|refine bks ?_|refine bkd ?_|refine bkq (fun q => ?_)|(refine bk2 ?_ ?_<;>(first|exact bkn|(refine bkk ?_;intro h))))
  exact QS.turn (fun w hs => hs.drop.drop.drop.drop.drop.drop.drop) (QS.retV Try.results6 rfl ⟨rfl, rfl⟩)
end Go.Proofs.Ytpklbelejebcfaa.B
