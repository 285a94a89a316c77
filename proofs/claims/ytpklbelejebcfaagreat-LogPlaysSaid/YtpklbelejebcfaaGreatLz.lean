import Derived.Test.YtpklbelejebcfaaGreatLy
import Derived.Test.YtpklbelejebcfaaGreatLg
import Derived.Test.YtpklbelejebcfaaGreatDv
import Derived.Test.YtpklbelejebcfaaGreatEt
import Derived.Test.YtpklbelejebcfaaGreatRv
set_option linter.unusedVariables false
set_option linter.unusedSimpArgs false
set_option linter.unusedSectionVars false
set_option maxRecDepth 8000
/-! LogPlays: the walk. -/
namespace Go.Proofs.YtpklbelejebcfaaGreat.B
open Go Go.Proofs
attribute [local irreducible] WL CS QS WQ WH WS Fn Op1 row Sat
attribute [local irreducible] diskA mapb slc refA

theorem list_few {D : Disk} (hD : DiskOk D) : D.list.length ≤ 20 := by
  have h1 := names_len hD
  have h2 := hD.count
  unfold Disk.list
  split
  · simp
  · omega
set_option maxHeartbeats 2000000 in
theorem law14_disks (b1 b2 : Nat) (D : Disk) (hD : DiskOk D) (W0 : World) (F : List SL) :
    Fn Tryz.prog 19 [.pointer (some ⟨b1, 0, none⟩), .pointer (some ⟨b2, 0, none⟩)] W0 (diskA b1 D :: refA b2 (toR D) :: F) (Ret fun v G' => v = .bool true ∧ G' = diskA b1 D :: refA b2 (toR D) :: F) := by
  refine Fn.enter Tryz.func19 rfl Tryz.ntmps19 rfl ?_
  have hll := list_few hD
  repeat' (first|refine bk ?_|refine bkc ?_|refine bks ?_|refine bkd ?_|refine bkq (fun q => ?_)|(refine bk2 ?_ ?_<;>(first|exact bkn|(refine bkk ?_;intro h))))
  refine WL.call c40 rfl rfl rfl rfl (disk_List (b := b1) hD W0 _) ?_
  rintro _ _ ⟨A1, c1, rfl, rfl⟩
  repeat' (first|refine bk ?_|refine bkc ?_|refine bks ?_|refine bkd ?_|refine bkq (fun q => ?_)|(refine bk2 ?_ ?_<;>(first|exact bkn|(refine bkk ?_;intro h))))
  refine WL.call c41 rfl rfl rfl rfl ((rdisk_List b2 (toR D) (toR_ok hD) W0 _).pre (fun w hs => hs.front (i := 2) rfl)) ?_
  rintro _ _ ⟨A2, c2, rfl, rfl⟩
  rw [toR_list hD]
  repeat' (first|refine bk ?_|refine bkc ?_|refine bks ?_|refine bkd ?_|refine bkq (fun q => ?_)|(refine bk2 ?_ ?_<;>(first|exact bkn|(refine bkk ?_;intro h))))
  refine WL.call c42 rfl rfl rfl rfl ((disk_Used (b := b1) (D := D) W0 _).pre (fun w hs => hs.front (i := 3) rfl)) ?_
  rintro _ _ ⟨rfl, rfl⟩
  repeat' (first|refine bk ?_|refine bkc ?_|refine bks ?_|refine bkd ?_|refine bkq (fun q => ?_)|(refine bk2 ?_ ?_<;>(first|exact bkn|(refine bkk ?_;intro h))))
  refine WL.call c43 rfl rfl rfl rfl ((rdisk_Used b2 (toR D) (toR_ok hD) W0 _).pre (fun w hs => hs.front (i := 2) rfl)) ?_
  rintro _ _ ⟨rfl, rfl⟩
  rw [toR_used hD]
  repeat' (first|refine bk ?_|refine bkc ?_|refine bks ?_|refine bkd ?_|refine bkq (fun q => ?_)|(refine bk2 ?_ ?_<;>(first|exact bkn|(refine bkk ?_;intro h))))
  refine CS.loop (X := Nat) (fun i => [(0, .pointer (some ⟨b1, 0, none⟩)), (1, .pointer (some ⟨b2, 0, none⟩)), (5, .slice A1 D.list.length c1), (6, .slice A2 D.list.length c2), (7, .int .i64 (i : Int))])
    (fun _ => refA b2 (toR D) :: diskA b1 D :: slc strE 9 A2 c2 D.list :: slc strE 9 A1 c1 D.list :: F) (fun i => i ≤ D.list.length) (fun i => D.list.length - i) 0 ⟨rfl, rfl, rfl, rfl, rfl, trivial⟩ (fun w hs => hs) (Nat.zero_le _) ?_
  intro i hi
  refine CS.world fun hw => ?_
  repeat' (first|refine bk ?_|refine bkc ?_|refine bks ?_|refine bkd ?_|refine bkq (fun q => ?_)|(refine bk2 ?_ ?_<;>(first|exact bkn|(refine bkk ?_;intro h))))
  · obtain ⟨nm, hnm⟩ : ∃ x, D.list[i]? = some x := ⟨D.list[i]'(by omega), List.getElem?_eq_getElem (by omega)⟩
    refine WL.idx TT (Rd.slc (i := 2) rfl) rfl rfl rfl (by omega) (by rw [Int.toNat_natCast]; exact hnm) rfl rfl rfl rfl (fun bb o hA => ?_)
    refine WL.s (op1_at TT hA rfl rfl rfl rfl) rfl ?_
    repeat' (first|refine bk ?_|refine bkc ?_|refine bks ?_|refine bkd ?_|refine bkq (fun q => ?_)|(refine bk2 ?_ ?_<;>(first|exact bkn|(refine bkk ?_;intro h))))
    refine WL.call c25 rfl rfl rfl rfl ((disk_Read b1 D nm W0 _).pre (fun w hs => hs.front (i := 1) rfl)) ?_
    rintro _ _ ⟨rfl, rfl⟩
    repeat' (first|refine bk ?_|refine bkc ?_|refine bks ?_|refine bkd ?_|refine bkq (fun q => ?_)|(refine bk2 ?_ ?_<;>(first|exact bkn|(refine bkk ?_;intro h))))
    refine WL.idx TT (Rd.slc (i := 2) rfl) rfl rfl rfl (by omega) (by rw [Int.toNat_natCast]; exact hnm) rfl rfl rfl rfl (fun bb o hA => ?_)
    refine WL.s (op1_at TT hA rfl rfl rfl rfl) rfl ?_
    repeat' (first|refine bk ?_|refine bkc ?_|refine bks ?_|refine bkd ?_|refine bkq (fun q => ?_)|(refine bk2 ?_ ?_<;>(first|exact bkn|(refine bkk ?_;intro h))))
    refine WL.call c29 rfl rfl rfl rfl ((rdisk_Read b2 (toR D) (toR_len hD) nm W0 _).pre (fun w hs => hs.front (i := 1) rfl)) ?_
    rintro _ _ ⟨rfl, rfl⟩
    rw [toR_read hD]
    repeat' (first|refine bk ?_|refine bkc ?_|refine bks ?_|refine bkd ?_|refine bkq (fun q => ?_)|(refine bk2 ?_ ?_<;>(first|exact bkn|(refine bkk ?_;intro h))))
    refine WQ.idx TT (Rd.slc (i := 3) rfl) rfl rfl rfl (by omega) (by rw [Int.toNat_natCast]; exact hnm) rfl rfl rfl rfl hw (fun b2 o hA => ?_)
    refine WQ.s (op1_at TT hA rfl rfl rfl rfl) rfl ?_
    repeat' (first|refine bk ?_|refine bkc ?_|refine bks ?_|refine bkd ?_|refine bkq (fun q => ?_)|(refine bk2 ?_ ?_<;>(first|exact bkn|(refine bkk ?_;intro h))))
    refine WQ.idx TT (Rd.slc (i := 2) rfl) rfl rfl rfl (by omega) (by rw [Int.toNat_natCast]; exact hnm) rfl rfl rfl rfl hw (fun b2 o hA => ?_)
    refine WQ.s (op1_at TT hA rfl rfl rfl rfl) rfl ?_
    repeat' (first|refine bk ?_|refine bkc ?_|refine bks ?_|refine bkd ?_|refine bkq (fun q => ?_)|(refine bk2 ?_ ?_<;>(first|exact bkn|(refine bkk ?_;intro h))))
    refine QS.again (i + 1) (by omega) (by omega) ⟨rfl, rfl, rfl, rfl, ?_, trivial⟩ (fun w hs => hs)
    rw [show ((i + 1 : Nat) : Int) = (i : Int) + 1 from by omega]; rfl
  · exact QS.turn (G' := diskA b1 D :: refA b2 (toR D) :: F) (fun w hs => ((hs.kick (i := 2) rfl).kick (i := 2) rfl).front (i := 1) rfl) (QS.retV Tryz.results19 rfl ⟨rfl, rfl⟩)
theorem loadM_len (t : List UInt8) (er : Int) : (loadM t er).2.1.length ≤ 300 := by
  rw [loadM]
  split
  · unfold parseP
    split
    · exact Nat.zero_le _
    · rename_i n xs r heq
      split at heq
      · split at heq
        · simp only [Option.some.injEq, Prod.mk.injEq] at heq
          obtain ⟨_, rfl, _⟩ := heq
          exact (ents_len _ _ _).1
        · cases heq
      · cases heq
  · exact Nat.zero_le _
theorem read_most {D : Disk} (hD : DiskOk D) (nm : ByteArray) : (D.read nm).1.size ≤ 140737488355328 := by
  have h := (hD.at_ok nm).most
  unfold Disk.read
  split
  · simp [noStr_size]
  · split
    · simp [noStr_size]
    · simp only; omega
set_option maxHeartbeats 8000000 in
theorem law_LogPlays (r : Int) (hr : I64 r) (A : Option Addr) (k c : Nat) (ls : List DeedL) (hk : k = ls.length) (hL : ∀ x ∈ ls, DeedLOk x) (W0 : World) (G : List SL) (hR : Rd W0 G dlE A ls) (hR2 : ∀ x ∈ ls, Rd W0 G entE x.lxA x.lx) (hR3 : ∀ x ∈ ls, Rd W0 G intE x.keepsA x.keeps) :
    Fn Tryz.prog 3 [.int .i64 r, .slice A k c] W0 G (Ret fun v G' => v = .bool true ∧ G' = G) := by
  subst hk
  refine Fn.enter Tryz.func3 rfl Tryz.ntmps3 rfl ?_
  repeat' (first|refine bk ?_|refine bkc ?_|refine bks ?_|refine bkd ?_|refine bkq (fun q => ?_)|(refine bk2 ?_ ?_<;>(first|exact bkn|(refine bkk ?_;intro h))))
  refine WL.call c4 rfl rfl rfl rfl (law_examples W0 G) ?_
  rintro _ G2 ⟨rfl, hG2⟩
  rw [hG2]; clear hG2 G2
  repeat' (first|refine bk ?_|refine bkc ?_|refine bks ?_|refine bkd ?_|refine bkq (fun q => ?_)|(refine bk2 ?_ ?_<;>(first|exact bkn|(refine bkk ?_;intro h))))
  refine WL.call c5 rfl rfl rfl rfl (disk_New r W0 G) ?_
  rintro _ _ ⟨b1, rfl, rfl⟩
  repeat' (first|refine bk ?_|refine bkc ?_|refine bks ?_|refine bkd ?_|refine bkq (fun q => ?_)|(refine bk2 ?_ ?_<;>(first|exact bkn|(refine bkk ?_;intro h))))
  refine WL.call c6 rfl rfl rfl rfl (rdisk_New r W0 _) ?_
  rintro _ _ ⟨b2, rfl, rfl⟩
  rw [← toR_new]
  have hD0 := new_ok r hr.2
  generalize Disk.new r = D0 at hD0 ⊢
  repeat' (first|refine bk ?_|refine bkc ?_|refine bks ?_|refine bkd ?_|refine bkq (fun q => ?_)|(refine bk2 ?_ ?_<;>(first|exact bkn|(refine bkk ?_;intro h))))
  refine CS.loop (X := Disk × Nat) (fun y => [(1, .slice A ls.length c), (5, .bool true), (6, .pointer (some ⟨b1, 0, none⟩)), (7, .pointer (some ⟨b2, 0, none⟩)), (8, .int .i64 (y.2 : Int))])
    (fun y => diskA b1 y.1 :: refA b2 (toR y.1) :: G) (fun y => DiskOk y.1 ∧ y.2 ≤ ls.length) (fun y => ls.length - y.2) (D0, 0) ⟨rfl, rfl, rfl, rfl, rfl, trivial⟩ (fun w hs => hs.front (i := 1) rfl) ⟨hD0, Nat.zero_le _⟩ ?_
  rintro ⟨D, i⟩ ⟨hD, hi⟩
  simp only at hD hi ⊢
  repeat' (first|refine bk ?_|refine bkc ?_|refine bks ?_|refine bkd ?_|refine bkq (fun q => ?_)|(refine bk2 ?_ ?_<;>(first|exact bkn|(refine bkk ?_;intro h))))
  rotate_left 1
  all_goals try (
    refine QS.turn (G' := G) (fun w hs => hs.drop.drop) (QS.retV Tryz.results3 rfl ⟨rfl, rfl⟩)
    done)
  obtain ⟨u, hu⟩ : ∃ x, ls[i]? = some x := ⟨ls[i]'(by omega), List.getElem?_eq_getElem (by omega)⟩
  have hum := List.mem_of_getElem? hu
  obtain ⟨hukind, huname, hule, hulx, huxn, huxs, hun, hukeeps⟩ := hL u hum
  unfold maxLen at huname hulx huxs hukeeps
  refine WL.idx TT hR.cons.cons rfl rfl rfl (by omega) (by rw [Int.toNat_natCast]; exact hu) rfl rfl rfl rfl (fun bb o hA => ?_)
  refine WL.s (op1_at TT hA rfl rfl rfl rfl) rfl ?_
  repeat' (first|refine bk ?_|refine bkc ?_|refine bkd ?_|refine bkq (fun q => ?_)|(refine bk2 ?_ ?_<;>(first|exact bkn|(refine bkk ?_;intro h))))
  revert q; intro q0
  refine CS.seq ?_
  repeat' (first|refine bk ?_|refine bkc ?_|refine bkd ?_|refine bkq (fun q => ?_)|(refine bk2 ?_ ?_<;>(first|exact bkn|(refine bkk ?_;intro h))))
  refine CS.seq ?_
  refine CS.cut (X := Disk) (fun _ => [(1, .slice A ls.length c), (5, .bool true), (6, .pointer (some ⟨b1, 0, none⟩)), (7, .pointer (some ⟨b2, 0, none⟩)), (8, .int .i64 (i : Int)), (9, .pointer (some ⟨q0, 0, none⟩)), (10, .bool true)])
    (fun D2 => row q0 35 [.int .i64 u.kind, .string u.name, .int .i64 u.le, .slice u.lxA u.lx.length u.lxc, .int .i64 u.xn, .string u.xs, .int .i64 u.n, .slice u.keepsA u.keeps.length u.keepsc] :: diskA b1 D2 :: refA b2 (toR D2) :: G) (fun D2 => DiskOk D2) ?_ ?_
  · repeat' (first|refine bk ?_|refine bkc ?_|refine bks ?_|refine bkd ?_|refine bkq (fun q => ?_)|(refine bk2 ?_ ?_<;>(first|exact bkn|(refine bkk ?_;intro h))))
    refine WL.call c7 rfl rfl rfl rfl (law_pick u.kind 6 hukind (by decide) W0 _) ?_
    rintro _ G2 ⟨rfl, hG2⟩
    rw [hG2]; clear hG2 G2
    have hp := pickM_range (n := u.kind) (m := 6) (by decide)
    generalize pickM u.kind 6 = p at hp ⊢
    repeat' (first|refine bk ?_|refine bkc ?_|refine bks ?_|refine bkd ?_|refine bkq (fun q => ?_)|(refine bk2 ?_ ?_<;>(first|exact bkn|(refine bkk ?_;intro h))))
    · refine WL.call c8 rfl rfl rfl rfl ((log_Store b1 D hD u.name u.le u.lxA _ u.lxc u.lx rfl W0 _ (hR2 u hum).cons.cons.cons).pre (fun w hs => hs.front (i := 1) rfl)) ?_
      rintro _ _ ⟨rfl, rfl⟩
      repeat' (first|refine bk ?_|refine bkc ?_|refine bks ?_|refine bkd ?_|refine bkq (fun q => ?_)|(refine bk2 ?_ ?_<;>(first|exact bkn|(refine bkk ?_;intro h))))
      refine WL.call c9 rfl rfl rfl rfl ((ref_Store b2 D hD u.name u.le u.lxA _ u.lxc u.lx rfl W0 _ (hR2 u hum).cons.cons.cons).pre (fun w hs => hs.front (i := 2) rfl)) ?_
      rintro _ _ ⟨rfl, rfl⟩
      have okS := storeM_ok hD u.le u.lx u.name
      generalize storeM D u.le u.lx u.name = eD at okS ⊢
      obtain ⟨e, D2⟩ := eD
      simp only at okS ⊢
      repeat' (first|refine bk ?_|refine bkc ?_|refine bks ?_|refine bkd ?_|refine bkq (fun q => ?_)|(refine bk2 ?_ ?_<;>(first|exact bkn|(refine bkk ?_;intro h))))
      rw [show decide (e = e) = true from decide_eq_true rfl]
      exact QS.met D2 okS ⟨rfl, rfl, rfl, rfl, rfl, rfl, rfl, trivial⟩ (fun w hs => (hs.front (i := 1) rfl).front (i := 2) rfl)
    iterate 2 (
      · refine WL.call c10 rfl rfl rfl rfl ((log_Add b1 D hD u.name u.xn u.xs W0 _).pre (fun w hs => hs.front (i := 1) rfl)) ?_
        rintro _ _ ⟨rfl, rfl⟩
        repeat' (first|refine bk ?_|refine bkc ?_|refine bks ?_|refine bkd ?_|refine bkq (fun q => ?_)|(refine bk2 ?_ ?_<;>(first|exact bkn|(refine bkk ?_;intro h))))
        refine WL.call c11 rfl rfl rfl rfl ((ref_Add b2 D hD u.name u.xn u.xs W0 _).pre (fun w hs => hs.front (i := 2) rfl)) ?_
        rintro _ _ ⟨rfl, rfl⟩
        have okS := addM_ok hD u.xn u.xs u.name
        generalize addM D u.xn u.xs u.name = eD at okS ⊢
        obtain ⟨e, D2⟩ := eD
        simp only at okS ⊢
        repeat' (first|refine bk ?_|refine bkc ?_|refine bks ?_|refine bkd ?_|refine bkq (fun q => ?_)|(refine bk2 ?_ ?_<;>(first|exact bkn|(refine bkk ?_;intro h))))
        rw [show decide (e = e) = true from decide_eq_true rfl]
        exact QS.met D2 okS ⟨rfl, rfl, rfl, rfl, rfl, rfl, rfl, trivial⟩ (fun w hs => (hs.front (i := 1) rfl).front (i := 2) rfl))
    · refine WL.call c12 rfl rfl rfl rfl ((disk_Fuse (b := b1) (D := D) u.n W0 _).pre (fun w hs => hs.front (i := 1) rfl)) ?_
      rintro _ _ ⟨rfl, rfl⟩
      repeat' (first|refine bk ?_|refine bkc ?_|refine bks ?_|refine bkd ?_|refine bkq (fun q => ?_)|(refine bk2 ?_ ?_<;>(first|exact bkn|(refine bkk ?_;intro h))))
      refine WL.call c13 rfl rfl rfl rfl ((rdisk_Fuse b2 (toR D) u.n W0 _).pre (fun w hs => hs.front (i := 2) rfl)) ?_
      rintro _ _ ⟨rfl, rfl⟩
      rw [toR_light hD]
      repeat' (first|refine bk ?_|refine bkc ?_|refine bks ?_|refine bkd ?_|refine bkq (fun q => ?_)|(refine bk2 ?_ ?_<;>(first|exact bkn|(refine bkk ?_;intro h))))
      exact QS.met (D.light u.n) (light_ok hD hun.2) ⟨rfl, rfl, rfl, rfl, rfl, rfl, rfl, trivial⟩ (fun w hs => (hs.front (i := 1) rfl).front (i := 2) rfl)
    · refine WL.call c14 rfl rfl rfl rfl ((disk_Crash (b := b1) hD (A := u.keepsA) (c := u.keepsc) (keeps := u.keeps) hukeeps.2 (by omega) W0 _ (hR3 u hum).cons.cons).pre (fun w hs => hs.front (i := 1) rfl)) ?_
      rintro _ _ ⟨rfl, rfl⟩
      repeat' (first|refine bk ?_|refine bkc ?_|refine bks ?_|refine bkd ?_|refine bkq (fun q => ?_)|(refine bk2 ?_ ?_<;>(first|exact bkn|(refine bkk ?_;intro h))))
      refine WL.call c15 rfl rfl rfl rfl ((rdisk_Crash b2 (toR D) (toR_ok hD) (fun f hf => rec_syn hD hf) (B := u.keepsA) (cB := u.keepsc) (keeps := u.keeps) hukeeps.2 (by omega) W0 _ (hR3 u hum).cons.cons).pre (fun w hs => hs.front (i := 2) rfl)) ?_
      rintro _ _ ⟨rfl, rfl⟩
      rw [toR_crash hD]
      repeat' (first|refine bk ?_|refine bkc ?_|refine bks ?_|refine bkd ?_|refine bkq (fun q => ?_)|(refine bk2 ?_ ?_<;>(first|exact bkn|(refine bkk ?_;intro h))))
      exact QS.met (D.crash u.keeps) (crash_ok hD u.keeps) ⟨rfl, rfl, rfl, rfl, rfl, rfl, rfl, trivial⟩ (fun w hs => (hs.front (i := 1) rfl).front (i := 2) rfl)
    · exact QS.met D hD ⟨rfl, rfl, rfl, rfl, rfl, rfl, rfl, trivial⟩ (fun w hs => hs)
  intro D2 hD2
  repeat' (first|refine bk ?_|refine bkc ?_|refine bks ?_|refine bkd ?_|refine bkq (fun q => ?_)|(refine bk2 ?_ ?_<;>(first|exact bkn|(refine bkk ?_;intro h))))
  refine WL.call c16 rfl rfl rfl rfl ((log_Load b1 D2 u.name (read_most hD2 _) W0 _).pre (fun w hs => hs.front (i := 1) rfl)) ?_
  have hM3 := loadM_len (bs (D2.read u.name).1) (D2.read u.name).2
  obtain ⟨M, hM⟩ : ∃ M, M = loadM (bs (D2.read u.name).1) (D2.read u.name).2 := ⟨_, rfl⟩
  rw [← hM] at hM3 ⊢
  rintro _ _ ⟨A4, c4, rfl, rfl⟩
  repeat' (first|refine bk ?_|refine bkc ?_|refine bks ?_|refine bkd ?_|refine bkq (fun q => ?_)|(refine bk2 ?_ ?_<;>(first|exact bkn|(refine bkk ?_;intro h))))
  revert q; intro q1
  refine WL.call c17 rfl rfl rfl rfl ((ref_Load b2 _ (toR_len hD2) u.name (by rw [toR_read hD2]; exact read_most hD2 _) W0 _).pre (fun w hs => hs.front (i := 4) rfl)) ?_
  rw [toR_read hD2, ← hM]
  rintro _ _ ⟨A5, c5, rfl, rfl⟩
  repeat' (first|refine bk ?_|refine bkc ?_|refine bks ?_|refine bkd ?_|refine bkq (fun q => ?_)|(refine bk2 ?_ ?_<;>(first|exact bkn|(refine bkk ?_;intro h))))
  refine WL.call c18 rfl rfl rfl rfl (law_same M.1 M.1 A4 A5 M.2.1.length c4 M.2.1.length c5 M.2.1 M.2.1 rfl rfl (by omega) W0 _ (Rd.slc (i := 4) rfl) (Rd.slc (i := 1) rfl)) ?_
  rintro _ G2 ⟨rfl, hG2⟩
  rw [hG2]; clear hG2 G2
  rw [show decide (M.2.1 = M.2.1 ∧ M.1 = M.1) = true from decide_eq_true ⟨rfl, rfl⟩]
  repeat' (first|refine bk ?_|refine bkc ?_|refine bks ?_|refine bkd ?_|refine bkq (fun q => ?_)|(refine bk2 ?_ ?_<;>(first|exact bkn|(refine bkk ?_;intro h))))
  refine WL.call c19 rfl rfl rfl rfl ((law14_disks b1 b2 D2 hD2 W0 _).pre (fun w hs => (hs.front (i := 2) rfl).front (i := 5) rfl)) ?_
  rintro _ _ ⟨rfl, rfl⟩
  generalize M.2.2.1 = wh
  generalize M.2.2.2 = er
  cases wh
  all_goals
    repeat' (first|refine bk ?_|refine bkc ?_|refine bks ?_|refine bkd ?_|refine bkq (fun q => ?_)|(refine bk2 ?_ ?_<;>(first|exact bkn|(refine bkk ?_;intro h))))
    refine QS.again (D2, i + 1) ⟨hD2, by simp only; omega⟩ (by simp only; omega) ⟨rfl, rfl, rfl, rfl, ?_, trivial⟩ (fun w hs => (((((hs.kick (i := 2) rfl).kick (i := 2) rfl).kick (i := 2) rfl).kick (i := 2) rfl).kick (i := 2) rfl))
    rw [show ((i + 1 : Nat) : Int) = (i : Int) + 1 from by omega]; rfl
end Go.Proofs.YtpklbelejebcfaaGreat.B
