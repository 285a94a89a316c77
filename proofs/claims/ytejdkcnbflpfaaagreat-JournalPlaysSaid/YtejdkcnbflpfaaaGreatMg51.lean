import Derived.Test.YtejdkcnbflpfaaaGreatMg41
import Derived.Test.YtejdkcnbflpfaaaGreatMg50
import Derived.Test.YtejdkcnbflpfaaaGreatMg46
set_option linter.unusedVariables false
set_option linter.unusedSimpArgs false
set_option linter.unusedSectionVars false
set_option maxRecDepth 8000
/-! Two disks have the same files; two nodes tell the same. -/
namespace Go.Proofs.YtejdkcnbflpfaaaGreat.B
open Go Go.Proofs
theorem openJ_jok {D : Disk} (hD : DiskOk D) : JnOk (openJ D).2.1 ∧ DiskOk (openJ D).2.2 := by
  have lg0 : logOk 0 [] = true := by decide
  have h2 : ∀ p : Int, 0 ≤ p → p ≤ 9007199254740991 → JnOk (open2 p D).2.1 ∧ DiskOk (open2 p D).2.2 := fun p h0 h1 => by
    have hl : logOk (loadM (bs (D.read jLog).1) (D.read jLog).2).1 (loadM (bs (D.read jLog).1) (D.read jLog).2).2.1 = true := by
      rw [loadM]
      split
      · cases hp : parseP (bs (D.read jLog).1) with
        | none => exact lg0
        | some q => obtain ⟨n, xs, r⟩ := q; exact (parseP_some hp).1
      · exact lg0
    unfold open2
    generalize loadM (bs (D.read jLog).1) (D.read jLog).2 = M at hl ⊢
    obtain ⟨e, xs, w, er⟩ := M
    simp only at hl ⊢
    split
    · exact ⟨⟨h0, h1, lg0⟩, hD⟩
    · split
      · exact ⟨⟨h0, h1, lg0⟩, hD⟩
      · split
        · exact ⟨⟨h0, h1, hl⟩, hD⟩
        · exact ⟨⟨h0, h1, hl⟩, storeM_ok hD _ _ _⟩
  unfold openJ
  split
  · exact h2 0 (by decide) (by decide)
  · split
    · cases hp : promP (D.read jProm).1 with
      | none => exact ⟨⟨by simp, by simp, lg0⟩, hD⟩
      | some n =>
        have hn : 1 ≤ n ∧ n ≤ 9007199254740991 := by
          rw [promP] at hp
          revert hp
          generalize openB (bs (D.read jProm).1) = o
          obtain ⟨e, x, r⟩ := o
          simp only
          split
          · split
            · split
              · rename_i h _ _ hh
                intro h2
                simp only [Option.some.injEq] at h2
                rw [← h2]; exact hh
              · intro h2; cases h2
            · intro h2; cases h2
          · intro h2; cases h2
        exact h2 n (by omega) hn.2
    · exact ⟨⟨by simp, by simp, lg0⟩, hD⟩
attribute [local irreducible] WL CS QS WQ WH WS Fn Op1 row Sat
attribute [local irreducible] diskA mapb slc refA jA rjA
theorem list_few {D : Disk} (hD : DiskOk D) : D.list.length ≤ 20 := by
  have h1 := names_len hD
  have h2 := hD.count
  unfold Disk.list
  split
  · simp
  · omega
set_option maxHeartbeats 2000000 in
theorem law15_disks (b1 b2 : Nat) (D : Disk) (hD : DiskOk D) (W0 : World) (F : List SL) :
    Fn Tryz.prog 16 [.pointer (some ⟨b1, 0, none⟩), .pointer (some ⟨b2, 0, none⟩)] W0 (diskA b1 D :: refA b2 (toR D) :: F) (Ret fun v G' => v = .bool true ∧ G' = diskA b1 D :: refA b2 (toR D) :: F) := by
  refine Fn.enter Tryz.func16 rfl Tryz.ntmps16 rfl ?_
  have hll := list_few hD
  repeat' (first|refine bk ?_|refine bkc ?_|refine bks ?_|refine bkd ?_|refine bkq (fun q => ?_)|(refine bk2 ?_ ?_<;>(first|exact bkn|(refine bkk ?_;intro h))))
  refine WL.call c65 rfl rfl rfl rfl (disk_List (b := b1) hD W0 _) ?_
  rintro _ _ ⟨A1, c1, rfl, rfl⟩
  repeat' (first|refine bk ?_|refine bkc ?_|refine bks ?_|refine bkd ?_|refine bkq (fun q => ?_)|(refine bk2 ?_ ?_<;>(first|exact bkn|(refine bkk ?_;intro h))))
  refine WL.call c66 rfl rfl rfl rfl ((rdisk_List b2 (toR D) (toR_ok hD) W0 _).pre (fun w hs => hs.front (i := 2) rfl)) ?_
  rintro _ _ ⟨A2, c2, rfl, rfl⟩
  rw [toR_list hD]
  repeat' (first|refine bk ?_|refine bkc ?_|refine bks ?_|refine bkd ?_|refine bkq (fun q => ?_)|(refine bk2 ?_ ?_<;>(first|exact bkn|(refine bkk ?_;intro h))))
  refine WL.call c67 rfl rfl rfl rfl ((disk_Used (b := b1) (D := D) W0 _).pre (fun w hs => hs.front (i := 3) rfl)) ?_
  rintro _ _ ⟨rfl, rfl⟩
  repeat' (first|refine bk ?_|refine bkc ?_|refine bks ?_|refine bkd ?_|refine bkq (fun q => ?_)|(refine bk2 ?_ ?_<;>(first|exact bkn|(refine bkk ?_;intro h))))
  refine WL.call c68 rfl rfl rfl rfl ((rdisk_Used b2 (toR D) (toR_ok hD) W0 _).pre (fun w hs => hs.front (i := 2) rfl)) ?_
  rintro _ _ ⟨rfl, rfl⟩
  rw [toR_used hD]
  repeat' (first|refine bk ?_|refine bkc ?_|refine bks ?_|refine bkd ?_|refine bkq (fun q => ?_)|(refine bk2 ?_ ?_<;>(first|exact bkn|(refine bkk ?_;intro h))))
  refine CS.loop (X := Nat) (fun i => [(0, .pointer (some ⟨b1, 0, none⟩)), (1, .pointer (some ⟨b2, 0, none⟩)), (5, .slice A1 D.list.length c1), (6, .slice A2 D.list.length c2), (7, .int .i64 (i : Int))])
    (fun _ => refA b2 (toR D) :: diskA b1 D :: slc strE 9 A2 c2 D.list :: slc strE 9 A1 c1 D.list :: F) (fun i => i ≤ D.list.length) (fun i => D.list.length - i) 0 ⟨rfl, rfl, rfl, rfl, rfl, trivial⟩ (fun w hs => hs) (Nat.zero_le _) ?_
  intro i hi
  refine CS.world fun hw => ?_
  repeat' (first|refine bk ?_|refine bkc ?_|refine bks ?_|refine bkd ?_|refine bkq (fun q => ?_)|(refine bk2 ?_ ?_<;>(first|exact bkn|(refine bkk ?_;intro h))))
  · obtain ⟨nm, hnm⟩ : ∃ x, D.list[i]? = some x := ⟨D.list[i]'(by omega), List.getElem?_eq_getElem (by omega)⟩
    refine WL.idx TT (Rd.slc (i := 2) rfl) rfl rfl rfl (by omega) (by rw [Int.toNat_natCast]; exact hnm) rfl rfl rfl rfl (fun bb o hA => ?_)
    refine WL.s (op1_at TT hA rfl rfl rfl rfl) rfl ?_
    repeat' (first|refine bk ?_|refine bkc ?_|refine bks ?_|refine bkd ?_|refine bkq (fun q => ?_)|(refine bk2 ?_ ?_<;>(first|exact bkn|(refine bkk ?_;intro h))))
    refine WL.call c39 rfl rfl rfl rfl ((disk_Read b1 D nm W0 _).pre (fun w hs => hs.front (i := 1) rfl)) ?_
    rintro _ _ ⟨rfl, rfl⟩
    repeat' (first|refine bk ?_|refine bkc ?_|refine bks ?_|refine bkd ?_|refine bkq (fun q => ?_)|(refine bk2 ?_ ?_<;>(first|exact bkn|(refine bkk ?_;intro h))))
    refine WL.idx TT (Rd.slc (i := 2) rfl) rfl rfl rfl (by omega) (by rw [Int.toNat_natCast]; exact hnm) rfl rfl rfl rfl (fun bb o hA => ?_)
    refine WL.s (op1_at TT hA rfl rfl rfl rfl) rfl ?_
    repeat' (first|refine bk ?_|refine bkc ?_|refine bks ?_|refine bkd ?_|refine bkq (fun q => ?_)|(refine bk2 ?_ ?_<;>(first|exact bkn|(refine bkk ?_;intro h))))
    refine WL.call c44 rfl rfl rfl rfl ((rdisk_Read b2 (toR D) (toR_len hD) nm W0 _).pre (fun w hs => hs.front (i := 1) rfl)) ?_
    rintro _ _ ⟨rfl, rfl⟩
    rw [toR_read hD]
    repeat' (first|refine bk ?_|refine bkc ?_|refine bks ?_|refine bkd ?_|refine bkq (fun q => ?_)|(refine bk2 ?_ ?_<;>(first|exact bkn|(refine bkk ?_;intro h))))
    refine WQ.idx TT (Rd.slc (i := 3) rfl) rfl rfl rfl (by omega) (by rw [Int.toNat_natCast]; exact hnm) rfl rfl rfl rfl hw (fun b2 o hA => ?_)
    refine WQ.s (op1_at TT hA rfl rfl rfl rfl) rfl ?_
    repeat' (first|refine bk ?_|refine bkc ?_|refine bks ?_|refine bkd ?_|refine bkq (fun q => ?_)|(refine bk2 ?_ ?_<;>(first|exact bkn|(refine bkk ?_;intro h))))
    refine WQ.idx TT (Rd.slc (i := 2) rfl) rfl rfl rfl (by omega) (by rw [Int.toNat_natCast]; exact hnm) rfl rfl rfl rfl hw (fun b2 o hA => ?_)
    refine WQ.s (op1_at TT hA rfl rfl rfl rfl) rfl ?_
    repeat' (first|refine bk ?_|refine bkc ?_|refine bks ?_|refine bkd ?_|refine bkq (fun q => ?_)|(refine bk2 ?_ ?_<;>(first|exact bkn|(refine bkk ?_;intro h))))
    refine QS.again (i + 1) (by omega) (by omega) ⟨rfl, rfl, rfl, rfl, ?_, trivial⟩ (fun w hs => hs)
    rw [show ((i + 1 : Nat) : Int) = (i : Int) + 1 from by omega]; rfl
  · exact QS.turn (G' := diskA b1 D :: refA b2 (toR D) :: F) (fun w hs => ((hs.kick (i := 2) rfl).kick (i := 2) rfl).front (i := 1) rfl) (QS.retV Tryz.results16 rfl ⟨rfl, rfl⟩)
theorem j_DeadR (b bd : Nat) (A : Option Addr) (c : Nat) (J : Jn) (W0 : World) (F : List SL) :
    Fn Tryz.prog 23 [.pointer (some ⟨b, 0, none⟩)] W0 (row b 76 (jCells bd A c J) :: F) (Ret fun v G' => v = .bool J.dead ∧ G' = row b 76 (jCells bd A c J) :: F) := by
  refine Fn.enter Tryz.func23 rfl Tryz.ntmps23 rfl ?_
  simp only [jCells]
  repeat' (first|refine bk ?_|refine bkc ?_|refine bks ?_|refine bkd ?_|refine bkq (fun q => ?_)|(refine bk2 ?_ ?_<;>(first|exact bkn|(refine bkk ?_;intro h))))
  exact QS.retV Tryz.results23 rfl ⟨rfl, rfl⟩
theorem j_DeadQ {b bd : Nat} {J : Jn} {W0 : World} {F : List SL} : ∀ G', (∀ w, Sat W0 G' w → Sat W0 (jA b bd J :: F) w) →
    Fn Tryz.prog 23 [.pointer (some ⟨b, 0, none⟩)] W0 G' (Ret fun v G'' => v = .bool J.dead ∧ G'' = G') := fun G' hG =>
  Fn.quiet (fun w hs => by
    obtain ⟨⟨A, c⟩, hx⟩ := jA_open w hs
    exact ⟨b, _, Sat.blk (b := b) (by unfold row at hx; exact hx), fun W F => by have h := j_DeadR b bd A c J W F; unfold row at h; exact h⟩) hG
set_option maxHeartbeats 2000000 in
theorem law_alike (b bd b2 bx : Nat) (J : Jn) (hJ : JnOk J) (W0 : World) (F : List SL) :
    Fn Tryz.prog 28 [.pointer (some ⟨b, 0, none⟩), .pointer (some ⟨b2, 0, none⟩)] W0 (jA b bd J :: rjA b2 bx J :: F) (Ret fun v G' => v = .bool true ∧ G' = jA b bd J :: rjA b2 bx J :: F) := by
  have hjl := hJ.len
  refine Fn.ex (A := fun x : Option Addr × Nat => row b2 87 (rjC bx x.1 x.2 J) :: slc entE 41 x.1 x.2 J.xs :: jA b bd J :: F) (fun w hs => rjA_open w (hs.front (i := 1) rfl)) ?_
  rintro ⟨A2, c2⟩
  refine Fn.enter Tryz.func28 rfl Tryz.ntmps28 rfl ?_
  have t1 : decide (J.p = J.p) = true := decide_eq_true rfl
  simp only [rjC]
  repeat' (first|refine bk ?_|refine bkc ?_|refine bks ?_|refine bkd ?_|refine bkq (fun q => ?_)|(refine bk2 ?_ ?_<;>(first|exact bkn|(refine bkk ?_;intro h))))
  have hc := j_Log b bd J (by omega) W0 (row b2 87 (rjC bx A2 c2 J) :: slc entE 41 A2 c2 J.xs :: F)
  simp only [rjC] at hc
  cases hd : J.dead with
  | true =>
    rw [if_pos hd, if_pos hd, hd] at hc
    refine WL.call c22 rfl rfl rfl rfl (hc.pre (fun w hs => hs.front (i := 2) rfl)) ?_
    clear hc
    rintro _ _ ⟨A3, c3, rfl, rfl⟩
    repeat' (first|refine bk ?_|refine bkc ?_|refine bks ?_|refine bkd ?_|refine bkq (fun q => ?_)|(refine bk2 ?_ ?_<;>(first|exact bkn|(refine bkk ?_;intro h))))
    refine WL.call c71 rfl rfl rfl rfl (r_Same 0 A3 none _ c3 _ 0 [] rfl rfl (by decide) W0 _ Rd.nil Rd.nil) ?_
    rintro _ G2 ⟨rfl, hG2⟩
    rw [hG2]; clear hG2 G2
    repeat' (first|refine bk ?_|refine bkc ?_|refine bks ?_|refine bkd ?_|refine bkq (fun q => ?_)|(refine bk2 ?_ ?_<;>(first|exact bkn|(refine bkk ?_;intro h))))
    refine WL.call c23 rfl rfl rfl rfl (j_DeadQ (b := b) (bd := bd) (J := J) _ (fun w hs => hs.front (i := 2) rfl)) ?_
    rintro _ G2 ⟨rfl, hG2⟩
    rw [hG2, hd]; clear hG2 G2
    repeat' (first|refine bk ?_|refine bkc ?_|refine bks ?_|refine bkd ?_|refine bkq (fun q => ?_)|(refine bk2 ?_ ?_<;>(first|exact bkn|(refine bkk ?_;intro h))))
    refine WL.call c24 rfl rfl rfl rfl ((j_Promised b bd J W0 _).pre (fun w hs => hs.front (i := 2) rfl)) ?_
    rintro _ G2 ⟨rfl, hG2⟩
    rw [hG2, if_pos hd]; clear hG2 G2
    repeat' (first|refine bk ?_|refine bkc ?_|refine bks ?_|refine bkd ?_|refine bkq (fun q => ?_)|(refine bk2 ?_ ?_<;>(first|exact bkn|(refine bkk ?_;intro h))))
    refine QS.turn (G' := jA b bd J :: rjA b2 bx J :: F) (fun w hs => ?_) (QS.retV Tryz.results28 rfl ⟨rfl, rfl⟩)
    have h1 := ((((hs.kick (i := 1) rfl).kick (i := 1) rfl).front (i := 1) rfl).front (i := 2) rfl).front (i := 1) rfl
    refine Sat.front (i := 1) (rjA_shut (A := A2) (c := c2) (b := b2) (bx := bx) (J := J) (F := jA b bd J :: F) w ?_) rfl
    rw [rjC, hd]
    exact h1
  | false =>
    rw [if_neg (by rw [hd]; decide), if_neg (by rw [hd]; decide), hd] at hc
    refine WL.call c22 rfl rfl rfl rfl (hc.pre (fun w hs => hs.front (i := 2) rfl)) ?_
    clear hc
    rintro _ _ ⟨A3, c3, rfl, rfl⟩
    repeat' (first|refine bk ?_|refine bkc ?_|refine bks ?_|refine bkq (fun q => ?_)|(refine bk2 ?_ ?_<;>(first|exact bkn|(refine bkk ?_;intro h))))
    refine CS.drawQ rfl mixed (by kernel_rfl) ?_
    repeat' (first|refine bk ?_|refine bkc ?_|refine bks ?_|refine bkq (fun q => ?_)|(refine bk2 ?_ ?_<;>(first|exact bkn|(refine bkk ?_;intro h))))
    refine WQ.call c71 rfl rfl rfl rfl (r_Same J.e A3 A2 _ c3 _ c2 J.xs rfl rfl (by omega) W0 _ (Rd.slc (i := 1) rfl) (Rd.slc (i := 4) rfl)) ?_
    repeat' (first|refine bk ?_|refine bkc ?_|refine bks ?_|refine bkq (fun q => ?_)|(refine bk2 ?_ ?_<;>(first|exact bkn|(refine bkk ?_;intro h))))
    refine CS.drawQ rfl mixed (by kernel_rfl) ?_
    repeat' (first|refine bk ?_|refine bkc ?_|refine bks ?_|refine bkq (fun q => ?_)|(refine bk2 ?_ ?_<;>(first|exact bkn|(refine bkk ?_;intro h))))
    refine WQ.call c23 rfl rfl rfl rfl (j_DeadQ (b := b) (bd := bd) (J := J) _ (fun w hs => hs.front (i := 2) rfl)) ?_
    rw [hd]
    repeat' (first|refine bk ?_|refine bkc ?_|refine bks ?_|refine bkq (fun q => ?_)|(refine bk2 ?_ ?_<;>(first|exact bkn|(refine bkk ?_;intro h))))
    refine WQ.call c24 rfl rfl rfl rfl (j_PromisedQ (b := b) (bd := bd) (J := J) hd _ (fun w hs => hs.front (i := 2) rfl)) ?_
    repeat' (first|refine bk ?_|refine bkc ?_|refine bks ?_|refine bkq (fun q => ?_)|(refine bk2 ?_ ?_<;>(first|exact bkn|(refine bkk ?_;intro h))))
    rw [t1]
    refine QS.turn (G' := jA b bd J :: rjA b2 bx J :: F) (fun w hs => ?_) (QS.retV Tryz.results28 rfl ⟨rfl, rfl⟩)
    have h1 := ((((hs.kick (i := 0) rfl).kick (i := 0) rfl).front (i := 2) rfl).front (i := 2) rfl)
    refine Sat.front (i := 1) (rjA_shut (A := A2) (c := c2) (b := b2) (bx := bx) (J := J) (F := jA b bd J :: F) w ?_) rfl
    rw [rjC, hd]
    exact h1
end Go.Proofs.YtejdkcnbflpfaaaGreat.B

set_option linter.unusedVariables false
set_option linter.unusedSimpArgs false
set_option maxRecDepth 8000
/-! JournalPlays: the walk. -/
namespace Go.Proofs.YtejdkcnbflpfaaaGreat.B
open Go Go.Proofs
attribute [local irreducible] WL CS QS WQ WH WS Fn Op1 row Sat
attribute [local irreducible] slc diskA jA rjA refA
set_option maxHeartbeats 16000000 in
theorem law_JournalPlays (A : Option Addr) (k c : Nat) (ls : List DeedJ) (hk : k = ls.length) (hL : ∀ x ∈ ls, DeedJOk x) (W0 : World) (G : List SL) (hR : Rd W0 G djE A ls) (hR2 : ∀ x ∈ ls, Rd W0 G entE x.lA x.l) (hR3 : ∀ x ∈ ls, Rd W0 G intE x.keepsA x.keeps) :
    Fn Tryz.prog 5 [.slice A k c] W0 G (Ret fun v G' => v = .bool true ∧ G' = G) := by
  subst hk
  refine Fn.enter Tryz.func5 rfl Tryz.ntmps5 rfl ?_
  repeat' (first|refine bk ?_|refine bkc ?_|refine bks ?_|refine bkd ?_|refine bkq (fun q => ?_)|(refine bk2 ?_ ?_<;>(first|exact bkn|(refine bkk ?_;intro h))))
  refine WL.call c6 rfl rfl rfl rfl (law_examples W0 G) ?_
  rintro _ G2 ⟨rfl, hG2⟩
  rw [hG2]; clear hG2 G2
  repeat' (first|refine bk ?_|refine bkc ?_|refine bks ?_|refine bkd ?_|refine bkq (fun q => ?_)|(refine bk2 ?_ ?_<;>(first|exact bkn|(refine bkk ?_;intro h))))
  refine WL.call c7 rfl rfl rfl rfl (disk_New 400000 W0 _) ?_
  rintro _ _ ⟨d1, rfl, rfl⟩
  repeat' (first|refine bk ?_|refine bkc ?_|refine bks ?_|refine bkd ?_|refine bkq (fun q => ?_)|(refine bk2 ?_ ?_<;>(first|exact bkn|(refine bkk ?_;intro h))))
  refine WL.call c8 rfl rfl rfl rfl (rdisk_New 400000 W0 _) ?_
  rintro _ _ ⟨x1, rfl, rfl⟩
  rw [← toR_new]
  repeat' (first|refine bk ?_|refine bkc ?_|refine bks ?_|refine bkd ?_|refine bkq (fun q => ?_)|(refine bk2 ?_ ?_<;>(first|exact bkn|(refine bkk ?_;intro h))))
  have hD0 := new_ok 400000 (by decide)
  have ho := openJ_jok hD0
  have h0 : (openJ (Disk.new 400000)).1 = 0 := by rw [open_new 400000 (by decide)]
  generalize Disk.new 400000 = D0 at hD0 ho h0 ⊢
  have hc := j_Open d1 D0 hD0 W0 (refA x1 (toR D0) :: G)
  unfold openO at hc
  simp only [h0, if_true] at hc
  refine WL.call c11 rfl rfl rfl rfl (hc.pre (fun w hs => hs.front (i := 1) rfl)) ?_
  clear hc
  rintro _ _ ⟨b1, rfl, rfl⟩
  repeat' (first|refine bk ?_|refine bkc ?_|refine bks ?_|refine bkd ?_|refine bkq (fun q => ?_)|(refine bk2 ?_ ?_<;>(first|exact bkn|(refine bkk ?_;intro h))))
  have hc := r_Open x1 D0 hD0 W0 (jA b1 d1 (openJ D0).2.1 :: diskA d1 (openJ D0).2.2 :: G)
  unfold openS at hc
  simp only [h0, if_true] at hc
  refine WL.call c12 rfl rfl rfl rfl (hc.pre (fun w hs => hs.front (i := 2) rfl)) ?_
  clear hc
  rintro _ _ ⟨b2, rfl, rfl⟩
  generalize (openJ D0).2.1 = J0 at ho ⊢
  generalize (openJ D0).2.2 = D2 at ho ⊢
  repeat' (first|refine bk ?_|refine bkc ?_|refine bks ?_|refine bkd ?_|refine bkq (fun q => ?_)|(refine bk2 ?_ ?_<;>(first|exact bkn|(refine bkk ?_;intro h))))
  refine CS.loop (X := Jn × Disk × Nat × Nat × Nat) (fun y => [(0, .slice A ls.length c), (3, .bool true), (4, .pointer (some ⟨d1, 0, none⟩)), (5, .pointer (some ⟨x1, 0, none⟩)), (6, .pointer (some ⟨y.2.2.2.1, 0, none⟩)), (8, .pointer (some ⟨y.2.2.2.2, 0, none⟩)), (10, .int .i64 (y.2.2.1 : Int))])
    (fun y => rjA y.2.2.2.2 x1 y.1 :: refA x1 (toR y.2.1) :: jA y.2.2.2.1 d1 y.1 :: diskA d1 y.2.1 :: G) (fun y => JnOk y.1 ∧ DiskOk y.2.1 ∧ y.2.2.1 ≤ ls.length) (fun y => ls.length - y.2.2.1) (J0, D2, 0, b1, b2) ⟨rfl, rfl, rfl, rfl, rfl, rfl, rfl, trivial⟩ (fun w hs => hs) ⟨ho.1, ho.2, Nat.zero_le _⟩ ?_
  clear ho h0 b1 b2
  rintro ⟨J, D, i, b1, b2⟩ ⟨hJ, hD, hi⟩
  simp only at hJ hD hi ⊢
  repeat' (first|refine bk ?_|refine bkc ?_|refine bks ?_|refine bkd ?_|refine bkq (fun q => ?_)|(refine bk2 ?_ ?_<;>(first|exact bkn|(refine bkk ?_;intro h))))
  rotate_left 1
  all_goals try (
    exact QS.turn (G' := G) (fun w hs => hs.drop.drop.drop.drop) (QS.retV Tryz.results5 rfl ⟨rfl, rfl⟩)
    done)
  obtain ⟨u, hu⟩ : ∃ x, ls[i]? = some x := ⟨ls[i]'(by omega), List.getElem?_eq_getElem (by omega)⟩
  have hum := List.mem_of_getElem? hu
  have huo := hL u hum
  refine WL.idx TT hR.cons.cons.cons.cons rfl rfl rfl (by omega) (by rw [Int.toNat_natCast]; exact hu) rfl rfl rfl rfl (fun bb o hA => ?_)
  refine WL.s (op1_at TT hA rfl rfl rfl rfl) rfl ?_
  repeat' (first|refine bk ?_|refine bkc ?_|refine bkd ?_|refine bkq (fun q => ?_)|(refine bk2 ?_ ?_<;>(first|exact bkn|(refine bkk ?_;intro h))))
  revert q; intro q11
  refine CS.seq ?_
  refine CS.cut (X := Jn × Disk × Nat × Nat) (fun y => [(0, .slice A ls.length c), (3, .bool true), (4, .pointer (some ⟨d1, 0, none⟩)), (5, .pointer (some ⟨x1, 0, none⟩)), (6, .pointer (some ⟨y.2.2.1, 0, none⟩)), (8, .pointer (some ⟨y.2.2.2, 0, none⟩)), (10, .int .i64 (i : Int))])
    (fun y => row q11 44 (deedC u) :: rjA y.2.2.2 x1 y.1 :: refA x1 (toR y.2.1) :: jA y.2.2.1 d1 y.1 :: diskA d1 y.2.1 :: G)
    (fun y => JnOk y.1 ∧ DiskOk y.2.1) ?_ ?_
  · repeat' (first|refine bk ?_|refine bkc ?_|refine bks ?_|refine bkd ?_|refine bkq (fun q => ?_)|(refine bk2 ?_ ?_<;>(first|exact bkn|(refine bkk ?_;intro h))))
    refine WL.call c19 rfl rfl rfl rfl (law_pick u.kind 8 huo.kind (by decide) W0 _) ?_
    rintro _ G2 ⟨rfl, hG2⟩
    rw [hG2]; clear hG2 G2
    have hp := pickM_range (n := u.kind) (m := 8) (by decide)
    generalize pickM u.kind 8 = p at hp ⊢
    repeat' (first|refine bk ?_|refine bkc ?_|refine bks ?_|refine bkd ?_|refine bkq (fun q => ?_)|(refine bk2 ?_ ?_<;>(first|exact bkn|(refine bkk ?_;intro h))))
    · refine WL.call c18 rfl rfl rfl rfl ((disk_Fuse (b := d1) (D := D) u.n W0 _).pre (fun w hs => hs.front (i := 4) rfl)) ?_
      rintro _ _ ⟨rfl, rfl⟩
      repeat' (first|refine bk ?_|refine bkc ?_|refine bks ?_|refine bkd ?_|refine bkq (fun q => ?_)|(refine bk2 ?_ ?_<;>(first|exact bkn|(refine bkk ?_;intro h))))
      refine WL.call c26 rfl rfl rfl rfl ((rdisk_Fuse x1 (toR D) u.n W0 _).pre (fun w hs => hs.front (i := 3) rfl)) ?_
      rintro _ _ ⟨rfl, rfl⟩
      rw [toR_light hD]
      repeat' (first|refine bk ?_|refine bkc ?_|refine bks ?_|refine bkd ?_|refine bkq (fun q => ?_)|(refine bk2 ?_ ?_<;>(first|exact bkn|(refine bkk ?_;intro h))))
      exact QS.met (J, D.light u.n, b1, b2) ⟨hJ, light_ok hD huo.n.2⟩ ⟨rfl, rfl, rfl, rfl, rfl, rfl, rfl, trivial⟩ (fun w hs => ((((hs.front (i := 1) rfl).front (i := 4) rfl).front (i := 2) rfl).front (i := 4) rfl).front (i := 4) rfl)
    · have hkk := huo.keeps
      unfold maxLen at hkk
      refine WL.call c21 rfl rfl rfl rfl ((disk_Crash (b := d1) hD (A := u.keepsA) (c := u.keepsc) (keeps := u.keeps) hkk.2 (by omega) W0 _ (hR3 u hum).cons.cons.cons.cons).pre (fun w hs => hs.front (i := 4) rfl)) ?_
      rintro _ _ ⟨rfl, rfl⟩
      repeat' (first|refine bk ?_|refine bkc ?_|refine bks ?_|refine bkd ?_|refine bkq (fun q => ?_)|(refine bk2 ?_ ?_<;>(first|exact bkn|(refine bkk ?_;intro h))))
      refine WL.call c27 rfl rfl rfl rfl ((rdisk_Crash x1 (toR D) (toR_ok hD) (fun f hf => rec_syn hD hf) (B := u.keepsA) (cB := u.keepsc) (keeps := u.keeps) hkk.2 (by omega) W0 _ (hR3 u hum).cons.cons.cons.cons).pre (fun w hs => hs.front (i := 3) rfl)) ?_
      rintro _ _ ⟨rfl, rfl⟩
      rw [toR_crash hD]
      have hD3 := crash_ok hD u.keeps
      generalize D.crash u.keeps = D3 at hD3 ⊢
      have ho := openJ_jok hD3
      repeat' (first|refine bk ?_|refine bkc ?_|refine bks ?_|refine bkd ?_|refine bkq (fun q => ?_)|(refine bk2 ?_ ?_<;>(first|exact bkn|(refine bkk ?_;intro h))))
      have hc := j_Open d1 D3 hD3 W0 (refA x1 (toR D3) :: row q11 44 (deedC u) :: rjA b2 x1 J :: jA b1 d1 J :: G)
      unfold openO at hc
      by_cases h0 : (openJ D3).1 = 0
      · simp only [h0, if_true] at hc
        refine WL.call c11 rfl rfl rfl rfl (hc.pre (fun w hs => hs.front (i := 1) rfl)) ?_
        clear hc
        rintro _ _ ⟨b3, rfl, rfl⟩
        repeat' (first|refine bk ?_|refine bkc ?_|refine bks ?_|refine bkd ?_|refine bkq (fun q => ?_)|(refine bk2 ?_ ?_<;>(first|exact bkn|(refine bkk ?_;intro h))))
        have hc := r_Open x1 D3 hD3 W0 (jA b3 d1 (openJ D3).2.1 :: diskA d1 (openJ D3).2.2 :: row q11 44 (deedC u) :: rjA b2 x1 J :: jA b1 d1 J :: G)
        unfold openS at hc
        simp only [h0, if_true] at hc
        refine WL.call c12 rfl rfl rfl rfl (hc.pre (fun w hs => hs.front (i := 2) rfl)) ?_
        clear hc
        rintro _ _ ⟨b4, rfl, rfl⟩
        generalize (openJ D3).2.1 = J4 at ho ⊢
        generalize (openJ D3).2.2 = D4 at ho ⊢
        repeat' (first|refine bk ?_|refine bkc ?_|refine bks ?_|refine bkd ?_|refine bkq (fun q => ?_)|(refine bk2 ?_ ?_<;>(first|exact bkn|(refine bkk ?_;intro h))))
        exact QS.met (J4, D4, b3, b4) ⟨ho.1, ho.2⟩ ⟨rfl, rfl, rfl, rfl, rfl, rfl, rfl, trivial⟩ (fun w hs => (((hs.kick (i := 5) rfl).kick (i := 5) rfl).front (i := 4) rfl))
      · simp only [h0, if_false] at hc
        refine WL.call c11 rfl rfl rfl rfl (hc.pre (fun w hs => hs.front (i := 1) rfl)) ?_
        clear hc
        rintro _ _ ⟨rfl, rfl⟩
        repeat' (first|refine bk ?_|refine bkc ?_|refine bks ?_|refine bkd ?_|refine bkq (fun q => ?_)|(refine bk2 ?_ ?_<;>(first|exact bkn|(refine bkk ?_;intro h))))
        have hc := r_Open x1 D3 hD3 W0 (diskA d1 (openJ D3).2.2 :: row q11 44 (deedC u) :: rjA b2 x1 J :: jA b1 d1 J :: G)
        unfold openS at hc
        simp only [h0, if_false] at hc
        refine WL.call c12 rfl rfl rfl rfl (hc.pre (fun w hs => hs.front (i := 1) rfl)) ?_
        clear hc
        rintro _ _ ⟨rfl, rfl⟩
        generalize (openJ D3).1 = er at h0 ⊢
        generalize (openJ D3).2.2 = D4 at ho ⊢
        repeat' (first|refine bk ?_|refine bkc ?_|refine bks ?_|refine bkd ?_|refine bkq (fun q => ?_)|(refine bk2 ?_ ?_<;>(first|exact bkn|(refine bkk ?_;intro h))))
        exact QS.turn (G' := G) (fun w hs => hs.drop.drop.drop.drop.drop) (QS.retV Tryz.results5 rfl ⟨rfl, rfl⟩)
    · refine WL.call c14 rfl rfl rfl rfl (askd u huo W0 _ (hR2 u hum).cons.cons.cons.cons.cons) ?_
      rintro _ G2 ⟨rfl, hG2⟩
      rw [hG2]; clear hG2 G2
      repeat' (first|refine bk ?_|refine bkc ?_|refine bks ?_|refine bkd ?_|refine bkq (fun q => ?_)|(refine bk2 ?_ ?_<;>(first|exact bkn|(refine bkk ?_;intro h))))
      have hq := askd_size u huo
      obtain ⟨s, hsE⟩ : ∃ s, s = askM u.kind u.epoch u.l ⟨u.xn, u.xs⟩ u.raw := ⟨_, rfl⟩
      rw [← hsE] at hq ⊢
      have hok := hand_jok hJ hD (bs s)
      refine WL.call c13 rfl rfl rfl rfl ((j_Handle b1 d1 J hJ D hD s hq W0 _).pre (fun w hs => (hs.front (i := 4) rfl).front (i := 4) rfl)) ?_
      rintro _ _ ⟨rfl, rfl⟩
      repeat' (first|refine bk ?_|refine bkc ?_|refine bks ?_|refine bkd ?_|refine bkq (fun q => ?_)|(refine bk2 ?_ ?_<;>(first|exact bkn|(refine bkk ?_;intro h))))
      refine WL.call c14 rfl rfl rfl rfl (askd u huo W0 _ (hR2 u hum).cons.cons.cons.cons.cons) ?_
      rintro _ G2 ⟨rfl, hG2⟩
      rw [hG2]; clear hG2 G2
      rw [← hsE]
      repeat' (first|refine bk ?_|refine bkc ?_|refine bks ?_|refine bkd ?_|refine bkq (fun q => ?_)|(refine bk2 ?_ ?_<;>(first|exact bkn|(refine bkk ?_;intro h))))
      refine WL.call c15 rfl rfl rfl rfl ((r_Handle b2 x1 J hJ D hD s hq W0 _).pre (fun w hs => (hs.front (i := 4) rfl).front (i := 4) rfl)) ?_
      rintro _ _ ⟨rfl, rfl⟩
      generalize handJ J D (bs s) = r at hok ⊢
      obtain ⟨a, J4, D4⟩ := r
      simp only at hok ⊢
      repeat' (first|refine bk ?_|refine bkc ?_|refine bks ?_|refine bkd ?_|refine bkq (fun q => ?_)|(refine bk2 ?_ ?_<;>(first|exact bkn|(refine bkk ?_;intro h))))
      exact QS.met (J4, D4, b1, b2) ⟨hok.1, hok.2⟩ ⟨rfl, rfl, rfl, rfl, rfl, rfl, rfl, trivial⟩ (fun w hs => hs.front (i := 4) rfl)
  rintro ⟨J2, D3, b3, b4⟩ ⟨hJ2, hD3⟩
  simp only at hJ2 hD3 ⊢
  repeat' (first|refine bk ?_|refine bkc ?_|refine bks ?_|refine bkd ?_|refine bkq (fun q => ?_)|(refine bk2 ?_ ?_<;>(first|exact bkn|(refine bkk ?_;intro h))))
  refine WL.call c16 rfl rfl rfl rfl ((law15_disks d1 x1 D3 hD3 W0 _).pre (fun w hs => (hs.front (i := 2) rfl).front (i := 4) rfl)) ?_
  rintro _ _ ⟨rfl, rfl⟩
  repeat' (first|refine bk ?_|refine bkc ?_|refine bks ?_|refine bkd ?_|refine bkq (fun q => ?_)|(refine bk2 ?_ ?_<;>(first|exact bkn|(refine bkk ?_;intro h))))
  refine WL.call c28 rfl rfl rfl rfl ((law_alike b3 d1 b4 x1 J2 hJ2 W0 _).pre (fun w hs => (hs.front (i := 3) rfl).front (i := 4) rfl)) ?_
  rintro _ _ ⟨rfl, rfl⟩
  repeat' (first|refine bk ?_|refine bkc ?_|refine bks ?_|refine bkd ?_|refine bkq (fun q => ?_)|(refine bk2 ?_ ?_<;>(first|exact bkn|(refine bkk ?_;intro h))))
  exact QS.again (J2, D3, i + 1, b3, b4) ⟨hJ2, hD3, by show i + 1 ≤ ls.length; omega⟩ (by show ls.length - (i + 1) < ls.length - i; omega) ⟨rfl, rfl, rfl, rfl, rfl, rfl, rfl, trivial⟩ (fun w hs => (((hs.kick (i := 4) rfl).front (i := 1) rfl).front (i := 3) rfl).front (i := 1) rfl)
end Go.Proofs.YtejdkcnbflpfaaaGreat.B
