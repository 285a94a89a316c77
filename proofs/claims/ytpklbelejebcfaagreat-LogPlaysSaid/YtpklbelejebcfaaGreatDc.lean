import Derived.Test.YtpklbelejebcfaaGreatNk
set_option linter.unusedVariables false
set_option linter.unusedSimpArgs false
set_option maxRecDepth 8000
/-! The disk's names, its crash, and the rest. -/
namespace Go.Proofs.YtpklbelejebcfaaGreat.B
open Go Go.Proofs
attribute [local irreducible] WL CS QS WQ WH WS Fn Op1 row Sat
attribute [local irreducible] diskA mapb slc

theorem disk_names {m b : Nat} {D : Disk} (hnd : (D.files.map (·.1)).Nodup) (hky : ∀ x ∈ D.files, x.1.size ≤ 30) (hct : D.files.length ≤ 20) (W0 : World) (F : List SL) :
    Fn Tryz.prog 33 [.pointer (some ⟨b, 0, none⟩)] W0 (row b 54 (diskCells m D) :: mapb strK fileV m D.files :: F)
      (Ret fun v G' => ∃ A c, v = .slice A D.names.length c ∧ G' = slc strE 9 A c D.names :: row b 54 (diskCells m D) :: mapb strK fileV m D.files :: F) := by
  refine Fn.enter Tryz.func33 rfl Tryz.ntmps33 rfl ?_
  simp only [diskCells]
  repeat' (first|refine bk ?_|refine bkc ?_|refine bks ?_|refine bkd ?_|refine bkq (fun q => ?_)|(refine bk2 ?_ ?_<;>(first|exact bkn|(refine bkk ?_;intro h))))
  refine WL.call c64 rfl rfl rfl rfl (file_keys m W0 _) ?_
  rintro _ _ ⟨q, rfl, rfl⟩
  repeat' (first|refine bk ?_|refine bkc ?_|refine bks ?_|refine bkd ?_|refine bkq (fun q => ?_)|(refine bk2 ?_ ?_<;>(first|exact bkn|(refine bkk ?_;intro h))))
  refine WL.call c63 rfl rfl rfl rfl ((file_names (m := m) (q := q) (kv := D.files) hnd hky hct W0 (row b 54 (diskCells m D) :: F)).pre (fun w hs => ?_)) ?_
  · exact hs.perm (List.Perm.cons _ (List.Perm.swap ..))
  rintro _ _ ⟨A, c, rfl, rfl⟩
  repeat' (first|refine bk ?_|refine bkc ?_|refine bks ?_|refine bkd ?_|refine bkq (fun q => ?_)|(refine bk2 ?_ ?_<;>(first|exact bkn|(refine bkk ?_;intro h))))
  refine QS.turn (G' := slc strE 9 A c D.names :: row b 54 (diskCells m D) :: mapb strK fileV m D.files :: F) (fun w hs => ?_) (QS.retV Tryz.results33 rfl ⟨A, c, rfl, rfl⟩)
  exact hs.perm (List.Perm.cons _ (List.Perm.swap ..))

theorem disk_Fuse {b : Nat} {D : Disk} (n : Int) (W0 : World) (F : List SL) :
    Fn Tryz.prog 12 [.pointer (some ⟨b, 0, none⟩), .int .i64 n] W0 (diskA b D :: F) (Ret fun v G' => v = .tuple #[] ∧ G' = diskA b (D.light n) :: F) := by
  refine Fn.ex (fun w hs => diskA_open w hs) (fun m => ?_)
  refine Fn.enter Tryz.func12 rfl Tryz.ntmps12 rfl ?_
  simp only [diskCells]
  repeat' (first|refine bk ?_|refine bkc ?_|refine bks ?_|refine bkd ?_|refine bkq (fun q => ?_)|(refine bk2 ?_ ?_<;>(first|exact bkn|(refine bkk ?_;intro h))))
  refine QS.turn (G' := diskA b (D.light n) :: F) (fun w hs => diskA_shut (m := m) w ?_) (QS.endV Tryz.results12 rfl ⟨rfl, rfl⟩)
  have e : (if 0 > n then 0 else n) = max n 0 := by split <;> omega
  rw [e] at hs
  exact hs

set_option maxHeartbeats 1000000 in
theorem disk_Crash {b : Nat} {D : Disk} (hD : DiskOk D) {A : Option Addr} {c : Nat} {keeps : List Int} (hk : ∀ x ∈ keeps, I64 x) (hkl : keeps.length ≤ 9223372036854775807) (W0 : World) (F : List SL) (hR : Rd W0 F intE A keeps) :
    Fn Tryz.prog 14 [.pointer (some ⟨b, 0, none⟩), .slice A keeps.length c] W0 (diskA b D :: F) (Ret fun v G' => v = .tuple #[] ∧ G' = diskA b (D.crash keeps) :: F) := by
  refine Fn.ex (fun w hs => diskA_open w hs) (fun m => ?_)
  have hnl := names_len hD
  have hcnt := hD.count
  refine Fn.enter Tryz.func14 rfl Tryz.ntmps14 rfl ?_
  simp only [diskCells]
  repeat' (first|refine bk ?_|refine bkc ?_|refine bks ?_|refine bkd ?_|refine bkq (fun q => ?_)|(refine bk2 ?_ ?_<;>(first|exact bkn|(refine bkk ?_;intro h))))
  refine WL.call c33 rfl rfl rfl rfl (disk_names (m := m) (b := b) (D := { D with used := 0 }) hD.nodup (fun x hx => (hD.keys x hx).2) hD.count W0 F) ?_
  rintro _ _ ⟨A2, c2, rfl, rfl⟩
  have hkn : ∀ x, x ∈ D.names → x.size ≤ 30 := fun x hx => by
    have := has_at hD ((names_has hD).1 hx)
    exact (hD.keys _ (aget_mem this)).2
  rw [show ({ D with used := 0 } : Disk).names = D.names from rfl]
  simp only [diskCells]
  repeat' (first|refine bk ?_|refine bkc ?_|refine bks ?_|refine bkd ?_|refine bkq (fun q => ?_)|(refine bk2 ?_ ?_<;>(first|exact bkn|(refine bkk ?_;intro h))))
  refine CS.loop (X := Nat) (fun i => [(0, .pointer (some ⟨b, 0, none⟩)), (1, .slice A keeps.length c), (13, .slice A2 D.names.length c2), (14, .int .i64 D.names.length), (15, .int .i64 (i : Int))])
    (fun i => slc strE 9 A2 c2 D.names :: row b 54 [.map (some m), .int .i64 D.room, .int .i64 (crashSt D keeps i).2, .int .i64 D.fuse, .bool D.down] :: mapb strK fileV m (crashSt D keeps i).1 :: F)
    (fun i => i ≤ D.names.length) (fun i => D.names.length - i) 0 ⟨rfl, rfl, rfl, rfl, rfl, trivial⟩ (fun w hs => hs) (Nat.zero_le _) ?_
  intro i hi
  obtain ⟨hs1, hs2, hs3⟩ := crashSt_sum hD keeps hi
  have hr1 := hD.room1
  have hr0 := hD.room0
  repeat' (first|refine bk ?_|refine bkc ?_|refine bks ?_|refine bkd ?_|refine bkq (fun q => ?_)|(refine bk2 ?_ ?_<;>(first|exact bkn|(refine bkk ?_;intro h))))
  · obtain ⟨nm, hnm⟩ : ∃ nm, D.names[i]? = some nm := ⟨D.names[i]'(by omega), List.getElem?_eq_getElem (by omega)⟩
    have hgd : D.names.getD i noStr = nm := by rw [List.getD_eq_getElem?_getD, hnm]; rfl
    have hnx := crashSt_next hD keeps (k := i) (by omega)
    rw [hgd] at hnx
    have hfo := hD.at_ok nm
    have hf0 := hfo.s0
    have hf1 := hfo.s1
    have hfm := hfo.most
    refine WL.idx TT (Rd.slc (i := 0) rfl) rfl rfl rfl (by omega) (by rw [Int.toNat_natCast]; exact hnm) rfl rfl rfl rfl (fun b2 o hA => ?_)
    refine WL.s (op1_at TT hA rfl rfl rfl rfl) rfl ?_
    repeat' (first|refine bk ?_|refine bkc ?_|refine bks ?_|refine bkd ?_|refine bkq (fun q => ?_)|(refine bk2 ?_ ?_<;>(first|exact bkn|(refine bkk ?_;intro h))))
    refine WL.s (op1_look1D TT (kk := strK) (ev := fileV) (u0 := ⟨noStr, 0⟩) (k := nm) 2 (D.at nm) rfl rfl rfl rfl rfl rfl rfl (by rw [hnx]; rfl)) rfl ?_
    refine WL.alloc TT rfl rfl rfl (fun q => ?_)
    refine WL.store TT 0 rfl rfl rfl rfl rfl rfl rfl rfl rfl ?_
    refine WL.s (op1_pure1 TT rfl) rfl ?_
    refine WL.nil ?_
    refine QS.then ?_
    refine CS.seq ?_
    refine CS.cut (X := Unit) (fun _ => [(0, .pointer (some ⟨b, 0, none⟩)), (1, .slice A keeps.length c), (13, .slice A2 D.names.length c2), (14, .int .i64 D.names.length), (15, .int .i64 (i : Int)), (4, .int .i64 (i : Int)), (5, .string nm), (6, .pointer (some ⟨q, 0, none⟩)), (7, .int .i64 (keeps.getD i 0))]) (fun _ => row q 76 [.string (D.at nm).data, .int .i64 (D.at nm).synced] :: slc strE 9 A2 c2 D.names :: row b 54 [.map (some m), .int .i64 D.room, .int .i64 (crashSt D keeps i).2, .int .i64 D.fuse, .bool D.down] :: mapb strK fileV m (crashSt D keeps i).1 :: F) (fun _ => True) ?_ ?_
    · repeat' (first|refine bk ?_|refine bkc ?_|refine bks ?_|refine bkd ?_|refine bkq (fun q => ?_)|(refine bk2 ?_ ?_<;>(first|exact bkn|(refine bkk ?_;intro h))))
      · refine WL.idx TT hR.cons.cons.cons.cons rfl rfl rfl (by omega) (x := keeps.getD i 0) (by rw [Int.toNat_natCast, List.getD_eq_getElem?_getD, List.getElem?_eq_getElem (by omega)]; rfl) rfl rfl rfl rfl (fun b3 o3 hA3 => ?_)
        refine WL.s (op1_at TT hA3 rfl rfl rfl rfl) rfl ?_
        repeat' (first|refine bk ?_|refine bkc ?_|refine bks ?_|refine bkd ?_|refine bkq (fun q => ?_)|(refine bk2 ?_ ?_<;>(first|exact bkn|(refine bkk ?_;intro h))))
        exact QS.met () trivial ⟨rfl, rfl, rfl, rfl, rfl, rfl, rfl, rfl, rfl, trivial⟩ (fun w hs => hs)
      · refine QS.met () trivial ⟨rfl, rfl, rfl, rfl, rfl, rfl, rfl, rfl, ?_, trivial⟩ (fun w hs => hs)
        rw [List.getD_eq_getElem?_getD, List.getElem?_eq_none (by omega)]; rfl
    rintro _ _
    have hz : I64 (keeps.getD i 0) := by
      rw [List.getD_eq_getElem?_getD]
      cases hg : keeps[i]? with
      | none => exact ⟨by simp, by simp⟩
      | some x => exact hk x (List.mem_of_getElem? hg)
    have hz1 := hz.1
    have hz2 := hz.2
    refine QS.then ?_
    refine CS.seq ?_
    refine CS.cut (X := Unit) (fun _ => [(0, .pointer (some ⟨b, 0, none⟩)), (1, .slice A keeps.length c), (13, .slice A2 D.names.length c2), (14, .int .i64 D.names.length), (15, .int .i64 (i : Int)), (4, .int .i64 (i : Int)), (5, .string nm), (6, .pointer (some ⟨q, 0, none⟩)), (7, .int .i64 (keepN keeps i))]) (fun _ => row q 76 [.string (D.at nm).data, .int .i64 (D.at nm).synced] :: slc strE 9 A2 c2 D.names :: row b 54 [.map (some m), .int .i64 D.room, .int .i64 (crashSt D keeps i).2, .int .i64 D.fuse, .bool D.down] :: mapb strK fileV m (crashSt D keeps i).1 :: F) (fun _ => True) ?_ ?_
    · repeat' (first|refine bk ?_|refine bkc ?_|refine bks ?_|refine bkd ?_|refine bkq (fun q => ?_)|(refine bk2 ?_ ?_<;>(first|exact bkn|(refine bkk ?_;intro h))))
      · refine QS.met () trivial ⟨rfl, rfl, rfl, rfl, rfl, rfl, rfl, rfl, ?_, trivial⟩ (fun w hs => hs)
        rw [keepN, if_pos h]
        exact congrArg (fun z => some (Value.int .i64 z)) (not_i64 ⟨hz1, h⟩)
      · refine QS.met () trivial ⟨rfl, rfl, rfl, rfl, rfl, rfl, rfl, rfl, ?_, trivial⟩ (fun w hs => hs)
        rw [keepN, if_neg h]; rfl
    rintro _ _
    have hkn := keepN_nonneg keeps i
    obtain ⟨hc1, hc2⟩ := crashN_ok hfo hkn
    repeat' (first|refine bk ?_|refine bkc ?_|refine bks ?_|refine bkd ?_|refine bkq (fun q => ?_)|(refine bk2 ?_ ?_<;>(first|exact bkn|(refine bkk ?_;intro h))))
    refine WQ.s (op1_remE TT rfl rfl (by omega)) rfl ?_
    have e0 : crashN (D.at nm) (keepN keeps i) = (D.at nm).synced + keepN keeps i % (((D.at nm).data.size : Int) - (D.at nm).synced + 1) := rfl
    refine WQ.s (op1_add TT rfl rfl (by rw [← e0]; omega)) rfl ?_
    rw [← e0]
    repeat' (first|refine bk ?_|refine bkc ?_|refine bks ?_|refine bkd ?_|refine bkq (fun q => ?_)|(refine bk2 ?_ ?_<;>(first|exact bkn|(refine bkk ?_;intro h))))
    · refine WL.delete TT (kk := strK) (ev := fileV) (k := nm) 3 rfl rfl rfl rfl rfl rfl rfl rfl ?_
      repeat' (first|refine bk ?_|refine bkc ?_|refine bks ?_|refine bkd ?_|refine bkq (fun q => ?_)|(refine bk2 ?_ ?_<;>(first|exact bkn|(refine bkk ?_;intro h))))
      have e1 : crashSt D keeps (i + 1) = (adel (crashSt D keeps i).1 nm, (crashSt D keeps i).2) := by
        show crashOne (crashSt D keeps i) (D.names.getD i noStr) (D.at (D.names.getD i noStr)) (keepN keeps i) = _
        rw [hgd, crashOne, show crashF (D.at nm) (keepN keeps i) = none from if_pos ⟨by assumption, by assumption⟩]
      refine QS.again (i + 1) (by omega) (by omega) ⟨rfl, rfl, rfl, rfl, ?_, trivial⟩ (fun w hs => ?_)
      · rw [show ((i + 1 : Nat) : Int) = (i : Int) + 1 from by omega]; rfl
      · rw [e1]; exact hs.drop
    · repeat' (first|refine bk ?_|refine bkc ?_|refine bks ?_|refine bkd ?_|refine bkh ?_|refine bkq (fun q => ?_)|((first|refine bk2 ?_ ?_|refine bk2h ?_ ?_)<;>(first|exact bkn|(refine bkk ?_;intro h))))
      refine WH.s (op1_slice TT (l := 0) (r := crashN (D.at nm) (keepN keeps i)) (s := (D.at nm).data) rfl rfl rfl rfl ⟨by omega, by omega, by omega⟩) rfl ?_
      repeat' (first|refine bk ?_|refine bkc ?_|refine bks ?_|refine bkd ?_|refine bkh ?_|refine bkq (fun q => ?_)|((first|refine bk2 ?_ ?_|refine bk2h ?_ ?_)<;>(first|exact bkn|(refine bkk ?_;intro h))))
      refine WL.mapUpdate TT (kk := strK) (ev := fileV) (k := nm) (u := ⟨(D.at nm).data.extract 0 (crashN (D.at nm) (keepN keeps i)).toNat, crashN (D.at nm) (keepN keeps i)⟩) 3 rfl rfl rfl rfl rfl rfl rfl rfl ?_
      have hrs := restSum_step (D := D) (k := i) (by omega)
      rw [hgd] at hrs
      have hrn : 0 ≤ restSum D (i + 1) := by
        have : ∀ l : List ByteArray, 0 ≤ (l.map fun nm => ((D.at nm).data.size : Int)).sum := fun l => by
          induction l with
          | nil => exact Int.le_refl _
          | cons x r ih => simp only [List.map_cons, List.sum_cons]; omega
        exact this _
      repeat' (first|refine bk ?_|refine bkc ?_|refine bks ?_|refine bkd ?_|refine bkh ?_|refine bkq (fun q => ?_)|((first|refine bk2 ?_ ?_|refine bk2h ?_ ?_)<;>(first|exact bkn|(refine bkk ?_;intro h))))
      all_goals
        have e1 : crashSt D keeps (i + 1) = (aput (crashSt D keeps i).1 nm ⟨(D.at nm).data.extract 0 (crashN (D.at nm) (keepN keeps i)).toNat, crashN (D.at nm) (keepN keeps i)⟩, (crashSt D keeps i).2 + crashN (D.at nm) (keepN keeps i)) := by
          show crashOne (crashSt D keeps i) (D.names.getD i noStr) (D.at (D.names.getD i noStr)) (keepN keeps i) = _
          rw [hgd, crashOne, show crashF (D.at nm) (keepN keeps i) = some ⟨(D.at nm).data.extract 0 (crashN (D.at nm) (keepN keeps i)).toNat, crashN (D.at nm) (keepN keeps i)⟩ from if_neg (by omega)]
        refine QS.again (i + 1) (by omega) (by omega) ⟨rfl, rfl, rfl, rfl, ?_, trivial⟩ (fun w hs => ?_)
        · rw [show ((i + 1 : Nat) : Int) = (i : Int) + 1 from by omega]; rfl
        · rw [e1]; exact hs.drop
  · have ei : i = D.names.length := by omega
    subst ei
    refine QS.turn (G' := diskA b (D.crash keeps) :: F) (fun w hs => diskA_shut (m := m) w hs.drop) (QS.endV Tryz.results14 rfl ⟨rfl, rfl⟩)
end Go.Proofs.YtpklbelejebcfaaGreat.B
