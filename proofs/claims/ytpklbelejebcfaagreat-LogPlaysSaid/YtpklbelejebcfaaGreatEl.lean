import Derived.Test.YtpklbelejebcfaaGreatEk
set_option linter.unusedVariables false
set_option linter.unusedSimpArgs false
set_option maxRecDepth 8000
/-! What the document's disk does with its blocks: put, Append. -/
namespace Go.Proofs.YtpklbelejebcfaaGreat.B
open Go Go.Proofs
attribute [local irreducible] WL CS QS WQ WH WS Fn Op1 row Sat
attribute [local irreducible] refA slc

set_option maxHeartbeats 1000000 in
theorem rdisk_put (b : Nat) (A : Option Addr) (c : Nat) (R : RDisk) (hl : R.files.length ≤ 1000) (f : RFile) (W0 : World) (F : List SL) :
    Fn Tryz.prog 62 [.pointer (some ⟨b, 0, none⟩), .agg #[.string f.name, .string f.data, .int .i64 f.syn]] W0 (row b 57 (refCells A c R) :: slc rfE 78 A c R.files :: F)
      (Ret fun v G' => v = .tuple #[] ∧ G' = refA b { R with files := insF f R.files } :: F) := by
  refine Fn.fact (slc_cap (i := 1) rfl) (fun hcap => ?_)
  refine Fn.enter Tryz.func62 rfl Tryz.ntmps62 rfl ?_
  simp only [refCells]
  repeat' (first|refine bk ?_|refine bkc ?_|refine bks ?_|refine bkd ?_|refine bkq (fun q => ?_)|(refine bk2 ?_ ?_<;>(first|exact bkn|(refine bkk ?_;intro h))))
  refine CS.loop (X := Nat) (fun i => [(0, .pointer (some ⟨b, 0, none⟩)), (3, .pointer (some ⟨q, 0, none⟩)), (4, .int .i64 (i : Int))]) (fun i => row q 78 [.string f.name, .string f.data, .int .i64 f.syn] :: row b 57 (refCells A c R) :: slc rfE 78 A c R.files :: F)
    (fun i => i ≤ R.files.length ∧ ∀ j g, j < i → R.files[j]? = some g → bl g.name f.name = true) (fun i => R.files.length - i) 0 ⟨rfl, rfl, rfl, trivial⟩ (fun w hs => hs) ⟨Nat.zero_le _, fun j g hj => by omega⟩ ?_
  rintro i ⟨hi, hne⟩
  simp only [refCells]
  refine CS.world fun hw => ?_
  repeat' (first|refine bk ?_|refine bkc ?_|refine bks ?_|refine bkd ?_|refine bkq (fun q => ?_)|(refine bk2 ?_ ?_<;>(first|exact bkn|(refine bkk ?_;intro h))))
  focus
    obtain ⟨x, hx⟩ : ∃ x, R.files[i]? = some x := ⟨R.files[i]'(by omega), List.getElem?_eq_getElem (by omega)⟩
    refine WQ.idx TT (Rd.slc (i := 2) rfl) rfl rfl rfl (by omega) (by rw [Int.toNat_natCast]; exact hx) rfl rfl rfl rfl hw (fun b2 o hA => ?_)
    repeat' (first|refine bk ?_|refine bkc ?_|refine bks ?_|refine bkd ?_|refine bkq (fun q => ?_)|(refine bk2 ?_ ?_<;>(first|exact bkn|(refine bkk ?_;intro h))))
    refine WQ.s (op1_atF TT 0 hA rfl rfl rfl rfl rfl) rfl ?_
    repeat' (first|refine bk ?_|refine bkc ?_|refine bks ?_|refine bkd ?_|refine bkq (fun q => ?_)|(refine bk2 ?_ ?_<;>(first|exact bkn|(refine bkk ?_;intro h))))
    · refine QS.again (i + 1) ⟨by omega, fun j g hj hg => ?_⟩ (by omega) ⟨rfl, rfl, ?_, trivial⟩ (fun w hs => hs)
      · by_cases hji : j = i
        · subst hji; rw [hx] at hg; injection hg with hg; subst hg; assumption
        · exact hne j g (by omega) hg
      · rw [show ((i + 1 : Nat) : Int) = (i : Int) + 1 from by omega]; rfl
    have hp : posF f.name R.files = i := posF_at hne hi (fun g hg => by rw [hx] at hg; injection hg with hg; subst hg; assumption)
  rotate_left
  have hp : posF f.name R.files = i := posF_at hne hi (fun g hg => by have := (List.getElem?_eq_some_iff.1 hg).1; omega)
  all_goals
    refine WL.s (op1_sliceS (E := rfE) (xs := R.files) (l := 0) (r := (i : Int)) TT (by rfl) (by rfl) rfl rfl rfl rfl rfl (by omega) hcap) rfl ?_
    simp only [Int.toNat_zero, Nat.sub_zero, Int.toNat_natCast]
    refine WL.turn (fun w hs => hs.slcNil rfE 78) ?_
    refine WL.append TT (E := rfE) (xs := ([] : List RFile)) (ys := (R.files.take i).drop 0) 0 rfl rfl rfl (by rw [List.drop_zero, List.length_take]; omega) rfl ((Rd.slc (i := 3) rfl).part (by omega) hcap) rfl rfl rfl rfl rfl (by decide) (by rw [List.drop_zero, List.length_take]; simp; omega) (fun _ _ => rfl) rfl (fun A1 c1 => ?_)
    obtain ⟨X, hX⟩ : ∃ X, X = ([] : List RFile) ++ (R.files.take i).drop 0 := ⟨_, rfl⟩
    have hXl : X.length = i := by rw [hX, List.nil_append, List.drop_zero, List.length_take]; omega
    rw [← hX]
    repeat' (first|refine bk ?_|refine bkc ?_|refine bks ?_|refine bkd ?_|refine bkq (fun q => ?_)|(refine bk2 ?_ ?_<;>(first|exact bkn|(refine bkk ?_;intro h))))
    refine WL.buildSlice TT rfl rfl rfl rfl rfl rfl rfl rfl (fun qs => ?_)
    refine WL.append TT (E := rfE) (xs := X) (ys := [f]) 1 rfl rfl rfl rfl rfl (Rd.row (i := 0) rfl rfl) rfl rfl rfl rfl rfl (by decide) (by simp only [List.length_cons, List.length_nil]; omega) (fun _ _ => rfl) rfl (fun A2 c2 => ?_)
    obtain ⟨Y, hY⟩ : ∃ Y, Y = X ++ [f] := ⟨_, rfl⟩
    have hYl : Y.length = i + 1 := by rw [hY, List.length_append, hXl]; rfl
    rw [← hY]
    repeat' (first|refine bk ?_|refine bkc ?_|refine bks ?_|refine bkd ?_|refine bkq (fun q => ?_)|(refine bk2 ?_ ?_<;>(first|exact bkn|(refine bkk ?_;intro h))))
    refine WL.s (op1_sliceS (E := rfE) (xs := R.files) (l := (i : Int)) (r := (R.files.length : Int)) TT (by rfl) (by rfl) rfl rfl rfl rfl rfl (by omega) hcap) rfl ?_
    simp only [Int.toNat_natCast]
    refine WL.append TT (E := rfE) (xs := Y) (ys := (R.files.take R.files.length).drop i) 1 rfl rfl rfl (by rw [List.take_length, List.length_drop]) rfl ((Rd.slc (i := 4) rfl).part (by omega) hcap) rfl rfl rfl rfl rfl (by decide) (by rw [List.take_length, List.length_drop]; simp only []; omega) (fun _ _ => rfl) rfl (fun A3 c3 => ?_)
    repeat' (first|refine bk ?_|refine bkc ?_|refine bks ?_|refine bkd ?_|refine bkq (fun q => ?_)|(refine bk2 ?_ ?_<;>(first|exact bkn|(refine bkk ?_;intro h))))
    have hZ : Y ++ (R.files.take R.files.length).drop i = insF f R.files := by rw [hY, hX, List.nil_append, List.drop_zero, List.take_length, insF, hp]
    rw [hZ]
    exact QS.turn (G' := refA b { R with files := insF f R.files } :: F) (fun w hs => refA_shut (A := A3) (c := c3) w (((hs.drop.kick (i := 1) rfl).kick (i := 2) rfl).perm (List.Perm.swap ..))) (QS.endV Tryz.results62 rfl ⟨rfl, rfl⟩)

set_option maxHeartbeats 2000000 in
theorem rdisk_Append0 (b : Nat) (R : RDisk) (hR : ROk R) (name data : ByteArray) (hda : data.size ≤ 9223372036854775807) (hf : findF name R.files = none) (W0 : World) (F : List SL) :
    Fn Tryz.prog 30 [.pointer (some ⟨b, 0, none⟩), .string name, .string data] W0 (refA b R :: F)
      (Ret fun v G' => v = .int .i64 (R.append name data).1 ∧ G' = refA b (R.append name data).2 :: F) := by
  have hcnt := hR.count
  have hmost := hR.most
  have hsum := sumF_bound hmost
  have hl0 := hR.left0
  have hl1 := hR.left1
  have hat : atF name R.files = -1 := by rw [atF, hf]
  refine Fn.ex (fun w hs => refA_open w hs) (fun x => ?_)
  obtain ⟨A, c⟩ := x
  simp only
  refine Fn.fact (slc_at (i := 1) rfl) (fun hcap => ?_)
  refine Fn.enter Tryz.func30 rfl Tryz.ntmps30 rfl ?_
  repeat' (first|refine bk ?_|refine bkc ?_|refine bks ?_|refine bkd ?_|refine bkq (fun q => ?_)|(refine bk2 ?_ ?_<;>(first|exact bkn|(refine bkk ?_;intro h))))
  refine WL.call c58 rfl rfl rfl rfl (rdisk_at b A c R (by omega) name W0 _) ?_
  rintro _ _ ⟨rfl, rfl⟩
  rw [hat]
  repeat' (first|refine bk ?_|refine bkc ?_|refine bks ?_|refine bkd ?_|refine bkq (fun q => ?_)|(refine bk2 ?_ ?_<;>(first|exact bkn|(refine bkk ?_;intro h))))
  refine WL.call c59 rfl rfl rfl rfl (rdisk_Name name W0 _) ?_
  rintro _ _ ⟨rfl, rfl⟩
  simp only [refCells]
  repeat' (first|refine bk ?_|refine bkc ?_|refine bks ?_|refine bkd ?_|refine bkq (fun q => ?_)|(refine bk2 ?_ ?_<;>(first|exact bkn|(refine bkk ?_;intro h))))
  · have e : R.append name data = (12, R) := by unfold RDisk.append; rw [if_pos (by assumption)]
    rw [e]
    exact QS.turn (G' := refA b R :: F) (fun w hs => refA_shut (A := A) (c := c) w hs) (QS.retV Tryz.results30 rfl ⟨rfl, rfl⟩)
  · have e : R.append name data = (1, R) := by unfold RDisk.append; rw [if_neg (by simp [*]), if_pos (by assumption)]
    rw [e]
    exact QS.turn (G' := refA b R :: F) (fun w hs => refA_shut (A := A) (c := c) w hs) (QS.retV Tryz.results30 rfl ⟨rfl, rfl⟩)
  · have e : R.append name data = (4, R) := by unfold RDisk.append; rw [if_neg (by simp [*]), if_neg (fun h => h (by assumption)), if_pos (.inl (by assumption))]
    rw [e]
    exact QS.turn (G' := refA b R :: F) (fun w hs => refA_shut (A := A) (c := c) w hs) (QS.retV Tryz.results30 rfl ⟨rfl, rfl⟩)
  · have e : R.append name data = (4, R) := by unfold RDisk.append; rw [if_neg (by simp [*]), if_neg (fun h => h (by assumption)), if_pos (.inr (.inr ⟨by omega, by assumption⟩))]
    rw [e]
    exact QS.turn (G' := refA b R :: F) (fun w hs => refA_shut (A := A) (c := c) w hs) (QS.retV Tryz.results30 rfl ⟨rfl, rfl⟩)
  · refine WQ.call c60 rfl rfl rfl rfl (rdisk_Bytes b A c R hR W0 _) ?_
    repeat' (first|refine bk ?_|refine bkc ?_|refine bks ?_|refine bkd ?_|refine bkq (fun q => ?_)|(refine bk2 ?_ ?_<;>(first|exact bkn|(refine bkk ?_;intro h))))
    · have e : R.append name data = (8, R) := by unfold RDisk.append; rw [if_neg (by simp [*]), if_neg (fun h => h (by assumption)), if_neg (by omega), if_pos (by assumption)]
      rw [e]
      exact QS.turn (G' := refA b R :: F) (fun w hs => refA_shut (A := A) (c := c) w hs) (QS.retV Tryz.results30 rfl ⟨rfl, rfl⟩)
    · refine WL.call c61 rfl rfl rfl rfl (rdisk_blows b A c R hl0 hl1 W0 _) ?_
      rintro _ _ ⟨rfl, rfl⟩
      obtain ⟨B, R2, hB⟩ : ∃ B R2, R.blow = (B, R2) := ⟨R.blow.1, R.blow.2, rfl⟩
      have hbf : R2.files = R.files := by rw [show R2 = R.blow.2 from by rw [hB]]; unfold RDisk.blow; split <;> rfl
      rw [hB]
      simp only [refCells]
      repeat' (first|refine bk ?_|refine bkc ?_|refine bks ?_|refine bkd ?_|refine bkq (fun q => ?_)|(refine bk2 ?_ ?_<;>(first|exact bkn|(refine bkk ?_;intro h))))
      · have e : R.append name data = (12, R2) := by unfold RDisk.append; rw [if_neg (by simp [*]), if_neg (fun h => h (by assumption)), if_neg (by omega), if_neg (by assumption), hB, if_pos (by assumption)]
        rw [e]
        exact QS.turn (G' := refA b R2 :: F) (fun w hs => refA_shut (A := A) (c := c) w (by simp only [refCells, hbf] at hs ⊢; exact hs)) (QS.retV Tryz.results30 rfl ⟨rfl, rfl⟩)
      · have e : R.append name data = (0, { R2 with files := insF ⟨name, data, 0⟩ R.files }) := by
          unfold RDisk.append; rw [if_neg (by simp [*]), if_neg (fun h => h (by assumption)), if_neg (by omega), if_neg (by assumption), hB, if_neg (by simp [*]), addF, hf]
        refine WL.turn (G' := row b 57 (refCells A c R2) :: slc rfE 78 A c R2.files :: F) (fun w hs => by simp only [refCells, hbf] at hs ⊢; exact hs) ?_
        refine WL.call c62 rfl rfl rfl rfl (rdisk_put b A c R2 (by rw [hbf]; omega) ⟨name, data, 0⟩ W0 _) ?_
        rintro _ _ ⟨rfl, rfl⟩
        repeat' (first|refine bk ?_|refine bkc ?_|refine bks ?_|refine bkd ?_|refine bkq (fun q => ?_)|(refine bk2 ?_ ?_<;>(first|exact bkn|(refine bkk ?_;intro h))))
        rw [e, hbf]
        exact QS.retV Tryz.results30 rfl ⟨rfl, rfl⟩
end Go.Proofs.YtpklbelejebcfaaGreat.B
