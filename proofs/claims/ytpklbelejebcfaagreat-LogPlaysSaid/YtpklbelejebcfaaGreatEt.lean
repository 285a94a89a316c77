import Derived.Test.YtpklbelejebcfaaGreatEs
import Derived.Test.YtpklbelejebcfaaGreatEr
import Derived.Test.YtpklbelejebcfaaGreatNk
set_option linter.unusedVariables false
set_option linter.unusedSimpArgs false
set_option linter.unusedSectionVars false
set_option maxRecDepth 8000
/-! What the document's disk does with its blocks: Crash. -/
namespace Go.Proofs.YtpklbelejebcfaaGreat.B
open Go Go.Proofs
attribute [local irreducible] WL CS QS WQ WH WS Fn Op1 row Sat
attribute [local irreducible] refA slc

theorem crE_len (x : RFile) (c : Int) : (crE x c).length ≤ 1 := by unfold crE; split <;> simp
theorem crT_len (keeps : List Int) (l : List RFile) : ∀ i, (crT keeps l i).length ≤ i
  | 0 => Nat.le_refl _
  | i + 1 => by
    have := crT_len keeps l i
    rw [crT, List.length_append]
    cases hl : l[i]? with
    | none => simp only [List.length_nil]; omega
    | some x => have := crE_len x (keepN keeps i); simp only; omega

set_option maxHeartbeats 4000000 in
theorem rdisk_Crash (b : Nat) (R : RDisk) (hR : ROk R) (hsy : ∀ f ∈ R.files, FileOk ⟨f.data, f.syn⟩) {B : Option Addr} {cB : Nat} {keeps : List Int} (hk : ∀ x ∈ keeps, I64 x) (hkl : keeps.length ≤ 9223372036854775807) (W0 : World) (F : List SL) (hRd : Rd W0 F intE B keeps) :
    Fn Tryz.prog 15 [.pointer (some ⟨b, 0, none⟩), .slice B keeps.length cB] W0 (refA b R :: F) (Ret fun v G' => v = .tuple #[] ∧ G' = refA b (R.crash keeps) :: F) := by
  have hcn := hR.count
  refine Fn.ex (fun w hs => refA_open w hs) (fun x => ?_)
  obtain ⟨A, c⟩ := x
  simp only
  refine Fn.enter Tryz.func15 rfl Tryz.ntmps15 rfl ?_
  simp only [refCells]
  repeat' (first|refine bk ?_|refine bkc ?_|refine bks ?_|refine bkd ?_|refine bkq (fun q => ?_)|(refine bk2 ?_ ?_<;>(first|exact bkn|(refine bkk ?_;intro h))))
  refine CS.loop (X := Nat × Option Addr × Nat) (fun y => [(0, .pointer (some ⟨b, 0, none⟩)), (1, .slice B keeps.length cB), (4, .slice y.2.1 (crT keeps R.files y.1).length y.2.2), (5, .int .i64 (y.1 : Int))])
    (fun y => slc rfE 78 y.2.1 y.2.2 (crT keeps R.files y.1) :: row b 57 (refCells A c R) :: slc rfE 78 A c R.files :: F)
    (fun y => y.1 ≤ R.files.length) (fun y => R.files.length - y.1) (0, none, 0) ⟨rfl, rfl, rfl, rfl, trivial⟩ (fun w hs => hs.slcNil rfE 78) (Nat.zero_le _) ?_
  rintro ⟨i, A2, c2⟩ hi
  simp only [refCells] at hi ⊢
  have hcl := crT_len keeps R.files i
  generalize hX : crT keeps R.files i = X at hcl ⊢
  repeat' (first|refine bk ?_|refine bkc ?_|refine bks ?_|refine bkd ?_|refine bkq (fun q => ?_)|(refine bk2 ?_ ?_<;>(first|exact bkn|(refine bkk ?_;intro h))))
  · obtain ⟨f, hf⟩ : ∃ x, R.files[i]? = some x := ⟨R.files[i]'(by omega), List.getElem?_eq_getElem (by omega)⟩
    have hfo := hsy f (List.mem_of_getElem? hf)
    have hf0 := hfo.s0
    have hf1 := hfo.s1
    have hfm := hfo.most
    simp only at hf0 hf1 hfm
    refine WL.idx TT (Rd.slc (i := 2) rfl) rfl rfl rfl (by omega) (by rw [Int.toNat_natCast]; exact hf) rfl rfl rfl rfl (fun b2 o hA => ?_)
    refine WL.s (op1_at TT hA rfl rfl rfl rfl) rfl ?_
    repeat' (first|refine bk ?_|refine bkc ?_|refine bkd ?_|refine bkq (fun q => ?_)|(refine bk2 ?_ ?_<;>(first|exact bkn|(refine bkk ?_;intro h))))
    refine CS.seq ?_
    repeat' (first|refine bk ?_|refine bkc ?_|refine bkd ?_|refine bkq (fun q => ?_)|(refine bk2 ?_ ?_<;>(first|exact bkn|(refine bkk ?_;intro h))))
    refine CS.seq ?_
    refine CS.cut (X := Unit) (fun _ => [(0, .pointer (some ⟨b, 0, none⟩)), (1, .slice B keeps.length cB), (4, .slice A2 X.length c2), (5, .int .i64 (i : Int)), (6, .pointer (some ⟨q, 0, none⟩)), (7, .int .i64 (keeps.getD i 0))]) (fun _ => row q 78 [.string f.name, .string f.data, .int .i64 f.syn] :: slc rfE 78 A2 c2 X :: row b 57 [.int .i64 R.room, .slice A R.files.length c, .int .i64 R.left, .bool R.off] :: slc rfE 78 A c R.files :: F) (fun _ => True) ?_ ?_
    · repeat' (first|refine bk ?_|refine bkc ?_|refine bks ?_|refine bkd ?_|refine bkq (fun q => ?_)|(refine bk2 ?_ ?_<;>(first|exact bkn|(refine bkk ?_;intro h))))
      · refine WL.idx TT hRd.cons.cons.cons.cons rfl rfl rfl (by omega) (x := keeps.getD i 0) (by rw [Int.toNat_natCast, List.getD_eq_getElem?_getD, List.getElem?_eq_getElem (by omega)]; rfl) rfl rfl rfl rfl (fun b3 o3 hA3 => ?_)
        refine WL.s (op1_at TT hA3 rfl rfl rfl rfl) rfl ?_
        repeat' (first|refine bk ?_|refine bkc ?_|refine bks ?_|refine bkd ?_|refine bkq (fun q => ?_)|(refine bk2 ?_ ?_<;>(first|exact bkn|(refine bkk ?_;intro h))))
        exact QS.met () trivial ⟨rfl, rfl, rfl, rfl, rfl, rfl, trivial⟩ (fun w hs => hs)
      · refine QS.met () trivial ⟨rfl, rfl, rfl, rfl, rfl, ?_, trivial⟩ (fun w hs => hs)
        rw [List.getD_eq_getElem?_getD, List.getElem?_eq_none (by omega)]; rfl
    rintro _ _
    have hz : I64 (keeps.getD i 0) := by
      rw [List.getD_eq_getElem?_getD]
      cases hg : keeps[i]? with
      | none => exact ⟨by simp, by simp⟩
      | some x => exact hk x (List.mem_of_getElem? hg)
    have hz1 := hz.1
    have hz2 := hz.2
    refine QS.then ?_
    refine CS.seq ?_
    refine CS.cut (X := Unit) (fun _ => [(0, .pointer (some ⟨b, 0, none⟩)), (1, .slice B keeps.length cB), (4, .slice A2 X.length c2), (5, .int .i64 (i : Int)), (6, .pointer (some ⟨q, 0, none⟩)), (7, .int .i64 (keepN keeps i))]) (fun _ => row q 78 [.string f.name, .string f.data, .int .i64 f.syn] :: slc rfE 78 A2 c2 X :: row b 57 [.int .i64 R.room, .slice A R.files.length c, .int .i64 R.left, .bool R.off] :: slc rfE 78 A c R.files :: F) (fun _ => True) ?_ ?_
    · repeat' (first|refine bk ?_|refine bkc ?_|refine bks ?_|refine bkd ?_|refine bkq (fun q => ?_)|(refine bk2 ?_ ?_<;>(first|exact bkn|(refine bkk ?_;intro h))))
      · refine QS.met () trivial ⟨rfl, rfl, rfl, rfl, rfl, ?_, trivial⟩ (fun w hs => hs)
        rw [keepN, if_pos h, show -keeps.getD i 0 - 1 = -(keeps.getD i 0 + 1) from by omega]; rfl
      · refine QS.met () trivial ⟨rfl, rfl, rfl, rfl, rfl, ?_, trivial⟩ (fun w hs => hs)
        rw [keepN, if_neg h]; rfl
    rintro _ _
    have hkn := keepN_nonneg keeps i
    obtain ⟨hc1, hc2⟩ := crashN_ok hfo hkn
    simp only at hc1 hc2
    have e0 : crashN ⟨f.data, f.syn⟩ (keepN keeps i) = f.syn + keepN keeps i % ((f.data.size : Int) - f.syn + 1) := rfl
    repeat' (first|refine bk ?_|refine bkc ?_|refine bks ?_|refine bkd ?_|refine bkq (fun q => ?_)|(refine bk2 ?_ ?_<;>(first|exact bkn|(refine bkk ?_;intro h))))
    refine WL.s (op1_remE TT rfl rfl (by omega)) rfl ?_
    repeat' (first|refine bk ?_|refine bkc ?_|refine bks ?_|refine bkd ?_|refine bkq (fun q => ?_)|(refine bk2 ?_ ?_<;>(first|exact bkn|(refine bkk ?_;intro h))))
    rw [← e0]
    refine WL.s (op1_slice TT (l := 0) (r := crashN ⟨f.data, f.syn⟩ (keepN keeps i)) (s := f.data) rfl rfl rfl rfl ⟨by omega, by omega, by omega⟩) rfl ?_
    have hes : (f.data.extract (Int.toNat 0) (crashN ⟨f.data, f.syn⟩ (keepN keeps i)).toNat).size = (crashN ⟨f.data, f.syn⟩ (keepN keeps i)).toNat := extract0_size _ _ (by omega)
    generalize he : f.data.extract (Int.toNat 0) (crashN ⟨f.data, f.syn⟩ (keepN keeps i)).toNat = E at hes ⊢
    repeat' (first|refine bk ?_|refine bkc ?_|refine bks ?_|refine bkd ?_|refine bkq (fun q => ?_)|(refine bk2 ?_ ?_<;>(first|exact bkn|(refine bkk ?_;intro h))))
    · have hcf : crashF ⟨f.data, f.syn⟩ (keepN keeps i) = some ⟨E, (E.size : Int)⟩ := by
        unfold crashF
        rw [if_neg (fun e => by have := e.1; omega)]
        have : (E.size : Int) = crashN ⟨f.data, f.syn⟩ (keepN keeps i) := by omega
        rw [this, ← he]; rfl
      have hnext : crT keeps R.files (i + 1) = X ++ [⟨f.name, E, (E.size : Int)⟩] := by
        rw [crT, hX, hf]; simp only [crE, hcf]
      refine WL.buildSlice TT rfl rfl rfl rfl rfl rfl rfl rfl (fun qs => ?_)
      refine WL.append TT (E := rfE) (xs := X) (ys := [⟨f.name, E, (E.size : Int)⟩]) 2 rfl rfl rfl rfl rfl (Rd.row (i := 0) rfl rfl) rfl rfl rfl rfl rfl (by decide) (by simp only [List.length_cons, List.length_nil]; omega) (fun _ _ => rfl) rfl (fun A3 c3 => ?_)
      rw [← hnext]
      repeat' (first|refine bk ?_|refine bkc ?_|refine bks ?_|refine bkd ?_|refine bkq (fun q => ?_)|(refine bk2 ?_ ?_<;>(first|exact bkn|(refine bkk ?_;intro h))))
      refine QS.again (i + 1, A3, c3) (by simp only; omega) (by simp only; omega) ⟨rfl, rfl, rfl, ?_, trivial⟩ (fun w hs => hs.drop.drop)
      rw [show ((i + 1 : Nat) : Int) = (i : Int) + 1 from by omega]; rfl
    · have hcf : crashF ⟨f.data, f.syn⟩ (keepN keeps i) = none := by
        unfold crashF
        rw [if_pos ⟨by omega, by simp only; omega⟩]
      have hnext : crT keeps R.files (i + 1) = X := by
        rw [crT, hX, hf]; simp only [crE, hcf, List.append_nil]
      refine QS.again (i + 1, A2, c2) (by simp only; omega) (by simp only; omega) ⟨rfl, rfl, ?_, ?_, trivial⟩ (fun w hs => by rw [hnext]; exact hs.drop)
      · rw [hnext]; rfl
      · rw [show ((i + 1 : Nat) : Int) = (i : Int) + 1 from by omega]; rfl
  · have hin : i = R.files.length := by omega
    rw [hin] at hX
    have hcr : R.crash keeps = ⟨R.room, X, 0, false⟩ := by rw [RDisk.crash, hX]
    rw [hcr]
    exact QS.turn (G' := refA b ⟨R.room, X, 0, false⟩ :: F) (fun w hs => refA_shut (A := A2) (c := c2) w ((hs.kick (i := 2) rfl).front (i := 1) rfl)) (QS.endV Tryz.results15 rfl ⟨rfl, rfl⟩)
end Go.Proofs.YtpklbelejebcfaaGreat.B
