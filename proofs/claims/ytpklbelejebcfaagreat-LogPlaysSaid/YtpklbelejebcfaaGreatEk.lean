import Derived.Test.YtpklbelejebcfaaGreatAu
import Derived.Test.YtpklbelejebcfaaGreatEm
set_option linter.unusedVariables false
set_option linter.unusedSimpArgs false
set_option maxRecDepth 8000
/-! What the document's disk does with its blocks. -/
namespace Go.Proofs.YtpklbelejebcfaaGreat.B
open Go Go.Proofs
attribute [local irreducible] WL CS QS WQ WH WS Fn Op1 row Sat

def refCells (A : Option Addr) (c : Nat) (R : RDisk) : List Value := [.int .i64 R.room, .slice A R.files.length c, .int .i64 R.left, .bool R.off]
def refA (b : Nat) (R : RDisk) : SL := fun h => ∃ x : Option Addr × Nat, star (row b 57 (refCells x.1 x.2 R)) (slc rfE 78 x.1 x.2 R.files) h
section
variable {W0 : World} {F : List SL} {b : Nat} {R : RDisk}
theorem refA_open : ∀ w, Sat W0 (refA b R :: F) w → ∃ x : Option Addr × Nat, Sat W0 (row b 57 (refCells x.1 x.2 R) :: slc rfE 78 x.1 x.2 R.files :: F) w := fun w hs => by
  obtain ⟨x, hx⟩ := Sat.ex (R := fun x : Option Addr × Nat => star (row b 57 (refCells x.1 x.2 R)) (slc rfE 78 x.1 x.2 R.files)) hs
  exact ⟨x, hx.split⟩
theorem refA_shut {A : Option Addr} {c : Nat} : ∀ w, Sat W0 (row b 57 (refCells A c R) :: slc rfE 78 A c R.files :: F) w → Sat W0 (refA b R :: F) w := fun w hs =>
  hs.join.imp fun h hh => ⟨(A, c), hh⟩
end
attribute [local irreducible] refA slc

theorem rdisk_New (r : Int) (W0 : World) (F : List SL) :
    Fn Tryz.prog 6 [.int .i64 r] W0 F (Ret fun v G' => ∃ b, v = .pointer (some ⟨b, 0, none⟩) ∧ G' = refA b (RDisk.new r) :: F) := by
  refine Fn.enter Tryz.func6 rfl Tryz.ntmps6 rfl ?_
  repeat' (first|refine bk ?_|refine bkc ?_|refine bks ?_|refine bkd ?_|refine bkq (fun q => ?_)|(refine bk2 ?_ ?_<;>(first|exact bkn|(refine bkk ?_;intro h))))
  refine QS.turn (G' := refA q (RDisk.new r) :: F) (fun w hs => refA_shut (A := none) (c := 0) w ?_) (QS.retV Tryz.results6 rfl ⟨q, rfl, rfl⟩)
  have e : (if 0 > r then 0 else r) = max r 0 := by split <;> omega
  rw [e] at hs
  exact (hs.slcNil rfE 78).perm (List.Perm.swap ..)

theorem rdisk_at (b : Nat) (A : Option Addr) (c : Nat) (R : RDisk) (hl : R.files.length ≤ 1000) (name : ByteArray) (W0 : World) (F : List SL) :
    Fn Tryz.prog 58 [.pointer (some ⟨b, 0, none⟩), .string name] W0 (row b 57 (refCells A c R) :: slc rfE 78 A c R.files :: F)
      (Ret fun v G' => v = .int .i64 (atF name R.files) ∧ G' = row b 57 (refCells A c R) :: slc rfE 78 A c R.files :: F) := by
  refine Fn.enter Tryz.func58 rfl Tryz.ntmps58 rfl ?_
  simp only [refCells]
  repeat' (first|refine bk ?_|refine bkc ?_|refine bks ?_|refine bkd ?_|refine bkq (fun q => ?_)|(refine bk2 ?_ ?_<;>(first|exact bkn|(refine bkk ?_;intro h))))
  refine CS.loop (X := Nat) (fun i => [(0, .pointer (some ⟨b, 0, none⟩)), (1, .string name), (5, .int .i64 (i : Int))]) (fun i => row b 57 (refCells A c R) :: slc rfE 78 A c R.files :: F)
    (fun i => i ≤ R.files.length ∧ ∀ j g, j < i → R.files[j]? = some g → g.name ≠ name) (fun i => R.files.length - i) 0 ⟨rfl, rfl, rfl, trivial⟩ (fun w hs => hs) ⟨Nat.zero_le _, fun j g hj => by omega⟩ ?_
  rintro i ⟨hi, hne⟩
  simp only [refCells]
  repeat' (first|refine bk ?_|refine bkc ?_|refine bks ?_|refine bkd ?_|refine bkq (fun q => ?_)|(refine bk2 ?_ ?_<;>(first|exact bkn|(refine bkk ?_;intro h))))
  · obtain ⟨x, hx⟩ : ∃ x, R.files[i]? = some x := ⟨R.files[i]'(by omega), List.getElem?_eq_getElem (by omega)⟩
    refine WL.idx TT (Rd.slc (i := 1) rfl) rfl rfl rfl (by omega) (by rw [Int.toNat_natCast]; exact hx) rfl rfl rfl rfl (fun b2 o hA => ?_)
    repeat' (first|refine bk ?_|refine bkc ?_|refine bks ?_|refine bkd ?_|refine bkq (fun q => ?_)|(refine bk2 ?_ ?_<;>(first|exact bkn|(refine bkk ?_;intro h))))
    refine WL.s (op1_atF TT 0 hA rfl rfl rfl rfl rfl) rfl ?_
    repeat' (first|refine bk ?_|refine bkc ?_|refine bks ?_|refine bkd ?_|refine bkq (fun q => ?_)|(refine bk2 ?_ ?_<;>(first|exact bkn|(refine bkk ?_;intro h))))
    · refine QS.retV Tryz.results58 rfl ⟨?_, rfl⟩
      rw [atF, findF_some hx (by assumption) hne]; rfl
    · refine QS.again (i + 1) ⟨by omega, fun j g hj hg => ?_⟩ (by omega) ⟨rfl, rfl, ?_, trivial⟩ (fun w hs => hs)
      · by_cases hji : j = i
        · subst hji; rw [hx] at hg; injection hg with hg; subst hg; assumption
        · exact hne j g (by omega) hg
      · rw [show ((i + 1 : Nat) : Int) = (i : Int) + 1 from by omega]; rfl
  · refine QS.retV Tryz.results58 rfl ⟨?_, rfl⟩
    rw [atF, findF_none (fun j g hg => hne j g (by have := (List.getElem?_eq_some_iff.1 hg).1; omega) hg)]; rfl

theorem rdisk_Name (name : ByteArray) (W0 : World) (F : List SL) :
    Fn Tryz.prog 59 [.string name] W0 F (Ret fun v G' => v = .bool (decide (1 ≤ (name.size : Int) ∧ (name.size : Int) ≤ 30)) ∧ G' = F) := by
  refine Fn.enter Tryz.func59 rfl Tryz.ntmps59 rfl ?_
  repeat' (first|refine bk ?_|refine bkc ?_|refine bks ?_|refine bkd ?_|refine bkq (fun q => ?_)|(refine bk2 ?_ ?_<;>(first|exact bkn|(refine bkk ?_;intro h))))
  · refine QS.retV Tryz.results59 rfl ⟨?_, rfl⟩
    rw [decide_eq_decide.2 (show (1 ≤ (name.size : Int) ∧ (name.size : Int) ≤ 30) ↔ ((name.size : Int) ≤ 30) from ⟨fun h => h.2, fun h => ⟨by assumption, h⟩⟩)]; rfl
  · refine QS.retV Tryz.results59 rfl ⟨?_, rfl⟩
    rw [decide_eq_false (fun h => absurd h.1 (by assumption))]; rfl

theorem rdisk_Bytes (b : Nat) (A : Option Addr) (c : Nat) (R : RDisk) (hR : ROk R) (W0 : World) (F : List SL) :
    Fn Tryz.prog 60 [.pointer (some ⟨b, 0, none⟩)] W0 (row b 57 (refCells A c R) :: slc rfE 78 A c R.files :: F)
      (Ret fun v G' => v = .int .i64 (sumF R.files) ∧ G' = row b 57 (refCells A c R) :: slc rfE 78 A c R.files :: F) := by
  have hc := hR.count
  have hmo := hR.most
  refine Fn.enter Tryz.func60 rfl Tryz.ntmps60 rfl ?_
  simp only [refCells]
  repeat' (first|refine bk ?_|refine bkc ?_|refine bks ?_|refine bkd ?_|refine bkq (fun q => ?_)|(refine bk2 ?_ ?_<;>(first|exact bkn|(refine bkk ?_;intro h))))
  refine CS.loop (X := Nat) (fun i => [(0, .pointer (some ⟨b, 0, none⟩)), (3, .int .i64 (sumF (R.files.take i))), (4, .int .i64 (i : Int))]) (fun i => row b 57 (refCells A c R) :: slc rfE 78 A c R.files :: F)
    (fun i => i ≤ R.files.length) (fun i => R.files.length - i) 0 ⟨rfl, rfl, rfl, trivial⟩ (fun w hs => hs) (Nat.zero_le _) ?_
  intro i hi
  have hb1 := sumF_take_bound hmo hc i
  simp only [refCells]
  repeat' (first|refine bk ?_|refine bkc ?_|refine bks ?_|refine bkd ?_|refine bkq (fun q => ?_)|(refine bk2 ?_ ?_<;>(first|exact bkn|(refine bkk ?_;intro h))))
  · obtain ⟨x, hx⟩ : ∃ x, R.files[i]? = some x := ⟨R.files[i]'(by omega), List.getElem?_eq_getElem (by omega)⟩
    have hxm := hmo x (List.mem_of_getElem? hx)
    refine WL.idx TT (Rd.slc (i := 1) rfl) rfl rfl rfl (by omega) (by rw [Int.toNat_natCast]; exact hx) rfl rfl rfl rfl (fun b2 o hA => ?_)
    repeat' (first|refine bk ?_|refine bkc ?_|refine bks ?_|refine bkd ?_|refine bkq (fun q => ?_)|(refine bk2 ?_ ?_<;>(first|exact bkn|(refine bkk ?_;intro h))))
    refine WL.s (op1_atF TT 1 hA rfl rfl rfl rfl rfl) rfl ?_
    repeat' (first|refine bk ?_|refine bkc ?_|refine bks ?_|refine bkd ?_|refine bkq (fun q => ?_)|(refine bk2 ?_ ?_<;>(first|exact bkn|(refine bkk ?_;intro h))))
    refine QS.again (i + 1) (by omega) (by omega) ⟨rfl, ?_, ?_, trivial⟩ (fun w hs => hs)
    · rw [sumF_take hx]; rfl
    · rw [show ((i + 1 : Nat) : Int) = (i : Int) + 1 from by omega]; rfl
  · refine QS.retV Tryz.results60 rfl ⟨?_, rfl⟩
    rw [List.take_of_length_le (by omega)]; rfl

theorem rdisk_blows (b : Nat) (A : Option Addr) (c : Nat) (R : RDisk) (h0 : 0 ≤ R.left) (h1 : R.left ≤ 9223372036854775807) (W0 : World) (F : List SL) :
    Fn Tryz.prog 61 [.pointer (some ⟨b, 0, none⟩)] W0 (row b 57 (refCells A c R) :: F)
      (Ret fun v G' => v = .bool R.blow.1 ∧ G' = row b 57 (refCells A c R.blow.2) :: F) := by
  refine Fn.enter Tryz.func61 rfl Tryz.ntmps61 rfl ?_
  simp only [refCells]
  repeat' (first|refine bk ?_|refine bkc ?_|refine bks ?_|refine bkd ?_|refine bkq (fun q => ?_)|(refine bk2 ?_ ?_<;>(first|exact bkn|(refine bkk ?_;intro h))))
  · refine QS.retV Tryz.results61 rfl ⟨?_, ?_⟩ <;> simp [RDisk.blow, resV, *]
  · refine QS.retV Tryz.results61 rfl ⟨?_, ?_⟩ <;> simp [RDisk.blow, resV, *]

set_option maxHeartbeats 400000 in
theorem rdisk_Read (b : Nat) (R : RDisk) (hl : R.files.length ≤ 1000) (name : ByteArray) (W0 : World) (F : List SL) :
    Fn Tryz.prog 29 [.pointer (some ⟨b, 0, none⟩), .string name] W0 (refA b R :: F)
      (Ret fun v G' => v = .tuple #[.string (R.read name).1, .int .i64 (R.read name).2] ∧ G' = refA b R :: F) := by
  refine Fn.ex (fun w hs => refA_open w hs) (fun x => ?_)
  obtain ⟨A, c⟩ := x
  simp only
  refine Fn.enter Tryz.func29 rfl Tryz.ntmps29 rfl ?_
  repeat' (first|refine bk ?_|refine bkc ?_|refine bks ?_|refine bkd ?_|refine bkq (fun q => ?_)|(refine bk2 ?_ ?_<;>(first|exact bkn|(refine bkk ?_;intro h))))
  refine WL.call c58 rfl rfl rfl rfl (rdisk_at b A c R hl name W0 _) ?_
  rintro _ _ ⟨rfl, rfl⟩
  simp only [refCells]
  repeat' (first|refine bk ?_|refine bkc ?_|refine bks ?_|refine bkd ?_|refine bkq (fun q => ?_)|(refine bk2 ?_ ?_<;>(first|exact bkn|(refine bkk ?_;intro h))))
  · refine QS.turn (G' := refA b R :: F) (fun w hs => refA_shut (A := A) (c := c) w hs) (QS.retV Tryz.results29 rfl ⟨?_, rfl⟩)
    rw [RDisk.read, if_pos (by assumption)]; rfl
  · refine QS.turn (G' := refA b R :: F) (fun w hs => refA_shut (A := A) (c := c) w hs) (QS.retV Tryz.results29 rfl ⟨?_, rfl⟩)
    rw [RDisk.read, if_neg (by simp [*]), if_pos (by assumption)]; rfl
  · obtain ⟨i, hi⟩ : ∃ i, findF name R.files = some i := by
      cases hf : findF name R.files with
      | some i => exact ⟨i, rfl⟩
      | none => exfalso; simp [atF, hf] at *
    obtain ⟨x, hx, hxn⟩ := findF_get hi
    have hai : atF name R.files = (i : Int) := by rw [atF, hi]
    have hda : R.dataAt name = x.data := by rw [RDisk.dataAt, hi]; simp [hx]
    refine WL.idx TT (Rd.slc (i := 1) rfl) rfl rfl rfl (by omega) (by rw [hai, Int.toNat_natCast]; exact hx) rfl rfl rfl rfl (fun b2 o hA => ?_)
    repeat' (first|refine bk ?_|refine bkc ?_|refine bks ?_|refine bkd ?_|refine bkq (fun q => ?_)|(refine bk2 ?_ ?_<;>(first|exact bkn|(refine bkk ?_;intro h))))
    refine WL.s (op1_atF TT 1 hA rfl rfl rfl rfl rfl) rfl ?_
    repeat' (first|refine bk ?_|refine bkc ?_|refine bks ?_|refine bkd ?_|refine bkq (fun q => ?_)|(refine bk2 ?_ ?_<;>(first|exact bkn|(refine bkk ?_;intro h))))
    refine QS.turn (G' := refA b R :: F) (fun w hs => refA_shut (A := A) (c := c) w hs) (QS.retV Tryz.results29 rfl ⟨?_, rfl⟩)
    rw [RDisk.read, if_neg (by simp [*]), if_neg (by omega), hda]; rfl
end Go.Proofs.YtpklbelejebcfaaGreat.B
