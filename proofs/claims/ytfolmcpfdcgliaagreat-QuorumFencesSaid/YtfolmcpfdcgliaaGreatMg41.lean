import Derived.Test.YtfolmcpfdcgliaaGreatMg9
import Derived.Test.YtfolmcpfdcgliaaGreatMg40
import Derived.Test.YtfolmcpfdcgliaaGreatMg39
set_option linter.unusedVariables false
set_option linter.unusedSimpArgs false
set_option maxRecDepth 8000
/-! What the document's disk does with its blocks. -/
namespace Go.Proofs.YtfolmcpfdcgliaaGreat.B
open Go Go.Proofs
attribute [local irreducible] WL CS QS WQ WH WS Fn Op1 row Sat

def refCells (A : Option Addr) (c : Nat) (R : RDisk) : List Value := [.int .i64 R.room, .slice A R.files.length c, .int .i64 R.left, .bool R.off]
def refA (b : Nat) (R : RDisk) : SL := fun h => ∃ x : Option Addr × Nat, star (row b 149 (refCells x.1 x.2 R)) (slc rfE 176 x.1 x.2 R.files) h
section
variable {W0 : World} {F : List SL} {b : Nat} {R : RDisk}
theorem refA_open : ∀ w, Sat W0 (refA b R :: F) w → ∃ x : Option Addr × Nat, Sat W0 (row b 149 (refCells x.1 x.2 R) :: slc rfE 176 x.1 x.2 R.files :: F) w := fun w hs => by
  obtain ⟨x, hx⟩ := Sat.ex (R := fun x : Option Addr × Nat => star (row b 149 (refCells x.1 x.2 R)) (slc rfE 176 x.1 x.2 R.files)) hs
  exact ⟨x, hx.split⟩
theorem refA_shut {A : Option Addr} {c : Nat} : ∀ w, Sat W0 (row b 149 (refCells A c R) :: slc rfE 176 A c R.files :: F) w → Sat W0 (refA b R :: F) w := fun w hs =>
  hs.join.imp fun h hh => ⟨(A, c), hh⟩
end
attribute [local irreducible] refA slc

theorem rdisk_New (r : Int) (W0 : World) (F : List SL) :
    Fn Tryz.prog 29 [.int .i64 r] W0 F (Ret fun v G' => ∃ b, v = .pointer (some ⟨b, 0, none⟩) ∧ G' = refA b (RDisk.new r) :: F) := by
  refine Fn.enter Tryz.func29 rfl Tryz.ntmps29 rfl ?_
  repeat' (first|refine bk ?_|refine bkc ?_|refine bks ?_|refine bkd ?_|refine bkq (fun q => ?_)|(refine bk2 ?_ ?_<;>(first|exact bkn|(refine bkk ?_;intro h))))
  refine QS.turn (G' := refA q (RDisk.new r) :: F) (fun w hs => refA_shut (A := none) (c := 0) w ?_) (QS.retV Tryz.results29 rfl ⟨q, rfl, rfl⟩)
  have e : (if 0 > r then 0 else r) = max r 0 := by split <;> omega
  rw [e] at hs
  exact (hs.slcNil rfE 176).perm (List.Perm.swap ..)

theorem rdisk_at (b : Nat) (A : Option Addr) (c : Nat) (R : RDisk) (hl : R.files.length ≤ 1000) (name : ByteArray) (W0 : World) (F : List SL) :
    Fn Tryz.prog 111 [.pointer (some ⟨b, 0, none⟩), .string name] W0 (row b 149 (refCells A c R) :: slc rfE 176 A c R.files :: F)
      (Ret fun v G' => v = .int .i64 (atF name R.files) ∧ G' = row b 149 (refCells A c R) :: slc rfE 176 A c R.files :: F) := by
  refine Fn.enter Tryz.func111 rfl Tryz.ntmps111 rfl ?_
  simp only [refCells]
  repeat' (first|refine bk ?_|refine bkc ?_|refine bks ?_|refine bkd ?_|refine bkq (fun q => ?_)|(refine bk2 ?_ ?_<;>(first|exact bkn|(refine bkk ?_;intro h))))
  refine CS.loop (X := Nat) (fun i => [(0, .pointer (some ⟨b, 0, none⟩)), (1, .string name), (5, .int .i64 (i : Int))]) (fun i => row b 149 (refCells A c R) :: slc rfE 176 A c R.files :: F)
    (fun i => i ≤ R.files.length ∧ ∀ j g, j < i → R.files[j]? = some g → g.name ≠ name) (fun i => R.files.length - i) 0 ⟨rfl, rfl, rfl, trivial⟩ (fun w hs => hs) ⟨Nat.zero_le _, fun j g hj => by omega⟩ ?_
  rintro i ⟨hi, hne⟩
  simp only [refCells]
  repeat' (first|refine bk ?_|refine bkc ?_|refine bks ?_|refine bkd ?_|refine bkq (fun q => ?_)|(refine bk2 ?_ ?_<;>(first|exact bkn|(refine bkk ?_;intro h))))
  · obtain ⟨x, hx⟩ : ∃ x, R.files[i]? = some x := ⟨R.files[i]'(by omega), List.getElem?_eq_getElem (by omega)⟩
    refine WL.idx TT (Rd.slc (i := 1) rfl) rfl rfl rfl (by omega) (by rw [Int.toNat_natCast]; exact hx) rfl rfl rfl rfl (fun b2 o hA => ?_)
    repeat' (first|refine bk ?_|refine bkc ?_|refine bks ?_|refine bkd ?_|refine bkq (fun q => ?_)|(refine bk2 ?_ ?_<;>(first|exact bkn|(refine bkk ?_;intro h))))
    refine WL.s (op1_atF TT 0 hA rfl rfl rfl rfl rfl) rfl ?_
    repeat' (first|refine bk ?_|refine bkc ?_|refine bks ?_|refine bkd ?_|refine bkq (fun q => ?_)|(refine bk2 ?_ ?_<;>(first|exact bkn|(refine bkk ?_;intro h))))
    · refine QS.retV Tryz.results111 rfl ⟨?_, rfl⟩
      rw [atF, findF_some hx (by assumption) hne]; rfl
    · refine QS.again (i + 1) ⟨by omega, fun j g hj hg => ?_⟩ (by omega) ⟨rfl, rfl, ?_, trivial⟩ (fun w hs => hs)
      · by_cases hji : j = i
        · subst hji; rw [hx] at hg; injection hg with hg; subst hg; assumption
        · exact hne j g (by omega) hg
      · rw [show ((i + 1 : Nat) : Int) = (i : Int) + 1 from by omega]; rfl
  · refine QS.retV Tryz.results111 rfl ⟨?_, rfl⟩
    rw [atF, findF_none (fun j g hg => hne j g (by have := (List.getElem?_eq_some_iff.1 hg).1; omega) hg)]; rfl

theorem rdisk_Name (name : ByteArray) (W0 : World) (F : List SL) :
    Fn Tryz.prog 183 [.string name] W0 F (Ret fun v G' => v = .bool (decide (1 ≤ (name.size : Int) ∧ (name.size : Int) ≤ 30)) ∧ G' = F) := by
  refine Fn.enter Tryz.func183 rfl Tryz.ntmps183 rfl ?_
  repeat' (first|refine bk ?_|refine bkc ?_|refine bks ?_|refine bkd ?_|refine bkq (fun q => ?_)|(refine bk2 ?_ ?_<;>(first|exact bkn|(refine bkk ?_;intro h))))
  · refine QS.retV Tryz.results183 rfl ⟨?_, rfl⟩
    rw [decide_eq_decide.2 (show (1 ≤ (name.size : Int) ∧ (name.size : Int) ≤ 30) ↔ ((name.size : Int) ≤ 30) from ⟨fun h => h.2, fun h => ⟨by assumption, h⟩⟩)]; rfl
  · refine QS.retV Tryz.results183 rfl ⟨?_, rfl⟩
    rw [decide_eq_false (fun h => absurd h.1 (by assumption))]; rfl

theorem rdisk_Bytes (b : Nat) (A : Option Addr) (c : Nat) (R : RDisk) (hR : ROk R) (W0 : World) (F : List SL) :
    Fn Tryz.prog 184 [.pointer (some ⟨b, 0, none⟩)] W0 (row b 149 (refCells A c R) :: slc rfE 176 A c R.files :: F)
      (Ret fun v G' => v = .int .i64 (sumF R.files) ∧ G' = row b 149 (refCells A c R) :: slc rfE 176 A c R.files :: F) := by
  have hc := hR.count
  have hmo := hR.most
  refine Fn.enter Tryz.func184 rfl Tryz.ntmps184 rfl ?_
  simp only [refCells]
  repeat' (first|refine bk ?_|refine bkc ?_|refine bks ?_|refine bkd ?_|refine bkq (fun q => ?_)|(refine bk2 ?_ ?_<;>(first|exact bkn|(refine bkk ?_;intro h))))
  refine CS.loop (X := Nat) (fun i => [(0, .pointer (some ⟨b, 0, none⟩)), (3, .int .i64 (sumF (R.files.take i))), (4, .int .i64 (i : Int))]) (fun i => row b 149 (refCells A c R) :: slc rfE 176 A c R.files :: F)
    (fun i => i ≤ R.files.length) (fun i => R.files.length - i) 0 ⟨rfl, rfl, rfl, trivial⟩ (fun w hs => hs) (Nat.zero_le _) ?_
  intro i hi
  have hb1 := sumF_take_bound hmo hc i
  simp only [refCells]
  repeat' (first|refine bk ?_|refine bkc ?_|refine bks ?_|refine bkd ?_|refine bkq (fun q => ?_)|(refine bk2 ?_ ?_<;>(first|exact bkn|(refine bkk ?_;intro h))))
  · obtain ⟨x, hx⟩ : ∃ x, R.files[i]? = some x := ⟨R.files[i]'(by omega), List.getElem?_eq_getElem (by omega)⟩
    have hxm := hmo x (List.mem_of_getElem? hx)
    refine WL.idx TT (Rd.slc (i := 1) rfl) rfl rfl rfl (by omega) (by rw [Int.toNat_natCast]; exact hx) rfl rfl rfl rfl (fun b2 o hA => ?_)
    repeat' (first|refine bk ?_|refine bkc ?_|refine bks ?_|refine bkd ?_|refine bkq (fun q => ?_)|(refine bk2 ?_ ?_<;>(first|exact bkn|(refine bkk ?_;intro h))))
    refine WL.s (op1_atF TT 1 hA rfl rfl rfl rfl rfl) rfl ?_
    repeat' (first|refine bk ?_|refine bkc ?_|refine bks ?_|refine bkd ?_|refine bkq (fun q => ?_)|(refine bk2 ?_ ?_<;>(first|exact bkn|(refine bkk ?_;intro h))))
    refine QS.again (i + 1) (by omega) (by omega) ⟨rfl, ?_, ?_, trivial⟩ (fun w hs => hs)
    · rw [sumF_take hx]; rfl
    · rw [show ((i + 1 : Nat) : Int) = (i : Int) + 1 from by omega]; rfl
  · refine QS.retV Tryz.results184 rfl ⟨?_, rfl⟩
    rw [List.take_of_length_le (by omega)]; rfl

theorem rdisk_blows (b : Nat) (A : Option Addr) (c : Nat) (R : RDisk) (h0 : 0 ≤ R.left) (h1 : R.left ≤ 9223372036854775807) (W0 : World) (F : List SL) :
    Fn Tryz.prog 181 [.pointer (some ⟨b, 0, none⟩)] W0 (row b 149 (refCells A c R) :: F)
      (Ret fun v G' => v = .bool R.blow.1 ∧ G' = row b 149 (refCells A c R.blow.2) :: F) := by
  refine Fn.enter Tryz.func181 rfl Tryz.ntmps181 rfl ?_
  simp only [refCells]
  repeat' (first|refine bk ?_|refine bkc ?_|refine bks ?_|refine bkd ?_|refine bkq (fun q => ?_)|(refine bk2 ?_ ?_<;>(first|exact bkn|(refine bkk ?_;intro h))))
  · refine QS.retV Tryz.results181 rfl ⟨?_, ?_⟩ <;> simp [RDisk.blow, resV, *]
  · refine QS.retV Tryz.results181 rfl ⟨?_, ?_⟩ <;> simp [RDisk.blow, resV, *]

set_option maxHeartbeats 400000 in
theorem rdisk_Read (b : Nat) (R : RDisk) (hl : R.files.length ≤ 1000) (name : ByteArray) (W0 : World) (F : List SL) :
    Fn Tryz.prog 67 [.pointer (some ⟨b, 0, none⟩), .string name] W0 (refA b R :: F)
      (Ret fun v G' => v = .tuple #[.string (R.read name).1, .int .i64 (R.read name).2] ∧ G' = refA b R :: F) := by
  refine Fn.ex (fun w hs => refA_open w hs) (fun x => ?_)
  obtain ⟨A, c⟩ := x
  simp only
  refine Fn.enter Tryz.func67 rfl Tryz.ntmps67 rfl ?_
  repeat' (first|refine bk ?_|refine bkc ?_|refine bks ?_|refine bkd ?_|refine bkq (fun q => ?_)|(refine bk2 ?_ ?_<;>(first|exact bkn|(refine bkk ?_;intro h))))
  refine WL.call c111 rfl rfl rfl rfl (rdisk_at b A c R hl name W0 _) ?_
  rintro _ _ ⟨rfl, rfl⟩
  simp only [refCells]
  repeat' (first|refine bk ?_|refine bkc ?_|refine bks ?_|refine bkd ?_|refine bkq (fun q => ?_)|(refine bk2 ?_ ?_<;>(first|exact bkn|(refine bkk ?_;intro h))))
  · refine QS.turn (G' := refA b R :: F) (fun w hs => refA_shut (A := A) (c := c) w hs) (QS.retV Tryz.results67 rfl ⟨?_, rfl⟩)
    rw [RDisk.read, if_pos (by assumption)]; rfl
  · refine QS.turn (G' := refA b R :: F) (fun w hs => refA_shut (A := A) (c := c) w hs) (QS.retV Tryz.results67 rfl ⟨?_, rfl⟩)
    rw [RDisk.read, if_neg (by simp [*]), if_pos (by assumption)]; rfl
  · obtain ⟨i, hi⟩ : ∃ i, findF name R.files = some i := by
      cases hf : findF name R.files with
      | some i => exact ⟨i, rfl⟩
      | none => exfalso; simp [atF, hf] at *
    obtain ⟨x, hx, hxn⟩ := findF_get hi
    have hai : atF name R.files = (i : Int) := by rw [atF, hi]
    have hda : R.dataAt name = x.data := by rw [RDisk.dataAt, hi]; simp [hx]
    refine WL.idx TT (Rd.slc (i := 1) rfl) rfl rfl rfl (by omega) (by rw [hai, Int.toNat_natCast]; exact hx) rfl rfl rfl rfl (fun b2 o hA => ?_)
    repeat' (first|refine bk ?_|refine bkc ?_|refine bks ?_|refine bkd ?_|refine bkq (fun q => ?_)|(refine bk2 ?_ ?_<;>(first|exact bkn|(refine bkk ?_;intro h))))
    refine WL.s (op1_atF TT 1 hA rfl rfl rfl rfl rfl) rfl ?_
    repeat' (first|refine bk ?_|refine bkc ?_|refine bks ?_|refine bkd ?_|refine bkq (fun q => ?_)|(refine bk2 ?_ ?_<;>(first|exact bkn|(refine bkk ?_;intro h))))
    refine QS.turn (G' := refA b R :: F) (fun w hs => refA_shut (A := A) (c := c) w hs) (QS.retV Tryz.results67 rfl ⟨?_, rfl⟩)
    rw [RDisk.read, if_neg (by simp [*]), if_neg (by omega), hda]; rfl
end Go.Proofs.YtfolmcpfdcgliaaGreat.B

set_option linter.unusedVariables false
set_option linter.unusedSimpArgs false
set_option maxRecDepth 8000
/-! What the document's disk does with its blocks: put, Append. -/
namespace Go.Proofs.YtfolmcpfdcgliaaGreat.B
open Go Go.Proofs
attribute [local irreducible] WL CS QS WQ WH WS Fn Op1 row Sat
attribute [local irreducible] refA slc

set_option maxHeartbeats 1000000 in
theorem rdisk_put (b : Nat) (A : Option Addr) (c : Nat) (R : RDisk) (hl : R.files.length ≤ 1000) (f : RFile) (W0 : World) (F : List SL) :
    Fn Tryz.prog 185 [.pointer (some ⟨b, 0, none⟩), .agg #[.string f.name, .string f.data, .int .i64 f.syn]] W0 (row b 149 (refCells A c R) :: slc rfE 176 A c R.files :: F)
      (Ret fun v G' => v = .tuple #[] ∧ G' = refA b { R with files := insF f R.files } :: F) := by
  refine Fn.fact (slc_cap (i := 1) rfl) (fun hcap => ?_)
  refine Fn.enter Tryz.func185 rfl Tryz.ntmps185 rfl ?_
  simp only [refCells]
  repeat' (first|refine bk ?_|refine bkc ?_|refine bks ?_|refine bkd ?_|refine bkq (fun q => ?_)|(refine bk2 ?_ ?_<;>(first|exact bkn|(refine bkk ?_;intro h))))
  refine CS.loop (X := Nat) (fun i => [(0, .pointer (some ⟨b, 0, none⟩)), (3, .pointer (some ⟨q, 0, none⟩)), (4, .int .i64 (i : Int))]) (fun i => row q 176 [.string f.name, .string f.data, .int .i64 f.syn] :: row b 149 (refCells A c R) :: slc rfE 176 A c R.files :: F)
    (fun i => i ≤ R.files.length ∧ ∀ j g, j < i → R.files[j]? = some g → bl g.name f.name = true) (fun i => R.files.length - i) 0 ⟨rfl, rfl, rfl, trivial⟩ (fun w hs => hs) ⟨Nat.zero_le _, fun j g hj => by omega⟩ ?_
  rintro i ⟨hi, hne⟩
  simp only [refCells]
  refine CS.world fun hw => ?_
  repeat' (first|refine bk ?_|refine bkc ?_|refine bks ?_|refine bkd ?_|refine bkq (fun q => ?_)|(refine bk2 ?_ ?_<;>(first|exact bkn|(refine bkk ?_;intro h))))
  focus
    obtain ⟨x, hx⟩ : ∃ x, R.files[i]? = some x := ⟨R.files[i]'(by omega), List.getElem?_eq_getElem (by omega)⟩
    refine WQ.idx TT (Rd.slc (i := 2) rfl) rfl rfl rfl (by omega) (by rw [Int.toNat_natCast]; exact hx) rfl rfl rfl rfl hw (fun b2 o hA => ?_)
    repeat' (first|refine bk ?_|refine bkc ?_|refine bks ?_|refine bkd ?_|refine bkq (fun q => ?_)|(refine bk2 ?_ ?_<;>(first|exact bkn|(refine bkk ?_;intro h))))
    refine WQ.s (op1_atF TT 0 hA rfl rfl rfl rfl rfl) rfl ?_
    repeat' (first|refine bk ?_|refine bkc ?_|refine bks ?_|refine bkd ?_|refine bkq (fun q => ?_)|(refine bk2 ?_ ?_<;>(first|exact bkn|(refine bkk ?_;intro h))))
    · refine QS.again (i + 1) ⟨by omega, fun j g hj hg => ?_⟩ (by omega) ⟨rfl, rfl, ?_, trivial⟩ (fun w hs => hs)
      · by_cases hji : j = i
        · subst hji; rw [hx] at hg; injection hg with hg; subst hg; assumption
        · exact hne j g (by omega) hg
      · rw [show ((i + 1 : Nat) : Int) = (i : Int) + 1 from by omega]; rfl
    have hp : posF f.name R.files = i := posF_at hne hi (fun g hg => by rw [hx] at hg; injection hg with hg; subst hg; assumption)
  rotate_left
  have hp : posF f.name R.files = i := posF_at hne hi (fun g hg => by have := (List.getElem?_eq_some_iff.1 hg).1; omega)
  all_goals
    refine WL.s (op1_sliceS (E := rfE) (xs := R.files) (l := 0) (r := (i : Int)) TT (by rfl) (by rfl) rfl rfl rfl rfl rfl (by omega) hcap) rfl ?_
    simp only [Int.toNat_zero, Nat.sub_zero, Int.toNat_natCast]
    refine WL.turn (fun w hs => hs.slcNil rfE 176) ?_
    refine WL.append TT (E := rfE) (xs := ([] : List RFile)) (ys := (R.files.take i).drop 0) 0 rfl rfl rfl (by rw [List.drop_zero, List.length_take]; omega) rfl ((Rd.slc (i := 3) rfl).part (by omega) hcap) rfl rfl rfl rfl rfl (by decide) (by rw [List.drop_zero, List.length_take]; simp; omega) (fun _ _ => rfl) rfl (fun A1 c1 => ?_)
    obtain ⟨X, hX⟩ : ∃ X, X = ([] : List RFile) ++ (R.files.take i).drop 0 := ⟨_, rfl⟩
    have hXl : X.length = i := by rw [hX, List.nil_append, List.drop_zero, List.length_take]; omega
    rw [← hX]
    repeat' (first|refine bk ?_|refine bkc ?_|refine bks ?_|refine bkd ?_|refine bkq (fun q => ?_)|(refine bk2 ?_ ?_<;>(first|exact bkn|(refine bkk ?_;intro h))))
    refine WL.buildSlice TT rfl rfl rfl rfl rfl rfl rfl rfl (fun qs => ?_)
    refine WL.append TT (E := rfE) (xs := X) (ys := [f]) 1 rfl rfl rfl rfl rfl (Rd.row (i := 0) rfl rfl) rfl rfl rfl rfl rfl (by decide) (by simp only [List.length_cons, List.length_nil]; omega) (fun _ _ => rfl) rfl (fun A2 c2 => ?_)
    obtain ⟨Y, hY⟩ : ∃ Y, Y = X ++ [f] := ⟨_, rfl⟩
    have hYl : Y.length = i + 1 := by rw [hY, List.length_append, hXl]; rfl
    rw [← hY]
    repeat' (first|refine bk ?_|refine bkc ?_|refine bks ?_|refine bkd ?_|refine bkq (fun q => ?_)|(refine bk2 ?_ ?_<;>(first|exact bkn|(refine bkk ?_;intro h))))
    refine WL.s (op1_sliceS (E := rfE) (xs := R.files) (l := (i : Int)) (r := (R.files.length : Int)) TT (by rfl) (by rfl) rfl rfl rfl rfl rfl (by omega) hcap) rfl ?_
    simp only [Int.toNat_natCast]
    refine WL.append TT (E := rfE) (xs := Y) (ys := (R.files.take R.files.length).drop i) 1 rfl rfl rfl (by rw [List.take_length, List.length_drop]) rfl ((Rd.slc (i := 4) rfl).part (by omega) hcap) rfl rfl rfl rfl rfl (by decide) (by rw [List.take_length, List.length_drop]; simp only []; omega) (fun _ _ => rfl) rfl (fun A3 c3 => ?_)
    repeat' (first|refine bk ?_|refine bkc ?_|refine bks ?_|refine bkd ?_|refine bkq (fun q => ?_)|(refine bk2 ?_ ?_<;>(first|exact bkn|(refine bkk ?_;intro h))))
    have hZ : Y ++ (R.files.take R.files.length).drop i = insF f R.files := by rw [hY, hX, List.nil_append, List.drop_zero, List.take_length, insF, hp]
    rw [hZ]
    exact QS.turn (G' := refA b { R with files := insF f R.files } :: F) (fun w hs => refA_shut (A := A3) (c := c3) w (((hs.drop.kick (i := 1) rfl).kick (i := 2) rfl).perm (List.Perm.swap ..))) (QS.endV Tryz.results185 rfl ⟨rfl, rfl⟩)

set_option maxHeartbeats 2000000 in
theorem rdisk_Append0 (b : Nat) (R : RDisk) (hR : ROk R) (name data : ByteArray) (hda : data.size ≤ 9223372036854775807) (hf : findF name R.files = none) (W0 : World) (F : List SL) :
    Fn Tryz.prog 156 [.pointer (some ⟨b, 0, none⟩), .string name, .string data] W0 (refA b R :: F)
      (Ret fun v G' => v = .int .i64 (R.append name data).1 ∧ G' = refA b (R.append name data).2 :: F) := by
  have hcnt := hR.count
  have hmost := hR.most
  have hsum := sumF_bound hmost
  have hl0 := hR.left0
  have hl1 := hR.left1
  have hat : atF name R.files = -1 := by rw [atF, hf]
  refine Fn.ex (fun w hs => refA_open w hs) (fun x => ?_)
  obtain ⟨A, c⟩ := x
  simp only
  refine Fn.fact (slc_at (i := 1) rfl) (fun hcap => ?_)
  refine Fn.enter Tryz.func156 rfl Tryz.ntmps156 rfl ?_
  repeat' (first|refine bk ?_|refine bkc ?_|refine bks ?_|refine bkd ?_|refine bkq (fun q => ?_)|(refine bk2 ?_ ?_<;>(first|exact bkn|(refine bkk ?_;intro h))))
  refine WL.call c111 rfl rfl rfl rfl (rdisk_at b A c R (by omega) name W0 _) ?_
  rintro _ _ ⟨rfl, rfl⟩
  rw [hat]
  repeat' (first|refine bk ?_|refine bkc ?_|refine bks ?_|refine bkd ?_|refine bkq (fun q => ?_)|(refine bk2 ?_ ?_<;>(first|exact bkn|(refine bkk ?_;intro h))))
  refine WL.call c183 rfl rfl rfl rfl (rdisk_Name name W0 _) ?_
  rintro _ _ ⟨rfl, rfl⟩
  simp only [refCells]
  repeat' (first|refine bk ?_|refine bkc ?_|refine bks ?_|refine bkd ?_|refine bkq (fun q => ?_)|(refine bk2 ?_ ?_<;>(first|exact bkn|(refine bkk ?_;intro h))))
  · have e : R.append name data = (12, R) := by unfold RDisk.append; rw [if_pos (by assumption)]
    rw [e]
    exact QS.turn (G' := refA b R :: F) (fun w hs => refA_shut (A := A) (c := c) w hs) (QS.retV Tryz.results156 rfl ⟨rfl, rfl⟩)
  · have e : R.append name data = (1, R) := by unfold RDisk.append; rw [if_neg (by simp [*]), if_pos (by assumption)]
    rw [e]
    exact QS.turn (G' := refA b R :: F) (fun w hs => refA_shut (A := A) (c := c) w hs) (QS.retV Tryz.results156 rfl ⟨rfl, rfl⟩)
  · have e : R.append name data = (4, R) := by unfold RDisk.append; rw [if_neg (by simp [*]), if_neg (fun h => h (by assumption)), if_pos (.inl (by assumption))]
    rw [e]
    exact QS.turn (G' := refA b R :: F) (fun w hs => refA_shut (A := A) (c := c) w hs) (QS.retV Tryz.results156 rfl ⟨rfl, rfl⟩)
  · have e : R.append name data = (4, R) := by unfold RDisk.append; rw [if_neg (by simp [*]), if_neg (fun h => h (by assumption)), if_pos (.inr (.inr ⟨by omega, by assumption⟩))]
    rw [e]
    exact QS.turn (G' := refA b R :: F) (fun w hs => refA_shut (A := A) (c := c) w hs) (QS.retV Tryz.results156 rfl ⟨rfl, rfl⟩)
  · refine WQ.call c184 rfl rfl rfl rfl (rdisk_Bytes b A c R hR W0 _) ?_
    repeat' (first|refine bk ?_|refine bkc ?_|refine bks ?_|refine bkd ?_|refine bkq (fun q => ?_)|(refine bk2 ?_ ?_<;>(first|exact bkn|(refine bkk ?_;intro h))))
    · have e : R.append name data = (8, R) := by unfold RDisk.append; rw [if_neg (by simp [*]), if_neg (fun h => h (by assumption)), if_neg (by omega), if_pos (by assumption)]
      rw [e]
      exact QS.turn (G' := refA b R :: F) (fun w hs => refA_shut (A := A) (c := c) w hs) (QS.retV Tryz.results156 rfl ⟨rfl, rfl⟩)
    · refine WL.call c181 rfl rfl rfl rfl (rdisk_blows b A c R hl0 hl1 W0 _) ?_
      rintro _ _ ⟨rfl, rfl⟩
      obtain ⟨B, R2, hB⟩ : ∃ B R2, R.blow = (B, R2) := ⟨R.blow.1, R.blow.2, rfl⟩
      have hbf : R2.files = R.files := by rw [show R2 = R.blow.2 from by rw [hB]]; unfold RDisk.blow; split <;> rfl
      rw [hB]
      simp only [refCells]
      repeat' (first|refine bk ?_|refine bkc ?_|refine bks ?_|refine bkd ?_|refine bkq (fun q => ?_)|(refine bk2 ?_ ?_<;>(first|exact bkn|(refine bkk ?_;intro h))))
      · have e : R.append name data = (12, R2) := by unfold RDisk.append; rw [if_neg (by simp [*]), if_neg (fun h => h (by assumption)), if_neg (by omega), if_neg (by assumption), hB, if_pos (by assumption)]
        rw [e]
        exact QS.turn (G' := refA b R2 :: F) (fun w hs => refA_shut (A := A) (c := c) w (by simp only [refCells, hbf] at hs ⊢; exact hs)) (QS.retV Tryz.results156 rfl ⟨rfl, rfl⟩)
      · have e : R.append name data = (0, { R2 with files := insF ⟨name, data, 0⟩ R.files }) := by
          unfold RDisk.append; rw [if_neg (by simp [*]), if_neg (fun h => h (by assumption)), if_neg (by omega), if_neg (by assumption), hB, if_neg (by simp [*]), addF, hf]
        refine WL.turn (G' := row b 149 (refCells A c R2) :: slc rfE 176 A c R2.files :: F) (fun w hs => by simp only [refCells, hbf] at hs ⊢; exact hs) ?_
        refine WL.call c185 rfl rfl rfl rfl (rdisk_put b A c R2 (by rw [hbf]; omega) ⟨name, data, 0⟩ W0 _) ?_
        rintro _ _ ⟨rfl, rfl⟩
        repeat' (first|refine bk ?_|refine bkc ?_|refine bks ?_|refine bkd ?_|refine bkq (fun q => ?_)|(refine bk2 ?_ ?_<;>(first|exact bkn|(refine bkk ?_;intro h))))
        rw [e, hbf]
        exact QS.retV Tryz.results156 rfl ⟨rfl, rfl⟩
end Go.Proofs.YtfolmcpfdcgliaaGreat.B

set_option linter.unusedVariables false
set_option linter.unusedSimpArgs false
set_option maxRecDepth 8000
/-! The document's Load. -/
namespace Go.Proofs.YtfolmcpfdcgliaaGreat.B
open Go Go.Proofs
attribute [local irreducible] WL CS QS WQ WH WS Fn Op1 row Sat
attribute [local irreducible] refA slc

theorem load_parse {t : List UInt8} {er : Int} (h : er = 0) : loadM t er = if (parseM t).2.2.2 = true then ((parseM t).1, (parseM t).2.1, (parseM t).2.2.1, 0) else (0, [], false, 2) := by
  rw [loadM, if_pos h, parseM]
  cases parseP t with
  | none => rfl
  | some p => rfl
theorem size_zero {s : ByteArray} (h : s.size = 0) : s = noStr := by
  have : bs s = [] := List.eq_nil_of_length_eq_zero (by rw [bs_len]; exact h)
  exact bs_inj this
set_option maxHeartbeats 2000000 in
theorem ref_Load (b : Nat) (R : RDisk) (hl : R.files.length ≤ 1000) (name : ByteArray) (hsz : (R.read name).1.size ≤ 140737488355328) (W0 : World) (F : List SL) :
    Fn Tryz.prog 70 [.pointer (some ⟨b, 0, none⟩), .string name] W0 (refA b R :: F) (Ret (toldR (loadM (bs (R.read name).1) (R.read name).2) (refA b R :: F))) := by
  refine Fn.enter Tryz.func70 rfl Tryz.ntmps70 rfl ?_
  repeat' (first|refine bk ?_|refine bkc ?_|refine bks ?_|refine bkd ?_|refine bkq (fun q => ?_)|(refine bk2 ?_ ?_<;>(first|exact bkn|(refine bkk ?_;intro h))))
  refine WL.turn (fun w hs => hs.front (i := 1) rfl) ?_
  refine WL.call c67 rfl rfl rfl rfl (rdisk_Read b R hl name W0 _) ?_
  rintro _ _ ⟨rfl, rfl⟩
  generalize hT : (R.read name).1 = t at *
  generalize hE : (R.read name).2 = er at *
  repeat' (first|refine bk ?_|refine bkc ?_|refine bks ?_|refine bkd ?_|refine bkq (fun q => ?_)|(refine bk2 ?_ ?_<;>(first|exact bkn|(refine bkk ?_;intro h))))
  · have e1 : loadM (bs t) er = (0, [], false, er) := by rw [loadM, if_neg (by assumption)]
    refine QS.turn (G' := slc entE 49 none 0 ([] : List Ent) :: refA b R :: row q 45 [.int .i64 0, .slice none 0 0] :: F) (fun w hs => hs.slcNil _ _) ?_
    refine QS.turnR (G2 := slc entE 49 none 0 ([] : List Ent) :: refA b R :: F) (fun w hs => hs.kick (i := 2) rfl) ?_
    refine QS.retC TT 2 Tryz.results70 rfl rfl rfl rfl ⟨rfl, none, 0, ?_, ?_⟩ <;> rw [e1] <;> rfl
  refine WL.call c116 rfl rfl rfl rfl (ref_Parse t hsz W0 _) ?_
  rintro _ _ ⟨A, c, rfl, rfl⟩
  obtain ⟨M, hM⟩ : ∃ M, M = parseM (bs t) := ⟨_, rfl⟩
  rw [← hM]
  repeat' (first|refine bk ?_|refine bkc ?_|refine bks ?_|refine bkd ?_|refine bkq (fun q => ?_)|(refine bk2 ?_ ?_<;>(first|exact bkn|(refine bkk ?_;intro h))))
  · have e1 : loadM (bs t) er = (0, [], false, 2) := by rw [load_parse (by assumption), ← hM, if_neg (by rw [‹M.2.2.2 = false›]; decide)]
    refine QS.turn (G' := slc entE 49 none 0 ([] : List Ent) :: row q 45 [.int .i64 M.1, .slice A M.2.1.length c] :: slc entE 49 A c M.2.1 :: refA b R :: row _ 45 [.int .i64 0, .slice none 0 0] :: F) (fun w hs => hs.slcNil _ _) ?_
    refine QS.turnR (G2 := slc entE 49 none 0 ([] : List Ent) :: refA b R :: F) (fun w hs => ((hs.kick (i := 4) rfl).kick (i := 2) rfl).kick (i := 1) rfl) ?_
    refine QS.retC TT 4 Tryz.results70 rfl rfl rfl rfl ⟨rfl, none, 0, ?_, ?_⟩ <;> rw [e1] <;> rfl
  · have e1 : loadM (bs t) er = (M.1, M.2.1, M.2.2.1, 0) := by rw [load_parse (by assumption), ← hM, if_pos (by assumption)]
    refine QS.turnR (G2 := slc entE 49 A c M.2.1 :: refA b R :: F) (fun w hs => (hs.drop.kick (i := 2) rfl)) ?_
    refine QS.retC TT 3 Tryz.results70 rfl rfl rfl rfl ⟨rfl, A, c, ?_, ?_⟩ <;> rw [e1] <;> rfl

end Go.Proofs.YtfolmcpfdcgliaaGreat.B
