import Derived.Test.YtfolmcpfdcgliaaGreatMg39
import Derived.Test.YtfolmcpfdcgliaaGreatMg24
import Derived.Test.YtfolmcpfdcgliaaGreatMg36
import Derived.Test.YtfolmcpfdcgliaaGreatMg18
import Derived.Test.YtfolmcpfdcgliaaGreatMg10
import Derived.Test.YtfolmcpfdcgliaaGreatMg8
set_option linter.unusedVariables false
set_option linter.unusedSimpArgs false
set_option maxRecDepth 8000
namespace Go.Proofs.YtfolmcpfdcgliaaGreat.B
open Go Go.Proofs
attribute [local irreducible] WL CS QS WQ WH WS Fn Op1 row Sat
attribute [local irreducible] slc
set_option maxHeartbeats 2000000 in
theorem r_told (e : Int) (A : Option Addr) (k c : Nat) (xs : List Ent) (hk : k = xs.length) (W0 : World) (G : List SL) (hR : Rd W0 G entE A xs) :
    Fn Tryz.prog 92 [logV e A k c] W0 G (Ret fun v G' => v = .string (mk (toldB e xs)) ∧ G' = G) := by
  refine Fn.enter Tryz.func92 rfl Tryz.ntmps92 rfl ?_
  repeat' (first|refine bA ?_|refine bkq fun q=>?_|(refine bk2 ?_ ?_<;>(first|exact bkn|(refine bkk ?_;intro h))))
  refine WL.call c117 rfl rfl rfl rfl (ref_Bytes e A k c xs hk W0 _ hR.cons) ?_
  rintro _ G2 ⟨rfl, hG2⟩
  rw [hG2]; clear hG2 G2
  obtain ⟨LB, er, hLB, hv⟩ : ∃ (LB : List UInt8) (er : Bool), LB = (if logOk e xs = true then logB e xs else []) ∧ (if logOk e xs = true then Value.tuple #[.string (mk (logB e xs)), .bool true] else .tuple #[.string ⟨#[]⟩, .bool false]) = .tuple #[.string (mk LB), .bool er] := by
    split
    · exact ⟨_, true, rfl, rfl⟩
    · exact ⟨[], false, rfl, rfl⟩
  rw [hv]
  have hBL : LB.length ≤ 187900 := by
    rw [hLB]; split
    · exact logB_small ‹_›
    · simp
  have hT : toldL e xs = mk (numB 0) :: chunks LB.length LB := by
    rw [toldL, hLB]; split
    · rfl
    · rfl
  repeat' (first|refine bA ?_|refine bkq fun q=>?_|(refine bk2 ?_ ?_<;>(first|exact bkn|(refine bkk ?_;intro h))))
  refine WL.call c127 rfl rfl rfl rfl (r_num 0 (by unfold I64; decide) W0 _) ?_
  rintro _ G2 ⟨rfl, hG2⟩
  rw [hG2]; clear hG2 G2
  repeat' (first|refine bA ?_|refine bkq fun q=>?_|(refine bk2 ?_ ?_<;>(first|exact bkn|(refine bkk ?_;intro h))))
  refine WL.buildSlice TT rfl rfl rfl rfl rfl rfl rfl rfl (fun q2 => ?_)
  repeat' (first|refine bA ?_|refine bkq fun q=>?_|(refine bk2 ?_ ?_<;>(first|exact bkn|(refine bkk ?_;intro h))))
  refine CS.loop (X := List UInt8 × List ByteArray × Option Addr × Nat) (fun y => [(3, .string (mk y.1)), (5, .slice y.2.2.1 y.2.1.length y.2.2.2)])
    (fun y => slc strE 9 y.2.2.1 y.2.2.2 y.2.1 :: G) (fun y => y.1.length ≤ 187900 ∧ y.2.1.length ≤ 1000000 ∧ toldL e xs = y.2.1 ++ chunks y.1.length y.1) (fun y => y.1.length) (LB, [mk (numB 0)], some ⟨q2, 0, none⟩, 1) ⟨rfl, rfl, trivial⟩ (fun w hs => (row_own strE [mk (numB 0)] rfl (by simp [maxLen]) hs).kick (i := 1) rfl) ⟨hBL, by simp, by rw [hT]; rfl⟩ ?_
  rintro ⟨l, ps, A1, c1⟩ ⟨h1, h2, h3⟩
  simp only at h1 h2 h3 ⊢
  repeat' (first|refine bA ?_|refine bkq fun q=>?_|(refine bk2 ?_ ?_<;>(first|exact bkn|(refine bkk ?_;intro h))))
  · have hne : l ≠ [] := fun e => by subst e; simp [mk_size] at h
    have hp := List.length_pos_iff.2 hne
    obtain ⟨m, hm⟩ : ∃ m, m = min l.length 4000 := ⟨_, rfl⟩
    rw [show (if (4000 : Int) < ((mk l).size : Int) then (4000 : Int) else ((mk l).size : Int)) = (m : Int) from by rw [mk_size, hm]; split <;> omega]
    have e1 : (mk l).extract (Int.toNat 0) (Int.toNat (m : Int)) = mk (l.take 4000) := by
      rw [ext_mk, bs_mk, Int.toNat_natCast, hm]
      simp only [Int.toNat_zero, List.drop_zero, Nat.sub_zero]
      by_cases h4 : l.length ≤ 4000
      · rw [Nat.min_eq_left h4, List.take_length, List.take_of_length_le h4]
      · rw [Nat.min_eq_right (by omega)]
    have e2 : (mk l).extract (Int.toNat (m : Int)) (Int.toNat ((mk l).size : Int)) = mk (l.drop 4000) := by
      rw [ext_mk, bs_mk, Int.toNat_natCast, mk_size, Int.toNat_natCast, hm]
      by_cases h4 : l.length ≤ 4000
      · rw [Nat.min_eq_left h4, List.drop_eq_nil_of_le (Nat.le_refl _), List.drop_eq_nil_of_le h4, List.take_nil]
      · rw [Nat.min_eq_right (by omega), List.take_of_length_le (by rw [List.length_drop]; omega)]
    have hch : chunks l.length l = mk (l.take 4000) :: chunks (l.drop 4000).length (l.drop 4000) := by
      obtain ⟨f, hf⟩ : ∃ f, l.length = f + 1 := ⟨l.length - 1, by omega⟩
      rw [hf, chunks, if_neg hne]
      congr 1
      exact chunks_fuel (by rw [List.length_drop]; omega) (Nat.le_refl _)
    have hpl : (ps ++ [mk (l.take 4000)]).length = ps.length + 1 := by simp
    have hTl := (joinOk_iff.1 (toldL_ok e xs)).1
    have hpt : ps.length + 1 ≤ 1000 := by
      rw [h3, hch, List.length_append, List.length_cons] at hTl; omega
    refine WL.s (op1_slice TT (l := 0) (r := (m : Int)) (s := mk l) rfl rfl rfl rfl ⟨by omega, by omega, by rw [mk_size]; omega⟩) rfl ?_
    rw [e1]
    refine WL.buildSlice TT rfl rfl rfl rfl rfl rfl rfl rfl (fun q3 => ?_)
    refine WL.append TT (E := strE) (xs := ps) (ys := [mk (l.take 4000)]) 1 rfl rfl rfl rfl rfl (Rd.row (i := 0) rfl rfl) rfl rfl rfl rfl rfl (by decide) (by simp only [List.length_cons, List.length_nil]; omega) (fun _ _ => rfl) rfl (fun A5 c5 => ?_)
    repeat' (first|refine bA ?_|refine bkq fun q=>?_|(refine bk2 ?_ ?_<;>(first|exact bkn|(refine bkk ?_;intro h))))
    refine WL.s (op1_slice TT (l := (m : Int)) (r := ((mk l).size : Int)) (s := mk l) rfl rfl rfl rfl ⟨by omega, by rw [mk_size]; omega, by omega⟩) rfl ?_
    rw [e2]
    repeat' (first|refine bA ?_|refine bkq fun q=>?_|(refine bk2 ?_ ?_<;>(first|exact bkn|(refine bkk ?_;intro h))))
    exact QS.again (l.drop 4000, ps ++ [mk (l.take 4000)], A5, c5) ⟨by simp only; rw [List.length_drop]; omega, by simp only; omega, by simp only; rw [h3, hch, List.append_assoc]; rfl⟩ (by simp only; rw [List.length_drop]; omega) ⟨rfl, rfl, trivial⟩ (fun w hs => hs.drop)
  · have hl : l = [] := List.eq_nil_of_length_eq_zero (by rw [mk_size] at h; omega)
    subst hl
    rw [show chunks ([] : List UInt8).length [] = [] from rfl, List.append_nil] at h3
    refine WL.call c126 rfl rfl rfl rfl (r_join _ _ _ ps rfl (by rw [← h3]; exact toldL_ok e xs) W0 _ (Rd.slc (i := 0) rfl)) ?_
    rintro _ _ ⟨rfl, rfl⟩
    repeat' (first|refine bA ?_|refine bkq fun q=>?_|(refine bk2 ?_ ?_<;>(first|exact bkn|(refine bkk ?_;intro h))))
    exact QS.turn (G' := G) (fun w hs => hs.drop) (QS.retV Tryz.results92 rfl ⟨by rw [← h3]; rfl, rfl⟩)
theorem ent_ext2 {x y : Ent} (h1 : x.n = y.n) (h2 : x.s = y.s) : x = y := by cases x; cases y; simp_all
set_option maxHeartbeats 2000000 in
theorem r_Entries (A B : Option Addr) (k c k2 c2 : Nat) (xs ys : List Ent) (hk : k = xs.length) (hk2 : k2 = ys.length) (hkb : k ≤ 1000000) (W0 : World) (G : List SL) (hR : Rd W0 G entE A xs) (hR2 : Rd W0 G entE B ys) :
    Fn Tryz.prog 93 [.slice A k c, .slice B k2 c2] W0 G (Ret fun v G' => v = .bool (decide (xs = ys)) ∧ G' = G) := by
  refine Fn.enter Tryz.func93 rfl Tryz.ntmps93 rfl ?_
  repeat' (first|refine bA ?_|refine bkq fun q=>?_|(refine bk2 ?_ ?_<;>(first|exact bkn|(refine bkk ?_;intro h))))
  · refine QS.retV Tryz.results93 rfl ⟨?_, rfl⟩
    rw [decide_eq_false (fun e => by subst e; omega)]; rfl
  have hkk : xs.length = ys.length := by omega
  refine CS.loop (X := Nat) (fun i => [(0, .slice A k c), (1, .slice B k2 c2), (5, .int .i64 (i : Int))]) (fun i => G)
    (fun i => i ≤ k ∧ xs.take i = ys.take i) (fun i => k - i) 0 ⟨rfl, rfl, rfl, trivial⟩ (fun w hs => hs) ⟨Nat.zero_le _, rfl⟩ ?_
  rintro i ⟨hi, he⟩
  refine CS.world fun hw => ?_
  repeat' (first|refine bA ?_|refine bkq fun q=>?_|(refine bk2 ?_ ?_<;>(first|exact bkn|(refine bkk ?_;intro h))))
  · obtain ⟨x, hx⟩ : ∃ x, xs[i]? = some x := ⟨xs[i]'(by omega), List.getElem?_eq_getElem (by omega)⟩
    obtain ⟨y, hy⟩ : ∃ y, ys[i]? = some y := ⟨ys[i]'(by omega), List.getElem?_eq_getElem (by omega)⟩
    refine WQ.idx TT hR rfl rfl hk (by omega) (by rw [Int.toNat_natCast]; exact hx) rfl rfl rfl rfl hw (fun b2 o hA => ?_)
    refine WQ.s (op1_at TT hA rfl rfl rfl rfl) rfl ?_
    repeat' (first|refine bA ?_|refine bkq fun q=>?_|(refine bk2 ?_ ?_<;>(first|exact bkn|(refine bkk ?_;intro h))))
    refine WQ.idx TT hR2 rfl rfl hk2 (by omega) (by rw [Int.toNat_natCast]; exact hy) rfl rfl rfl rfl hw (fun b3 o3 hA3 => ?_)
    refine WQ.s (op1_at TT hA3 rfl rfl rfl rfl) rfl ?_
    have hcmp : eqFs TT [(3, 0), (9, 1)] [.int .i64 x.n, .string x.s] [.int .i64 y.n, .string y.s] = some (decide (x.n = y.n) && decide (x.s = y.s)) := by
      have e : (decide (x.n = y.n) && decide (x.s = y.s)) = (decide (x.n = y.n) && (decide (x.s = y.s) && true)) := by rw [Bool.and_true]
      rw [e]; rfl
    refine WQ.s (op1_neS TT cmp49 rfl rfl rfl rfl hcmp) rfl ?_
    by_cases hxy : x = y
    · subst hxy
      simp only [decide_true, Bool.and_self, Bool.not_true]
      repeat' (first|refine bA ?_|refine bkq fun q=>?_|(refine bk2 ?_ ?_<;>(first|exact bkn|(refine bkk ?_;intro h))))
      refine QS.again (i + 1) ⟨by omega, ?_⟩ (by omega) ⟨rfl, rfl, ?_, trivial⟩ (fun w hs => hs)
      · rw [List.take_add_one, List.take_add_one, hx, hy, he]
      · rw [show ((i + 1 : Nat) : Int) = (i : Int) + 1 from by omega]; rfl
    · have : (decide (x.n = y.n) && decide (x.s = y.s)) = false := by
        rw [Bool.and_eq_false_iff, decide_eq_false_iff_not, decide_eq_false_iff_not]
        by_cases h1 : x.n = y.n
        · exact .inr fun h2 => hxy (ent_ext2 h1 h2)
        · exact .inl h1
      simp only [this, Bool.not_false]
      repeat' (first|refine bA ?_|refine bkq fun q=>?_|(refine bk2 ?_ ?_<;>(first|exact bkn|(refine bkk ?_;intro h))))
      refine QS.retV Tryz.results93 rfl ⟨?_, rfl⟩
      rw [decide_eq_false (fun e => hxy (by rw [e, hy] at hx; exact (Option.some.inj hx).symm))]; rfl
  · refine QS.retV Tryz.results93 rfl ⟨?_, rfl⟩
    rw [decide_eq_true (by rw [List.take_of_length_le (by omega), List.take_of_length_le (by omega)] at he; exact he)]; rfl
end Go.Proofs.YtfolmcpfdcgliaaGreat.B

namespace Go.Proofs.YtfolmcpfdcgliaaGreat.B
open Go
structure RFile where
  name : ByteArray
  data : ByteArray
  syn : Int
  deriving DecidableEq
def rfE : EncK RFile := ⟨fun f => [.string f.name, .string f.data, .int .i64 f.syn], 3, fun _ => rfl, by decide, fun _ u hu => by simp only [List.mem_cons, List.not_mem_nil, or_false] at hu; rcases hu with rfl | rfl | rfl <;> rfl⟩
structure RDisk where
  room : Int
  files : List RFile
  left : Int
  off : Bool
def bl (a b : ByteArray) : Bool := Op.bytesLess a.toList b.toList
def findF (name : ByteArray) (l : List RFile) : Option Nat := l.findIdx? fun f => decide (f.name = name)
def atF (name : ByteArray) (l : List RFile) : Int := match findF name l with | some i => (i : Int) | none => -1
def posF (name : ByteArray) (l : List RFile) : Nat := (l.takeWhile fun f => bl f.name name).length
def insF (f : RFile) (l : List RFile) : List RFile := l.take (posF f.name l) ++ [f] ++ l.drop (posF f.name l)
def sumF (l : List RFile) : Int := (l.map fun f => (f.data.size : Int)).sum
structure ROk (R : RDisk) : Prop where
  count : R.files.length ≤ 20
  most : ∀ f ∈ R.files, f.data.size ≤ 400000
  left0 : 0 ≤ R.left
  left1 : R.left ≤ 9223372036854775807
  room0 : 0 ≤ R.room
  room1 : R.room ≤ 9223372036854775807
def RDisk.new (r : Int) : RDisk := ⟨max r 0, [], 0, false⟩
def RDisk.blow (R : RDisk) : Bool × RDisk := if R.left = 0 then (false, R) else (decide (R.left - 1 = 0), { R with left := R.left - 1, off := decide (R.left - 1 = 0) })
def RDisk.dataAt (R : RDisk) (name : ByteArray) : ByteArray := match findF name R.files with | some i => ((R.files[i]?).getD ⟨⟨#[]⟩, ⟨#[]⟩, 0⟩).data | none => ⟨#[]⟩
def addF (name data : ByteArray) (l : List RFile) : List RFile := match findF name l with
  | some i => (match l[i]? with | some f => l.set i { f with data := f.data ++ data } | none => l)
  | none => insF ⟨name, data, 0⟩ l
def RDisk.append (R : RDisk) (name data : ByteArray) : Int × RDisk :=
  if R.off = true then (12, R)
  else if ¬ (1 ≤ (name.size : Int) ∧ (name.size : Int) ≤ 30) then (1, R)
  else if 400000 < (data.size : Int) ∨ (0 ≤ atF name R.files ∧ 400000 < ((R.dataAt name).size : Int) + data.size) ∨ (atF name R.files < 0 ∧ 20 ≤ (R.files.length : Int)) then (4, R)
  else if R.room < sumF R.files + data.size then (8, R)
  else if R.blow.1 = true then (12, R.blow.2)
  else (0, { R.blow.2 with files := addF name data R.files })
def RDisk.read (R : RDisk) (name : ByteArray) : ByteArray × Int :=
  if R.off = true then (⟨#[]⟩, 12) else if atF name R.files < 0 then (⟨#[]⟩, 5) else (R.dataAt name, 0)
theorem findF_some {name : ByteArray} {l : List RFile} {i : Nat} {f : RFile} (hf : l[i]? = some f) (hn : f.name = name) (h : ∀ j g, j < i → l[j]? = some g → g.name ≠ name) : findF name l = some i := by
  unfold findF
  rw [List.findIdx?_eq_some_iff_getElem]
  obtain ⟨hi, e⟩ := List.getElem?_eq_some_iff.1 hf
  refine ⟨hi, by rw [e]; simpa using hn, fun j hj => ?_⟩
  have := h j (l[j]'(by omega)) hj (List.getElem?_eq_getElem (by omega))
  simpa using this
theorem findF_none {name : ByteArray} {l : List RFile} (h : ∀ (j : Nat) g, l[j]? = some g → g.name ≠ name) : findF name l = none := by
  unfold findF
  rw [List.findIdx?_eq_none_iff]
  intro f hf
  obtain ⟨j, hj⟩ := List.mem_iff_getElem?.1 hf
  simpa using h j f hj
theorem findF_get {name : ByteArray} {l : List RFile} {i : Nat} (h : findF name l = some i) : ∃ f, l[i]? = some f ∧ f.name = name := by
  unfold findF at h
  rw [List.findIdx?_eq_some_iff_getElem] at h
  obtain ⟨hi, h1, h2⟩ := h
  exact ⟨l[i], List.getElem?_eq_getElem hi, by simpa using h1⟩
theorem posF_at {name : ByteArray} {l : List RFile} {i : Nat} (h : ∀ j g, j < i → l[j]? = some g → bl g.name name = true) (hi : i ≤ l.length) (hs : ∀ f, l[i]? = some f → bl f.name name = false) : posF name l = i := by
  induction l generalizing i with
  | nil => simp at hi; subst hi; rfl
  | cons f r ih =>
    cases i with
    | zero =>
      have := hs f rfl
      simp [posF, List.takeWhile_cons, this]
    | succ i =>
      have h0 := h 0 f (by omega) rfl
      have := ih (i := i) (fun j g hj hg => h (j + 1) g (by omega) (by simpa using hg)) (by simpa using hi) (fun g hg => hs g (by simpa using hg))
      simp [posF, List.takeWhile_cons, h0] at this ⊢
      exact this
theorem sumF_take {l : List RFile} {i : Nat} {f : RFile} (h : l[i]? = some f) : sumF (l.take (i + 1)) = sumF (l.take i) + f.data.size := by
  rw [List.take_add_one, h]; simp [sumF]
theorem sumF_bound {l : List RFile} (h : ∀ f ∈ l, f.data.size ≤ 400000) : 0 ≤ sumF l ∧ sumF l ≤ l.length * 400000 := by
  induction l with
  | nil => simp [sumF]
  | cons f r ih =>
    have h1 := h f (List.mem_cons_self ..)
    have h2 := ih (fun g hg => h g (List.mem_cons_of_mem _ hg))
    simp only [sumF, List.map_cons, List.sum_cons, List.length_cons] at h2 ⊢
    omega
theorem sumF_take_bound {l : List RFile} (h : ∀ f ∈ l, f.data.size ≤ 400000) (hl : l.length ≤ 20) (i : Nat) : 0 ≤ sumF (l.take i) ∧ sumF (l.take i) ≤ 8000000 := by
  have := sumF_bound (l := l.take i) (fun f hf => h f (List.mem_of_mem_take hf))
  rw [List.length_take] at this
  omega
end Go.Proofs.YtfolmcpfdcgliaaGreat.B

namespace Go.Proofs.YtfolmcpfdcgliaaGreat.B
open Go Go.Proofs
attribute [local irreducible] WL CS QS WQ WH WS Fn Op1 row Sat
def refCells (A : Option Addr) (c : Nat) (R : RDisk) : List Value := [.int .i64 R.room, .slice A R.files.length c, .int .i64 R.left, .bool R.off]
def refA (b : Nat) (R : RDisk) : SL := fun h => ∃ x : Option Addr × Nat, star (row b 149 (refCells x.1 x.2 R)) (slc rfE 176 x.1 x.2 R.files) h
section
variable {W0 : World} {F : List SL} {b : Nat} {R : RDisk}
theorem refA_open : ∀ w, Sat W0 (refA b R :: F) w → ∃ x : Option Addr × Nat, Sat W0 (row b 149 (refCells x.1 x.2 R) :: slc rfE 176 x.1 x.2 R.files :: F) w := fun w hs => by
  obtain ⟨x, hx⟩ := Sat.ex (R := fun x : Option Addr × Nat => star (row b 149 (refCells x.1 x.2 R)) (slc rfE 176 x.1 x.2 R.files)) hs
  exact ⟨x, hx.split⟩
theorem refA_shut {A : Option Addr} {c : Nat} : ∀ w, Sat W0 (row b 149 (refCells A c R) :: slc rfE 176 A c R.files :: F) w → Sat W0 (refA b R :: F) w := fun w hs =>
  hs.join.imp fun h hh => ⟨(A, c), hh⟩
end
attribute [local irreducible] refA slc
theorem rdisk_New (r : Int) (W0 : World) (F : List SL) :
    Fn Tryz.prog 29 [.int .i64 r] W0 F (Ret fun v G' => ∃ b, v = .pointer (some ⟨b, 0, none⟩) ∧ G' = refA b (RDisk.new r) :: F) := by
  refine Fn.enter Tryz.func29 rfl Tryz.ntmps29 rfl ?_
  repeat' (first|refine bA ?_|refine bkq fun q=>?_|(refine bk2 ?_ ?_<;>(first|exact bkn|(refine bkk ?_;intro h))))
  refine QS.turn (G' := refA q (RDisk.new r) :: F) (fun w hs => refA_shut (A := none) (c := 0) w ?_) (QS.retV Tryz.results29 rfl ⟨q, rfl, rfl⟩)
  have e : (if 0 > r then 0 else r) = max r 0 := by split <;> omega
  rw [e] at hs
  exact (hs.slcNil rfE 176).perm (List.Perm.swap ..)
theorem rdisk_at (b : Nat) (A : Option Addr) (c : Nat) (R : RDisk) (hl : R.files.length ≤ 1000) (name : ByteArray) (W0 : World) (F : List SL) :
    Fn Tryz.prog 111 [.pointer (some ⟨b, 0, none⟩), .string name] W0 (row b 149 (refCells A c R) :: slc rfE 176 A c R.files :: F)
      (Ret fun v G' => v = .int .i64 (atF name R.files) ∧ G' = row b 149 (refCells A c R) :: slc rfE 176 A c R.files :: F) := by
  refine Fn.enter Tryz.func111 rfl Tryz.ntmps111 rfl ?_
  simp only [refCells]
  repeat' (first|refine bA ?_|refine bkq fun q=>?_|(refine bk2 ?_ ?_<;>(first|exact bkn|(refine bkk ?_;intro h))))
  refine CS.loop (X := Nat) (fun i => [(0, .pointer (some ⟨b, 0, none⟩)), (1, .string name), (5, .int .i64 (i : Int))]) (fun i => row b 149 (refCells A c R) :: slc rfE 176 A c R.files :: F)
    (fun i => i ≤ R.files.length ∧ ∀ j g, j < i → R.files[j]? = some g → g.name ≠ name) (fun i => R.files.length - i) 0 ⟨rfl, rfl, rfl, trivial⟩ (fun w hs => hs) ⟨Nat.zero_le _, fun j g hj => by omega⟩ ?_
  rintro i ⟨hi, hne⟩
  simp only [refCells]
  repeat' (first|refine bA ?_|refine bkq fun q=>?_|(refine bk2 ?_ ?_<;>(first|exact bkn|(refine bkk ?_;intro h))))
  · obtain ⟨x, hx⟩ : ∃ x, R.files[i]? = some x := ⟨R.files[i]'(by omega), List.getElem?_eq_getElem (by omega)⟩
    refine WL.idx TT (Rd.slc (i := 1) rfl) rfl rfl rfl (by omega) (by rw [Int.toNat_natCast]; exact hx) rfl rfl rfl rfl (fun b2 o hA => ?_)
    repeat' (first|refine bA ?_|refine bkq fun q=>?_|(refine bk2 ?_ ?_<;>(first|exact bkn|(refine bkk ?_;intro h))))
    refine WL.s (op1_atF TT 0 hA rfl rfl rfl rfl rfl) rfl ?_
    repeat' (first|refine bA ?_|refine bkq fun q=>?_|(refine bk2 ?_ ?_<;>(first|exact bkn|(refine bkk ?_;intro h))))
    · refine QS.retV Tryz.results111 rfl ⟨?_, rfl⟩
      rw [atF, findF_some hx (by assumption) hne]; rfl
    · refine QS.again (i + 1) ⟨by omega, fun j g hj hg => ?_⟩ (by omega) ⟨rfl, rfl, ?_, trivial⟩ (fun w hs => hs)
      · by_cases hji : j = i
        · subst hji; rw [hx] at hg; injection hg with hg; subst hg; assumption
        · exact hne j g (by omega) hg
      · rw [show ((i + 1 : Nat) : Int) = (i : Int) + 1 from by omega]; rfl
  · refine QS.retV Tryz.results111 rfl ⟨?_, rfl⟩
    rw [atF, findF_none (fun j g hg => hne j g (by have := (List.getElem?_eq_some_iff.1 hg).1; omega) hg)]; rfl
theorem rdisk_Name (name : ByteArray) (W0 : World) (F : List SL) :
    Fn Tryz.prog 183 [.string name] W0 F (Ret fun v G' => v = .bool (decide (1 ≤ (name.size : Int) ∧ (name.size : Int) ≤ 30)) ∧ G' = F) := by
  refine Fn.enter Tryz.func183 rfl Tryz.ntmps183 rfl ?_
  repeat' (first|refine bA ?_|refine bkq fun q=>?_|(refine bk2 ?_ ?_<;>(first|exact bkn|(refine bkk ?_;intro h))))
  · refine QS.retV Tryz.results183 rfl ⟨?_, rfl⟩
    rw [decide_eq_decide.2 (show (1 ≤ (name.size : Int) ∧ (name.size : Int) ≤ 30) ↔ ((name.size : Int) ≤ 30) from ⟨fun h => h.2, fun h => ⟨by assumption, h⟩⟩)]; rfl
  · refine QS.retV Tryz.results183 rfl ⟨?_, rfl⟩
    rw [decide_eq_false (fun h => absurd h.1 (by assumption))]; rfl
theorem rdisk_Bytes (b : Nat) (A : Option Addr) (c : Nat) (R : RDisk) (hR : ROk R) (W0 : World) (F : List SL) :
    Fn Tryz.prog 184 [.pointer (some ⟨b, 0, none⟩)] W0 (row b 149 (refCells A c R) :: slc rfE 176 A c R.files :: F)
      (Ret fun v G' => v = .int .i64 (sumF R.files) ∧ G' = row b 149 (refCells A c R) :: slc rfE 176 A c R.files :: F) := by
  have hc := hR.count
  have hmo := hR.most
  refine Fn.enter Tryz.func184 rfl Tryz.ntmps184 rfl ?_
  simp only [refCells]
  repeat' (first|refine bA ?_|refine bkq fun q=>?_|(refine bk2 ?_ ?_<;>(first|exact bkn|(refine bkk ?_;intro h))))
  refine CS.loop (X := Nat) (fun i => [(0, .pointer (some ⟨b, 0, none⟩)), (3, .int .i64 (sumF (R.files.take i))), (4, .int .i64 (i : Int))]) (fun i => row b 149 (refCells A c R) :: slc rfE 176 A c R.files :: F)
    (fun i => i ≤ R.files.length) (fun i => R.files.length - i) 0 ⟨rfl, rfl, rfl, trivial⟩ (fun w hs => hs) (Nat.zero_le _) ?_
  intro i hi
  have hb1 := sumF_take_bound hmo hc i
  simp only [refCells]
  repeat' (first|refine bA ?_|refine bkq fun q=>?_|(refine bk2 ?_ ?_<;>(first|exact bkn|(refine bkk ?_;intro h))))
  · obtain ⟨x, hx⟩ : ∃ x, R.files[i]? = some x := ⟨R.files[i]'(by omega), List.getElem?_eq_getElem (by omega)⟩
    have hxm := hmo x (List.mem_of_getElem? hx)
    refine WL.idx TT (Rd.slc (i := 1) rfl) rfl rfl rfl (by omega) (by rw [Int.toNat_natCast]; exact hx) rfl rfl rfl rfl (fun b2 o hA => ?_)
    repeat' (first|refine bA ?_|refine bkq fun q=>?_|(refine bk2 ?_ ?_<;>(first|exact bkn|(refine bkk ?_;intro h))))
    refine WL.s (op1_atF TT 1 hA rfl rfl rfl rfl rfl) rfl ?_
    repeat' (first|refine bA ?_|refine bkq fun q=>?_|(refine bk2 ?_ ?_<;>(first|exact bkn|(refine bkk ?_;intro h))))
    refine QS.again (i + 1) (by omega) (by omega) ⟨rfl, ?_, ?_, trivial⟩ (fun w hs => hs)
    · rw [sumF_take hx]; rfl
    · rw [show ((i + 1 : Nat) : Int) = (i : Int) + 1 from by omega]; rfl
  · refine QS.retV Tryz.results184 rfl ⟨?_, rfl⟩
    rw [List.take_of_length_le (by omega)]; rfl
theorem rdisk_blows (b : Nat) (A : Option Addr) (c : Nat) (R : RDisk) (h0 : 0 ≤ R.left) (h1 : R.left ≤ 9223372036854775807) (W0 : World) (F : List SL) :
    Fn Tryz.prog 181 [.pointer (some ⟨b, 0, none⟩)] W0 (row b 149 (refCells A c R) :: F)
      (Ret fun v G' => v = .bool R.blow.1 ∧ G' = row b 149 (refCells A c R.blow.2) :: F) := by
  refine Fn.enter Tryz.func181 rfl Tryz.ntmps181 rfl ?_
  simp only [refCells]
  repeat' (first|refine bA ?_|refine bkq fun q=>?_|(refine bk2 ?_ ?_<;>(first|exact bkn|(refine bkk ?_;intro h))))
  · refine QS.retV Tryz.results181 rfl ⟨?_, ?_⟩ <;> simp [RDisk.blow, resV, *]
  · refine QS.retV Tryz.results181 rfl ⟨?_, ?_⟩ <;> simp [RDisk.blow, resV, *]
set_option maxHeartbeats 400000 in
theorem rdisk_Read (b : Nat) (R : RDisk) (hl : R.files.length ≤ 1000) (name : ByteArray) (W0 : World) (F : List SL) :
    Fn Tryz.prog 67 [.pointer (some ⟨b, 0, none⟩), .string name] W0 (refA b R :: F)
      (Ret fun v G' => v = .tuple #[.string (R.read name).1, .int .i64 (R.read name).2] ∧ G' = refA b R :: F) := by
  refine Fn.ex (fun w hs => refA_open w hs) (fun x => ?_)
  obtain ⟨A, c⟩ := x
  simp only
  refine Fn.enter Tryz.func67 rfl Tryz.ntmps67 rfl ?_
  repeat' (first|refine bA ?_|refine bkq fun q=>?_|(refine bk2 ?_ ?_<;>(first|exact bkn|(refine bkk ?_;intro h))))
  refine WL.call c111 rfl rfl rfl rfl (rdisk_at b A c R hl name W0 _) ?_
  rintro _ _ ⟨rfl, rfl⟩
  simp only [refCells]
  repeat' (first|refine bA ?_|refine bkq fun q=>?_|(refine bk2 ?_ ?_<;>(first|exact bkn|(refine bkk ?_;intro h))))
  · refine QS.turn (G' := refA b R :: F) (fun w hs => refA_shut (A := A) (c := c) w hs) (QS.retV Tryz.results67 rfl ⟨?_, rfl⟩)
    rw [RDisk.read, if_pos (by assumption)]; rfl
  · refine QS.turn (G' := refA b R :: F) (fun w hs => refA_shut (A := A) (c := c) w hs) (QS.retV Tryz.results67 rfl ⟨?_, rfl⟩)
    rw [RDisk.read, if_neg (by simp [*]), if_pos (by assumption)]; rfl
  · obtain ⟨i, hi⟩ : ∃ i, findF name R.files = some i := by
      cases hf : findF name R.files with
      | some i => exact ⟨i, rfl⟩
      | none => exfalso; simp [atF, hf] at *
    obtain ⟨x, hx, hxn⟩ := findF_get hi
    have hai : atF name R.files = (i : Int) := by rw [atF, hi]
    have hda : R.dataAt name = x.data := by rw [RDisk.dataAt, hi]; simp [hx]
    refine WL.idx TT (Rd.slc (i := 1) rfl) rfl rfl rfl (by omega) (by rw [hai, Int.toNat_natCast]; exact hx) rfl rfl rfl rfl (fun b2 o hA => ?_)
    repeat' (first|refine bA ?_|refine bkq fun q=>?_|(refine bk2 ?_ ?_<;>(first|exact bkn|(refine bkk ?_;intro h))))
    refine WL.s (op1_atF TT 1 hA rfl rfl rfl rfl rfl) rfl ?_
    repeat' (first|refine bA ?_|refine bkq fun q=>?_|(refine bk2 ?_ ?_<;>(first|exact bkn|(refine bkk ?_;intro h))))
    refine QS.turn (G' := refA b R :: F) (fun w hs => refA_shut (A := A) (c := c) w hs) (QS.retV Tryz.results67 rfl ⟨?_, rfl⟩)
    rw [RDisk.read, if_neg (by simp [*]), if_neg (by omega), hda]; rfl
end Go.Proofs.YtfolmcpfdcgliaaGreat.B
