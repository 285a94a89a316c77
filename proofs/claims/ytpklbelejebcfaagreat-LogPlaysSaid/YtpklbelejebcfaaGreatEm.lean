import Derived.Test.YtpklbelejebcfaaGreatDm
import Derived.Test.YtpklbelejebcfaaGreatTm
set_option linter.unusedVariables false
set_option linter.unusedSimpArgs false
set_option maxRecDepth 8000
/-! The document's disk in plain words: files in the order of their names. -/
namespace Go.Proofs.YtpklbelejebcfaaGreat.B
open Go

structure RFile where
  name : ByteArray
  data : ByteArray
  syn : Int
  deriving DecidableEq
def rfE : EncK RFile := ⟨fun f => [.string f.name, .string f.data, .int .i64 f.syn], 3, fun _ => rfl, by decide, fun _ u hu => by simp only [List.mem_cons, List.not_mem_nil, or_false] at hu; rcases hu with rfl | rfl | rfl <;> rfl⟩
structure RDisk where
  room : Int
  files : List RFile
  left : Int
  off : Bool
def bl (a b : ByteArray) : Bool := Op.bytesLess a.toList b.toList
def findF (name : ByteArray) (l : List RFile) : Option Nat := l.findIdx? fun f => decide (f.name = name)
def atF (name : ByteArray) (l : List RFile) : Int := match findF name l with | some i => (i : Int) | none => -1
def posF (name : ByteArray) (l : List RFile) : Nat := (l.takeWhile fun f => bl f.name name).length
def insF (f : RFile) (l : List RFile) : List RFile := l.take (posF f.name l) ++ [f] ++ l.drop (posF f.name l)
def sumF (l : List RFile) : Int := (l.map fun f => (f.data.size : Int)).sum
structure ROk (R : RDisk) : Prop where
  count : R.files.length ≤ 20
  most : ∀ f ∈ R.files, f.data.size ≤ 400000
  left0 : 0 ≤ R.left
  left1 : R.left ≤ 9223372036854775807
  room0 : 0 ≤ R.room
  room1 : R.room ≤ 9223372036854775807
def RDisk.new (r : Int) : RDisk := ⟨max r 0, [], 0, false⟩
def RDisk.blow (R : RDisk) : Bool × RDisk := if R.left = 0 then (false, R) else (decide (R.left - 1 = 0), { R with left := R.left - 1, off := decide (R.left - 1 = 0) })
def RDisk.dataAt (R : RDisk) (name : ByteArray) : ByteArray := match findF name R.files with | some i => ((R.files[i]?).getD ⟨⟨#[]⟩, ⟨#[]⟩, 0⟩).data | none => ⟨#[]⟩
def addF (name data : ByteArray) (l : List RFile) : List RFile := match findF name l with
  | some i => (match l[i]? with | some f => l.set i { f with data := f.data ++ data } | none => l)
  | none => insF ⟨name, data, 0⟩ l
def RDisk.append (R : RDisk) (name data : ByteArray) : Int × RDisk :=
  if R.off = true then (12, R)
  else if ¬ (1 ≤ (name.size : Int) ∧ (name.size : Int) ≤ 30) then (1, R)
  else if 400000 < (data.size : Int) ∨ (0 ≤ atF name R.files ∧ 400000 < ((R.dataAt name).size : Int) + data.size) ∨ (atF name R.files < 0 ∧ 20 ≤ (R.files.length : Int)) then (4, R)
  else if R.room < sumF R.files + data.size then (8, R)
  else if R.blow.1 = true then (12, R.blow.2)
  else (0, { R.blow.2 with files := addF name data R.files })
def RDisk.read (R : RDisk) (name : ByteArray) : ByteArray × Int :=
  if R.off = true then (⟨#[]⟩, 12) else if atF name R.files < 0 then (⟨#[]⟩, 5) else (R.dataAt name, 0)

theorem findF_some {name : ByteArray} {l : List RFile} {i : Nat} {f : RFile} (hf : l[i]? = some f) (hn : f.name = name) (h : ∀ j g, j < i → l[j]? = some g → g.name ≠ name) : findF name l = some i := by
  unfold findF
  rw [List.findIdx?_eq_some_iff_getElem]
  obtain ⟨hi, e⟩ := List.getElem?_eq_some_iff.1 hf
  refine ⟨hi, by rw [e]; simpa using hn, fun j hj => ?_⟩
  have := h j (l[j]'(by omega)) hj (List.getElem?_eq_getElem (by omega))
  simpa using this
theorem findF_none {name : ByteArray} {l : List RFile} (h : ∀ (j : Nat) g, l[j]? = some g → g.name ≠ name) : findF name l = none := by
  unfold findF
  rw [List.findIdx?_eq_none_iff]
  intro f hf
  obtain ⟨j, hj⟩ := List.mem_iff_getElem?.1 hf
  simpa using h j f hj
theorem findF_get {name : ByteArray} {l : List RFile} {i : Nat} (h : findF name l = some i) : ∃ f, l[i]? = some f ∧ f.name = name := by
  unfold findF at h
  rw [List.findIdx?_eq_some_iff_getElem] at h
  obtain ⟨hi, h1, h2⟩ := h
  exact ⟨l[i], List.getElem?_eq_getElem hi, by simpa using h1⟩
theorem posF_at {name : ByteArray} {l : List RFile} {i : Nat} (h : ∀ j g, j < i → l[j]? = some g → bl g.name name = true) (hi : i ≤ l.length) (hs : ∀ f, l[i]? = some f → bl f.name name = false) : posF name l = i := by
  induction l generalizing i with
  | nil => simp at hi; subst hi; rfl
  | cons f r ih =>
    cases i with
    | zero =>
      have := hs f rfl
      simp [posF, List.takeWhile_cons, this]
    | succ i =>
      have h0 := h 0 f (by omega) rfl
      have := ih (i := i) (fun j g hj hg => h (j + 1) g (by omega) (by simpa using hg)) (by simpa using hi) (fun g hg => hs g (by simpa using hg))
      simp [posF, List.takeWhile_cons, h0] at this ⊢
      exact this
theorem sumF_take {l : List RFile} {i : Nat} {f : RFile} (h : l[i]? = some f) : sumF (l.take (i + 1)) = sumF (l.take i) + f.data.size := by
  rw [List.take_add_one, h]; simp [sumF]
theorem sumF_bound {l : List RFile} (h : ∀ f ∈ l, f.data.size ≤ 400000) : 0 ≤ sumF l ∧ sumF l ≤ l.length * 400000 := by
  induction l with
  | nil => simp [sumF]
  | cons f r ih =>
    have h1 := h f (List.mem_cons_self ..)
    have h2 := ih (fun g hg => h g (List.mem_cons_of_mem _ hg))
    simp only [sumF, List.map_cons, List.sum_cons, List.length_cons] at h2 ⊢
    omega
theorem sumF_take_bound {l : List RFile} (h : ∀ f ∈ l, f.data.size ≤ 400000) (hl : l.length ≤ 20) (i : Nat) : 0 ≤ sumF (l.take i) ∧ sumF (l.take i) ≤ 8000000 := by
  have := sumF_bound (l := l.take i) (fun f hf => h f (List.mem_of_mem_take hf))
  rw [List.length_take] at this
  omega
theorem insF_length (f : RFile) (l : List RFile) : (insF f l).length = l.length + 1 := by
  have : posF f.name l ≤ l.length := List.Sublist.length_le (List.takeWhile_sublist _)
  simp [insF]; omega
end Go.Proofs.YtpklbelejebcfaaGreat.B
