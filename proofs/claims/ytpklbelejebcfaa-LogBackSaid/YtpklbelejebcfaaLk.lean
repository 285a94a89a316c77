import Derived.Test.YtpklbelejebcfaaLi
import Derived.Test.YtpklbelejebcfaaTm
set_option linter.unusedVariables false
set_option linter.unusedSimpArgs false
set_option maxRecDepth 8000
/-! A log's bytes that are cut, or have something behind them; in plain words. -/
namespace Go.Proofs.Ytpklbelejebcfaa.B
open Go

theorem numB_m1 : numB (-1) = [1] := by
  rw [numB, show zig (-1) = 1 from by decide, leb, if_pos (by decide)]; rfl
theorem takeEnt_junk (k : Nat) (j : List UInt8) : takeEnt k (1 :: j) = none := by
  cases h : openP (1 :: j) with
  | none => rw [takeEnt, h]
  | some p =>
    obtain ⟨n, x, r⟩ := p
    obtain ⟨h1, h2, h3⟩ := openP_some h
    rw [partB, if_neg (by omega), sealB, textB] at h2
    have e1 : numB (-1) ++ j = numB ((numB n ++ x).length : Int) ++ ((numB n ++ x) ++ (four (crc (numB n ++ x)) ++ r)) := by
      rw [numB_m1]
      simpa [List.append_assoc] using h2
    have := (num_free e1).1
    omega
theorem openP_cut {n : Int} (hn : I64 n) {s : List UInt8} (h : (numB n ++ s).length ≤ 4000) {m : Nat} (hm : m < (partB n s).length) : openP ((partB n s).take m) = none := by
  cases hp : openP ((partB n s).take m) with
  | none => rfl
  | some p =>
    obtain ⟨n', x, r⟩ := p
    obtain ⟨h1, h2, h3⟩ := openP_some hp
    have e := openP_part hn h []
    have e2 := openP_part h1 h3 (r ++ (partB n s).drop m)
    rw [← List.append_assoc, ← h2, List.take_append_drop, ← List.append_nil (partB n s), e] at e2
    simp only [Option.some.injEq, Prod.mk.injEq] at e2
    have := congrArg List.length e2.2.2
    simp at this
    omega
theorem entsOk_take {xs : List Ent} {x : Ent} {k : Nat} (h : entsOk k (xs ++ [x]) = true) : entsOk k xs = true := by
  rw [entsOk_snoc, Bool.and_eq_true] at h; exact h.1
theorem parse_junk {e : Int} {xs : List Ent} (h : logOk e xs = true) (j : List UInt8) : loadM (logB e xs ++ 1 :: j) 0 = (e, xs, false, 0) := by
  rw [loadM, if_pos rfl, parseP_log h _ (.inr (takeEnt_junk _ j))]
  simp
theorem parse_cut0 {e : Int} (h : logOk e [] = true) {m : Nat} (hm : m < (logB e []).length) : loadM ((logB e []).take m) 0 = (0, [], false, 2) := by
  obtain ⟨⟨h1, h2, _⟩, _⟩ := logOk_iff.1 h
  have hI : I64 e := by unfold I64; constructor <;> omega
  have hn := num_len hI
  have el : logB e [] = partB e [] := by simp [logB, entB]
  rw [el] at hm ⊢
  rw [loadM, if_pos rfl, parseP, openP_cut hI (by simp; omega) hm]
theorem parse_cut {e : Int} {xs : List Ent} {x : Ent} (h : logOk e (xs ++ [x]) = true) {j : Nat} (h0 : 0 < j) (hj : j < 5) :
    loadM ((logB e (xs ++ [x])).take ((logB e (xs ++ [x])).length - j)) 0 = (e, xs, false, 0) := by
  obtain ⟨⟨h1, h2, h3⟩, h4⟩ := logOk_iff.1 h
  have h5 := entsOk_take h4
  simp only [List.length_append, List.length_cons, List.length_nil] at h3
  have ok : logOk e xs = true := logOk_iff.2 ⟨⟨h1, h2, by omega⟩, h5⟩
  have hx := entsOk_get (i := xs.length) (x := x) h4 (by simp)
  have hI : I64 x.n := by unfold I64; have := hx.1; constructor <;> omega
  have hn := num_len hI
  have hb := bs_len x.s
  have hl : (numB x.n ++ bs x.s).length ≤ 4000 := by rw [List.length_append]; omega
  have hp : 5 ≤ (partB x.n (bs x.s)).length := by
    rw [partB, if_neg (by omega)]
    have := sealB_len hl
    omega
  have el : logB e (xs ++ [x]) = logB e xs ++ partB x.n (bs x.s) := by simp [logB, entB, List.append_assoc]
  rw [el]
  have et : (logB e xs ++ partB x.n (bs x.s)).take ((logB e xs ++ partB x.n (bs x.s)).length - j) = logB e xs ++ (partB x.n (bs x.s)).take ((partB x.n (bs x.s)).length - j) := by
    rw [List.take_append, List.take_of_length_le (by rw [List.length_append]; omega), List.length_append, show (logB e xs).length + (partB x.n (bs x.s)).length - j - (logB e xs).length = (partB x.n (bs x.s)).length - j from by omega]
  have hc := openP_cut hI hl (m := (partB x.n (bs x.s)).length - j) (by omega)
  rw [et, loadM, if_pos rfl, parseP_log ok _ (.inr (by rw [takeEnt, hc]))]
  have hne : ¬ (partB x.n (bs x.s)).take ((partB x.n (bs x.s)).length - j) = [] := by
    intro e
    have := congrArg List.length e
    simp at this
    omega
  simp [hne]
theorem parse_whole {e : Int} {xs : List Ent} (h : logOk e xs = true) : loadM (logB e xs) 0 = (e, xs, true, 0) := by
  have := parseP_log h [] (.inr (takeEnt_nil _))
  rw [List.append_nil] at this
  rw [loadM, if_pos rfl, this]; simp
/-- A first part of a file. -/
def disk1u (room : Int) (name t : ByteArray) : Disk := ⟨[(name, ⟨t, 0⟩)], room, t.size, 0, false⟩
theorem append_new {room : Int} {name t : ByteArray} (h0 : 0 ≤ room) (h1 : name ≠ noStr) (h2 : name.size ≤ 30) (ht : t.size ≤ 400000) (hr : (t.size : Int) ≤ room) :
    (Disk.new room).append name t = (0, disk1u room name t) := by
  rw [new_is h0, append_first (files := []) h1 h2 ht hr, noStr_cat, Int.zero_add]; rfl
theorem read_1u {room : Int} {name t : ByteArray} : (disk1u room name t).read name = (t, 0) := read_one
end Go.Proofs.Ytpklbelejebcfaa.B
