import Derived.Test.YtgebdehpoalfbaaMg10
import Derived.Test.YtgebdehpoalfbaaMg6
import Derived.Test.YtgebdehpoalfbaaRows
import Derived.WalkKit
import Derived.ProofKit
import Derived.OpenShut
import Derived.JoinedCond
import Derived.Carry
import Derived.Lib.SmallJoins
import Derived.SliceStrings
import Derived.ChangeMaps5
set_option linter.unusedVariables false
set_option linter.unusedSimpArgs false
/-! Numbers are read from a text's beginning. -/
namespace Go.Proofs.Ytgebdehpoalfbaa.B
open Go

def Cont (l : List UInt8) (i : Nat) : Prop := ∀ j < i, ∃ d, l[j]? = some d ∧ 128 ≤ d.toNat
theorem Cont.zero (l : List UInt8) : Cont l 0 := fun j h => absurd h (by omega)
theorem Cont.succ {l : List UInt8} {i : Nat} {c : UInt8} (h : Cont l i) (hc : l[i]? = some c) (hb : 128 ≤ c.toNat) : Cont l (i + 1) := fun j hj => by
  rcases Nat.lt_or_ge j i with h1 | h1
  · exact h j h1
  · have : j = i := by omega
    subst this; exact ⟨c, hc, hb⟩
/-- The last byte of a number's bytes. -/
theorem can_last : ∀ {a : List UInt8} {f : Bool}, Can f a → ∃ k c, a.length = k + 1 ∧ a[k]? = some c ∧ c.toNat < 128 ∧ Cont a k ∧ (f = true ∧ k = 0 ∨ c.toNat ≠ 0)
  | [], _, h => h.elim
  | [c], f, h => ⟨0, c, rfl, rfl, h.1, Cont.zero _, by rcases h.2 with h | h <;> simp [h]⟩
  | c :: d :: r, f, h => by
    obtain ⟨k, e, h1, h2, h3, h4, h5⟩ := can_last h.2
    refine ⟨k + 1, e, by simp at h1 ⊢; omega, by simpa using h2, h3, fun j hj => ?_, ?_⟩
    · cases j with
      | zero => exact ⟨c, rfl, h.1⟩
      | succ j => exact h4 j (by omega)
    · rcases h5 with ⟨h5, _⟩ | h5
      · cases h5
      · exact .inr h5
theorem val_append : ∀ (a b : List UInt8), val (a ++ b) = val a + 128 ^ a.length * val b
  | [], b => by simp [val]
  | c :: a, b => by
    simp only [List.cons_append, val, val_append a b, List.length_cons, Nat.pow_succ, Nat.mul_add]
    rw [Nat.mul_comm (128 ^ a.length) 128, Nat.mul_assoc, Nat.add_assoc]
theorem val_lt : ∀ (a : List UInt8), val a < 128 ^ a.length
  | [] => by simp [val]
  | c :: a => by
    have := val_lt a
    simp only [val, List.length_cons, Nat.pow_succ]
    omega
theorem val_one (c : UInt8) : val [c] = c.toNat % 128 := by simp [val]
theorem take_succ_get {l : List UInt8} {i : Nat} {c : UInt8} (h : l[i]? = some c) : l.take (i + 1) = l.take i ++ [c] := by
  rw [List.take_add_one, h]; rfl
/-- Where a text begins with a number: the first byte without its top bit is the number's last. -/
theorem num_at {l r : List UInt8} {n : Int} (hn : I64 n) (h : l = numB n ++ r) : ∃ k c, k ≤ 9 ∧ l.length ≥ k + 1 ∧ l[k]? = some c ∧ c.toNat < 128 ∧ Cont l k ∧ (k = 0 ∨ c.toNat ≠ 0) ∧ numB n = l.take (k + 1) ∧ val (l.take (k + 1)) = zig n := by
  obtain ⟨k, c, h1, h2, h3, h4, h5⟩ := can_last (can_num n)
  have h6 := num_len hn
  have ht : numB n = l.take (k + 1) := by rw [h, List.take_append, h1, List.take_of_length_le (by omega)]; simp
  have hg : ∀ j, j < k + 1 → l[j]? = (numB n)[j]? := fun j hj => by rw [h, List.getElem?_append_left (by omega)]
  refine ⟨k, c, by omega, ?_, ?_, h3, fun j hj => ?_, ?_, ht, ?_⟩
  · rw [h, List.length_append]; omega
  · rw [hg k (by omega), h2]
  · rw [hg j (by omega)]; exact h4 j hj
  · rcases h5 with h5 | h5
    · exact .inl h5.2
    · exact .inr h5
  · rw [← ht, numB, val_leb]
theorem cont_le {l : List UInt8} {i k : Nat} {c : UInt8} (h : Cont l i) (hk : l[k]? = some c) (hc : c.toNat < 128) : i ≤ k := by
  rcases Nat.lt_or_ge k i with h1 | h1
  · obtain ⟨d, h2, h3⟩ := h k h1
    rw [hk] at h2; injection h2 with h2; subst h2; omega
  · exact h1
theorem tn_end {l : List UInt8} {i : Nat} (h : Cont l i) (hi : i = 10 ∨ l.length ≤ i) : TN l none := fun n r hn hl => by
  obtain ⟨k, c, h1, h2, h3, h4, h5, h6, h7, h8⟩ := num_at hn hl
  have := cont_le h h3 h4
  omega
theorem tn_zero {l : List UInt8} {i : Nat} {c : UInt8} (h : Cont l i) (hi : 0 < i) (hc : l[i]? = some c) (h0 : c.toNat = 0) : TN l none := fun n r hn hl => by
  obtain ⟨k, d, h1, h2, h3, h4, h5, h6, h7, h8⟩ := num_at hn hl
  have e1 := cont_le h h3 h4
  have e2 := cont_le h5 hc (by omega)
  have : k = i := by omega
  subst this
  rw [h3] at hc; injection hc with hc; subst hc
  omega
theorem tn_big {l : List UInt8} {c : UInt8} (h : Cont l 9) (hc : l[9]? = some c) (h0 : 1 < c.toNat) : TN l none := fun n r hn hl => by
  obtain ⟨k, d, h1, h2, h3, h4, h5, h6, h7, h8⟩ := num_at hn hl
  have e1 := cont_le h h3 h4
  have : k = 9 := by omega
  subst this
  rw [h3] at hc; injection hc with hc; subst hc
  rw [take_succ_get h3, val_append, val_one, List.length_take, show min 9 l.length = 9 from by omega] at h8
  have := zig_lt hn
  have e3 : d.toNat % 128 = d.toNat := by omega
  rw [e3] at h8
  have : 128 ^ 9 * 2 ≤ 128 ^ 9 * d.toNat := Nat.mul_le_mul_left _ (by omega)
  omega
theorem can_of {l : List UInt8} {i : Nat} {c : UInt8} : ∀ {f : Bool}, Cont l i → l[i]? = some c → c.toNat < 128 → (f = true ∧ i = 0 ∨ c.toNat ≠ 0) → Can f (l.take (i + 1)) := by
  induction i generalizing l with
  | zero =>
    intro f h hc hb h0
    cases l with
    | nil => simp at hc
    | cons d r =>
      simp at hc; subst hc
      exact ⟨hb, by rcases h0 with h0 | h0 <;> simp [h0]⟩
  | succ i ih =>
    intro f h hc hb h0
    cases l with
    | nil => simp at hc
    | cons d r =>
      obtain ⟨d', e1, e2⟩ := h 0 (by omega)
      simp at e1; subst e1
      have h0' : c.toNat ≠ 0 := by
        rcases h0 with h0 | h0
        · omega
        · exact h0
      have := ih (l := r) (f := false) (fun j hj => by simpa using h (j + 1) (by omega)) (by simpa using hc) hb (.inr h0')
      cases r with
      | nil => simp at hc
      | cons d2 r2 => exact ⟨e2, this⟩
theorem tn_some {l : List UInt8} {i : Nat} {c : UInt8} (h : Cont l i) (hc : l[i]? = some c) (hb : c.toNat < 128) (h0 : i = 0 ∨ c.toNat ≠ 0) (hv : val (l.take (i + 1)) < 2 ^ 64) :
    TN l (some (zag (val (l.take (i + 1))), l.drop (i + 1))) := by
  have h1 : Can true (l.take (i + 1)) := can_of h hc hb (by rcases h0 with h0 | h0 <;> simp [h0])
  refine ⟨zag_i64 hv, ?_⟩
  rw [numB, zig_zag, leb_val h1, List.take_append_drop]
theorem val_next {l : List UInt8} {i : Nat} {c : UInt8} (hc : l[i]? = some c) : val (l.take (i + 1)) = val (l.take i) + c.toNat % 128 * 128 ^ i := by
  have hi := (List.getElem?_eq_some_iff.1 hc).1
  rw [take_succ_get hc, val_append, val_one, List.length_take, show min i l.length = i from by omega, Nat.mul_comm]
theorem val_take_lt (l : List UInt8) (i : Nat) : val (l.take i) < 128 ^ i :=
  Nat.lt_of_lt_of_le (val_lt _) (Nat.pow_le_pow_right (by decide) (by rw [List.length_take]; omega))
/-- As the document reads: what has these bytes, or nothing. -/
theorem tn_ref {l : List UInt8} {i : Nat} {c : UInt8} (h : Cont l i) (hc : l[i]? = some c) (hb : c.toNat < 128) (hi : i < 10) :
    TN l (if numB (zag (val (l.take (i + 1)) % 2 ^ 64)) = l.take (i + 1) then some (zag (val (l.take (i + 1)) % 2 ^ 64), l.drop (i + 1)) else none) := by
  split
  · rename_i e
    exact ⟨zag_i64 (Nat.mod_lt _ (by decide)), by rw [e, List.take_append_drop]⟩
  · rename_i e
    intro n r hn hl
    obtain ⟨k, d, h1, h2, h3, h4, h5, h6, h7, h8⟩ := num_at hn hl
    have e1 := cont_le h h3 h4
    have e2 := cont_le h5 hc hb
    have : k = i := by omega
    subst this
    apply e
    rw [h8, Nat.mod_eq_of_lt (zig_lt hn), zag_zig, h7]

theorem xor_i64 {a b : Int} (ha : 0 ≤ a ∧ a < 2 ^ 63) (hb : b = 0 ∨ b = 1) : bitop .xor .i64 a (-b) = if b = 0 then a else -a - 1 := by
  obtain ⟨m, rfl⟩ := Int.eq_ofNat_of_zero_le ha.1
  have hm : (BitVec.ofInt IntKind.i64.bits (m : Int)).toNat = m := ofInt_nat 64 m (by omega)
  simp only [bitop, BitVec.toNat_xor, hm]
  rcases hb with rfl | rfl
  · rw [if_pos rfl, show (BitVec.ofInt IntKind.i64.bits (-0)).toNat = 0 from by decide, Nat.xor_zero]
    have h : (m : Int) ≤ 9223372036854775807 := by omega
    simp only [IntKind.wrap]
    have e : (m : Int) % 2 ^ IntKind.i64.bits = m := by show (m : Int) % 2 ^ 64 = m; omega
    simp [IntKind.signed, e]
    simp only [show IntKind.i64.bits = 64 from rfl]
    intro; omega
  · rw [if_neg (by decide), show (BitVec.ofInt IntKind.i64.bits (-1)).toNat = 2 ^ 64 - 1 from by decide, xor_ones 64 _ (by omega)]
    have e : ((2 ^ 64 - 1 - m : Nat) : Int) % 2 ^ IntKind.i64.bits = ((2 ^ 64 - 1 - m : Nat) : Int) := by show ((2 ^ 64 - 1 - m : Nat) : Int) % 2 ^ 64 = _; omega
    simp only [IntKind.wrap, e]
    simp only [show IntKind.i64.bits = 64 from rfl, show IntKind.i64.signed = true from rfl, Bool.true_and, decide_eq_true_eq]
    split <;> omega
end Go.Proofs.Ytgebdehpoalfbaa.B

set_option linter.unusedVariables false
set_option linter.unusedSimpArgs false
set_option maxRecDepth 8000
/-! Texts and sums, in plain words. -/
namespace Go.Proofs.Ytgebdehpoalfbaa.B
open Go

def textB (s : List UInt8) : List UInt8 := numB s.length ++ s
noncomputable def takeText (l : List UInt8) : Option (List UInt8 × List UInt8) :=
  match takeNum l with
  | none => none
  | some (n, r) => if n < 0 ∨ (4000 < n ∨ (r.length : Int) < n) then none else some (r.take n.toNat, r.drop n.toNat)
theorem takeNum_some {l r : List UInt8} {n : Int} (h : takeNum l = some (n, r)) : I64 n ∧ l = numB n ++ r := by
  have := takeNum_TN l
  rwa [h] at this
theorem takeText_some {l x r : List UInt8} (h : takeText l = some (x, r)) : l = textB x ++ r ∧ x.length ≤ 4000 := by
  unfold takeText at h
  split at h
  · cases h
  · rename_i n r' e
    obtain ⟨h1, h2⟩ := takeNum_some e
    split at h
    · cases h
    · rename_i h3
      simp only [Option.some.injEq, Prod.mk.injEq] at h
      obtain ⟨rfl, rfl⟩ := h
      have hl : (r'.take n.toNat).length = n.toNat := by rw [List.length_take]; omega
      refine ⟨?_, by omega⟩
      rw [textB, hl, Int.toNat_of_nonneg (by omega), List.append_assoc, List.take_append_drop, h2]
theorem takeText_text {x : List UInt8} (h : x.length ≤ 4000) (r : List UInt8) : takeText (textB x ++ r) = some (x, r) := by
  unfold takeText
  rw [textB, List.append_assoc, takeNum_num (by unfold I64; omega)]
  simp only
  rw [if_neg (by rw [List.length_append]; omega)]
  simp

def crcBit (x : Nat) : Nat := if x % 2 = 1 then (x / 2) ^^^ 3988292384 else x / 2
def crcBits : Nat → Nat → Nat
  | 0, x => x
  | n + 1, x => crcBits n (crcBit x)
def crcByte (x : Nat) (c : UInt8) : Nat := crcBits 8 (x ^^^ c.toNat)
def crc (l : List UInt8) : Nat := l.foldl crcByte 4294967295 ^^^ 4294967295
def four (x : Nat) : List UInt8 := [UInt8.ofNat (x / 16777216), UInt8.ofNat (x / 65536), UInt8.ofNat (x / 256), UInt8.ofNat x]
theorem crcBit_lt {x : Nat} (h : x < 2 ^ 32) : crcBit x < 2 ^ 32 := by
  unfold crcBit
  split
  · exact Nat.xor_lt_two_pow (by omega) (by decide)
  · omega
theorem crcBits_lt : ∀ (n : Nat) {x : Nat}, x < 2 ^ 32 → crcBits n x < 2 ^ 32
  | 0, _, h => h
  | n + 1, _, h => crcBits_lt n (crcBit_lt h)
theorem crcBits_succ : ∀ (n x : Nat), crcBits (n + 1) x = crcBit (crcBits n x)
  | 0, x => rfl
  | n + 1, x => by rw [crcBits, crcBits_succ n (crcBit x)]; rfl
theorem crcByte_lt {x : Nat} (h : x < 2 ^ 32) (c : UInt8) : crcByte x c < 2 ^ 32 :=
  crcBits_lt 8 (Nat.xor_lt_two_pow h (Nat.lt_trans c.toNat_lt (by decide)))
theorem foldl_lt : ∀ (l : List UInt8) {x : Nat}, x < 2 ^ 32 → l.foldl crcByte x < 2 ^ 32
  | [], _, h => h
  | c :: l, _, h => foldl_lt l (crcByte_lt h c)
theorem crc_lt (l : List UInt8) : crc l < 2 ^ 32 := Nat.xor_lt_two_pow (foldl_lt l (by decide)) (by decide)
theorem fold_next {l : List UInt8} {i x : Nat} {c : UInt8} (hc : l[i]? = some c) : (l.take (i + 1)).foldl crcByte x = crcByte ((l.take i).foldl crcByte x) c := by
  rw [take_succ_get hc, List.foldl_append]; rfl

theorem bit_code {x : Nat} (h : x < 2 ^ 32) : bitop .xor .u32 ((x : Int).fdiv (2 ^ 1)) (bitop .and .u32 3988292384 (IntKind.u32.wrap (0 - bitop .and .u32 (x : Int) 1))) = (crcBit x : Int) := by
  have e1 : bitop .and .u32 (x : Int) 1 = ((x % 2 : Nat) : Int) := by
    rw [show (1 : Int) = ((1 : Nat) : Int) from rfl, bit_and rfl (by exact h) (by decide), Nat.and_one_is_mod]
  have e2 : (x : Int).fdiv (2 ^ 1) = ((x / 2 : Nat) : Int) := by rw [Int.fdiv_eq_ediv_of_nonneg _ (by decide)]; omega
  rw [e1, e2]
  rcases Nat.mod_two_eq_zero_or_one x with h0 | h0
  · rw [h0, show IntKind.u32.wrap (0 - ((0 : Nat) : Int)) = ((0 : Nat) : Int) from rfl, show (3988292384 : Int) = ((3988292384 : Nat) : Int) from rfl, bit_and rfl (by decide) (by decide), Nat.and_zero,
      bit_xor rfl (by show _ < 2 ^ 32; omega) (by decide), Nat.xor_zero, crcBit, if_neg (by omega)]
  · rw [h0, show IntKind.u32.wrap (0 - ((1 : Nat) : Int)) = ((4294967295 : Nat) : Int) from by decide, show (3988292384 : Int) = ((3988292384 : Nat) : Int) from rfl, bit_and rfl (by decide) (by decide),
      show (3988292384 &&& 4294967295 : Nat) = 3988292384 from by decide, bit_xor rfl (by show _ < 2 ^ 32; omega) (by decide), crcBit, if_pos h0]
theorem first_code {x : Nat} (h : x < 2 ^ 32) (c : UInt8) : bitop .xor .u32 (x : Int) (IntKind.u32.wrap (c.toNat : Int)) = ((x ^^^ c.toNat : Nat) : Int) := by
  have hc : c.toNat < 2 ^ 32 := Nat.lt_trans c.toNat_lt (by decide)
  rw [wrapU rfl (by exact hc), bit_xor rfl (by exact h) (by exact hc)]
def openT (l : List UInt8) (o : Option (List UInt8 × List UInt8)) : Int × List UInt8 × List UInt8 :=
  match o with
  | none => (2, [], [])
  | some (x, r) => if r.length < 4 then (2, [], []) else if r.take 4 = four (crc x) then (0, x, r.drop 4) else (3, [], [])
def sealB (s : List UInt8) : List UInt8 := textB s ++ four (crc s)
/-- What is sealed, and what stands behind. -/
noncomputable def openB (l : List UInt8) : Int × List UInt8 × List UInt8 := openT l (takeText l)
theorem four_len (x : Nat) : (four x).length = 4 := rfl
theorem openB_seal {s : List UInt8} (h : s.length ≤ 4000) (r : List UInt8) : openB (sealB s ++ r) = (0, s, r) := by
  rw [openB, sealB, List.append_assoc, takeText_text h]
  simp only [openT]
  rw [if_neg (by rw [List.length_append, four_len]; omega), List.take_left' (four_len _), if_pos rfl, List.drop_left' (four_len _)]
theorem openB_ok {l x r : List UInt8} (h : openB l = (0, x, r)) : l = sealB x ++ r ∧ x.length ≤ 4000 := by
  unfold openB openT at h
  split at h
  · simp at h
  · rename_i x' r' e
    split at h
    · simp at h
    · split at h
      · rename_i h2
        simp only [Prod.mk.injEq, true_and] at h
        obtain ⟨rfl, rfl⟩ := h
        obtain ⟨h3, h4⟩ := takeText_some e
        refine ⟨?_, h4⟩
        rw [h3, sealB, List.append_assoc, ← h2, List.take_append_drop]
      · simp at h
end Go.Proofs.Ytgebdehpoalfbaa.B

set_option linter.unusedVariables false
set_option linter.unusedSimpArgs false
set_option maxRecDepth 8000
/-! Logs, in plain words. -/
namespace Go.Proofs.Ytgebdehpoalfbaa.B
open Go

structure Ent where
  n : Int
  s : ByteArray
  deriving DecidableEq
def entE : EncK Ent := ⟨fun x => [.int .i64 x.n, .string x.s], 2, fun _ => rfl, by decide, fun _ u hu => by simp only [List.mem_cons, List.not_mem_nil, or_false] at hu; rcases hu with rfl | rfl <;> rfl⟩
def entsOk : Nat → List Ent → Bool
  | _, [] => true
  | k, x :: r => decide (x.n = (k : Int) + 1 ∧ x.s.size ≤ 600) && entsOk (k + 1) r
def logOk (e : Int) (xs : List Ent) : Bool := decide (0 ≤ e ∧ e ≤ 9007199254740991 ∧ xs.length ≤ 300) && entsOk 0 xs
def partB (n : Int) (s : List UInt8) : List UInt8 := if 4000 < (numB n ++ s).length then [] else sealB (numB n ++ s)
def entB (xs : List Ent) : List UInt8 := xs.flatMap fun x => partB x.n (bs x.s)
def logB (e : Int) (xs : List Ent) : List UInt8 := partB e [] ++ entB xs

theorem entsOk_get : ∀ {xs : List Ent} {k i : Nat} {x : Ent}, entsOk k xs = true → xs[i]? = some x → x.n = (k : Int) + i + 1 ∧ x.s.size ≤ 600
  | [], _, _, _, _, h => by simp at h
  | y :: r, k, 0, x, h, hx => by
    simp at hx; subst hx
    simp only [entsOk, Bool.and_eq_true, decide_eq_true_eq] at h
    exact ⟨by omega, h.1.2⟩
  | y :: r, k, i + 1, x, h, hx => by
    simp only [entsOk, Bool.and_eq_true, decide_eq_true_eq] at h
    have := entsOk_get (i := i) h.2 (by simpa using hx)
    exact ⟨by omega, this.2⟩
theorem entsOk_drop {xs : List Ent} {i k : Nat} {x : Ent} (hx : xs[i]? = some x) : entsOk k (xs.drop i) = (decide (x.n = (k : Int) + 1 ∧ x.s.size ≤ 600) && entsOk (k + 1) (xs.drop (i + 1))) := by
  obtain ⟨hi, e⟩ := List.getElem?_eq_some_iff.1 hx
  rw [List.drop_eq_getElem_cons hi, e]; rfl
theorem entB_next {xs : List Ent} {i : Nat} {x : Ent} (hx : xs[i]? = some x) : entB (xs.take (i + 1)) = entB (xs.take i) ++ partB x.n (bs x.s) := by
  rw [List.take_add_one, hx, entB, List.flatMap_append]; simp [entB]
theorem sealB_len {s : List UInt8} (h : s.length ≤ 4000) : (sealB s).length ≤ s.length + 14 ∧ s.length + 5 ≤ (sealB s).length := by
  have h1 := num_len (n := s.length) (by unfold I64; omega)
  have h2 := num_pos (s.length : Int)
  rw [sealB, textB, List.length_append, List.length_append, four_len]
  omega
theorem partB_len (n : Int) (hn : I64 n) (s : List UInt8) : (partB n s).length ≤ 4014 := by
  unfold partB
  split
  · simp
  · have := sealB_len (s := numB n ++ s) (by omega)
    omega
theorem entB_len {xs : List Ent} (h : entsOk 0 xs = true) (hl : xs.length ≤ 300) : ∀ i, (entB (xs.take i)).length ≤ i * 4014 := by
  intro i
  induction i with
  | zero => simp [entB]
  | succ i ih =>
    cases hx : xs[i]? with
    | none =>
      have : xs.take (i + 1) = xs.take i := by rw [List.take_add_one, hx]; simp
      rw [this]; exact Nat.le_trans ih (Nat.mul_le_mul_right _ (Nat.le_succ i))
    | some x =>
      rw [entB_next hx, List.length_append]
      have h1 := entsOk_get h hx
      have hi := (List.getElem?_eq_some_iff.1 hx).1
      have h2 : I64 x.n := by unfold I64; have := h1.1; constructor <;> omega
      have h3 := partB_len x.n h2 (bs x.s)
      rw [Nat.succ_mul]
      exact Nat.add_le_add ih h3

theorem entB_len2 {xs : List Ent} (h : entsOk 0 xs = true) (hl : xs.length ≤ 300) (i : Nat) (hi : i ≤ 300) : (entB (xs.take i)).length ≤ 1204200 := Nat.le_trans (entB_len h hl i) (Nat.mul_le_mul_right 4014 hi)
/-! What is read. -/
noncomputable def openP (l : List UInt8) : Option (Int × List UInt8 × List UInt8) :=
  match openB l with
  | (e, x, r) => if e = 0 then (match takeNum x with | some (n, x') => some (n, x', r) | none => none) else none
noncomputable def takeEnt (k : Nat) (l : List UInt8) : Option (Ent × List UInt8) :=
  match openP l with
  | some (n, s, r) => if n = (k : Int) + 1 ∧ s.length ≤ 600 then some (⟨n, mk s⟩, r) else none
  | none => none
noncomputable def ents : Nat → Nat → List UInt8 → List Ent × List UInt8
  | 0, _, l => ([], l)
  | f + 1, k, l => match takeEnt k l with
    | some (x, r) => (x :: (ents f (k + 1) r).1, (ents f (k + 1) r).2)
    | none => ([], l)
/-- the number, the entries, what is left -/
noncomputable def parseP (l : List UInt8) : Option (Int × List Ent × List UInt8) :=
  match openP l with
  | some (n, s, r) => if s = [] ∧ 0 ≤ n ∧ n ≤ 9007199254740991 then some (n, (ents 300 0 r).1, (ents 300 0 r).2) else none
  | none => none

theorem openP_part {n : Int} (hn : I64 n) {s : List UInt8} (h : (numB n ++ s).length ≤ 4000) (r : List UInt8) : openP (partB n s ++ r) = some (n, s, r) := by
  unfold openP partB
  rw [if_neg (by omega), openB_seal h]
  simp only [if_true]
  rw [takeNum_num hn]
theorem openP_some {l x r : List UInt8} {n : Int} (h : openP l = some (n, x, r)) : I64 n ∧ l = partB n x ++ r ∧ (numB n ++ x).length ≤ 4000 := by
  unfold openP at h
  split at h
  rename_i e y r' he
  split at h
  · rename_i e0
    subst e0
    split at h
    · rename_i n' x' hT
      simp only [Option.some.injEq, Prod.mk.injEq] at h
      obtain ⟨rfl, rfl, rfl⟩ := h
      obtain ⟨h1, h2⟩ := takeNum_some hT
      obtain ⟨h3, h4⟩ := openB_ok he
      subst h2
      exact ⟨h1, by rw [h3, partB, if_neg (by omega)], h4⟩
    · cases h
  · cases h
theorem openP_nil : openP [] = none := by
  cases h : openP [] with
  | none => rfl
  | some p =>
    obtain ⟨n, x, r⟩ := p
    obtain ⟨h1, h2, h3⟩ := openP_some h
    have h4 := congrArg List.length h2
    have h5 := sealB_len h3
    rw [List.length_append, partB, if_neg (by omega)] at h4
    simp only [List.length_nil] at h4
    omega
theorem takeEnt_nil (k : Nat) : takeEnt k [] = none := by rw [takeEnt, openP_nil]
theorem openP_len {l x r : List UInt8} {n : Int} (h : openP l = some (n, x, r)) : r.length < l.length ∧ x.length ≤ 4000 := by
  obtain ⟨h1, h2, h3⟩ := openP_some h
  have h4 := congrArg List.length h2
  have h5 := sealB_len h3
  rw [List.length_append, partB, if_neg (by omega)] at h4
  rw [List.length_append] at h3
  omega
theorem takeEnt_len {k : Nat} {l r : List UInt8} {x : Ent} (h : takeEnt k l = some (x, r)) : r.length ≤ l.length := by
  unfold takeEnt at h
  split at h
  · rename_i n s r' ho
    split at h
    · simp only [Option.some.injEq, Prod.mk.injEq] at h
      obtain ⟨_, rfl⟩ := h
      have := openP_len ho; omega
    · cases h
  · cases h
theorem ents_len : ∀ (f k : Nat) (l : List UInt8), (ents f k l).1.length ≤ f ∧ (ents f k l).2.length ≤ l.length
  | 0, k, l => by simp [ents]
  | f + 1, k, l => by
    unfold ents
    split
    · rename_i x r h
      have ih := ents_len f (k + 1) r
      have h2 : r.length ≤ l.length := by
        unfold takeEnt at h
        split at h
        · rename_i n s r' ho
          split at h
          · simp only [Option.some.injEq, Prod.mk.injEq] at h
            obtain ⟨_, rfl⟩ := h
            have := openP_len ho; omega
          · cases h
        · cases h
      exact ⟨by simp; omega, by simp only; omega⟩
    · simp
theorem takeEnt_part {k : Nat} {x : Ent} (hn : x.n = (k : Int) + 1) (hk : k ≤ 300) (hs : x.s.size ≤ 600) (r : List UInt8) : takeEnt k (partB x.n (bs x.s) ++ r) = some (x, r) := by
  have h1 := num_len (n := x.n) (by unfold I64; omega)
  have h2 := bs_len x.s
  rw [takeEnt, openP_part (by unfold I64; omega) (by rw [List.length_append]; omega)]
  simp only
  rw [if_pos ⟨hn, by omega⟩]
/-- What was written is read, and what stands behind. -/
theorem ents_entB : ∀ (xs : List Ent) (f k : Nat) (r : List UInt8), entsOk k xs = true → xs.length ≤ f → k + xs.length ≤ 300 → takeEnt (k + xs.length) r = none → ents f k (entB xs ++ r) = (xs, r)
  | [], f, k, r, _, _, _, hr => by
    cases f with
    | zero => rfl
    | succ f =>
      simp only [List.length_nil, Nat.add_zero] at hr
      show ents (f + 1) k r = _
      rw [ents, hr]
  | x :: xs, f, k, r, h, hf, hk, hr => by
    cases f with
    | zero => simp at hf
    | succ f =>
      simp only [entsOk, Bool.and_eq_true, decide_eq_true_eq] at h
      simp only [List.length_cons] at hf hk hr
      have e : entB (x :: xs) ++ r = partB x.n (bs x.s) ++ (entB xs ++ r) := by simp [entB, List.append_assoc]
      rw [e, ents, takeEnt_part h.1.1 (by omega) h.1.2]
      simp only
      rw [ents_entB xs f (k + 1) r h.2 (by omega) (by omega) (by rw [show k + 1 + xs.length = k + (xs.length + 1) from by omega]; exact hr)]
theorem logOk_iff {e : Int} {xs : List Ent} : logOk e xs = true ↔ (0 ≤ e ∧ e ≤ 9007199254740991 ∧ xs.length ≤ 300) ∧ entsOk 0 xs = true := by
  simp [logOk]
theorem parseP_log {e : Int} {xs : List Ent} (h : logOk e xs = true) (r : List UInt8) (hr : xs.length = 300 ∨ takeEnt xs.length r = none) : parseP (logB e xs ++ r) = some (e, xs, r) := by
  obtain ⟨⟨h1, h2, h3⟩, h4⟩ := logOk_iff.1 h
  have hn := num_len (n := e) (by unfold I64; omega)
  unfold parseP
  rw [logB, List.append_assoc, openP_part (by unfold I64; omega) (by simp; omega)]
  simp only
  rw [if_pos ⟨trivial, h1, h2⟩]
  rcases hr with hr | hr
  · have key : ∀ (xs : List Ent) (f k : Nat) (r : List UInt8), entsOk k xs = true → xs.length = f → k + xs.length ≤ 300 → ents f k (entB xs ++ r) = (xs, r) := by
      intro xs
      induction xs with
      | nil => intro f k r _ hf _; simp at hf; subst hf; rfl
      | cons x xs ih =>
        intro f k r h hf hk
        cases f with
        | zero => simp at hf
        | succ f =>
          simp only [entsOk, Bool.and_eq_true, decide_eq_true_eq] at h
          simp only [List.length_cons, Nat.add_right_cancel_iff] at hf hk
          have e : entB (x :: xs) ++ r = partB x.n (bs x.s) ++ (entB xs ++ r) := by simp [entB, List.append_assoc]
          rw [e, ents, takeEnt_part h.1.1 (by omega) h.1.2]
          simp only
          rw [ih f (k + 1) r h.2 hf (by omega)]
    rw [key xs 300 0 r h4 hr (by omega)]
  · rw [ents_entB xs 300 0 r h4 h3 (by omega) (by rw [Nat.zero_add]; exact hr)]
theorem entsOk_snoc : ∀ (xs : List Ent) (k : Nat) (x : Ent), entsOk k (xs ++ [x]) = (entsOk k xs && decide (x.n = ((k + xs.length : Nat) : Int) + 1 ∧ x.s.size ≤ 600))
  | [], k, x => by simp [entsOk]
  | y :: ys, k, x => by
    simp only [List.cons_append, entsOk, entsOk_snoc ys (k + 1) x, List.length_cons, Bool.and_assoc]
    rw [show k + 1 + ys.length = k + (ys.length + 1) from by omega]
end Go.Proofs.Ytgebdehpoalfbaa.B

set_option linter.unusedVariables false
set_option linter.unusedSimpArgs false
set_option maxRecDepth 8000
/-! The rows' opening and closing. -/
namespace Go.Proofs.Ytgebdehpoalfbaa.B
open Go Go.Proofs Go.ChangeShapes Go.WideShapes Go.ChangeAt Go.RowKit

section
variable {H : Type} {enc : TypeId × Value → H} {P : Program} {W W' : World}
theorem trodAll_below (hl : laidOutB P = true) (hb : Below W.heap.size W W') : ∀ {ts : List TypeId} {vs : List Value} {ds : List (DataW H)} {ps : List MemPlace}, (∀ t ∈ ts, P.readableRec t = true ∧ t < P.types.size) →
    DataW.TrodAll enc P W 0 (fun _ => true) true ts vs ds ps → (∀ x ∈ ps, x.block < W.heap.size) → DataW.TrodAll enc P W' 0 (fun b => decide (b < W.heap.size)) true ts vs ds ps
  | [], [], [], _, _, h, _ => h
  | _ :: _, _ :: _, _ :: _, _, ht, ⟨p, q, h1, h2, e⟩, hlt => by
    subst e
    have h3 := ht _ (List.mem_cons_self ..)
    exact ⟨p, q, Below.trod hl h3.1 h3.2 h1 hb (fun x hx => hlt x (List.mem_append_left _ hx)), trodAll_below hl hb (fun t h => ht t (List.mem_cons_of_mem _ h)) h2 (fun x hx => hlt x (List.mem_append_right _ hx)), rfl⟩
/-- A law's post, of a walk that leaves the old blocks alone. -/
theorem law_post {f : Func} {s : ChangeSpec} {fresh handsOn : Bool} {args : Array Value} {ds gs : List (DataW H)} {before : List MemPlace} {v : Value}
    (hl : laidOutB P = true) (hvars : s.vars = []) (ht : f.params.toList.all (fun t => P.readableRec t && decide (t < P.types.size)) = true)
    (hW : DataW.Whole enc P f.params.toList s.vars false W args.toList ds gs before) (hb : Below W.heap.size W W')
    (hres : DataW.TrodAll enc P W' (match fresh with | true => W.heap.size | false => 0) (fun _ => false) handsOn f.resultTypes.toList (v.resultList f.resultTypes.size) (s.fn H ds).results [])
    (hargs : (s.fn H ds).args = ds) (hv2 : (s.fn H ds).vars = []) : s.post enc P f false fresh handsOn false W args v W' := by
  have hlt := hW.lt
  have hW' := hW
  obtain ⟨p, q, hA, hV, rfl, hfz, hnd⟩ := hW
  rw [hvars] at hV
  obtain ⟨rfl, rfl⟩ := trodVars_none hV
  refine ⟨ds, [], p ++ [], [], p, [], hW', ?_, ?_, ?_, ?_, fun h => (by cases h)⟩
  · rw [List.append_nil]; exact hres
  · rw [List.append_nil, hargs]
    refine trodAll_below hl hb (fun t h => ?_) hA (fun x hx => hlt x (List.mem_append_left _ hx))
    have := List.all_eq_true.1 ht t h
    simpa using this
  · rw [List.append_nil, hvars, hv2]; rfl
  · exact hb.frame _
end
theorem spot_none {w : World} {a : Addr} {v : Value} (h : w.cell? a = some v) : a.spot = none := by
  unfold World.cell? at h
  split at h
  · cases hs : a.spot with
    | none => rfl
    | some x => rw [hs] at h; simp at h
  · cases h
theorem wf_i64 {n : Int} (h : (Lit.int .i64 n).wf = true) : I64 n := by
  unfold I64
  simp only [Lit.wf, Bool.and_eq_true, decide_eq_true_eq] at h
  exact h
theorem Rd.old {α : Type} {E : EncK α} {W : World} {A : Option Addr} {xs : List α} (h : RdC W A (flat E xs)) : Rd W [B.old W W.heap.size] E A xs := fun w hs => by
  have hb := hs.oldBelow rfl
  rcases h with h | ⟨b, o, rfl, hc⟩
  · exact .inl h
  · refine .inr ⟨b, o, rfl, fun j u hj => ?_⟩
    have h1 := hc j u hj
    have hlt := World.block_lt_of_cell? W ⟨b, o + j, none⟩ (u := u) h1
    rw [World.cell?_of_block (w := W) (hb.block b hlt)]
    exact h1
/-- A walk from the beginning, for a row. -/
theorem Fn.row {P : Program} {K : Nat} {vs : List Value} {W : World} {u : Value} (h : Fn P K vs W [B.old W W.heap.size] (Ret fun v G' => v = u ∧ G' = [B.old W W.heap.size])) :
    Calls P K vs.toArray W fun e w' => e = .returned u ∧ Below W.heap.size W w' := by
  refine (h W (Sat.start W)).mono ?_
  rintro e w' ⟨G', hR, hs⟩
  cases e with
  | returned v => obtain ⟨rfl, rfl⟩ := hR; exact ⟨rfl, hs.oldBelow rfl⟩
  | panicked ch => exact hR.elim
  | outgrown => exact hR.elim

theorem prog_own : ownKnob Try.prog.godebug = none := by kernel_rfl
theorem prog_laid : laidOutB Try.prog = true := by kernel_rfl
end Go.Proofs.Ytgebdehpoalfbaa.B
