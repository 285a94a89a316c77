import Derived.Test.YtpklbelejebcfaaGreatWm
set_option linter.unusedVariables false
set_option linter.unusedSimpArgs false
/-! Numbers are read from a text's beginning. -/
namespace Go.Proofs.YtpklbelejebcfaaGreat.B
open Go

def Cont (l : List UInt8) (i : Nat) : Prop := ∀ j < i, ∃ d, l[j]? = some d ∧ 128 ≤ d.toNat
theorem Cont.zero (l : List UInt8) : Cont l 0 := fun j h => absurd h (by omega)
theorem Cont.succ {l : List UInt8} {i : Nat} {c : UInt8} (h : Cont l i) (hc : l[i]? = some c) (hb : 128 ≤ c.toNat) : Cont l (i + 1) := fun j hj => by
  rcases Nat.lt_or_ge j i with h1 | h1
  · exact h j h1
  · have : j = i := by omega
    subst this; exact ⟨c, hc, hb⟩
/-- The last byte of a number's bytes. -/
theorem can_last : ∀ {a : List UInt8} {f : Bool}, Can f a → ∃ k c, a.length = k + 1 ∧ a[k]? = some c ∧ c.toNat < 128 ∧ Cont a k ∧ (f = true ∧ k = 0 ∨ c.toNat ≠ 0)
  | [], _, h => h.elim
  | [c], f, h => ⟨0, c, rfl, rfl, h.1, Cont.zero _, by rcases h.2 with h | h <;> simp [h]⟩
  | c :: d :: r, f, h => by
    obtain ⟨k, e, h1, h2, h3, h4, h5⟩ := can_last h.2
    refine ⟨k + 1, e, by simp at h1 ⊢; omega, by simpa using h2, h3, fun j hj => ?_, ?_⟩
    · cases j with
      | zero => exact ⟨c, rfl, h.1⟩
      | succ j => exact h4 j (by omega)
    · rcases h5 with ⟨h5, _⟩ | h5
      · cases h5
      · exact .inr h5
theorem val_append : ∀ (a b : List UInt8), val (a ++ b) = val a + 128 ^ a.length * val b
  | [], b => by simp [val]
  | c :: a, b => by
    simp only [List.cons_append, val, val_append a b, List.length_cons, Nat.pow_succ, Nat.mul_add]
    rw [Nat.mul_comm (128 ^ a.length) 128, Nat.mul_assoc, Nat.add_assoc]
theorem val_lt : ∀ (a : List UInt8), val a < 128 ^ a.length
  | [] => by simp [val]
  | c :: a => by
    have := val_lt a
    simp only [val, List.length_cons, Nat.pow_succ]
    omega
theorem val_one (c : UInt8) : val [c] = c.toNat % 128 := by simp [val]
theorem take_succ_get {l : List UInt8} {i : Nat} {c : UInt8} (h : l[i]? = some c) : l.take (i + 1) = l.take i ++ [c] := by
  rw [List.take_add_one, h]; rfl
/-- Where a text begins with a number: the first byte without its top bit is the number's last. -/
theorem num_at {l r : List UInt8} {n : Int} (hn : I64 n) (h : l = numB n ++ r) : ∃ k c, k ≤ 9 ∧ l.length ≥ k + 1 ∧ l[k]? = some c ∧ c.toNat < 128 ∧ Cont l k ∧ (k = 0 ∨ c.toNat ≠ 0) ∧ numB n = l.take (k + 1) ∧ val (l.take (k + 1)) = zig n := by
  obtain ⟨k, c, h1, h2, h3, h4, h5⟩ := can_last (can_num n)
  have h6 := num_len hn
  have ht : numB n = l.take (k + 1) := by rw [h, List.take_append, h1, List.take_of_length_le (by omega)]; simp
  have hg : ∀ j, j < k + 1 → l[j]? = (numB n)[j]? := fun j hj => by rw [h, List.getElem?_append_left (by omega)]
  refine ⟨k, c, by omega, ?_, ?_, h3, fun j hj => ?_, ?_, ht, ?_⟩
  · rw [h, List.length_append]; omega
  · rw [hg k (by omega), h2]
  · rw [hg j (by omega)]; exact h4 j hj
  · rcases h5 with h5 | h5
    · exact .inl h5.2
    · exact .inr h5
  · rw [← ht, numB, val_leb]
theorem cont_le {l : List UInt8} {i k : Nat} {c : UInt8} (h : Cont l i) (hk : l[k]? = some c) (hc : c.toNat < 128) : i ≤ k := by
  rcases Nat.lt_or_ge k i with h1 | h1
  · obtain ⟨d, h2, h3⟩ := h k h1
    rw [hk] at h2; injection h2 with h2; subst h2; omega
  · exact h1
theorem tn_end {l : List UInt8} {i : Nat} (h : Cont l i) (hi : i = 10 ∨ l.length ≤ i) : TN l none := fun n r hn hl => by
  obtain ⟨k, c, h1, h2, h3, h4, h5, h6, h7, h8⟩ := num_at hn hl
  have := cont_le h h3 h4
  omega
theorem tn_zero {l : List UInt8} {i : Nat} {c : UInt8} (h : Cont l i) (hi : 0 < i) (hc : l[i]? = some c) (h0 : c.toNat = 0) : TN l none := fun n r hn hl => by
  obtain ⟨k, d, h1, h2, h3, h4, h5, h6, h7, h8⟩ := num_at hn hl
  have e1 := cont_le h h3 h4
  have e2 := cont_le h5 hc (by omega)
  have : k = i := by omega
  subst this
  rw [h3] at hc; injection hc with hc; subst hc
  omega
theorem tn_big {l : List UInt8} {c : UInt8} (h : Cont l 9) (hc : l[9]? = some c) (h0 : 1 < c.toNat) : TN l none := fun n r hn hl => by
  obtain ⟨k, d, h1, h2, h3, h4, h5, h6, h7, h8⟩ := num_at hn hl
  have e1 := cont_le h h3 h4
  have : k = 9 := by omega
  subst this
  rw [h3] at hc; injection hc with hc; subst hc
  rw [take_succ_get h3, val_append, val_one, List.length_take, show min 9 l.length = 9 from by omega] at h8
  have := zig_lt hn
  have e3 : d.toNat % 128 = d.toNat := by omega
  rw [e3] at h8
  have : 128 ^ 9 * 2 ≤ 128 ^ 9 * d.toNat := Nat.mul_le_mul_left _ (by omega)
  omega
theorem can_of {l : List UInt8} {i : Nat} {c : UInt8} : ∀ {f : Bool}, Cont l i → l[i]? = some c → c.toNat < 128 → (f = true ∧ i = 0 ∨ c.toNat ≠ 0) → Can f (l.take (i + 1)) := by
  induction i generalizing l with
  | zero =>
    intro f h hc hb h0
    cases l with
    | nil => simp at hc
    | cons d r =>
      simp at hc; subst hc
      exact ⟨hb, by rcases h0 with h0 | h0 <;> simp [h0]⟩
  | succ i ih =>
    intro f h hc hb h0
    cases l with
    | nil => simp at hc
    | cons d r =>
      obtain ⟨d', e1, e2⟩ := h 0 (by omega)
      simp at e1; subst e1
      have h0' : c.toNat ≠ 0 := by
        rcases h0 with h0 | h0
        · omega
        · exact h0
      have := ih (l := r) (f := false) (fun j hj => by simpa using h (j + 1) (by omega)) (by simpa using hc) hb (.inr h0')
      cases r with
      | nil => simp at hc
      | cons d2 r2 => exact ⟨e2, this⟩
theorem tn_some {l : List UInt8} {i : Nat} {c : UInt8} (h : Cont l i) (hc : l[i]? = some c) (hb : c.toNat < 128) (h0 : i = 0 ∨ c.toNat ≠ 0) (hv : val (l.take (i + 1)) < 2 ^ 64) :
    TN l (some (zag (val (l.take (i + 1))), l.drop (i + 1))) := by
  have h1 : Can true (l.take (i + 1)) := can_of h hc hb (by rcases h0 with h0 | h0 <;> simp [h0])
  refine ⟨zag_i64 hv, ?_⟩
  rw [numB, zig_zag, leb_val h1, List.take_append_drop]
theorem val_next {l : List UInt8} {i : Nat} {c : UInt8} (hc : l[i]? = some c) : val (l.take (i + 1)) = val (l.take i) + c.toNat % 128 * 128 ^ i := by
  have hi := (List.getElem?_eq_some_iff.1 hc).1
  rw [take_succ_get hc, val_append, val_one, List.length_take, show min i l.length = i from by omega, Nat.mul_comm]
theorem val_take_lt (l : List UInt8) (i : Nat) : val (l.take i) < 128 ^ i :=
  Nat.lt_of_lt_of_le (val_lt _) (Nat.pow_le_pow_right (by decide) (by rw [List.length_take]; omega))
/-- As the document reads: what has these bytes, or nothing. -/
theorem tn_ref {l : List UInt8} {i : Nat} {c : UInt8} (h : Cont l i) (hc : l[i]? = some c) (hb : c.toNat < 128) (hi : i < 10) :
    TN l (if numB (zag (val (l.take (i + 1)) % 2 ^ 64)) = l.take (i + 1) then some (zag (val (l.take (i + 1)) % 2 ^ 64), l.drop (i + 1)) else none) := by
  split
  · rename_i e
    exact ⟨zag_i64 (Nat.mod_lt _ (by decide)), by rw [e, List.take_append_drop]⟩
  · rename_i e
    intro n r hn hl
    obtain ⟨k, d, h1, h2, h3, h4, h5, h6, h7, h8⟩ := num_at hn hl
    have e1 := cont_le h h3 h4
    have e2 := cont_le h5 hc hb
    have : k = i := by omega
    subst this
    apply e
    rw [h8, Nat.mod_eq_of_lt (zig_lt hn), zag_zig, h7]

theorem xor_i64 {a b : Int} (ha : 0 ≤ a ∧ a < 2 ^ 63) (hb : b = 0 ∨ b = 1) : bitop .xor .i64 a (-b) = if b = 0 then a else -a - 1 := by
  obtain ⟨m, rfl⟩ := Int.eq_ofNat_of_zero_le ha.1
  have hm : (BitVec.ofInt IntKind.i64.bits (m : Int)).toNat = m := ofInt_nat 64 m (by omega)
  simp only [bitop, BitVec.toNat_xor, hm]
  rcases hb with rfl | rfl
  · rw [if_pos rfl, show (BitVec.ofInt IntKind.i64.bits (-0)).toNat = 0 from by decide, Nat.xor_zero]
    have h : (m : Int) ≤ 9223372036854775807 := by omega
    simp only [IntKind.wrap]
    have e : (m : Int) % 2 ^ IntKind.i64.bits = m := by show (m : Int) % 2 ^ 64 = m; omega
    simp [IntKind.signed, e]
    simp only [show IntKind.i64.bits = 64 from rfl]
    intro; omega
  · rw [if_neg (by decide), show (BitVec.ofInt IntKind.i64.bits (-1)).toNat = 2 ^ 64 - 1 from by decide, xor_ones 64 _ (by omega)]
    have e : ((2 ^ 64 - 1 - m : Nat) : Int) % 2 ^ IntKind.i64.bits = ((2 ^ 64 - 1 - m : Nat) : Int) := by show ((2 ^ 64 - 1 - m : Nat) : Int) % 2 ^ 64 = _; omega
    simp only [IntKind.wrap, e]
    simp only [show IntKind.i64.bits = 64 from rfl, show IntKind.i64.signed = true from rfl, Bool.true_and, decide_eq_true_eq]
    split <;> omega
end Go.Proofs.YtpklbelejebcfaaGreat.B
