import Derived.Test.YtpklbelejebcfaaGreatWn
set_option linter.unusedVariables false
set_option linter.unusedSimpArgs false
set_option maxRecDepth 8000
/-! Texts and sums, in plain words. -/
namespace Go.Proofs.YtpklbelejebcfaaGreat.B
open Go

def textB (s : List UInt8) : List UInt8 := numB s.length ++ s
noncomputable def takeText (l : List UInt8) : Option (List UInt8 × List UInt8) :=
  match takeNum l with
  | none => none
  | some (n, r) => if n < 0 ∨ (4000 < n ∨ (r.length : Int) < n) then none else some (r.take n.toNat, r.drop n.toNat)
theorem takeNum_some {l r : List UInt8} {n : Int} (h : takeNum l = some (n, r)) : I64 n ∧ l = numB n ++ r := by
  have := takeNum_TN l
  rwa [h] at this
theorem takeText_some {l x r : List UInt8} (h : takeText l = some (x, r)) : l = textB x ++ r ∧ x.length ≤ 4000 := by
  unfold takeText at h
  split at h
  · cases h
  · rename_i n r' e
    obtain ⟨h1, h2⟩ := takeNum_some e
    split at h
    · cases h
    · rename_i h3
      simp only [Option.some.injEq, Prod.mk.injEq] at h
      obtain ⟨rfl, rfl⟩ := h
      have hl : (r'.take n.toNat).length = n.toNat := by rw [List.length_take]; omega
      refine ⟨?_, by omega⟩
      rw [textB, hl, Int.toNat_of_nonneg (by omega), List.append_assoc, List.take_append_drop, h2]
theorem takeText_text {x : List UInt8} (h : x.length ≤ 4000) (r : List UInt8) : takeText (textB x ++ r) = some (x, r) := by
  unfold takeText
  rw [textB, List.append_assoc, takeNum_num (by unfold I64; omega)]
  simp only
  rw [if_neg (by rw [List.length_append]; omega)]
  simp

def crcBit (x : Nat) : Nat := if x % 2 = 1 then (x / 2) ^^^ 3988292384 else x / 2
def crcBits : Nat → Nat → Nat
  | 0, x => x
  | n + 1, x => crcBits n (crcBit x)
def crcByte (x : Nat) (c : UInt8) : Nat := crcBits 8 (x ^^^ c.toNat)
def crc (l : List UInt8) : Nat := l.foldl crcByte 4294967295 ^^^ 4294967295
def four (x : Nat) : List UInt8 := [UInt8.ofNat (x / 16777216), UInt8.ofNat (x / 65536), UInt8.ofNat (x / 256), UInt8.ofNat x]
theorem crcBit_lt {x : Nat} (h : x < 2 ^ 32) : crcBit x < 2 ^ 32 := by
  unfold crcBit
  split
  · exact Nat.xor_lt_two_pow (by omega) (by decide)
  · omega
theorem crcBits_lt : ∀ (n : Nat) {x : Nat}, x < 2 ^ 32 → crcBits n x < 2 ^ 32
  | 0, _, h => h
  | n + 1, _, h => crcBits_lt n (crcBit_lt h)
theorem crcBits_succ : ∀ (n x : Nat), crcBits (n + 1) x = crcBit (crcBits n x)
  | 0, x => rfl
  | n + 1, x => by rw [crcBits, crcBits_succ n (crcBit x)]; rfl
theorem crcByte_lt {x : Nat} (h : x < 2 ^ 32) (c : UInt8) : crcByte x c < 2 ^ 32 :=
  crcBits_lt 8 (Nat.xor_lt_two_pow h (Nat.lt_trans c.toNat_lt (by decide)))
theorem foldl_lt : ∀ (l : List UInt8) {x : Nat}, x < 2 ^ 32 → l.foldl crcByte x < 2 ^ 32
  | [], _, h => h
  | c :: l, _, h => foldl_lt l (crcByte_lt h c)
theorem crc_lt (l : List UInt8) : crc l < 2 ^ 32 := Nat.xor_lt_two_pow (foldl_lt l (by decide)) (by decide)
theorem fold_next {l : List UInt8} {i x : Nat} {c : UInt8} (hc : l[i]? = some c) : (l.take (i + 1)).foldl crcByte x = crcByte ((l.take i).foldl crcByte x) c := by
  rw [take_succ_get hc, List.foldl_append]; rfl

theorem bit_code {x : Nat} (h : x < 2 ^ 32) : bitop .xor .u32 ((x : Int).fdiv (2 ^ 1)) (bitop .and .u32 3988292384 (IntKind.u32.wrap (0 - bitop .and .u32 (x : Int) 1))) = (crcBit x : Int) := by
  have e1 : bitop .and .u32 (x : Int) 1 = ((x % 2 : Nat) : Int) := by
    rw [show (1 : Int) = ((1 : Nat) : Int) from rfl, bit_and rfl (by exact h) (by decide), Nat.and_one_is_mod]
  have e2 : (x : Int).fdiv (2 ^ 1) = ((x / 2 : Nat) : Int) := by rw [Int.fdiv_eq_ediv_of_nonneg _ (by decide)]; omega
  rw [e1, e2]
  rcases Nat.mod_two_eq_zero_or_one x with h0 | h0
  · rw [h0, show IntKind.u32.wrap (0 - ((0 : Nat) : Int)) = ((0 : Nat) : Int) from rfl, show (3988292384 : Int) = ((3988292384 : Nat) : Int) from rfl, bit_and rfl (by decide) (by decide), Nat.and_zero,
      bit_xor rfl (by show _ < 2 ^ 32; omega) (by decide), Nat.xor_zero, crcBit, if_neg (by omega)]
  · rw [h0, show IntKind.u32.wrap (0 - ((1 : Nat) : Int)) = ((4294967295 : Nat) : Int) from by decide, show (3988292384 : Int) = ((3988292384 : Nat) : Int) from rfl, bit_and rfl (by decide) (by decide),
      show (3988292384 &&& 4294967295 : Nat) = 3988292384 from by decide, bit_xor rfl (by show _ < 2 ^ 32; omega) (by decide), crcBit, if_pos h0]
theorem first_code {x : Nat} (h : x < 2 ^ 32) (c : UInt8) : bitop .xor .u32 (x : Int) (IntKind.u32.wrap (c.toNat : Int)) = ((x ^^^ c.toNat : Nat) : Int) := by
  have hc : c.toNat < 2 ^ 32 := Nat.lt_trans c.toNat_lt (by decide)
  rw [wrapU rfl (by exact hc), bit_xor rfl (by exact h) (by exact hc)]
def openT (l : List UInt8) (o : Option (List UInt8 × List UInt8)) : Int × List UInt8 × List UInt8 :=
  match o with
  | none => (2, [], [])
  | some (x, r) => if r.length < 4 then (2, [], []) else if r.take 4 = four (crc x) then (0, x, r.drop 4) else (3, [], [])
def sealB (s : List UInt8) : List UInt8 := textB s ++ four (crc s)
/-- What is sealed, and what stands behind. -/
noncomputable def openB (l : List UInt8) : Int × List UInt8 × List UInt8 := openT l (takeText l)
theorem four_len (x : Nat) : (four x).length = 4 := rfl
theorem openB_seal {s : List UInt8} (h : s.length ≤ 4000) (r : List UInt8) : openB (sealB s ++ r) = (0, s, r) := by
  rw [openB, sealB, List.append_assoc, takeText_text h]
  simp only [openT]
  rw [if_neg (by rw [List.length_append, four_len]; omega), List.take_left' (four_len _), if_pos rfl, List.drop_left' (four_len _)]
theorem openB_ok {l x r : List UInt8} (h : openB l = (0, x, r)) : l = sealB x ++ r ∧ x.length ≤ 4000 := by
  unfold openB openT at h
  split at h
  · simp at h
  · rename_i x' r' e
    split at h
    · simp at h
    · split at h
      · rename_i h2
        simp only [Prod.mk.injEq, true_and] at h
        obtain ⟨rfl, rfl⟩ := h
        obtain ⟨h3, h4⟩ := takeText_some e
        refine ⟨?_, h4⟩
        rw [h3, sealB, List.append_assoc, ← h2, List.take_append_drop]
      · simp at h
end Go.Proofs.YtpklbelejebcfaaGreat.B
