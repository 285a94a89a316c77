import Derived.Test.YtgebdehpoalfbaaMg24
import Derived.Test.YtgebdehpoalfbaaMg6
import Derived.Test.YtgebdehpoalfbaaMg10
import Derived.Test.YtgebdehpoalfbaaRows
import Derived.WalkKit
import Derived.ProofKit
import Derived.OpenShut
import Derived.JoinedCond
import Derived.Carry
import Derived.Lib.SmallJoins
import Derived.SliceStrings
import Derived.ChangeMaps5
import Derived.SizedLaws
set_option linter.unusedVariables false
set_option linter.unusedSimpArgs false
set_option maxRecDepth 8000
/-! Texts and sums, in plain words. -/
namespace Go.Proofs.Ytgebdehpoalfbaa.B
open Go

def textB (s : List UInt8) : List UInt8 := numB s.length ++ s
noncomputable def takeText (l : List UInt8) : Option (List UInt8 × List UInt8) :=
  match takeNum l with
  | none => none
  | some (n, r) => if n < 0 ∨ (4000 < n ∨ (r.length : Int) < n) then none else some (r.take n.toNat, r.drop n.toNat)
theorem takeNum_some {l r : List UInt8} {n : Int} (h : takeNum l = some (n, r)) : I64 n ∧ l = numB n ++ r := by
  have := takeNum_TN l
  rwa [h] at this
theorem takeText_some {l x r : List UInt8} (h : takeText l = some (x, r)) : l = textB x ++ r ∧ x.length ≤ 4000 := by
  unfold takeText at h
  split at h
  · cases h
  · rename_i n r' e
    obtain ⟨h1, h2⟩ := takeNum_some e
    split at h
    · cases h
    · rename_i h3
      simp only [Option.some.injEq, Prod.mk.injEq] at h
      obtain ⟨rfl, rfl⟩ := h
      have hl : (r'.take n.toNat).length = n.toNat := by rw [List.length_take]; omega
      refine ⟨?_, by omega⟩
      rw [textB, hl, Int.toNat_of_nonneg (by omega), List.append_assoc, List.take_append_drop, h2]
theorem takeText_text {x : List UInt8} (h : x.length ≤ 4000) (r : List UInt8) : takeText (textB x ++ r) = some (x, r) := by
  unfold takeText
  rw [textB, List.append_assoc, takeNum_num (by unfold I64; omega)]
  simp only
  rw [if_neg (by rw [List.length_append]; omega)]
  simp

def crcBit (x : Nat) : Nat := if x % 2 = 1 then (x / 2) ^^^ 3988292384 else x / 2
def crcBits : Nat → Nat → Nat
  | 0, x => x
  | n + 1, x => crcBits n (crcBit x)
def crcByte (x : Nat) (c : UInt8) : Nat := crcBits 8 (x ^^^ c.toNat)
def crc (l : List UInt8) : Nat := l.foldl crcByte 4294967295 ^^^ 4294967295
def four (x : Nat) : List UInt8 := [UInt8.ofNat (x / 16777216), UInt8.ofNat (x / 65536), UInt8.ofNat (x / 256), UInt8.ofNat x]
theorem crcBit_lt {x : Nat} (h : x < 2 ^ 32) : crcBit x < 2 ^ 32 := by
  unfold crcBit
  split
  · exact Nat.xor_lt_two_pow (by omega) (by decide)
  · omega
theorem crcBits_lt : ∀ (n : Nat) {x : Nat}, x < 2 ^ 32 → crcBits n x < 2 ^ 32
  | 0, _, h => h
  | n + 1, _, h => crcBits_lt n (crcBit_lt h)
theorem crcBits_succ : ∀ (n x : Nat), crcBits (n + 1) x = crcBit (crcBits n x)
  | 0, x => rfl
  | n + 1, x => by rw [crcBits, crcBits_succ n (crcBit x)]; rfl
theorem crcByte_lt {x : Nat} (h : x < 2 ^ 32) (c : UInt8) : crcByte x c < 2 ^ 32 :=
  crcBits_lt 8 (Nat.xor_lt_two_pow h (Nat.lt_trans c.toNat_lt (by decide)))
theorem foldl_lt : ∀ (l : List UInt8) {x : Nat}, x < 2 ^ 32 → l.foldl crcByte x < 2 ^ 32
  | [], _, h => h
  | c :: l, _, h => foldl_lt l (crcByte_lt h c)
theorem crc_lt (l : List UInt8) : crc l < 2 ^ 32 := Nat.xor_lt_two_pow (foldl_lt l (by decide)) (by decide)
theorem fold_next {l : List UInt8} {i x : Nat} {c : UInt8} (hc : l[i]? = some c) : (l.take (i + 1)).foldl crcByte x = crcByte ((l.take i).foldl crcByte x) c := by
  rw [take_succ_get hc, List.foldl_append]; rfl

theorem bit_code {x : Nat} (h : x < 2 ^ 32) : bitop .xor .u32 ((x : Int).fdiv (2 ^ 1)) (bitop .and .u32 3988292384 (IntKind.u32.wrap (0 - bitop .and .u32 (x : Int) 1))) = (crcBit x : Int) := by
  have e1 : bitop .and .u32 (x : Int) 1 = ((x % 2 : Nat) : Int) := by
    rw [show (1 : Int) = ((1 : Nat) : Int) from rfl, bit_and rfl (by exact h) (by decide), Nat.and_one_is_mod]
  have e2 : (x : Int).fdiv (2 ^ 1) = ((x / 2 : Nat) : Int) := by rw [Int.fdiv_eq_ediv_of_nonneg _ (by decide)]; omega
  rw [e1, e2]
  rcases Nat.mod_two_eq_zero_or_one x with h0 | h0
  · rw [h0, show IntKind.u32.wrap (0 - ((0 : Nat) : Int)) = ((0 : Nat) : Int) from rfl, show (3988292384 : Int) = ((3988292384 : Nat) : Int) from rfl, bit_and rfl (by decide) (by decide), Nat.and_zero,
      bit_xor rfl (by show _ < 2 ^ 32; omega) (by decide), Nat.xor_zero, crcBit, if_neg (by omega)]
  · rw [h0, show IntKind.u32.wrap (0 - ((1 : Nat) : Int)) = ((4294967295 : Nat) : Int) from by decide, show (3988292384 : Int) = ((3988292384 : Nat) : Int) from rfl, bit_and rfl (by decide) (by decide),
      show (3988292384 &&& 4294967295 : Nat) = 3988292384 from by decide, bit_xor rfl (by show _ < 2 ^ 32; omega) (by decide), crcBit, if_pos h0]
theorem first_code {x : Nat} (h : x < 2 ^ 32) (c : UInt8) : bitop .xor .u32 (x : Int) (IntKind.u32.wrap (c.toNat : Int)) = ((x ^^^ c.toNat : Nat) : Int) := by
  have hc : c.toNat < 2 ^ 32 := Nat.lt_trans c.toNat_lt (by decide)
  rw [wrapU rfl (by exact hc), bit_xor rfl (by exact h) (by exact hc)]
def openT (l : List UInt8) (o : Option (List UInt8 × List UInt8)) : Int × List UInt8 × List UInt8 :=
  match o with
  | none => (2, [], [])
  | some (x, r) => if r.length < 4 then (2, [], []) else if r.take 4 = four (crc x) then (0, x, r.drop 4) else (3, [], [])
def sealB (s : List UInt8) : List UInt8 := textB s ++ four (crc s)
/-- What is sealed, and what stands behind. -/
noncomputable def openB (l : List UInt8) : Int × List UInt8 × List UInt8 := openT l (takeText l)
theorem four_len (x : Nat) : (four x).length = 4 := rfl
theorem openB_seal {s : List UInt8} (h : s.length ≤ 4000) (r : List UInt8) : openB (sealB s ++ r) = (0, s, r) := by
  rw [openB, sealB, List.append_assoc, takeText_text h]
  simp only [openT]
  rw [if_neg (by rw [List.length_append, four_len]; omega), List.take_left' (four_len _), if_pos rfl, List.drop_left' (four_len _)]
theorem openB_ok {l x r : List UInt8} (h : openB l = (0, x, r)) : l = sealB x ++ r ∧ x.length ≤ 4000 := by
  unfold openB openT at h
  split at h
  · simp at h
  · rename_i x' r' e
    split at h
    · simp at h
    · split at h
      · rename_i h2
        simp only [Prod.mk.injEq, true_and] at h
        obtain ⟨rfl, rfl⟩ := h
        obtain ⟨h3, h4⟩ := takeText_some e
        refine ⟨?_, h4⟩
        rw [h3, sealB, List.append_assoc, ← h2, List.take_append_drop]
      · simp at h
end Go.Proofs.Ytgebdehpoalfbaa.B

set_option linter.unusedVariables false
set_option linter.unusedSimpArgs false
set_option maxRecDepth 8000
/-! Logs, in plain words. -/
namespace Go.Proofs.Ytgebdehpoalfbaa.B
open Go

structure Ent where
  n : Int
  s : ByteArray
  deriving DecidableEq
def entE : EncK Ent := ⟨fun x => [.int .i64 x.n, .string x.s], 2, fun _ => rfl, by decide, fun _ u hu => by simp only [List.mem_cons, List.not_mem_nil, or_false] at hu; rcases hu with rfl | rfl <;> rfl⟩
def entsOk : Nat → List Ent → Bool
  | _, [] => true
  | k, x :: r => decide (x.n = (k : Int) + 1 ∧ x.s.size ≤ 600) && entsOk (k + 1) r
def logOk (e : Int) (xs : List Ent) : Bool := decide (0 ≤ e ∧ e ≤ 9007199254740991 ∧ xs.length ≤ 300) && entsOk 0 xs
def partB (n : Int) (s : List UInt8) : List UInt8 := if 4000 < (numB n ++ s).length then [] else sealB (numB n ++ s)
def entB (xs : List Ent) : List UInt8 := xs.flatMap fun x => partB x.n (bs x.s)
def logB (e : Int) (xs : List Ent) : List UInt8 := partB e [] ++ entB xs

theorem entsOk_get : ∀ {xs : List Ent} {k i : Nat} {x : Ent}, entsOk k xs = true → xs[i]? = some x → x.n = (k : Int) + i + 1 ∧ x.s.size ≤ 600
  | [], _, _, _, _, h => by simp at h
  | y :: r, k, 0, x, h, hx => by
    simp at hx; subst hx
    simp only [entsOk, Bool.and_eq_true, decide_eq_true_eq] at h
    exact ⟨by omega, h.1.2⟩
  | y :: r, k, i + 1, x, h, hx => by
    simp only [entsOk, Bool.and_eq_true, decide_eq_true_eq] at h
    have := entsOk_get (i := i) h.2 (by simpa using hx)
    exact ⟨by omega, this.2⟩
theorem entsOk_drop {xs : List Ent} {i k : Nat} {x : Ent} (hx : xs[i]? = some x) : entsOk k (xs.drop i) = (decide (x.n = (k : Int) + 1 ∧ x.s.size ≤ 600) && entsOk (k + 1) (xs.drop (i + 1))) := by
  obtain ⟨hi, e⟩ := List.getElem?_eq_some_iff.1 hx
  rw [List.drop_eq_getElem_cons hi, e]; rfl
theorem entB_next {xs : List Ent} {i : Nat} {x : Ent} (hx : xs[i]? = some x) : entB (xs.take (i + 1)) = entB (xs.take i) ++ partB x.n (bs x.s) := by
  rw [List.take_add_one, hx, entB, List.flatMap_append]; simp [entB]
theorem sealB_len {s : List UInt8} (h : s.length ≤ 4000) : (sealB s).length ≤ s.length + 14 ∧ s.length + 5 ≤ (sealB s).length := by
  have h1 := num_len (n := s.length) (by unfold I64; omega)
  have h2 := num_pos (s.length : Int)
  rw [sealB, textB, List.length_append, List.length_append, four_len]
  omega
theorem partB_len (n : Int) (hn : I64 n) (s : List UInt8) : (partB n s).length ≤ 4014 := by
  unfold partB
  split
  · simp
  · have := sealB_len (s := numB n ++ s) (by omega)
    omega
theorem entB_len {xs : List Ent} (h : entsOk 0 xs = true) (hl : xs.length ≤ 300) : ∀ i, (entB (xs.take i)).length ≤ i * 4014 := by
  intro i
  induction i with
  | zero => simp [entB]
  | succ i ih =>
    cases hx : xs[i]? with
    | none =>
      have : xs.take (i + 1) = xs.take i := by rw [List.take_add_one, hx]; simp
      rw [this]; exact Nat.le_trans ih (Nat.mul_le_mul_right _ (Nat.le_succ i))
    | some x =>
      rw [entB_next hx, List.length_append]
      have h1 := entsOk_get h hx
      have hi := (List.getElem?_eq_some_iff.1 hx).1
      have h2 : I64 x.n := by unfold I64; have := h1.1; constructor <;> omega
      have h3 := partB_len x.n h2 (bs x.s)
      rw [Nat.succ_mul]
      exact Nat.add_le_add ih h3

theorem entB_len2 {xs : List Ent} (h : entsOk 0 xs = true) (hl : xs.length ≤ 300) (i : Nat) (hi : i ≤ 300) : (entB (xs.take i)).length ≤ 1204200 := Nat.le_trans (entB_len h hl i) (Nat.mul_le_mul_right 4014 hi)
/-! What is read. -/
noncomputable def openP (l : List UInt8) : Option (Int × List UInt8 × List UInt8) :=
  match openB l with
  | (e, x, r) => if e = 0 then (match takeNum x with | some (n, x') => some (n, x', r) | none => none) else none
noncomputable def takeEnt (k : Nat) (l : List UInt8) : Option (Ent × List UInt8) :=
  match openP l with
  | some (n, s, r) => if n = (k : Int) + 1 ∧ s.length ≤ 600 then some (⟨n, mk s⟩, r) else none
  | none => none
noncomputable def ents : Nat → Nat → List UInt8 → List Ent × List UInt8
  | 0, _, l => ([], l)
  | f + 1, k, l => match takeEnt k l with
    | some (x, r) => (x :: (ents f (k + 1) r).1, (ents f (k + 1) r).2)
    | none => ([], l)
/-- the number, the entries, what is left -/
noncomputable def parseP (l : List UInt8) : Option (Int × List Ent × List UInt8) :=
  match openP l with
  | some (n, s, r) => if s = [] ∧ 0 ≤ n ∧ n ≤ 9007199254740991 then some (n, (ents 300 0 r).1, (ents 300 0 r).2) else none
  | none => none

theorem openP_part {n : Int} (hn : I64 n) {s : List UInt8} (h : (numB n ++ s).length ≤ 4000) (r : List UInt8) : openP (partB n s ++ r) = some (n, s, r) := by
  unfold openP partB
  rw [if_neg (by omega), openB_seal h]
  simp only [if_true]
  rw [takeNum_num hn]
theorem openP_some {l x r : List UInt8} {n : Int} (h : openP l = some (n, x, r)) : I64 n ∧ l = partB n x ++ r ∧ (numB n ++ x).length ≤ 4000 := by
  unfold openP at h
  split at h
  rename_i e y r' he
  split at h
  · rename_i e0
    subst e0
    split at h
    · rename_i n' x' hT
      simp only [Option.some.injEq, Prod.mk.injEq] at h
      obtain ⟨rfl, rfl, rfl⟩ := h
      obtain ⟨h1, h2⟩ := takeNum_some hT
      obtain ⟨h3, h4⟩ := openB_ok he
      subst h2
      exact ⟨h1, by rw [h3, partB, if_neg (by omega)], h4⟩
    · cases h
  · cases h
theorem openP_nil : openP [] = none := by
  cases h : openP [] with
  | none => rfl
  | some p =>
    obtain ⟨n, x, r⟩ := p
    obtain ⟨h1, h2, h3⟩ := openP_some h
    have h4 := congrArg List.length h2
    have h5 := sealB_len h3
    rw [List.length_append, partB, if_neg (by omega)] at h4
    simp only [List.length_nil] at h4
    omega
theorem takeEnt_nil (k : Nat) : takeEnt k [] = none := by rw [takeEnt, openP_nil]
theorem openP_len {l x r : List UInt8} {n : Int} (h : openP l = some (n, x, r)) : r.length < l.length ∧ x.length ≤ 4000 := by
  obtain ⟨h1, h2, h3⟩ := openP_some h
  have h4 := congrArg List.length h2
  have h5 := sealB_len h3
  rw [List.length_append, partB, if_neg (by omega)] at h4
  rw [List.length_append] at h3
  omega
theorem takeEnt_len {k : Nat} {l r : List UInt8} {x : Ent} (h : takeEnt k l = some (x, r)) : r.length ≤ l.length := by
  unfold takeEnt at h
  split at h
  · rename_i n s r' ho
    split at h
    · simp only [Option.some.injEq, Prod.mk.injEq] at h
      obtain ⟨_, rfl⟩ := h
      have := openP_len ho; omega
    · cases h
  · cases h
theorem ents_len : ∀ (f k : Nat) (l : List UInt8), (ents f k l).1.length ≤ f ∧ (ents f k l).2.length ≤ l.length
  | 0, k, l => by simp [ents]
  | f + 1, k, l => by
    unfold ents
    split
    · rename_i x r h
      have ih := ents_len f (k + 1) r
      have h2 : r.length ≤ l.length := by
        unfold takeEnt at h
        split at h
        · rename_i n s r' ho
          split at h
          · simp only [Option.some.injEq, Prod.mk.injEq] at h
            obtain ⟨_, rfl⟩ := h
            have := openP_len ho; omega
          · cases h
        · cases h
      exact ⟨by simp; omega, by simp only; omega⟩
    · simp
theorem takeEnt_part {k : Nat} {x : Ent} (hn : x.n = (k : Int) + 1) (hk : k ≤ 300) (hs : x.s.size ≤ 600) (r : List UInt8) : takeEnt k (partB x.n (bs x.s) ++ r) = some (x, r) := by
  have h1 := num_len (n := x.n) (by unfold I64; omega)
  have h2 := bs_len x.s
  rw [takeEnt, openP_part (by unfold I64; omega) (by rw [List.length_append]; omega)]
  simp only
  rw [if_pos ⟨hn, by omega⟩]
/-- What was written is read, and what stands behind. -/
theorem ents_entB : ∀ (xs : List Ent) (f k : Nat) (r : List UInt8), entsOk k xs = true → xs.length ≤ f → k + xs.length ≤ 300 → takeEnt (k + xs.length) r = none → ents f k (entB xs ++ r) = (xs, r)
  | [], f, k, r, _, _, _, hr => by
    cases f with
    | zero => rfl
    | succ f =>
      simp only [List.length_nil, Nat.add_zero] at hr
      show ents (f + 1) k r = _
      rw [ents, hr]
  | x :: xs, f, k, r, h, hf, hk, hr => by
    cases f with
    | zero => simp at hf
    | succ f =>
      simp only [entsOk, Bool.and_eq_true, decide_eq_true_eq] at h
      simp only [List.length_cons] at hf hk hr
      have e : entB (x :: xs) ++ r = partB x.n (bs x.s) ++ (entB xs ++ r) := by simp [entB, List.append_assoc]
      rw [e, ents, takeEnt_part h.1.1 (by omega) h.1.2]
      simp only
      rw [ents_entB xs f (k + 1) r h.2 (by omega) (by omega) (by rw [show k + 1 + xs.length = k + (xs.length + 1) from by omega]; exact hr)]
theorem logOk_iff {e : Int} {xs : List Ent} : logOk e xs = true ↔ (0 ≤ e ∧ e ≤ 9007199254740991 ∧ xs.length ≤ 300) ∧ entsOk 0 xs = true := by
  simp [logOk]
theorem parseP_log {e : Int} {xs : List Ent} (h : logOk e xs = true) (r : List UInt8) (hr : xs.length = 300 ∨ takeEnt xs.length r = none) : parseP (logB e xs ++ r) = some (e, xs, r) := by
  obtain ⟨⟨h1, h2, h3⟩, h4⟩ := logOk_iff.1 h
  have hn := num_len (n := e) (by unfold I64; omega)
  unfold parseP
  rw [logB, List.append_assoc, openP_part (by unfold I64; omega) (by simp; omega)]
  simp only
  rw [if_pos ⟨trivial, h1, h2⟩]
  rcases hr with hr | hr
  · have key : ∀ (xs : List Ent) (f k : Nat) (r : List UInt8), entsOk k xs = true → xs.length = f → k + xs.length ≤ 300 → ents f k (entB xs ++ r) = (xs, r) := by
      intro xs
      induction xs with
      | nil => intro f k r _ hf _; simp at hf; subst hf; rfl
      | cons x xs ih =>
        intro f k r h hf hk
        cases f with
        | zero => simp at hf
        | succ f =>
          simp only [entsOk, Bool.and_eq_true, decide_eq_true_eq] at h
          simp only [List.length_cons, Nat.add_right_cancel_iff] at hf hk
          have e : entB (x :: xs) ++ r = partB x.n (bs x.s) ++ (entB xs ++ r) := by simp [entB, List.append_assoc]
          rw [e, ents, takeEnt_part h.1.1 (by omega) h.1.2]
          simp only
          rw [ih f (k + 1) r h.2 hf (by omega)]
    rw [key xs 300 0 r h4 hr (by omega)]
  · rw [ents_entB xs 300 0 r h4 h3 (by omega) (by rw [Nat.zero_add]; exact hr)]
theorem entsOk_snoc : ∀ (xs : List Ent) (k : Nat) (x : Ent), entsOk k (xs ++ [x]) = (entsOk k xs && decide (x.n = ((k + xs.length : Nat) : Int) + 1 ∧ x.s.size ≤ 600))
  | [], k, x => by simp [entsOk]
  | y :: ys, k, x => by
    simp only [List.cons_append, entsOk, entsOk_snoc ys (k + 1) x, List.length_cons, Bool.and_assoc]
    rw [show k + 1 + ys.length = k + (ys.length + 1) from by omega]
end Go.Proofs.Ytgebdehpoalfbaa.B

set_option linter.unusedVariables false
set_option linter.unusedSimpArgs false
set_option maxRecDepth 8000
/-! The rows' opening and closing. -/
namespace Go.Proofs.Ytgebdehpoalfbaa.B
open Go Go.Proofs Go.ChangeShapes Go.WideShapes Go.ChangeAt Go.RowKit

section
variable {H : Type} {enc : TypeId × Value → H} {P : Program} {W W' : World}
theorem trodAll_below (hl : laidOutB P = true) (hb : Below W.heap.size W W') : ∀ {ts : List TypeId} {vs : List Value} {ds : List (DataW H)} {ps : List MemPlace}, (∀ t ∈ ts, P.readableRec t = true ∧ t < P.types.size) →
    DataW.TrodAll enc P W 0 (fun _ => true) true ts vs ds ps → (∀ x ∈ ps, x.block < W.heap.size) → DataW.TrodAll enc P W' 0 (fun b => decide (b < W.heap.size)) true ts vs ds ps
  | [], [], [], _, _, h, _ => h
  | _ :: _, _ :: _, _ :: _, _, ht, ⟨p, q, h1, h2, e⟩, hlt => by
    subst e
    have h3 := ht _ (List.mem_cons_self ..)
    exact ⟨p, q, Below.trod hl h3.1 h3.2 h1 hb (fun x hx => hlt x (List.mem_append_left _ hx)), trodAll_below hl hb (fun t h => ht t (List.mem_cons_of_mem _ h)) h2 (fun x hx => hlt x (List.mem_append_right _ hx)), rfl⟩
/-- A law's post, of a walk that leaves the old blocks alone. -/
theorem law_post {f : Func} {s : ChangeSpec} {fresh handsOn : Bool} {args : Array Value} {ds gs : List (DataW H)} {before : List MemPlace} {v : Value}
    (hl : laidOutB P = true) (hvars : s.vars = []) (ht : f.params.toList.all (fun t => P.readableRec t && decide (t < P.types.size)) = true)
    (hW : DataW.Whole enc P f.params.toList s.vars false W args.toList ds gs before) (hb : Below W.heap.size W W')
    (hres : DataW.TrodAll enc P W' (match fresh with | true => W.heap.size | false => 0) (fun _ => false) handsOn f.resultTypes.toList (v.resultList f.resultTypes.size) (s.fn H ds).results [])
    (hargs : (s.fn H ds).args = ds) (hv2 : (s.fn H ds).vars = []) : s.post enc P f false fresh handsOn false W args v W' := by
  have hlt := hW.lt
  have hW' := hW
  obtain ⟨p, q, hA, hV, rfl, hfz, hnd⟩ := hW
  rw [hvars] at hV
  obtain ⟨rfl, rfl⟩ := trodVars_none hV
  refine ⟨ds, [], p ++ [], [], p, [], hW', ?_, ?_, ?_, ?_, fun h => (by cases h)⟩
  · rw [List.append_nil]; exact hres
  · rw [List.append_nil, hargs]
    refine trodAll_below hl hb (fun t h => ?_) hA (fun x hx => hlt x (List.mem_append_left _ hx))
    have := List.all_eq_true.1 ht t h
    simpa using this
  · rw [List.append_nil, hvars, hv2]; rfl
  · exact hb.frame _
end
theorem spot_none {w : World} {a : Addr} {v : Value} (h : w.cell? a = some v) : a.spot = none := by
  unfold World.cell? at h
  split at h
  · cases hs : a.spot with
    | none => rfl
    | some x => rw [hs] at h; simp at h
  · cases h
theorem wf_i64 {n : Int} (h : (Lit.int .i64 n).wf = true) : I64 n := by
  unfold I64
  simp only [Lit.wf, Bool.and_eq_true, decide_eq_true_eq] at h
  exact h
theorem Rd.old {α : Type} {E : EncK α} {W : World} {A : Option Addr} {xs : List α} (h : RdC W A (flat E xs)) : Rd W [B.old W W.heap.size] E A xs := fun w hs => by
  have hb := hs.oldBelow rfl
  rcases h with h | ⟨b, o, rfl, hc⟩
  · exact .inl h
  · refine .inr ⟨b, o, rfl, fun j u hj => ?_⟩
    have h1 := hc j u hj
    have hlt := World.block_lt_of_cell? W ⟨b, o + j, none⟩ (u := u) h1
    rw [World.cell?_of_block (w := W) (hb.block b hlt)]
    exact h1
/-- A walk from the beginning, for a row. -/
theorem Fn.row {P : Program} {K : Nat} {vs : List Value} {W : World} {u : Value} (h : Fn P K vs W [B.old W W.heap.size] (Ret fun v G' => v = u ∧ G' = [B.old W W.heap.size])) :
    Calls P K vs.toArray W fun e w' => e = .returned u ∧ Below W.heap.size W w' := by
  refine (h W (Sat.start W)).mono ?_
  rintro e w' ⟨G', hR, hs⟩
  cases e with
  | returned v => obtain ⟨rfl, rfl⟩ := hR; exact ⟨rfl, hs.oldBelow rfl⟩
  | panicked ch => exact hR.elim
  | outgrown => exact hR.elim

theorem prog_own : ownKnob Try.prog.godebug = none := by kernel_rfl
theorem prog_laid : laidOutB Try.prog = true := by kernel_rfl
end Go.Proofs.Ytgebdehpoalfbaa.B

set_option linter.unusedVariables false
set_option linter.unusedSimpArgs false
set_option linter.unusedSectionVars false
set_option maxRecDepth 8000
/-! Opening a slice of anything. -/
namespace Go.Proofs.Ytgebdehpoalfbaa.B
open Go Go.Proofs Go.ChangeShapes Go.WideShapes Go.ChangeAt Go.RowKit
section
variable {H : Type} {enc : TypeId × Value → H} {P : Program} {w : World} {sp : Nat → Bool} {held : Bool}
theorem weightsAll_mem {e : TypeId} : ∀ {l : List (DataW H)} {d : DataW H}, d ∈ l → ∀ m ∈ d.weights P e, m ∈ DataW.weightsAll P e l
  | d0 :: r, d, hd, m, hm => by
    simp only [DataW.weightsAll, List.mem_append]
    rcases List.mem_cons.1 hd with rfl | h
    · exact .inl hm
    · exact .inr (weightsAll_mem h m hm)
theorem open_slcG {α : Type} (E : EncK α) {T e : Nat} (PX : α → DataW H → Prop) (hT : P.underlying T = some (.slice e)) (hC : P.cellsOf e = E.sz)
    (one : ∀ {fuel : Nat} {cs : List Value} {x : DataW H × List MemPlace}, cs.length = E.sz → DataW.trod enc P w 0 sp held fuel e cs = some x → ∃ a : α, cs = E.enc a ∧ PX a x.1)
    {fuel : Nat} {v : Value} {x : DataW H × List MemPlace} (h : DataW.trod enc P w 0 sp held fuel T [v] = some x) :
    ∃ A k c xs, v = .slice A k c ∧ k = xs.length ∧ k ≤ c ∧ c ≤ maxLen ∧ RdC w A (flat E xs) ∧ (∀ a ∈ xs, ∃ d, PX a d ∧ ∀ m ∈ d.weights P e, m ∈ x.1.weights P T) ∧ ((∀ m ∈ x.1.weights P T, m ≤ reachBytes) → k * P.bytesOf e ≤ reachBytes) := by
  rcases DataW.trod_slice hT h with ⟨hc, _⟩ | ⟨a, len, cap, elems, rest, n, _, hcs, hx, hb, hl, hm, hlen, hel, _⟩
  · simp only [List.cons.injEq, and_true] at hc
    subst hc
    exact ⟨none, 0, 0, [], rfl, rfl, Nat.le_refl _, by simp [maxLen], .inl rfl, fun l hl => absurd hl (List.not_mem_nil), fun _ => by omega⟩
  · simp only [List.cons.injEq, and_true] at hcs
    subst hcs
    have each : ∀ i, i < len → ∃ y : α, (∀ j u, (E.enc y)[j]? = some u → w.cell? ((a.add (i * E.sz)).add j) = some u) ∧ ∃ d, PX y d ∧ ∀ m ∈ d.weights P e, m ∈ x.1.weights P T := fun i hi => by
      have h1 := hel i hi
      rw [hC, List.getElem?_eq_getElem (by omega), Option.bind_eq_some_iff] at h1
      obtain ⟨cs, h2, h3⟩ := h1
      obtain ⟨_, hl2, hg⟩ := World.cells?_some h2
      obtain ⟨y, rfl, hy⟩ := one hl2 h3
      refine ⟨y, fun j u hj => ?_, elems[i].1, hy, fun m hm' => ?_⟩
      · have hjl : j < E.sz := by have := (List.getElem?_eq_some_iff.1 hj).1; rwa [E.len] at this
        have := hg j hjl
        rw [this, hj]
      · rw [hx]
        simp only [DataW.weights, hT]
        exact List.mem_cons_of_mem _ (List.mem_append_left _ (weightsAll_mem (d := elems[i].1) (List.mem_map.2 ⟨elems[i], List.getElem_mem _, rfl⟩) m hm'))
    have build : ∀ m, m ≤ len → ∃ xs : List α, xs.length = m ∧ (∀ i y, xs[i]? = some y → ∀ j u, (E.enc y)[j]? = some u → w.cell? ((a.add (i * E.sz)).add j) = some u) ∧ ∀ y ∈ xs, ∃ d, PX y d ∧ ∀ m ∈ d.weights P e, m ∈ x.1.weights P T := by
      intro m
      induction m with
      | zero => intro _; exact ⟨[], rfl, fun i y h => by simp at h, fun l hl => by cases hl⟩
      | succ m ih =>
        intro hm
        obtain ⟨xs, hl3, hx3, hx4⟩ := ih (by omega)
        obtain ⟨y, hy1, hy2⟩ := each m (by omega)
        refine ⟨xs ++ [y], by simp [hl3], fun i z hz => ?_, fun l hl => ?_⟩
        · by_cases hi : i < xs.length
          · rw [List.getElem?_append_left hi] at hz; exact hx3 i z hz
          · rw [List.getElem?_append_right (by omega)] at hz
            have : i - xs.length = 0 := by
              have := (List.getElem?_eq_some_iff.1 hz).1
              simp at this; omega
            rw [this] at hz
            simp at hz
            subst hz
            rw [show i = m from by omega]; exact hy1
        · rcases List.mem_append.1 hl with h | h
          · exact hx4 l h
          · rw [List.mem_singleton.1 h]; exact hy2
    obtain ⟨xs, hxl, hx5, hx6⟩ := build len (Nat.le_refl _)
    refine ⟨some a, len, cap, xs, rfl, hxl.symm, hl, hm, ?_, hx6, fun hw => ?_⟩
    · cases hxs : xs with
      | nil => exact .inl rfl
      | cons y0 yr =>
        have hp := E.pos
        obtain ⟨u0, hu0⟩ : ∃ u0, (E.enc y0)[0]? = some u0 := ⟨(E.enc y0)[0]'(by rw [E.len]; exact hp), List.getElem?_eq_getElem _⟩
        have hy0 := hx5 0 y0 (by rw [hxs]; rfl) 0 u0 hu0
        have hsp : a.spot = none := by have := spot_none hy0; simpa [Addr.add] using this
        obtain ⟨b, o, spt⟩ := a
        simp only at hsp
        subst hsp
        refine .inr ⟨b, o, rfl, fun j u hj => ?_⟩
        rw [← hxs] at hj
        have hjl : j < xs.length * E.sz := by
          have := (List.getElem?_eq_some_iff.1 hj).1
          rwa [flat_len] at this
        have hq : j / E.sz < xs.length := Nat.div_lt_of_lt_mul (by rw [Nat.mul_comm]; exact hjl)
        obtain ⟨y, hy⟩ : ∃ y, xs[j / E.sz]? = some y := ⟨xs[j / E.sz]'hq, List.getElem?_eq_getElem hq⟩
        have hr : j % E.sz < E.sz := Nat.mod_lt _ hp
        obtain ⟨u2, hu2⟩ : ∃ u2, (E.enc y)[j % E.sz]? = some u2 := ⟨(E.enc y)[j % E.sz]'(by rw [E.len]; exact hr), List.getElem?_eq_getElem _⟩
        have h3 := flat_get E xs (j / E.sz) (j % E.sz) y u2 hy hu2
        have ej : j / E.sz * E.sz + j % E.sz = j := Nat.div_add_mod' j E.sz
        rw [ej, hj] at h3
        injection h3 with h3
        rw [h3]
        have := hx5 _ _ hy _ _ hu2
        rw [add_off, add_off] at this
        rwa [show o + j = o + j / E.sz * E.sz + j % E.sz from by omega]
    · have h1 := hw ((elems.length + rest.length) * P.bytesOf e) (by
        rw [hx]
        simp only [DataW.weights, hT, List.length_map]
        exact List.mem_cons_self ..)
      refine Nat.le_trans (Nat.mul_le_mul_right _ ?_) h1
      omega
theorem open_intsT {fuel : Nat} {T e : Nat} (hT : P.underlying T = some (.slice e)) (hC : P.cellsOf e = 1) (he : P.underlying e = some (.int .i64)) {v : Value} {x : DataW H × List MemPlace} (h : DataW.trod enc P w 0 sp held fuel T [v] = some x) :
    ∃ A k c xs, v = .slice A k c ∧ k = xs.length ∧ k ≤ c ∧ c ≤ maxLen ∧ RdC w A (flat intE xs) ∧ ∀ a ∈ xs, I64 a := by
  obtain ⟨A, k, c, xs, h1, h2, h3, h4, h5, h6, _⟩ := open_slcG intE (fun a _ => I64 a) hT hC (fun {fuel cs x} hl h => by
    obtain ⟨n, rfl, _, hw⟩ := DataW.trod_int he h
    exact ⟨n, rfl, wf_i64 hw⟩) h
  exact ⟨A, k, c, xs, h1, h2, h3, h4, h5, fun a ha => (h6 a ha).choose_spec.1⟩
end
end Go.Proofs.Ytgebdehpoalfbaa.B
