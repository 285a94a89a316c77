import Derived.Test.YtpklbelejebcfaaGreatTg
import Derived.Test.YtpklbelejebcfaaGreatWp
set_option linter.unusedVariables false
set_option linter.unusedSimpArgs false
set_option maxRecDepth 8000
/-! Logs, in plain words. -/
namespace Go.Proofs.YtpklbelejebcfaaGreat.B
open Go

structure Ent where
  n : Int
  s : ByteArray
  deriving DecidableEq
def entE : EncK Ent := ⟨fun x => [.int .i64 x.n, .string x.s], 2, fun _ => rfl, by decide, fun _ u hu => by simp only [List.mem_cons, List.not_mem_nil, or_false] at hu; rcases hu with rfl | rfl <;> rfl⟩
def entsOk : Nat → List Ent → Bool
  | _, [] => true
  | k, x :: r => decide (x.n = (k : Int) + 1 ∧ x.s.size ≤ 600) && entsOk (k + 1) r
def logOk (e : Int) (xs : List Ent) : Bool := decide (0 ≤ e ∧ e ≤ 9007199254740991 ∧ xs.length ≤ 300) && entsOk 0 xs
def partB (n : Int) (s : List UInt8) : List UInt8 := if 4000 < (numB n ++ s).length then [] else sealB (numB n ++ s)
def entB (xs : List Ent) : List UInt8 := xs.flatMap fun x => partB x.n (bs x.s)
def logB (e : Int) (xs : List Ent) : List UInt8 := partB e [] ++ entB xs

theorem entsOk_get : ∀ {xs : List Ent} {k i : Nat} {x : Ent}, entsOk k xs = true → xs[i]? = some x → x.n = (k : Int) + i + 1 ∧ x.s.size ≤ 600
  | [], _, _, _, _, h => by simp at h
  | y :: r, k, 0, x, h, hx => by
    simp at hx; subst hx
    simp only [entsOk, Bool.and_eq_true, decide_eq_true_eq] at h
    exact ⟨by omega, h.1.2⟩
  | y :: r, k, i + 1, x, h, hx => by
    simp only [entsOk, Bool.and_eq_true, decide_eq_true_eq] at h
    have := entsOk_get (i := i) h.2 (by simpa using hx)
    exact ⟨by omega, this.2⟩
theorem entsOk_drop {xs : List Ent} {i k : Nat} {x : Ent} (hx : xs[i]? = some x) : entsOk k (xs.drop i) = (decide (x.n = (k : Int) + 1 ∧ x.s.size ≤ 600) && entsOk (k + 1) (xs.drop (i + 1))) := by
  obtain ⟨hi, e⟩ := List.getElem?_eq_some_iff.1 hx
  rw [List.drop_eq_getElem_cons hi, e]; rfl
theorem entB_next {xs : List Ent} {i : Nat} {x : Ent} (hx : xs[i]? = some x) : entB (xs.take (i + 1)) = entB (xs.take i) ++ partB x.n (bs x.s) := by
  rw [List.take_add_one, hx, entB, List.flatMap_append]; simp [entB]
theorem sealB_len {s : List UInt8} (h : s.length ≤ 4000) : (sealB s).length ≤ s.length + 14 ∧ s.length + 5 ≤ (sealB s).length := by
  have h1 := num_len (n := s.length) (by unfold I64; omega)
  have h2 := num_pos (s.length : Int)
  rw [sealB, textB, List.length_append, List.length_append, four_len]
  omega
theorem partB_len (n : Int) (hn : I64 n) (s : List UInt8) : (partB n s).length ≤ 4014 := by
  unfold partB
  split
  · simp
  · have := sealB_len (s := numB n ++ s) (by omega)
    omega
theorem entB_len {xs : List Ent} (h : entsOk 0 xs = true) (hl : xs.length ≤ 300) : ∀ i, (entB (xs.take i)).length ≤ i * 4014 := by
  intro i
  induction i with
  | zero => simp [entB]
  | succ i ih =>
    cases hx : xs[i]? with
    | none =>
      have : xs.take (i + 1) = xs.take i := by rw [List.take_add_one, hx]; simp
      rw [this]; exact Nat.le_trans ih (Nat.mul_le_mul_right _ (Nat.le_succ i))
    | some x =>
      rw [entB_next hx, List.length_append]
      have h1 := entsOk_get h hx
      have hi := (List.getElem?_eq_some_iff.1 hx).1
      have h2 : I64 x.n := by unfold I64; have := h1.1; constructor <;> omega
      have h3 := partB_len x.n h2 (bs x.s)
      rw [Nat.succ_mul]
      exact Nat.add_le_add ih h3

theorem entB_len2 {xs : List Ent} (h : entsOk 0 xs = true) (hl : xs.length ≤ 300) (i : Nat) (hi : i ≤ 300) : (entB (xs.take i)).length ≤ 1204200 := Nat.le_trans (entB_len h hl i) (Nat.mul_le_mul_right 4014 hi)
/-! What is read. -/
noncomputable def openP (l : List UInt8) : Option (Int × List UInt8 × List UInt8) :=
  match openB l with
  | (e, x, r) => if e = 0 then (match takeNum x with | some (n, x') => some (n, x', r) | none => none) else none
noncomputable def takeEnt (k : Nat) (l : List UInt8) : Option (Ent × List UInt8) :=
  match openP l with
  | some (n, s, r) => if n = (k : Int) + 1 ∧ s.length ≤ 600 then some (⟨n, mk s⟩, r) else none
  | none => none
noncomputable def ents : Nat → Nat → List UInt8 → List Ent × List UInt8
  | 0, _, l => ([], l)
  | f + 1, k, l => match takeEnt k l with
    | some (x, r) => (x :: (ents f (k + 1) r).1, (ents f (k + 1) r).2)
    | none => ([], l)
/-- the number, the entries, what is left -/
noncomputable def parseP (l : List UInt8) : Option (Int × List Ent × List UInt8) :=
  match openP l with
  | some (n, s, r) => if s = [] ∧ 0 ≤ n ∧ n ≤ 9007199254740991 then some (n, (ents 300 0 r).1, (ents 300 0 r).2) else none
  | none => none

theorem openP_part {n : Int} (hn : I64 n) {s : List UInt8} (h : (numB n ++ s).length ≤ 4000) (r : List UInt8) : openP (partB n s ++ r) = some (n, s, r) := by
  unfold openP partB
  rw [if_neg (by omega), openB_seal h]
  simp only [if_true]
  rw [takeNum_num hn]
theorem openP_some {l x r : List UInt8} {n : Int} (h : openP l = some (n, x, r)) : I64 n ∧ l = partB n x ++ r ∧ (numB n ++ x).length ≤ 4000 := by
  unfold openP at h
  split at h
  rename_i e y r' he
  split at h
  · rename_i e0
    subst e0
    split at h
    · rename_i n' x' hT
      simp only [Option.some.injEq, Prod.mk.injEq] at h
      obtain ⟨rfl, rfl, rfl⟩ := h
      obtain ⟨h1, h2⟩ := takeNum_some hT
      obtain ⟨h3, h4⟩ := openB_ok he
      subst h2
      exact ⟨h1, by rw [h3, partB, if_neg (by omega)], h4⟩
    · cases h
  · cases h
theorem openP_nil : openP [] = none := by
  cases h : openP [] with
  | none => rfl
  | some p =>
    obtain ⟨n, x, r⟩ := p
    obtain ⟨h1, h2, h3⟩ := openP_some h
    have h4 := congrArg List.length h2
    have h5 := sealB_len h3
    rw [List.length_append, partB, if_neg (by omega)] at h4
    simp only [List.length_nil] at h4
    omega
theorem takeEnt_nil (k : Nat) : takeEnt k [] = none := by rw [takeEnt, openP_nil]
theorem openP_len {l x r : List UInt8} {n : Int} (h : openP l = some (n, x, r)) : r.length < l.length ∧ x.length ≤ 4000 := by
  obtain ⟨h1, h2, h3⟩ := openP_some h
  have h4 := congrArg List.length h2
  have h5 := sealB_len h3
  rw [List.length_append, partB, if_neg (by omega)] at h4
  rw [List.length_append] at h3
  omega
theorem takeEnt_len {k : Nat} {l r : List UInt8} {x : Ent} (h : takeEnt k l = some (x, r)) : r.length ≤ l.length := by
  unfold takeEnt at h
  split at h
  · rename_i n s r' ho
    split at h
    · simp only [Option.some.injEq, Prod.mk.injEq] at h
      obtain ⟨_, rfl⟩ := h
      have := openP_len ho; omega
    · cases h
  · cases h
theorem ents_len : ∀ (f k : Nat) (l : List UInt8), (ents f k l).1.length ≤ f ∧ (ents f k l).2.length ≤ l.length
  | 0, k, l => by simp [ents]
  | f + 1, k, l => by
    unfold ents
    split
    · rename_i x r h
      have ih := ents_len f (k + 1) r
      have h2 : r.length ≤ l.length := by
        unfold takeEnt at h
        split at h
        · rename_i n s r' ho
          split at h
          · simp only [Option.some.injEq, Prod.mk.injEq] at h
            obtain ⟨_, rfl⟩ := h
            have := openP_len ho; omega
          · cases h
        · cases h
      exact ⟨by simp; omega, by simp only; omega⟩
    · simp
theorem takeEnt_part {k : Nat} {x : Ent} (hn : x.n = (k : Int) + 1) (hk : k ≤ 300) (hs : x.s.size ≤ 600) (r : List UInt8) : takeEnt k (partB x.n (bs x.s) ++ r) = some (x, r) := by
  have h1 := num_len (n := x.n) (by unfold I64; omega)
  have h2 := bs_len x.s
  rw [takeEnt, openP_part (by unfold I64; omega) (by rw [List.length_append]; omega)]
  simp only
  rw [if_pos ⟨hn, by omega⟩]
/-- What was written is read, and what stands behind. -/
theorem ents_entB : ∀ (xs : List Ent) (f k : Nat) (r : List UInt8), entsOk k xs = true → xs.length ≤ f → k + xs.length ≤ 300 → takeEnt (k + xs.length) r = none → ents f k (entB xs ++ r) = (xs, r)
  | [], f, k, r, _, _, _, hr => by
    cases f with
    | zero => rfl
    | succ f =>
      simp only [List.length_nil, Nat.add_zero] at hr
      show ents (f + 1) k r = _
      rw [ents, hr]
  | x :: xs, f, k, r, h, hf, hk, hr => by
    cases f with
    | zero => simp at hf
    | succ f =>
      simp only [entsOk, Bool.and_eq_true, decide_eq_true_eq] at h
      simp only [List.length_cons] at hf hk hr
      have e : entB (x :: xs) ++ r = partB x.n (bs x.s) ++ (entB xs ++ r) := by simp [entB, List.append_assoc]
      rw [e, ents, takeEnt_part h.1.1 (by omega) h.1.2]
      simp only
      rw [ents_entB xs f (k + 1) r h.2 (by omega) (by omega) (by rw [show k + 1 + xs.length = k + (xs.length + 1) from by omega]; exact hr)]
theorem logOk_iff {e : Int} {xs : List Ent} : logOk e xs = true ↔ (0 ≤ e ∧ e ≤ 9007199254740991 ∧ xs.length ≤ 300) ∧ entsOk 0 xs = true := by
  simp [logOk]
theorem parseP_log {e : Int} {xs : List Ent} (h : logOk e xs = true) (r : List UInt8) (hr : xs.length = 300 ∨ takeEnt xs.length r = none) : parseP (logB e xs ++ r) = some (e, xs, r) := by
  obtain ⟨⟨h1, h2, h3⟩, h4⟩ := logOk_iff.1 h
  have hn := num_len (n := e) (by unfold I64; omega)
  unfold parseP
  rw [logB, List.append_assoc, openP_part (by unfold I64; omega) (by simp; omega)]
  simp only
  rw [if_pos ⟨trivial, h1, h2⟩]
  rcases hr with hr | hr
  · have key : ∀ (xs : List Ent) (f k : Nat) (r : List UInt8), entsOk k xs = true → xs.length = f → k + xs.length ≤ 300 → ents f k (entB xs ++ r) = (xs, r) := by
      intro xs
      induction xs with
      | nil => intro f k r _ hf _; simp at hf; subst hf; rfl
      | cons x xs ih =>
        intro f k r h hf hk
        cases f with
        | zero => simp at hf
        | succ f =>
          simp only [entsOk, Bool.and_eq_true, decide_eq_true_eq] at h
          simp only [List.length_cons, Nat.add_right_cancel_iff] at hf hk
          have e : entB (x :: xs) ++ r = partB x.n (bs x.s) ++ (entB xs ++ r) := by simp [entB, List.append_assoc]
          rw [e, ents, takeEnt_part h.1.1 (by omega) h.1.2]
          simp only
          rw [ih f (k + 1) r h.2 hf (by omega)]
    rw [key xs 300 0 r h4 hr (by omega)]
  · rw [ents_entB xs 300 0 r h4 h3 (by omega) (by rw [Nat.zero_add]; exact hr)]
end Go.Proofs.YtpklbelejebcfaaGreat.B
