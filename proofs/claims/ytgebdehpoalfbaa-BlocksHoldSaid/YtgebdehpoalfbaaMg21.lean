import Derived.Test.YtgebdehpoalfbaaMg20
import Derived.Test.YtgebdehpoalfbaaMg10
set_option linter.unusedVariables false
set_option linter.unusedSimpArgs false
set_option maxRecDepth 8000
/-! What the blocks' laws are made of. -/
namespace Go.Proofs.Ytgebdehpoalfbaa.B
open Go Go.Proofs
attribute [local irreducible] WL CS QS WQ WH WS Fn Op1 row Sat
attribute [local irreducible] slc mapb bmA inners
theorem law_pick (n m : Int) (hn : -9223372036854775808 ≤ n ∧ n ≤ 9223372036854775807) (hm : 0 < m) (W0 : World) (G : List SL) :
    Fn Try.prog 14 [.int .i64 n, .int .i64 m] W0 G (Ret fun v G' => v = .int .i64 (pickM n m) ∧ G' = G) := by
  refine Fn.enter Try.func14 rfl Try.ntmps14 rfl ?_
  have hm0 : decide (m = 0) = false := decide_eq_false (by omega)
  repeat' (first|refine bk ?_|refine bkc ?_|refine bks ?_|refine bkd ?_|refine bkq (fun q => ?_)|(refine bk2 ?_ ?_<;>(first|exact bkn|(refine bkk ?_;intro h))))
  all_goals
    refine WL.s (op1_rem TT rfl rfl (by omega)) rfl ?_
    repeat' (first|refine bk ?_|refine bkc ?_|refine bks ?_|refine bkd ?_|refine bkq (fun q => ?_)|(refine bk2 ?_ ?_<;>(first|exact bkn|(refine bkk ?_;intro h))))
    refine QS.retV Try.results14 rfl ⟨?_, rfl⟩
    first
      | (rw [pickM, if_pos (by assumption)]; rfl)
      | (rw [pickM, if_neg (by assumption)]; rfl)
theorem law_numbers (A B : Option Addr) (c c2 : Nat) (xs : List Int) (hl : xs.length ≤ 1000000) (W0 : World) (G : List SL) (hR : Rd W0 G intE A xs) (hR2 : Rd W0 G intE B xs) :
    Fn Try.prog 15 [.slice A xs.length c, .slice B xs.length c2] W0 G (Ret fun v G' => v = .bool true ∧ G' = G) := by
  refine Fn.enter Try.func15 rfl Try.ntmps15 rfl ?_
  have hne : decide ((xs.length : Int) = xs.length) = true := by simp
  repeat' (first|refine bk ?_|refine bkc ?_|refine bks ?_|refine bkd ?_|refine bkq (fun q => ?_)|(refine bk2 ?_ ?_<;>(first|exact bkn|(refine bkk ?_;intro h))))
  refine CS.loop (X := Nat) (fun i => [(0, .slice A xs.length c), (1, .slice B xs.length c2), (5, .int .i64 (i : Int))]) (fun i => G)
    (fun i => i ≤ xs.length) (fun i => xs.length - i) 0 ⟨rfl, rfl, rfl, trivial⟩ (fun w hs => hs) (Nat.zero_le _) ?_
  intro i hi
  refine CS.world fun hw => ?_
  repeat' (first|refine bk ?_|refine bkc ?_|refine bks ?_|refine bkd ?_|refine bkq (fun q => ?_)|(refine bk2 ?_ ?_<;>(first|exact bkn|(refine bkk ?_;intro h))))
  · obtain ⟨x, hx⟩ : ∃ x, xs[i]? = some x := ⟨xs[i]'(by omega), List.getElem?_eq_getElem (by omega)⟩
    refine WQ.idx TT hR rfl rfl rfl (by omega) (by rw [Int.toNat_natCast]; exact hx) rfl rfl rfl rfl hw (fun b2 o hA => ?_)
    refine WQ.s (op1_at TT hA rfl rfl rfl rfl) rfl ?_
    repeat' (first|refine bk ?_|refine bkc ?_|refine bks ?_|refine bkd ?_|refine bkq (fun q => ?_)|(refine bk2 ?_ ?_<;>(first|exact bkn|(refine bkk ?_;intro h))))
    refine WQ.idx TT hR2 rfl rfl rfl (by omega) (by rw [Int.toNat_natCast]; exact hx) rfl rfl rfl rfl hw (fun b3 o3 hA3 => ?_)
    refine WQ.s (op1_at TT hA3 rfl rfl rfl rfl) rfl ?_
    repeat' (first|refine bk ?_|refine bkc ?_|refine bks ?_|refine bkd ?_|refine bkq (fun q => ?_)|(refine bk2 ?_ ?_<;>(first|exact bkn|(refine bkk ?_;intro h))))
    exact QS.again (i + 1) (by show i + 1 ≤ xs.length; omega) (by show xs.length - (i + 1) < xs.length - i; omega) ⟨rfl, rfl, rfl, trivial⟩ (fun w hs => hs)
  · exact QS.retV Try.results15 rfl ⟨rfl, rfl⟩
theorem law_same (A B : Option Addr) (c c2 : Nat) (xs : List Blk) (hl : xs.length ≤ 1000000) (W0 : World) (G : List SL) (hR : Rd W0 G blkE A xs) (hR2 : Rd W0 G blkE B xs) :
    Fn Try.prog 24 [.slice A xs.length c, .slice B xs.length c2] W0 G (Ret fun v G' => v = .bool true ∧ G' = G) := by
  refine Fn.enter Try.func24 rfl Try.ntmps24 rfl ?_
  repeat' (first|refine bk ?_|refine bkc ?_|refine bks ?_|refine bkd ?_|refine bkq (fun q => ?_)|(refine bk2 ?_ ?_<;>(first|exact bkn|(refine bkk ?_;intro h))))
  refine CS.loop (X := Nat) (fun i => [(0, .slice A xs.length c), (1, .slice B xs.length c2), (5, .int .i64 (i : Int))]) (fun i => G)
    (fun i => i ≤ xs.length) (fun i => xs.length - i) 0 ⟨rfl, rfl, rfl, trivial⟩ (fun w hs => hs) (Nat.zero_le _) ?_
  intro i hi
  refine CS.world fun hw => ?_
  repeat' (first|refine bk ?_|refine bkc ?_|refine bks ?_|refine bkd ?_|refine bkq (fun q => ?_)|(refine bk2 ?_ ?_<;>(first|exact bkn|(refine bkk ?_;intro h))))
  · obtain ⟨x, hx⟩ : ∃ x, xs[i]? = some x := ⟨xs[i]'(by omega), List.getElem?_eq_getElem (by omega)⟩
    refine WQ.idx TT hR rfl rfl rfl (by omega) (by rw [Int.toNat_natCast]; exact hx) rfl rfl rfl rfl hw (fun b2 o hA => ?_)
    refine WQ.s (op1_at TT hA rfl rfl rfl rfl) rfl ?_
    repeat' (first|refine bk ?_|refine bkc ?_|refine bks ?_|refine bkd ?_|refine bkq (fun q => ?_)|(refine bk2 ?_ ?_<;>(first|exact bkn|(refine bkk ?_;intro h))))
    refine WQ.idx TT hR2 rfl rfl rfl (by omega) (by rw [Int.toNat_natCast]; exact hx) rfl rfl rfl rfl hw (fun b3 o3 hA3 => ?_)
    refine WQ.s (op1_at TT hA3 rfl rfl rfl rfl) rfl ?_
    have hcmp : eqFs TT [(3, 0), (3, 1), (3, 2)] (blkC x) (blkC x) = some true := by
      have e : (decide (x.id = x.id) && (decide (x.gen = x.gen) && (decide (x.len = x.len) && true))) = true := by simp
      exact (show eqFs TT [(3, 0), (3, 1), (3, 2)] (blkC x) (blkC x) = some (decide (x.id = x.id) && (decide (x.gen = x.gen) && (decide (x.len = x.len) && true))) from rfl).trans (by rw [e])
    refine WQ.s (op1_neS TT cmp28 rfl rfl rfl rfl hcmp) rfl ?_
    repeat' (first|refine bk ?_|refine bkc ?_|refine bks ?_|refine bkd ?_|refine bkq (fun q => ?_)|(refine bk2 ?_ ?_<;>(first|exact bkn|(refine bkk ?_;intro h))))
    exact QS.again (i + 1) (by show i + 1 ≤ xs.length; omega) (by show xs.length - (i + 1) < xs.length - i; omega) ⟨rfl, rfl, rfl, trivial⟩ (fun w hs => hs)
  · exact QS.retV Try.results24 rfl ⟨rfl, rfl⟩
end Go.Proofs.Ytgebdehpoalfbaa.B

set_option linter.unusedVariables false
set_option linter.unusedSimpArgs false
set_option maxRecDepth 8000
/-! The chapter's example. -/
namespace Go.Proofs.Ytgebdehpoalfbaa.B
open Go Go.Proofs
attribute [local irreducible] WL CS QS WQ WH WS Fn Op1 row Sat
attribute [local irreducible] slc mapb bmA inners
set_option maxHeartbeats 2000000 in
theorem law_examples (W0 : World) (G : List SL) :
    Fn Try.prog 8 [] W0 G (Ret fun v G' => v = .bool true ∧ G' = G) := by
  refine Fn.enter Try.func8 rfl Try.ntmps8 rfl ?_
  repeat' (first|refine bk ?_|refine bkc ?_|refine bks ?_|refine bkd ?_|refine bkq (fun q => ?_)|(refine bk2 ?_ ?_<;>(first|exact bkn|(refine bkk ?_;intro h))))
  refine WL.call c9 rfl rfl rfl rfl (blocks_New W0 _) ?_
  rintro _ _ ⟨b, rfl, rfl⟩
  repeat' (first|refine bk ?_|refine bkc ?_|refine bks ?_|refine bkd ?_|refine bkq (fun q => ?_)|(refine bk2 ?_ ?_<;>(first|exact bkn|(refine bkk ?_;intro h))))
  revert q; intro q2
  refine WL.buildSlice TT rfl rfl rfl rfl rfl rfl rfl rfl (fun q3 => ?_)
  have hc := blocks_Report b b0 0 (some ⟨q3, 0, none⟩) 1 [⟨7, 2, 5, false⟩] (by decide) W0 (row q3 30 [.int .i64 7, .int .i64 2, .int .i64 5, .bool false] :: row q2 28 (blkC exB) :: G) (Rd.row (i := 0) rfl rfl)
  rw [if_pos (by decide)] at hc
  refine WL.call c10 rfl rfl rfl rfl (hc.pre (fun w hs => hs.front (i := 2) rfl)) ?_
  clear hc
  rintro _ _ ⟨rfl, rfl⟩
  repeat' (first|refine bk ?_|refine bkc ?_|refine bks ?_|refine bkd ?_|refine bkq (fun q => ?_)|(refine bk2 ?_ ?_<;>(first|exact bkn|(refine bkk ?_;intro h))))
  refine WL.buildSlice TT rfl rfl rfl rfl rfl rfl rfl rfl (fun q4 => ?_)
  have hc := blocks_Report b (b0.report 0 [⟨7, 2, 5, false⟩]) 1 (some ⟨q4, 0, none⟩) 1 [⟨7, 1, 9, false⟩] (by decide) W0 (row q4 30 [.int .i64 7, .int .i64 1, .int .i64 9, .bool false] :: row q3 30 [.int .i64 7, .int .i64 2, .int .i64 5, .bool false] :: row q2 28 (blkC exB) :: G) (Rd.row (i := 0) rfl rfl)
  rw [if_pos (by decide)] at hc
  refine WL.call c10 rfl rfl rfl rfl (hc.pre (fun w hs => hs.front (i := 1) rfl)) ?_
  clear hc
  rintro _ _ ⟨rfl, rfl⟩
  rw [show (b0.report 0 [⟨7, 2, 5, false⟩]).report 1 [⟨7, 1, 9, false⟩] = exM from rfl]
  repeat' (first|refine bk ?_|refine bkc ?_|refine bks ?_|refine bkd ?_|refine bkq (fun q => ?_)|(refine bk2 ?_ ?_<;>(first|exact bkn|(refine bkk ?_;intro h))))
  have hc := blocks_Hold b exM exM_ok exB W0 (row q4 30 [.int .i64 7, .int .i64 1, .int .i64 9, .bool false] :: row q3 30 [.int .i64 7, .int .i64 2, .int .i64 5, .bool false] :: row q2 28 (blkC exB) :: G)
  rw [ex_hold] at hc
  refine WL.call c13 rfl rfl rfl rfl hc ?_
  clear hc
  rintro _ _ ⟨A5, c5, rfl, rfl⟩
  repeat' (first|refine bk ?_|refine bkc ?_|refine bks ?_|refine bkd ?_|refine bkq (fun q => ?_)|(refine bk2 ?_ ?_<;>(first|exact bkn|(refine bkk ?_;intro h))))
  refine WL.buildSlice TT rfl rfl rfl rfl rfl rfl rfl rfl (fun q5 => ?_)
  refine WL.call c15 rfl rfl rfl rfl (law_numbers A5 (some ⟨q5, 0, none⟩) c5 1 [0] (by decide) W0 _ (Rd.slc (i := 1) rfl) (Rd.row (i := 0) rfl rfl)) ?_
  rintro _ G2 ⟨rfl, hG2⟩
  rw [hG2]; clear hG2 G2
  repeat' (first|refine bk ?_|refine bkc ?_|refine bks ?_|refine bkd ?_|refine bkq (fun q => ?_)|(refine bk2 ?_ ?_<;>(first|exact bkn|(refine bkk ?_;intro h))))
  refine WL.buildSlice TT rfl rfl rfl rfl rfl rfl rfl rfl (fun q6 => ?_)
  have hc := blocks_Stale b exM (some ⟨q6, 0, none⟩) 1 [exB] (by decide) 1 (by decide) W0 (row q6 28 (blkC exB) :: row q5 3 [.int .i64 0] :: slc intE 3 A5 c5 [0] :: row q4 30 [.int .i64 7, .int .i64 1, .int .i64 9, .bool false] :: row q3 30 [.int .i64 7, .int .i64 2, .int .i64 5, .bool false] :: row q2 28 (blkC exB) :: G) (Rd.row (i := 0) rfl rfl)
  rw [ex_stale] at hc
  refine WL.call c11 rfl rfl rfl rfl (hc.pre (fun w hs => hs.front (i := 3) rfl)) ?_
  clear hc
  rintro _ _ ⟨A7, c7, rfl, rfl⟩
  repeat' (first|refine bk ?_|refine bkc ?_|refine bks ?_|refine bkd ?_|refine bkq (fun q => ?_)|(refine bk2 ?_ ?_<;>(first|exact bkn|(refine bkk ?_;intro h))))
  refine WL.buildSlice TT rfl rfl rfl rfl rfl rfl rfl rfl (fun q7 => ?_)
  refine WL.call c15 rfl rfl rfl rfl (law_numbers A7 (some ⟨q7, 0, none⟩) c7 1 [7] (by decide) W0 _ (Rd.slc (i := 1) rfl) (Rd.row (i := 0) rfl rfl)) ?_
  rintro _ G2 ⟨rfl, hG2⟩
  rw [hG2]; clear hG2 G2
  repeat' (first|refine bk ?_|refine bkc ?_|refine bks ?_|refine bkd ?_|refine bkq (fun q => ?_)|(refine bk2 ?_ ?_<;>(first|exact bkn|(refine bkk ?_;intro h))))
  refine WL.buildSlice TT rfl rfl rfl rfl rfl rfl rfl rfl (fun q8 => ?_)
  have hc := fun F hR => blocks_Held b exM exM_ok (some ⟨q8, 0, none⟩) 1 [exB] (by decide) W0 F hR
  simp only [ex_held] at hc
  repeat' (first|refine bk ?_|refine bkc ?_|refine bks ?_|refine bkd ?_|refine bkq (fun q => ?_)|(refine bk2 ?_ ?_<;>(first|exact bkn|(refine bkk ?_;intro h))))
  refine WL.call c12 rfl rfl rfl rfl ((hc _ (Rd.row (i := 0) rfl rfl)).pre (fun w hs => hs.front (i := 3) rfl)) ?_
  clear hc
  rintro _ _ ⟨rfl, rfl⟩
  repeat' (first|refine bk ?_|refine bkc ?_|refine bks ?_|refine bkd ?_|refine bkq (fun q => ?_)|(refine bk2 ?_ ?_<;>(first|exact bkn|(refine bkk ?_;intro h))))
  exact QS.turn (G' := G) (fun w hs => hs.drop.drop.drop.drop.drop.drop.drop.drop.drop.drop) (QS.retV Try.results8 rfl ⟨rfl, rfl⟩)
end Go.Proofs.Ytgebdehpoalfbaa.B

set_option linter.unusedVariables false
set_option linter.unusedSimpArgs false
/-! Numbers are read from a text's beginning. -/
namespace Go.Proofs.Ytgebdehpoalfbaa.B
open Go

def Cont (l : List UInt8) (i : Nat) : Prop := ∀ j < i, ∃ d, l[j]? = some d ∧ 128 ≤ d.toNat
theorem Cont.zero (l : List UInt8) : Cont l 0 := fun j h => absurd h (by omega)
theorem Cont.succ {l : List UInt8} {i : Nat} {c : UInt8} (h : Cont l i) (hc : l[i]? = some c) (hb : 128 ≤ c.toNat) : Cont l (i + 1) := fun j hj => by
  rcases Nat.lt_or_ge j i with h1 | h1
  · exact h j h1
  · have : j = i := by omega
    subst this; exact ⟨c, hc, hb⟩
/-- The last byte of a number's bytes. -/
theorem can_last : ∀ {a : List UInt8} {f : Bool}, Can f a → ∃ k c, a.length = k + 1 ∧ a[k]? = some c ∧ c.toNat < 128 ∧ Cont a k ∧ (f = true ∧ k = 0 ∨ c.toNat ≠ 0)
  | [], _, h => h.elim
  | [c], f, h => ⟨0, c, rfl, rfl, h.1, Cont.zero _, by rcases h.2 with h | h <;> simp [h]⟩
  | c :: d :: r, f, h => by
    obtain ⟨k, e, h1, h2, h3, h4, h5⟩ := can_last h.2
    refine ⟨k + 1, e, by simp at h1 ⊢; omega, by simpa using h2, h3, fun j hj => ?_, ?_⟩
    · cases j with
      | zero => exact ⟨c, rfl, h.1⟩
      | succ j => exact h4 j (by omega)
    · rcases h5 with ⟨h5, _⟩ | h5
      · cases h5
      · exact .inr h5
theorem val_append : ∀ (a b : List UInt8), val (a ++ b) = val a + 128 ^ a.length * val b
  | [], b => by simp [val]
  | c :: a, b => by
    simp only [List.cons_append, val, val_append a b, List.length_cons, Nat.pow_succ, Nat.mul_add]
    rw [Nat.mul_comm (128 ^ a.length) 128, Nat.mul_assoc, Nat.add_assoc]
theorem val_lt : ∀ (a : List UInt8), val a < 128 ^ a.length
  | [] => by simp [val]
  | c :: a => by
    have := val_lt a
    simp only [val, List.length_cons, Nat.pow_succ]
    omega
theorem val_one (c : UInt8) : val [c] = c.toNat % 128 := by simp [val]
theorem take_succ_get {l : List UInt8} {i : Nat} {c : UInt8} (h : l[i]? = some c) : l.take (i + 1) = l.take i ++ [c] := by
  rw [List.take_add_one, h]; rfl
/-- Where a text begins with a number: the first byte without its top bit is the number's last. -/
theorem num_at {l r : List UInt8} {n : Int} (hn : I64 n) (h : l = numB n ++ r) : ∃ k c, k ≤ 9 ∧ l.length ≥ k + 1 ∧ l[k]? = some c ∧ c.toNat < 128 ∧ Cont l k ∧ (k = 0 ∨ c.toNat ≠ 0) ∧ numB n = l.take (k + 1) ∧ val (l.take (k + 1)) = zig n := by
  obtain ⟨k, c, h1, h2, h3, h4, h5⟩ := can_last (can_num n)
  have h6 := num_len hn
  have ht : numB n = l.take (k + 1) := by rw [h, List.take_append, h1, List.take_of_length_le (by omega)]; simp
  have hg : ∀ j, j < k + 1 → l[j]? = (numB n)[j]? := fun j hj => by rw [h, List.getElem?_append_left (by omega)]
  refine ⟨k, c, by omega, ?_, ?_, h3, fun j hj => ?_, ?_, ht, ?_⟩
  · rw [h, List.length_append]; omega
  · rw [hg k (by omega), h2]
  · rw [hg j (by omega)]; exact h4 j hj
  · rcases h5 with h5 | h5
    · exact .inl h5.2
    · exact .inr h5
  · rw [← ht, numB, val_leb]
theorem cont_le {l : List UInt8} {i k : Nat} {c : UInt8} (h : Cont l i) (hk : l[k]? = some c) (hc : c.toNat < 128) : i ≤ k := by
  rcases Nat.lt_or_ge k i with h1 | h1
  · obtain ⟨d, h2, h3⟩ := h k h1
    rw [hk] at h2; injection h2 with h2; subst h2; omega
  · exact h1
theorem tn_end {l : List UInt8} {i : Nat} (h : Cont l i) (hi : i = 10 ∨ l.length ≤ i) : TN l none := fun n r hn hl => by
  obtain ⟨k, c, h1, h2, h3, h4, h5, h6, h7, h8⟩ := num_at hn hl
  have := cont_le h h3 h4
  omega
theorem tn_zero {l : List UInt8} {i : Nat} {c : UInt8} (h : Cont l i) (hi : 0 < i) (hc : l[i]? = some c) (h0 : c.toNat = 0) : TN l none := fun n r hn hl => by
  obtain ⟨k, d, h1, h2, h3, h4, h5, h6, h7, h8⟩ := num_at hn hl
  have e1 := cont_le h h3 h4
  have e2 := cont_le h5 hc (by omega)
  have : k = i := by omega
  subst this
  rw [h3] at hc; injection hc with hc; subst hc
  omega
theorem tn_big {l : List UInt8} {c : UInt8} (h : Cont l 9) (hc : l[9]? = some c) (h0 : 1 < c.toNat) : TN l none := fun n r hn hl => by
  obtain ⟨k, d, h1, h2, h3, h4, h5, h6, h7, h8⟩ := num_at hn hl
  have e1 := cont_le h h3 h4
  have : k = 9 := by omega
  subst this
  rw [h3] at hc; injection hc with hc; subst hc
  rw [take_succ_get h3, val_append, val_one, List.length_take, show min 9 l.length = 9 from by omega] at h8
  have := zig_lt hn
  have e3 : d.toNat % 128 = d.toNat := by omega
  rw [e3] at h8
  have : 128 ^ 9 * 2 ≤ 128 ^ 9 * d.toNat := Nat.mul_le_mul_left _ (by omega)
  omega
theorem can_of {l : List UInt8} {i : Nat} {c : UInt8} : ∀ {f : Bool}, Cont l i → l[i]? = some c → c.toNat < 128 → (f = true ∧ i = 0 ∨ c.toNat ≠ 0) → Can f (l.take (i + 1)) := by
  induction i generalizing l with
  | zero =>
    intro f h hc hb h0
    cases l with
    | nil => simp at hc
    | cons d r =>
      simp at hc; subst hc
      exact ⟨hb, by rcases h0 with h0 | h0 <;> simp [h0]⟩
  | succ i ih =>
    intro f h hc hb h0
    cases l with
    | nil => simp at hc
    | cons d r =>
      obtain ⟨d', e1, e2⟩ := h 0 (by omega)
      simp at e1; subst e1
      have h0' : c.toNat ≠ 0 := by
        rcases h0 with h0 | h0
        · omega
        · exact h0
      have := ih (l := r) (f := false) (fun j hj => by simpa using h (j + 1) (by omega)) (by simpa using hc) hb (.inr h0')
      cases r with
      | nil => simp at hc
      | cons d2 r2 => exact ⟨e2, this⟩
theorem tn_some {l : List UInt8} {i : Nat} {c : UInt8} (h : Cont l i) (hc : l[i]? = some c) (hb : c.toNat < 128) (h0 : i = 0 ∨ c.toNat ≠ 0) (hv : val (l.take (i + 1)) < 2 ^ 64) :
    TN l (some (zag (val (l.take (i + 1))), l.drop (i + 1))) := by
  have h1 : Can true (l.take (i + 1)) := can_of h hc hb (by rcases h0 with h0 | h0 <;> simp [h0])
  refine ⟨zag_i64 hv, ?_⟩
  rw [numB, zig_zag, leb_val h1, List.take_append_drop]
theorem val_next {l : List UInt8} {i : Nat} {c : UInt8} (hc : l[i]? = some c) : val (l.take (i + 1)) = val (l.take i) + c.toNat % 128 * 128 ^ i := by
  have hi := (List.getElem?_eq_some_iff.1 hc).1
  rw [take_succ_get hc, val_append, val_one, List.length_take, show min i l.length = i from by omega, Nat.mul_comm]
theorem val_take_lt (l : List UInt8) (i : Nat) : val (l.take i) < 128 ^ i :=
  Nat.lt_of_lt_of_le (val_lt _) (Nat.pow_le_pow_right (by decide) (by rw [List.length_take]; omega))
/-- As the document reads: what has these bytes, or nothing. -/
theorem tn_ref {l : List UInt8} {i : Nat} {c : UInt8} (h : Cont l i) (hc : l[i]? = some c) (hb : c.toNat < 128) (hi : i < 10) :
    TN l (if numB (zag (val (l.take (i + 1)) % 2 ^ 64)) = l.take (i + 1) then some (zag (val (l.take (i + 1)) % 2 ^ 64), l.drop (i + 1)) else none) := by
  split
  · rename_i e
    exact ⟨zag_i64 (Nat.mod_lt _ (by decide)), by rw [e, List.take_append_drop]⟩
  · rename_i e
    intro n r hn hl
    obtain ⟨k, d, h1, h2, h3, h4, h5, h6, h7, h8⟩ := num_at hn hl
    have e1 := cont_le h h3 h4
    have e2 := cont_le h5 hc hb
    have : k = i := by omega
    subst this
    apply e
    rw [h8, Nat.mod_eq_of_lt (zig_lt hn), zag_zig, h7]

theorem xor_i64 {a b : Int} (ha : 0 ≤ a ∧ a < 2 ^ 63) (hb : b = 0 ∨ b = 1) : bitop .xor .i64 a (-b) = if b = 0 then a else -a - 1 := by
  obtain ⟨m, rfl⟩ := Int.eq_ofNat_of_zero_le ha.1
  have hm : (BitVec.ofInt IntKind.i64.bits (m : Int)).toNat = m := ofInt_nat 64 m (by omega)
  simp only [bitop, BitVec.toNat_xor, hm]
  rcases hb with rfl | rfl
  · rw [if_pos rfl, show (BitVec.ofInt IntKind.i64.bits (-0)).toNat = 0 from by decide, Nat.xor_zero]
    have h : (m : Int) ≤ 9223372036854775807 := by omega
    simp only [IntKind.wrap]
    have e : (m : Int) % 2 ^ IntKind.i64.bits = m := by show (m : Int) % 2 ^ 64 = m; omega
    simp [IntKind.signed, e]
    simp only [show IntKind.i64.bits = 64 from rfl]
    intro; omega
  · rw [if_neg (by decide), show (BitVec.ofInt IntKind.i64.bits (-1)).toNat = 2 ^ 64 - 1 from by decide, xor_ones 64 _ (by omega)]
    have e : ((2 ^ 64 - 1 - m : Nat) : Int) % 2 ^ IntKind.i64.bits = ((2 ^ 64 - 1 - m : Nat) : Int) := by show ((2 ^ 64 - 1 - m : Nat) : Int) % 2 ^ 64 = _; omega
    simp only [IntKind.wrap, e]
    simp only [show IntKind.i64.bits = 64 from rfl, show IntKind.i64.signed = true from rfl, Bool.true_and, decide_eq_true_eq]
    split <;> omega
end Go.Proofs.Ytgebdehpoalfbaa.B

set_option linter.unusedVariables false
set_option linter.unusedSimpArgs false
set_option maxRecDepth 8000
/-! Texts and sums, in plain words. -/
namespace Go.Proofs.Ytgebdehpoalfbaa.B
open Go

def textB (s : List UInt8) : List UInt8 := numB s.length ++ s
noncomputable def takeText (l : List UInt8) : Option (List UInt8 × List UInt8) :=
  match takeNum l with
  | none => none
  | some (n, r) => if n < 0 ∨ (4000 < n ∨ (r.length : Int) < n) then none else some (r.take n.toNat, r.drop n.toNat)
theorem takeNum_some {l r : List UInt8} {n : Int} (h : takeNum l = some (n, r)) : I64 n ∧ l = numB n ++ r := by
  have := takeNum_TN l
  rwa [h] at this
theorem takeText_some {l x r : List UInt8} (h : takeText l = some (x, r)) : l = textB x ++ r ∧ x.length ≤ 4000 := by
  unfold takeText at h
  split at h
  · cases h
  · rename_i n r' e
    obtain ⟨h1, h2⟩ := takeNum_some e
    split at h
    · cases h
    · rename_i h3
      simp only [Option.some.injEq, Prod.mk.injEq] at h
      obtain ⟨rfl, rfl⟩ := h
      have hl : (r'.take n.toNat).length = n.toNat := by rw [List.length_take]; omega
      refine ⟨?_, by omega⟩
      rw [textB, hl, Int.toNat_of_nonneg (by omega), List.append_assoc, List.take_append_drop, h2]
theorem takeText_text {x : List UInt8} (h : x.length ≤ 4000) (r : List UInt8) : takeText (textB x ++ r) = some (x, r) := by
  unfold takeText
  rw [textB, List.append_assoc, takeNum_num (by unfold I64; omega)]
  simp only
  rw [if_neg (by rw [List.length_append]; omega)]
  simp

def crcBit (x : Nat) : Nat := if x % 2 = 1 then (x / 2) ^^^ 3988292384 else x / 2
def crcBits : Nat → Nat → Nat
  | 0, x => x
  | n + 1, x => crcBits n (crcBit x)
def crcByte (x : Nat) (c : UInt8) : Nat := crcBits 8 (x ^^^ c.toNat)
def crc (l : List UInt8) : Nat := l.foldl crcByte 4294967295 ^^^ 4294967295
def four (x : Nat) : List UInt8 := [UInt8.ofNat (x / 16777216), UInt8.ofNat (x / 65536), UInt8.ofNat (x / 256), UInt8.ofNat x]
theorem crcBit_lt {x : Nat} (h : x < 2 ^ 32) : crcBit x < 2 ^ 32 := by
  unfold crcBit
  split
  · exact Nat.xor_lt_two_pow (by omega) (by decide)
  · omega
theorem crcBits_lt : ∀ (n : Nat) {x : Nat}, x < 2 ^ 32 → crcBits n x < 2 ^ 32
  | 0, _, h => h
  | n + 1, _, h => crcBits_lt n (crcBit_lt h)
theorem crcBits_succ : ∀ (n x : Nat), crcBits (n + 1) x = crcBit (crcBits n x)
  | 0, x => rfl
  | n + 1, x => by rw [crcBits, crcBits_succ n (crcBit x)]; rfl
theorem crcByte_lt {x : Nat} (h : x < 2 ^ 32) (c : UInt8) : crcByte x c < 2 ^ 32 :=
  crcBits_lt 8 (Nat.xor_lt_two_pow h (Nat.lt_trans c.toNat_lt (by decide)))
theorem foldl_lt : ∀ (l : List UInt8) {x : Nat}, x < 2 ^ 32 → l.foldl crcByte x < 2 ^ 32
  | [], _, h => h
  | c :: l, _, h => foldl_lt l (crcByte_lt h c)
theorem crc_lt (l : List UInt8) : crc l < 2 ^ 32 := Nat.xor_lt_two_pow (foldl_lt l (by decide)) (by decide)
theorem fold_next {l : List UInt8} {i x : Nat} {c : UInt8} (hc : l[i]? = some c) : (l.take (i + 1)).foldl crcByte x = crcByte ((l.take i).foldl crcByte x) c := by
  rw [take_succ_get hc, List.foldl_append]; rfl

theorem bit_code {x : Nat} (h : x < 2 ^ 32) : bitop .xor .u32 ((x : Int).fdiv (2 ^ 1)) (bitop .and .u32 3988292384 (IntKind.u32.wrap (0 - bitop .and .u32 (x : Int) 1))) = (crcBit x : Int) := by
  have e1 : bitop .and .u32 (x : Int) 1 = ((x % 2 : Nat) : Int) := by
    rw [show (1 : Int) = ((1 : Nat) : Int) from rfl, bit_and rfl (by exact h) (by decide), Nat.and_one_is_mod]
  have e2 : (x : Int).fdiv (2 ^ 1) = ((x / 2 : Nat) : Int) := by rw [Int.fdiv_eq_ediv_of_nonneg _ (by decide)]; omega
  rw [e1, e2]
  rcases Nat.mod_two_eq_zero_or_one x with h0 | h0
  · rw [h0, show IntKind.u32.wrap (0 - ((0 : Nat) : Int)) = ((0 : Nat) : Int) from rfl, show (3988292384 : Int) = ((3988292384 : Nat) : Int) from rfl, bit_and rfl (by decide) (by decide), Nat.and_zero,
      bit_xor rfl (by show _ < 2 ^ 32; omega) (by decide), Nat.xor_zero, crcBit, if_neg (by omega)]
  · rw [h0, show IntKind.u32.wrap (0 - ((1 : Nat) : Int)) = ((4294967295 : Nat) : Int) from by decide, show (3988292384 : Int) = ((3988292384 : Nat) : Int) from rfl, bit_and rfl (by decide) (by decide),
      show (3988292384 &&& 4294967295 : Nat) = 3988292384 from by decide, bit_xor rfl (by show _ < 2 ^ 32; omega) (by decide), crcBit, if_pos h0]
theorem first_code {x : Nat} (h : x < 2 ^ 32) (c : UInt8) : bitop .xor .u32 (x : Int) (IntKind.u32.wrap (c.toNat : Int)) = ((x ^^^ c.toNat : Nat) : Int) := by
  have hc : c.toNat < 2 ^ 32 := Nat.lt_trans c.toNat_lt (by decide)
  rw [wrapU rfl (by exact hc), bit_xor rfl (by exact h) (by exact hc)]
def openT (l : List UInt8) (o : Option (List UInt8 × List UInt8)) : Int × List UInt8 × List UInt8 :=
  match o with
  | none => (2, [], [])
  | some (x, r) => if r.length < 4 then (2, [], []) else if r.take 4 = four (crc x) then (0, x, r.drop 4) else (3, [], [])
def sealB (s : List UInt8) : List UInt8 := textB s ++ four (crc s)
/-- What is sealed, and what stands behind. -/
noncomputable def openB (l : List UInt8) : Int × List UInt8 × List UInt8 := openT l (takeText l)
theorem four_len (x : Nat) : (four x).length = 4 := rfl
theorem openB_seal {s : List UInt8} (h : s.length ≤ 4000) (r : List UInt8) : openB (sealB s ++ r) = (0, s, r) := by
  rw [openB, sealB, List.append_assoc, takeText_text h]
  simp only [openT]
  rw [if_neg (by rw [List.length_append, four_len]; omega), List.take_left' (four_len _), if_pos rfl, List.drop_left' (four_len _)]
theorem openB_ok {l x r : List UInt8} (h : openB l = (0, x, r)) : l = sealB x ++ r ∧ x.length ≤ 4000 := by
  unfold openB openT at h
  split at h
  · simp at h
  · rename_i x' r' e
    split at h
    · simp at h
    · split at h
      · rename_i h2
        simp only [Prod.mk.injEq, true_and] at h
        obtain ⟨rfl, rfl⟩ := h
        obtain ⟨h3, h4⟩ := takeText_some e
        refine ⟨?_, h4⟩
        rw [h3, sealB, List.append_assoc, ← h2, List.take_append_drop]
      · simp at h
end Go.Proofs.Ytgebdehpoalfbaa.B
