import Derived.Test.YtfolmcpfdcgliaaGreatMg5
import Derived.Test.YtfolmcpfdcgliaaGreatMg14
import Derived.Test.YtfolmcpfdcgliaaGreatMg13
import Derived.Test.YtfolmcpfdcgliaaGreatMg16
import Derived.Test.YtfolmcpfdcgliaaGreatMg10
set_option linter.unusedVariables false
set_option linter.unusedSimpArgs false
set_option maxRecDepth 8000
namespace Go.Proofs.YtfolmcpfdcgliaaGreat.B
open Go
structure Ent where
  n : Int
  s : ByteArray
  deriving DecidableEq
def entE : EncK Ent := ⟨fun x => [.int .i64 x.n, .string x.s], 2, fun _ => rfl, by decide, fun _ u hu => by simp only [List.mem_cons, List.not_mem_nil, or_false] at hu; rcases hu with rfl | rfl <;> rfl⟩
def entsOk : Nat → List Ent → Bool
  | _, [] => true
  | k, x :: r => decide (x.n = (k : Int) + 1 ∧ x.s.size ≤ 600) && entsOk (k + 1) r
def logOk (e : Int) (xs : List Ent) : Bool := decide (0 ≤ e ∧ e ≤ 9007199254740991 ∧ xs.length ≤ 300) && entsOk 0 xs
def partB (n : Int) (s : List UInt8) : List UInt8 := if 4000 < (numB n ++ s).length then [] else sealB (numB n ++ s)
def entB (xs : List Ent) : List UInt8 := xs.flatMap fun x => partB x.n (bs x.s)
def logB (e : Int) (xs : List Ent) : List UInt8 := partB e [] ++ entB xs
theorem entsOk_get : ∀ {xs : List Ent} {k i : Nat} {x : Ent}, entsOk k xs = true → xs[i]? = some x → x.n = (k : Int) + i + 1 ∧ x.s.size ≤ 600
  | [], _, _, _, _, h => by simp at h
  | y :: r, k, 0, x, h, hx => by
    simp at hx; subst hx
    simp only [entsOk, Bool.and_eq_true, decide_eq_true_eq] at h
    exact ⟨by omega, h.1.2⟩
  | y :: r, k, i + 1, x, h, hx => by
    simp only [entsOk, Bool.and_eq_true, decide_eq_true_eq] at h
    have := entsOk_get (i := i) h.2 (by simpa using hx)
    exact ⟨by omega, this.2⟩
theorem entsOk_drop {xs : List Ent} {i k : Nat} {x : Ent} (hx : xs[i]? = some x) : entsOk k (xs.drop i) = (decide (x.n = (k : Int) + 1 ∧ x.s.size ≤ 600) && entsOk (k + 1) (xs.drop (i + 1))) := by
  obtain ⟨hi, e⟩ := List.getElem?_eq_some_iff.1 hx
  rw [List.drop_eq_getElem_cons hi, e]; rfl
theorem entB_next {xs : List Ent} {i : Nat} {x : Ent} (hx : xs[i]? = some x) : entB (xs.take (i + 1)) = entB (xs.take i) ++ partB x.n (bs x.s) := by
  rw [List.take_add_one, hx, entB, List.flatMap_append]; simp [entB]
theorem sealB_len {s : List UInt8} (h : s.length ≤ 4000) : (sealB s).length ≤ s.length + 14 ∧ s.length + 5 ≤ (sealB s).length := by
  have h1 := num_len (n := s.length) (by unfold I64; omega)
  have h2 := num_pos (s.length : Int)
  rw [sealB, textB, List.length_append, List.length_append, four_len]
  omega
theorem partB_len (n : Int) (hn : I64 n) (s : List UInt8) : (partB n s).length ≤ 4014 := by
  unfold partB
  split
  · simp
  · have := sealB_len (s := numB n ++ s) (by omega)
    omega
theorem entB_len {xs : List Ent} (h : entsOk 0 xs = true) (hl : xs.length ≤ 300) : ∀ i, (entB (xs.take i)).length ≤ i * 4014 := by
  intro i
  induction i with
  | zero => simp [entB]
  | succ i ih =>
    cases hx : xs[i]? with
    | none =>
      have : xs.take (i + 1) = xs.take i := by rw [List.take_add_one, hx]; simp
      rw [this]; exact Nat.le_trans ih (Nat.mul_le_mul_right _ (Nat.le_succ i))
    | some x =>
      rw [entB_next hx, List.length_append]
      have h1 := entsOk_get h hx
      have hi := (List.getElem?_eq_some_iff.1 hx).1
      have h2 : I64 x.n := by unfold I64; have := h1.1; constructor <;> omega
      have h3 := partB_len x.n h2 (bs x.s)
      rw [Nat.succ_mul]
      exact Nat.add_le_add ih h3
theorem entB_len2 {xs : List Ent} (h : entsOk 0 xs = true) (hl : xs.length ≤ 300) (i : Nat) (hi : i ≤ 300) : (entB (xs.take i)).length ≤ 1204200 := Nat.le_trans (entB_len h hl i) (Nat.mul_le_mul_right 4014 hi)
noncomputable def openP (l : List UInt8) : Option (Int × List UInt8 × List UInt8) :=
  match openB l with
  | (e, x, r) => if e = 0 then (match takeNum x with | some (n, x') => some (n, x', r) | none => none) else none
noncomputable def takeEnt (k : Nat) (l : List UInt8) : Option (Ent × List UInt8) :=
  match openP l with
  | some (n, s, r) => if n = (k : Int) + 1 ∧ s.length ≤ 600 then some (⟨n, mk s⟩, r) else none
  | none => none
noncomputable def ents : Nat → Nat → List UInt8 → List Ent × List UInt8
  | 0, _, l => ([], l)
  | f + 1, k, l => match takeEnt k l with
    | some (x, r) => (x :: (ents f (k + 1) r).1, (ents f (k + 1) r).2)
    | none => ([], l)
noncomputable def parseP (l : List UInt8) : Option (Int × List Ent × List UInt8) :=
  match openP l with
  | some (n, s, r) => if s = [] ∧ 0 ≤ n ∧ n ≤ 9007199254740991 then some (n, (ents 300 0 r).1, (ents 300 0 r).2) else none
  | none => none
theorem openP_part {n : Int} (hn : I64 n) {s : List UInt8} (h : (numB n ++ s).length ≤ 4000) (r : List UInt8) : openP (partB n s ++ r) = some (n, s, r) := by
  unfold openP partB
  rw [if_neg (by omega), openB_seal h]
  simp only [if_true]
  rw [takeNum_num hn]
theorem openP_some {l x r : List UInt8} {n : Int} (h : openP l = some (n, x, r)) : I64 n ∧ l = partB n x ++ r ∧ (numB n ++ x).length ≤ 4000 := by
  unfold openP at h
  split at h
  rename_i e y r' he
  split at h
  · rename_i e0
    subst e0
    split at h
    · rename_i n' x' hT
      simp only [Option.some.injEq, Prod.mk.injEq] at h
      obtain ⟨rfl, rfl, rfl⟩ := h
      obtain ⟨h1, h2⟩ := takeNum_some hT
      obtain ⟨h3, h4⟩ := openB_ok he
      subst h2
      exact ⟨h1, by rw [h3, partB, if_neg (by omega)], h4⟩
    · cases h
  · cases h
theorem openP_nil : openP [] = none := by
  cases h : openP [] with
  | none => rfl
  | some p =>
    obtain ⟨n, x, r⟩ := p
    obtain ⟨h1, h2, h3⟩ := openP_some h
    have h4 := congrArg List.length h2
    have h5 := sealB_len h3
    rw [List.length_append, partB, if_neg (by omega)] at h4
    simp only [List.length_nil] at h4
    omega
theorem takeEnt_nil (k : Nat) : takeEnt k [] = none := by rw [takeEnt, openP_nil]
theorem openP_len {l x r : List UInt8} {n : Int} (h : openP l = some (n, x, r)) : r.length < l.length ∧ x.length ≤ 4000 := by
  obtain ⟨h1, h2, h3⟩ := openP_some h
  have h4 := congrArg List.length h2
  have h5 := sealB_len h3
  rw [List.length_append, partB, if_neg (by omega)] at h4
  rw [List.length_append] at h3
  omega
theorem takeEnt_len {k : Nat} {l r : List UInt8} {x : Ent} (h : takeEnt k l = some (x, r)) : r.length ≤ l.length := by
  unfold takeEnt at h
  split at h
  · rename_i n s r' ho
    split at h
    · simp only [Option.some.injEq, Prod.mk.injEq] at h
      obtain ⟨_, rfl⟩ := h
      have := openP_len ho; omega
    · cases h
  · cases h
theorem takeEnt_part {k : Nat} {x : Ent} (hn : x.n = (k : Int) + 1) (hk : k ≤ 300) (hs : x.s.size ≤ 600) (r : List UInt8) : takeEnt k (partB x.n (bs x.s) ++ r) = some (x, r) := by
  have h1 := num_len (n := x.n) (by unfold I64; omega)
  have h2 := bs_len x.s
  rw [takeEnt, openP_part (by unfold I64; omega) (by rw [List.length_append]; omega)]
  simp only
  rw [if_pos ⟨hn, by omega⟩]
theorem ents_entB : ∀ (xs : List Ent) (f k : Nat) (r : List UInt8), entsOk k xs = true → xs.length ≤ f → k + xs.length ≤ 300 → takeEnt (k + xs.length) r = none → ents f k (entB xs ++ r) = (xs, r)
  | [], f, k, r, _, _, _, hr => by
    cases f with
    | zero => rfl
    | succ f =>
      simp only [List.length_nil, Nat.add_zero] at hr
      show ents (f + 1) k r = _
      rw [ents, hr]
  | x :: xs, f, k, r, h, hf, hk, hr => by
    cases f with
    | zero => simp at hf
    | succ f =>
      simp only [entsOk, Bool.and_eq_true, decide_eq_true_eq] at h
      simp only [List.length_cons] at hf hk hr
      have e : entB (x :: xs) ++ r = partB x.n (bs x.s) ++ (entB xs ++ r) := by simp [entB, List.append_assoc]
      rw [e, ents, takeEnt_part h.1.1 (by omega) h.1.2]
      simp only
      rw [ents_entB xs f (k + 1) r h.2 (by omega) (by omega) (by rw [show k + 1 + xs.length = k + (xs.length + 1) from by omega]; exact hr)]
theorem logOk_iff {e : Int} {xs : List Ent} : logOk e xs = true ↔ (0 ≤ e ∧ e ≤ 9007199254740991 ∧ xs.length ≤ 300) ∧ entsOk 0 xs = true := by
  simp [logOk]
theorem parseP_log {e : Int} {xs : List Ent} (h : logOk e xs = true) (r : List UInt8) (hr : xs.length = 300 ∨ takeEnt xs.length r = none) : parseP (logB e xs ++ r) = some (e, xs, r) := by
  obtain ⟨⟨h1, h2, h3⟩, h4⟩ := logOk_iff.1 h
  have hn := num_len (n := e) (by unfold I64; omega)
  unfold parseP
  rw [logB, List.append_assoc, openP_part (by unfold I64; omega) (by simp; omega)]
  simp only
  rw [if_pos ⟨trivial, h1, h2⟩]
  rcases hr with hr | hr
  · have key : ∀ (xs : List Ent) (f k : Nat) (r : List UInt8), entsOk k xs = true → xs.length = f → k + xs.length ≤ 300 → ents f k (entB xs ++ r) = (xs, r) := by
      intro xs
      induction xs with
      | nil => intro f k r _ hf _; simp at hf; subst hf; rfl
      | cons x xs ih =>
        intro f k r h hf hk
        cases f with
        | zero => simp at hf
        | succ f =>
          simp only [entsOk, Bool.and_eq_true, decide_eq_true_eq] at h
          simp only [List.length_cons, Nat.add_right_cancel_iff] at hf hk
          have e : entB (x :: xs) ++ r = partB x.n (bs x.s) ++ (entB xs ++ r) := by simp [entB, List.append_assoc]
          rw [e, ents, takeEnt_part h.1.1 (by omega) h.1.2]
          simp only
          rw [ih f (k + 1) r h.2 hf (by omega)]
    rw [key xs 300 0 r h4 hr (by omega)]
  · rw [ents_entB xs 300 0 r h4 h3 (by omega) (by rw [Nat.zero_add]; exact hr)]
theorem entsOk_snoc : ∀ (xs : List Ent) (k : Nat) (x : Ent), entsOk k (xs ++ [x]) = (entsOk k xs && decide (x.n = ((k + xs.length : Nat) : Int) + 1 ∧ x.s.size ≤ 600))
  | [], k, x => by simp [entsOk]
  | y :: ys, k, x => by
    simp only [List.cons_append, entsOk, entsOk_snoc ys (k + 1) x, List.length_cons, Bool.and_assoc]
    rw [show k + 1 + ys.length = k + (ys.length + 1) from by omega]
end Go.Proofs.YtfolmcpfdcgliaaGreat.B

namespace Go.Proofs.YtfolmcpfdcgliaaGreat.B
open Go Go.Proofs
attribute [local irreducible] WL CS QS WQ WH WS Fn Op1 row Sat
abbrev logV (e : Int) (A : Option Addr) (k c : Nat) : Value := .agg #[.int .i64 e, .slice A k c]
theorem logOk_false {e : Int} {xs : List Ent} (h : ¬ (0 ≤ e ∧ e ≤ 9007199254740991 ∧ xs.length ≤ 300)) : logOk e xs = false := by simp [logOk, h]
theorem logOk_true {e : Int} {xs : List Ent} (h : 0 ≤ e ∧ e ≤ 9007199254740991 ∧ xs.length ≤ 300) : logOk e xs = entsOk 0 xs := by simp [logOk, h]
set_option maxHeartbeats 1000000 in
theorem log_Right (e : Int) (A : Option Addr) (k c : Nat) (xs : List Ent) (hk : k = xs.length) (W0 : World) (G : List SL) (hR : Rd W0 G entE A xs) :
    Fn Tryz.prog 57 [logV e A k c] W0 G (Ret fun v G' => v = .bool (logOk e xs) ∧ G' = G) := by
  refine Fn.enter Tryz.func57 rfl Tryz.ntmps57 rfl ?_
  repeat' (first|refine bA ?_|refine bkq fun q=>?_|(refine bk2 ?_ ?_<;>(first|exact bkn|(refine bkk ?_;intro h))))
  all_goals try (refine QS.turn (G' := G) (fun w hs => hs.drop) (QS.retV Tryz.results57 rfl ⟨?_, rfl⟩); rw [logOk_false (by omega)]; rfl)
  have hok := logOk_true (e := e) (xs := xs) (by omega)
  refine CS.loop (X := Nat) (fun i => [(1, .pointer (some ⟨q, 0, none⟩)), (20, .slice A k c), (21, .int .i64 (k : Int)), (22, .int .i64 (i : Int))]) (fun i => row q 45 [.int .i64 e, .slice A k c] :: G)
    (fun i => i ≤ k ∧ entsOk 0 xs = entsOk i (xs.drop i)) (fun i => k - i) 0 ⟨rfl, rfl, rfl, rfl, trivial⟩ (fun w hs => hs) ⟨Nat.zero_le _, rfl⟩ ?_
  rintro i ⟨hi, he⟩
  repeat' (first|refine bA ?_|refine bkq fun q=>?_|(refine bk2 ?_ ?_<;>(first|exact bkn|(refine bkk ?_;intro h))))
  · obtain ⟨x, hx⟩ : ∃ x, xs[i]? = some x := ⟨xs[i]'(by omega), List.getElem?_eq_getElem (by omega)⟩
    have hd := entsOk_drop (k := i) hx
    refine WL.idx TT hR.cons rfl rfl hk (by omega) (by rw [Int.toNat_natCast]; exact hx) rfl rfl rfl rfl (fun b2 o hA => ?_)
    refine WL.s (op1_at TT hA rfl rfl rfl rfl) rfl ?_
    repeat' (first|refine bA ?_|refine bkq fun q=>?_|(refine bk2 ?_ ?_<;>(first|exact bkn|(refine bkk ?_;intro h))))
    · refine QS.turn (G' := G) (fun w hs => hs.drop.drop) (QS.retV Tryz.results57 rfl ⟨?_, rfl⟩)
      rw [hok, he, hd, decide_eq_false (by omega)]; rfl
    · refine QS.turn (G' := G) (fun w hs => hs.drop.drop) (QS.retV Tryz.results57 rfl ⟨?_, rfl⟩)
      rw [hok, he, hd, decide_eq_false (by omega)]; rfl
    · refine QS.again (i + 1) ⟨by omega, ?_⟩ (by omega) ⟨rfl, rfl, rfl, ?_, trivial⟩ (fun w hs => hs.drop)
      · rw [he, hd, decide_eq_true (by omega)]; rfl
      · rw [show ((i + 1 : Nat) : Int) = (i : Int) + 1 from by omega]; rfl
  · refine QS.turn (G' := G) (fun w hs => hs.drop) (QS.retV Tryz.results57 rfl ⟨?_, rfl⟩)
    rw [hok, he, List.drop_eq_nil_of_le (by omega)]; rfl
set_option maxHeartbeats 1000000 in
theorem ref_Right (e : Int) (A : Option Addr) (k c : Nat) (xs : List Ent) (hk : k = xs.length) (W0 : World) (G : List SL) (hR : Rd W0 G entE A xs) :
    Fn Tryz.prog 129 [logV e A k c] W0 G (Ret fun v G' => v = .bool (logOk e xs) ∧ G' = G) := by
  refine Fn.enter Tryz.func129 rfl Tryz.ntmps129 rfl ?_
  repeat' (first|refine bA ?_|refine bkq fun q=>?_|(refine bk2 ?_ ?_<;>(first|exact bkn|(refine bkk ?_;intro h))))
  all_goals try (refine QS.turn (G' := G) (fun w hs => hs.drop) (QS.retV Tryz.results129 rfl ⟨?_, rfl⟩); rw [logOk_false (by omega)]; rfl)
  have hok := logOk_true (e := e) (xs := xs) (by omega)
  refine CS.loop (X := Nat) (fun i => [(1, .pointer (some ⟨q, 0, none⟩)), (3, .int .i64 (i : Int))]) (fun i => row q 45 [.int .i64 e, .slice A k c] :: G)
    (fun i => i ≤ k ∧ entsOk 0 xs = entsOk i (xs.drop i)) (fun i => k - i) 0 ⟨rfl, rfl, trivial⟩ (fun w hs => hs) ⟨Nat.zero_le _, rfl⟩ ?_
  rintro i ⟨hi, he⟩
  repeat' (first|refine bA ?_|refine bkq fun q=>?_|(refine bk2 ?_ ?_<;>(first|exact bkn|(refine bkk ?_;intro h))))
  · obtain ⟨x, hx⟩ : ∃ x, xs[i]? = some x := ⟨xs[i]'(by omega), List.getElem?_eq_getElem (by omega)⟩
    have hd := entsOk_drop (k := i) hx
    refine WL.idx TT hR.cons rfl rfl hk (by omega) (by rw [Int.toNat_natCast]; exact hx) rfl rfl rfl rfl (fun b2 o hA => ?_)
    repeat' (first|refine bA ?_|refine bkq fun q=>?_|(refine bk2 ?_ ?_<;>(first|exact bkn|(refine bkk ?_;intro h))))
    refine WL.s (op1_atF TT 0 hA rfl rfl rfl rfl rfl) rfl ?_
    repeat' (first|refine bA ?_|refine bkq fun q=>?_|(refine bk2 ?_ ?_<;>(first|exact bkn|(refine bkk ?_;intro h))))
    · refine QS.turn (G' := G) (fun w hs => hs.drop) (QS.retV Tryz.results129 rfl ⟨?_, rfl⟩)
      rw [hok, he, hd, decide_eq_false (by omega)]; rfl
    · refine WL.idx TT hR.cons rfl rfl hk (by omega) (by rw [Int.toNat_natCast]; exact hx) rfl rfl rfl rfl (fun b3 o3 hA3 => ?_)
      repeat' (first|refine bA ?_|refine bkq fun q=>?_|(refine bk2 ?_ ?_<;>(first|exact bkn|(refine bkk ?_;intro h))))
      refine WL.s (op1_atF TT 1 hA3 rfl rfl rfl rfl rfl) rfl ?_
      repeat' (first|refine bA ?_|refine bkq fun q=>?_|(refine bk2 ?_ ?_<;>(first|exact bkn|(refine bkk ?_;intro h))))
      · refine QS.turn (G' := G) (fun w hs => hs.drop) (QS.retV Tryz.results129 rfl ⟨?_, rfl⟩)
        rw [hok, he, hd, decide_eq_false (by omega)]; rfl
      · refine QS.again (i + 1) ⟨by omega, ?_⟩ (by omega) ⟨rfl, ?_, trivial⟩ (fun w hs => hs)
        · rw [he, hd, decide_eq_true (by omega)]; rfl
        · rw [show ((i + 1 : Nat) : Int) = (i : Int) + 1 from by omega]; rfl
  · refine QS.turn (G' := G) (fun w hs => hs.drop) (QS.retV Tryz.results129 rfl ⟨?_, rfl⟩)
    rw [hok, he, List.drop_eq_nil_of_le (by omega)]; rfl
theorem partB_eq {n : Int} {s : ByteArray} : (if 4000 < (mk (numB n) ++ s).size then Value.tuple #[.string ⟨#[]⟩, .int .i64 4] else .tuple #[.string (mk (sealB (bs (mk (numB n) ++ s)))), .int .i64 0]) =
    .tuple #[.string (mk (partB n (bs s))), .int .i64 (if 4000 < (numB n ++ bs s).length then 4 else 0)] := by
  have h : (mk (numB n) ++ s).size = (numB n ++ bs s).length := by rw [ByteArray.size_append, mk_size, List.length_append, bs_len]
  rw [h, partB, bs_cat]
  split <;> rfl
theorem partB_eq2 {n : Int} {s : ByteArray} : (if 4000 < (mk (numB n) ++ s).size then Value.tuple #[.string ⟨#[]⟩, .bool false] else .tuple #[.string (mk (sealB (bs (mk (numB n) ++ s)))), .bool true]) =
    .tuple #[.string (mk (partB n (bs s))), .bool (decide (¬ 4000 < (numB n ++ bs s).length))] := by
  have h : (mk (numB n) ++ s).size = (numB n ++ bs s).length := by rw [ByteArray.size_append, mk_size, List.length_append, bs_len]
  rw [h, partB, bs_cat]
  by_cases h4 : 4000 < (numB n ++ bs s).length
  · rw [if_pos h4, if_pos h4, decide_eq_false (fun e => e h4)]
  · rw [if_neg h4, if_neg h4, decide_eq_true h4]
theorem log_part (n : Int) (hn : I64 n) (s : ByteArray) (hs : s.size ≤ 140737488355328) (W0 : World) (G : List SL) :
    Fn Tryz.prog 140 [.int .i64 n, .string s] W0 G (Ret fun v G' => v = .string (mk (partB n (bs s))) ∧ G' = G) := by
  refine Fn.enter Tryz.func140 rfl Tryz.ntmps140 rfl ?_
  have h1 := mk_size (numB n)
  have h2 := num_len hn
  have h3 : (mk (numB n) ++ s).size = (mk (numB n)).size + s.size := ByteArray.size_append
  repeat' (first|refine bA ?_|refine bkq fun q=>?_|(refine bk2 ?_ ?_<;>(first|exact bkn|(refine bkk ?_;intro h))))
  refine WL.call c75 rfl rfl rfl rfl (wire_Num hn W0 G) ?_
  rintro _ _ ⟨rfl, rfl⟩
  repeat' (first|refine bA ?_|refine bkq fun q=>?_|(refine bk2 ?_ ?_<;>(first|exact bkn|(refine bkk ?_;intro h))))
  refine WL.call c134 rfl rfl rfl rfl (sum_Seal (mk (numB n) ++ s) (by omega) W0 _) ?_
  rintro _ _ ⟨rfl, rfl⟩
  rw [partB_eq]
  repeat' (first|refine bA ?_|refine bkq fun q=>?_|(refine bk2 ?_ ?_<;>(first|exact bkn|(refine bkk ?_;intro h))))
  exact QS.retV Tryz.results140 rfl ⟨rfl, rfl⟩
theorem ref_one (n : Int) (hn : I64 n) (s : ByteArray) (hs : s.size ≤ 140737488355328) (W0 : World) (G : List SL) :
    Fn Tryz.prog 154 [.agg #[.int .i64 n, .string s]] W0 G (Ret fun v G' => v = .string (mk (partB n (bs s))) ∧ G' = G) := by
  refine Fn.enter Tryz.func154 rfl Tryz.ntmps154 rfl ?_
  have h1 := mk_size (numB n)
  have h2 := num_len hn
  have h3 : (mk (numB n) ++ s).size = (mk (numB n)).size + s.size := ByteArray.size_append
  repeat' (first|refine bA ?_|refine bkq fun q=>?_|(refine bk2 ?_ ?_<;>(first|exact bkn|(refine bkk ?_;intro h))))
  refine WQ.call c152 rfl rfl rfl rfl (ref_Num hn W0 _) ?_
  repeat' (first|refine bA ?_|refine bkq fun q=>?_|(refine bk2 ?_ ?_<;>(first|exact bkn|(refine bkk ?_;intro h))))
  refine WQ.call c153 rfl rfl rfl rfl (ref_Seal (mk (numB n) ++ s) (by omega) W0 _) ?_
  rw [partB_eq2]
  repeat' (first|refine bA ?_|refine bkq fun q=>?_|(refine bk2 ?_ ?_<;>(first|exact bkn|(refine bkk ?_;intro h))))
  exact QS.turn (G' := G) (fun w hs => hs.drop) (QS.retV Tryz.results154 rfl ⟨rfl, rfl⟩)
attribute [local irreducible] bldA
theorem logB_at {xs : List Ent} (e : Int) {i : Nat} {x : Ent} (hx : xs[i]? = some x) : partB e [] ++ entB (xs.take (i + 1)) = partB e [] ++ entB (xs.take i) ++ partB x.n (bs x.s) := by rw [entB_next hx, List.append_assoc]
theorem partB_ne {n : Int} {s : List UInt8} (h : (numB n ++ s).length ≤ 4000) (r : List UInt8) : partB n s ++ r ≠ [] := by
  have := sealB_len h
  rw [partB, if_neg (by omega)]
  intro e
  have h2 := congrArg List.length e
  rw [List.length_append] at h2
  simp only [List.length_nil] at h2
  omega
set_option maxHeartbeats 2000000 in
theorem log_Bytes (e : Int) (A : Option Addr) (k c : Nat) (xs : List Ent) (hk : k = xs.length) (W0 : World) (G : List SL) (hR : Rd W0 G entE A xs) :
    Fn Tryz.prog 100 [logV e A k c] W0 G (Ret fun v G' => v = (if logOk e xs then .tuple #[.string (mk (logB e xs)), .int .i64 0] else .tuple #[.string ⟨#[]⟩, .int .i64 1]) ∧ G' = G) := by
  refine Fn.enter Tryz.func100 rfl Tryz.ntmps100 rfl ?_
  repeat' (first|refine bA ?_|refine bkq fun q=>?_|(refine bk2 ?_ ?_<;>(first|exact bkn|(refine bkk ?_;intro h))))
  refine WL.call c57 rfl rfl rfl rfl (log_Right e A k c xs hk W0 _ hR.cons) ?_
  rintro _ _ ⟨rfl, rfl⟩
  cases hok : logOk e xs with
  | false =>
    repeat' (first|refine bA ?_|refine bkq fun q=>?_|(refine bk2 ?_ ?_<;>(first|exact bkn|(refine bkk ?_;intro h))))
    exact QS.turn (G' := G) (fun w hs => hs.drop) (QS.retV Tryz.results100 rfl ⟨rfl, rfl⟩)
  | true =>
    obtain ⟨⟨h1, h2, h3⟩, h4⟩ := logOk_iff.1 hok
    have he : I64 e := by unfold I64; constructor <;> omega
    have hen := num_len he
    repeat' (first|refine bA ?_|refine bkq fun q=>?_|(refine bk2 ?_ ?_<;>(first|exact bkn|(refine bkk ?_;intro h))))
    refine WL.turn bldA_new ?_
    refine WL.call c140 rfl rfl rfl rfl (log_part e he ⟨#[]⟩ (by decide) W0 _) ?_
    rintro _ _ ⟨rfl, rfl⟩
    have hp0 := partB_len e he []
    have hm0 := mk_size (partB e [])
    refine WL.call c139 rfl rfl rfl rfl (bld_WriteString q [] (mk (partB e [])) (by rw [mk_size]; simp only [List.length_nil]; omega) W0 _) ?_
    rintro _ _ ⟨rfl, rfl⟩
    repeat' (first|refine bA ?_|refine bkq fun q=>?_|(refine bk2 ?_ ?_<;>(first|exact bkn|(refine bkk ?_;intro h))))
    rename_i q1
    refine CS.loop (X := Nat) (fun i => [(4, .pointer (some ⟨q, 0, none⟩)), (15, .slice A k c), (16, .int .i64 (k : Int)), (17, .int .i64 (i : Int))]) (fun i => bldA q (partB e [] ++ entB (xs.take i)) :: row q1 45 [.int .i64 e, .slice A k c] :: G)
      (fun i => i ≤ k) (fun i => k - i) 0 ⟨rfl, rfl, rfl, rfl, trivial⟩ (fun w hs => ?_) (Nat.zero_le _) ?_
    · rw [show partB e [] ++ entB (xs.take 0) = [] ++ bs (mk (partB e [])) from by simp [entB]]; exact hs
    intro i hi
    have hel := entB_len2 h4 h3 i (by omega)
    repeat' (first|refine bA ?_|refine bkq fun q=>?_|(refine bk2 ?_ ?_<;>(first|exact bkn|(refine bkk ?_;intro h))))
    · obtain ⟨x, hx⟩ : ∃ x, xs[i]? = some x := ⟨xs[i]'(by omega), List.getElem?_eq_getElem (by omega)⟩
      have hx1 := entsOk_get h4 hx
      have hxn : I64 x.n := by unfold I64; have := hx1.1; constructor <;> omega
      have hpx := partB_len x.n hxn (bs x.s)
      refine WL.idx TT hR.cons.cons rfl rfl hk (by omega) (by rw [Int.toNat_natCast]; exact hx) rfl rfl rfl rfl (fun b2 o hA => ?_)
      refine WL.s (op1_at TT hA rfl rfl rfl rfl) rfl ?_
      repeat' (first|refine bA ?_|refine bkq fun q=>?_|(refine bk2 ?_ ?_<;>(first|exact bkn|(refine bkk ?_;intro h))))
      rename_i qb
      refine WL.call c140 rfl rfl rfl rfl (log_part x.n hxn x.s (by omega) W0 _) ?_
      rintro _ _ ⟨rfl, rfl⟩
      refine WL.call c139 rfl rfl rfl rfl ((bld_WriteString qb _ (mk (partB x.n (bs x.s))) ?_ W0 _).pre (fun w hs => hs.front (i := 1) rfl)) ?_
      · rw [mk_size, List.length_append]; generalize (entB (xs.take i)).length = m at *; omega
      rintro _ _ ⟨rfl, rfl⟩
      repeat' (first|refine bA ?_|refine bkq fun q=>?_|(refine bk2 ?_ ?_<;>(first|exact bkn|(refine bkk ?_;intro h))))
      refine QS.again (i + 1) (by omega) (by omega) ⟨rfl, rfl, rfl, ?_, trivial⟩ (fun w hs => ?_)
      · rw [show ((i + 1 : Nat) : Int) = (i : Int) + 1 from by omega]; rfl
      · rw [logB_at e hx]; exact hs.kick (i := 1) rfl
    · have hie : i = k := by omega
      refine WL.call c141 rfl rfl rfl rfl (bld_String q _ (partB_ne (by simp; omega) _) W0 _) ?_
      rintro _ _ ⟨rfl, rfl⟩
      repeat' (first|refine bA ?_|refine bkq fun q=>?_|(refine bk2 ?_ ?_<;>(first|exact bkn|(refine bkk ?_;intro h))))
      refine QS.turn (G' := G) (fun w hs => hs.drop) (QS.retV Tryz.results100 rfl ⟨?_, rfl⟩)
      rw [hie, hk, List.take_length]; rfl
theorem partB_eq3 {n : Int} (hn : I64 n) : (if 4000 < (mk (numB n)).size then Value.tuple #[.string ⟨#[]⟩, .bool false] else .tuple #[.string (mk (sealB (bs (mk (numB n))))), .bool true]) = .tuple #[.string (mk (partB n [])), .bool true] := by
  have h1 := num_len hn
  rw [if_neg (by rw [mk_size]; omega), partB, if_neg (by simp; omega), List.append_nil]
set_option maxHeartbeats 2000000 in
theorem ref_Bytes (e : Int) (A : Option Addr) (k c : Nat) (xs : List Ent) (hk : k = xs.length) (W0 : World) (G : List SL) (hR : Rd W0 G entE A xs) :
    Fn Tryz.prog 117 [logV e A k c] W0 G (Ret fun v G' => v = (if logOk e xs then .tuple #[.string (mk (logB e xs)), .bool true] else .tuple #[.string ⟨#[]⟩, .bool false]) ∧ G' = G) := by
  refine Fn.enter Tryz.func117 rfl Tryz.ntmps117 rfl ?_
  repeat' (first|refine bA ?_|refine bkq fun q=>?_|(refine bk2 ?_ ?_<;>(first|exact bkn|(refine bkk ?_;intro h))))
  refine WL.call c129 rfl rfl rfl rfl (ref_Right e A k c xs hk W0 _ hR.cons) ?_
  rintro _ _ ⟨rfl, rfl⟩
  cases hok : logOk e xs with
  | false =>
    repeat' (first|refine bA ?_|refine bkq fun q=>?_|(refine bk2 ?_ ?_<;>(first|exact bkn|(refine bkk ?_;intro h))))
    exact QS.turn (G' := G) (fun w hs => hs.drop) (QS.retV Tryz.results117 rfl ⟨rfl, rfl⟩)
  | true =>
    obtain ⟨⟨h1, h2, h3⟩, h4⟩ := logOk_iff.1 hok
    have he : I64 e := by unfold I64; constructor <;> omega
    have hen := num_len he
    have hm0 := mk_size (numB e)
    repeat' (first|refine bA ?_|refine bkq fun q=>?_|(refine bk2 ?_ ?_<;>(first|exact bkn|(refine bkk ?_;intro h))))
    refine WL.call c152 rfl rfl rfl rfl (ref_Num he W0 _) ?_
    rintro _ _ ⟨rfl, rfl⟩
    refine WL.call c153 rfl rfl rfl rfl (ref_Seal (mk (numB e)) (by omega) W0 _) ?_
    rintro _ _ ⟨rfl, rfl⟩
    rw [partB_eq3 he]
    repeat' (first|refine bA ?_|refine bkq fun q=>?_|(refine bk2 ?_ ?_<;>(first|exact bkn|(refine bkk ?_;intro h))))
    refine CS.loop (X := Nat) (fun i => [(1, .pointer (some ⟨q, 0, none⟩)), (5, .string (mk (partB e [] ++ entB (xs.take i)))), (7, .int .i64 (i : Int))]) (fun i => row q 45 [.int .i64 e, .slice A k c] :: G)
      (fun i => i ≤ k) (fun i => k - i) 0 ⟨rfl, by rw [show partB e [] ++ entB (xs.take 0) = partB e [] from by simp [entB]]; rfl, rfl, trivial⟩ (fun w hs => hs) (Nat.zero_le _) ?_
    intro i hi
    have hel := entB_len2 h4 h3 i (by omega)
    have hp0 := partB_len e he []
    have hms := mk_size (partB e [] ++ entB (xs.take i))
    rw [List.length_append] at hms
    repeat' (first|refine bA ?_|refine bkq fun q=>?_|(refine bk2 ?_ ?_<;>(first|exact bkn|(refine bkk ?_;intro h))))
    · obtain ⟨x, hx⟩ : ∃ x, xs[i]? = some x := ⟨xs[i]'(by omega), List.getElem?_eq_getElem (by omega)⟩
      have hx1 := entsOk_get h4 hx
      have hxn : I64 x.n := by unfold I64; have := hx1.1; constructor <;> omega
      have hpx := partB_len x.n hxn (bs x.s)
      have hmx := mk_size (partB x.n (bs x.s))
      refine WL.idx TT hR.cons rfl rfl hk (by omega) (by rw [Int.toNat_natCast]; exact hx) rfl rfl rfl rfl (fun b2 o hA => ?_)
      refine WL.s (op1_at TT hA rfl rfl rfl rfl) rfl ?_
      repeat' (first|refine bA ?_|refine bkq fun q=>?_|(refine bk2 ?_ ?_<;>(first|exact bkn|(refine bkk ?_;intro h))))
      refine WL.call c154 rfl rfl rfl rfl (ref_one x.n hxn x.s (by omega) W0 _) ?_
      rintro _ _ ⟨rfl, rfl⟩
      repeat' (first|refine bA ?_|refine bkq fun q=>?_|(refine bk2 ?_ ?_<;>(first|exact bkn|(refine bkk ?_;intro h))))
      refine QS.again (i + 1) (by omega) (by omega) ⟨rfl, ?_, ?_, trivial⟩ (fun w hs => hs)
      · rw [logB_at e hx, ← mk_cat]; rfl
      · rw [show ((i + 1 : Nat) : Int) = (i : Int) + 1 from by omega]; rfl
    · have hie : i = k := by omega
      refine QS.turn (G' := G) (fun w hs => hs.drop) (QS.retV Tryz.results117 rfl ⟨?_, rfl⟩)
      rw [hie, hk, List.take_length]; rfl
end Go.Proofs.YtfolmcpfdcgliaaGreat.B
