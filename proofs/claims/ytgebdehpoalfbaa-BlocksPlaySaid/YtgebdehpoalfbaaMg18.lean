import Derived.Test.YtgebdehpoalfbaaMg17
import Derived.Lib.SliceRun
set_option linter.unusedVariables false
set_option linter.unusedSimpArgs false
set_option maxRecDepth 8000
/-! Taking out of a slice what a function says. -/
namespace Go.Proofs.Ytgebdehpoalfbaa.B
open Go Go.Proofs
section
variable {P : Program} (T : Tab P) {Q : Exit → Act → World → Prop} {n : Nat} {ds : List Deferred} {L : TL} {W0 : World} {G : List SL}
  {ops : Array Oper} {rest : List Oper} {ty : TypeId} {pos : String} {af : Array Edge}
theorem zeros_i (k : Nat) : (Builtin.zeroCells (Value.int .i64 0).cells k).toList = List.replicate k (Value.int .i64 0) := by
  have hz : (Value.int .i64 0).cells = #[Value.int .i64 0] := rfl
  rw [hz]
  simp [Builtin.zeroCells]
  apply List.ext_getElem
  · simp
  · intro i h1 h2
    simp [Nat.mod_one]
theorem WL.clearI (i : Nat) {e t g lo k c c' : Nat} {x : Operand} {A' : Option Addr} {xs : List Int} {z b1 c1 : _} {te : TE} {G' : List SL} (hG : G[i]? = some (slc intE e (some ⟨g, 0, none⟩) c xs)) (hx : evL L x = some (.slice A' k c'))
    (hk : lo + k = xs.length) (hA : k = 0 ∨ A' = some ⟨g, lo, none⟩) (hl : lk T.tab t = some ⟨.slice e, z, b1, c1⟩) (he : lk T.tab e = some te) (hz : te.zero = .int .i64 0)
    (hG' : setG G i (slc intE e (some ⟨g, 0, none⟩) c (xs.take lo)) = some G') (h : WL P Q n ds ops rest L W0 G') :
    WL P Q n ds ops (⟨none, .call ⟨.builtin .clear, #[x], #[t]⟩, ty, pos, af, none⟩ :: rest) L W0 G := by
  refine WL.step (v := .tuple #[]) (d := none) G' (fun a w hf hs => ?_) rfl h
  obtain ⟨d1, hd1, e1, h2⟩ := T.und (w := w) hl
  obtain rfl := tdOf_slice e1
  obtain ⟨r, hr⟩ := getG_pick hG
  have s1 := hs.perm (pickG_eq hr).1.symm
  rcases Nat.eq_zero_or_pos k with rfl | hk0
  · refine ⟨w, .inl ?_, ?_⟩
    · cases A' <;> simp [execOp, resolve, invoke, builtin, hf.ev hx, Builtin.clear_, hd1]
    · rw [List.take_of_length_le (by omega)] at hG'
      exact s1.perm (setG_eq hr hG')
  · have hA := hA.resolve_left (by omega)
    subst hA
    obtain ⟨hp, h, hle⟩ := s1.head
    rcases h with ⟨h, _⟩ | ⟨g', cur, hg, hb, h2, h3, h4, h5⟩
    · cases h
    injection hg with hg
    injection hg with hg _ _
    subst hg
    have hb' := hle g _ hb
    have hsz : intE.sz = 1 := rfl
    rw [hsz, Nat.mul_one] at h4 h5
    have hst := run_storeCells_at P g lo e (List.replicate k (Value.int .i64 0)) 0 cur w hb' (by simp; omega) (by intro v hv; rw [List.eq_of_mem_replicate hv]; rfl)
    simp only [Nat.add_zero, List.length_replicate] at hst
    have hzv := T.zeroValue (w := w) he
    rw [hz] at hzv
    obtain ⟨m, rfl⟩ : ∃ m, k = m + 1 := ⟨k - 1, by omega⟩
    have hzc := zeros_i (m + 1)
    refine ⟨w.setRow g (cur.toList.take lo ++ List.replicate (m + 1) (Value.int .i64 0) ++ cur.toList.drop (lo + (m + 1))).toArray, .inl ?_, ?_⟩
    · simp [execOp, resolve, invoke, builtin, hf.ev hx, Builtin.clear_, hd1, hzv, hzc, hst]
    · refine Sat.perm (G := slc intE e (some ⟨g, 0, none⟩) c (xs.take lo) :: r) ?_ (setG_eq hr hG')
      have hcl : cur.toList.length = c := by rw [← h4]; simp
      have hnew : (cur.toList.take lo ++ List.replicate (m + 1) (Value.int .i64 0) ++ cur.toList.drop (lo + (m + 1))).length = c := by
        simp only [List.length_append, List.length_take, List.length_drop, List.length_replicate, hcl]
        omega
      have hfs : (cur.toList.take lo ++ List.replicate (m + 1) (Value.int .i64 0) ++ cur.toList.drop (lo + (m + 1))).take ((xs.take lo).length * intE.sz) = flat intE (xs.take lo) := by
        rw [hsz, Nat.mul_one, List.length_take, Nat.min_eq_left (by omega), List.append_assoc, List.take_append_of_le_length (by rw [List.length_take]; omega), List.take_take, Nat.min_self, flat_int, List.map_take, ← flat_int, ← h5, List.take_take, Nat.min_eq_left (by omega)]
      obtain ⟨NEW, hNEW⟩ : ∃ NEW, NEW = cur.toList.take lo ++ List.replicate (m + 1) (Value.int .i64 0) ++ cur.toList.drop (lo + (m + 1)) := ⟨_, rfl⟩
      rw [← hNEW] at hnew hfs ⊢
      refine s1.turn (fun hp2 hP2 hle2' => ⟨⟨fun q => if q = g then some (.cells NEW.toArray e (0, 0)) else none, .inr ⟨g, NEW.toArray, rfl, by simp [B.blk], by rw [List.length_take]; omega, h3, by simpa [hsz] using hnew, by simpa using hfs⟩, fun q o2 hq => ?_, fun q hq => ?_⟩, fun q hq hn => ?_⟩) ⟨rfl, rfl, rfl⟩
      · simp only at hq
        split at hq
        · rename_i e1; subst e1; injection hq with hq; subst hq
          simp only [World.setRow, Array.getElem?_modify, hb']
          simp
        · cases hq
      · simp only at hq
        split at hq
        · rename_i e1; subst e1
          left
          rcases hP2 with ⟨h, _⟩ | ⟨g', cur', hg, hb2, _⟩
          · cases h
          · injection hg with hg
            injection hg with hg _ _
            subst hg
            have : hp2 _ = some (.cells cur' e (0, 0)) := hb2
            rw [this]; simp
        · exact absurd rfl hq
      · simp only [World.setRow, Array.getElem?_modify]
        rw [if_neg (fun e1 => ?_)]
        subst e1
        rcases hP2 with ⟨h, _⟩ | ⟨g', cur', hg, hb2, _⟩
        · cases h
        · injection hg with hg
          injection hg with hg _ _
          subst hg
          have : hp2 g = some (.cells cur' e (0, 0)) := hb2
          rw [this] at hn
          cases hn
end
def idxF {α : Type} (p : α → Bool) : List α → Int
  | [] => -1
  | x :: r => if p x = true then 0 else (if idxF p r = -1 then -1 else idxF p r + 1)
theorem idxF_none {α : Type} {p : α → Bool} : ∀ {xs : List α}, (∀ x ∈ xs, p x = false) → idxF p xs = -1
  | [], _ => rfl
  | x :: r, h => by
    simp only [idxF]
    rw [if_neg (by rw [h x (List.mem_cons_self ..)]; decide), idxF_none (fun y hy => h y (List.mem_cons_of_mem _ hy)), if_pos rfl]
theorem idxF_some {α : Type} {p : α → Bool} : ∀ {xs : List α} {i : Nat} {x : α}, xs[i]? = some x → p x = true → (∀ j y, j < i → xs[j]? = some y → p y = false) → idxF p xs = (i : Int)
  | [], _, _, h, _, _ => by simp at h
  | y :: r, 0, x, h, hp, _ => by
    simp only [List.getElem?_cons_zero, Option.some.injEq] at h
    subst h
    simp only [idxF, hp, if_true]
    rfl
  | y :: r, i + 1, x, h, hp, hj => by
    have h0 := hj 0 y (by omega) rfl
    have ih := idxF_some (xs := r) (i := i) (x := x) (by simpa using h) hp (fun j z hjl hz => hj (j + 1) z (by omega) (by simpa using hz))
    simp only [idxF]
    rw [if_neg (by rw [h0]; decide), ih, if_neg (by omega)]
    omega
attribute [local irreducible] WL CS QS WQ WH WS Fn Op1 row Sat
attribute [local irreducible] slc mapb bmA inners
theorem index_ints {A : Option Addr} {c K : Nat} {xs : List Int} {cap : List Value} (hK : Callable Try.prog K) (p : Int → Bool) (hl : xs.length ≤ 4000000000000000000) (W0 : World) (G : List SL) (hR : Rd W0 G intE A xs)
    (hq : ∀ x ∈ xs, Fn Try.prog K (.int .i64 x :: cap) W0 G (Ret fun v G' => v = .bool (p x) ∧ G' = G)) :
    Fn Try.prog 38 [.slice A xs.length c, .func (.func K) #[] cap.toArray] W0 G (Ret fun v G' => v = .int .i64 (idxF p xs) ∧ G' = G) := by
  refine Fn.enter Try.func38 rfl Try.ntmps38 rfl ?_
  repeat' (first|refine bk ?_|refine bkc ?_|refine bks ?_|refine bkd ?_|refine bkq (fun q => ?_)|(refine bk2 ?_ ?_<;>(first|exact bkn|(refine bkk ?_;intro h))))
  refine CS.loop (X := Nat) (fun i => [(0, .slice A xs.length c), (1, .func (.func K) #[] cap.toArray), (7, .int .i64 (xs.length : Int)), (8, .int .i64 (i : Int))])
    (fun i => G) (fun i => i ≤ xs.length ∧ ∀ j y, j < i → xs[j]? = some y → p y = false) (fun i => xs.length - i) 0 ⟨rfl, rfl, rfl, rfl, trivial⟩ (fun w hs => hs) ⟨Nat.zero_le _, fun j y h => by omega⟩ ?_
  rintro i ⟨hi, hj⟩
  repeat' (first|refine bk ?_|refine bkc ?_|refine bks ?_|refine bkd ?_|refine bkq (fun q => ?_)|(refine bk2 ?_ ?_<;>(first|exact bkn|(refine bkk ?_;intro h))))
  · obtain ⟨x, hx⟩ : ∃ x, xs[i]? = some x := ⟨xs[i]'(by omega), List.getElem?_eq_getElem (by omega)⟩
    refine WL.idx TT hR rfl rfl rfl (by omega) (by rw [Int.toNat_natCast]; exact hx) rfl rfl rfl rfl (fun bb o hA => ?_)
    refine WL.s (op1_at TT hA rfl rfl rfl rfl) rfl ?_
    refine WL.call (fst := []) (cap := cap) hK rfl rfl rfl rfl (hq x (List.mem_of_getElem? hx)) ?_
    rintro _ G2 ⟨rfl, hG2⟩
    rw [hG2]; clear hG2 G2
    cases hpx : p x with
    | true =>
      repeat' (first|refine bk ?_|refine bkc ?_|refine bks ?_|refine bkd ?_|refine bkq (fun q => ?_)|(refine bk2 ?_ ?_<;>(first|exact bkn|(refine bkk ?_;intro h))))
      exact QS.retV Try.results38 rfl ⟨by rw [idxF_some hx hpx hj]; rfl, rfl⟩
    | false =>
      repeat' (first|refine bk ?_|refine bkc ?_|refine bks ?_|refine bkd ?_|refine bkq (fun q => ?_)|(refine bk2 ?_ ?_<;>(first|exact bkn|(refine bkk ?_;intro h))))
      refine QS.again (i + 1) ⟨by omega, fun j y hj1 hy => ?_⟩ (by show xs.length - (i + 1) < xs.length - i; omega) ⟨rfl, rfl, rfl, rfl, trivial⟩ (fun w hs => hs)
      by_cases e : j = i
      · subst e; rw [hx] at hy; injection hy with hy; rw [← hy]; exact hpx
      · exact hj j y (by omega) hy
  · have hn : ∀ x ∈ xs, p x = false := fun x hx => by
      obtain ⟨j, hj1⟩ := List.mem_iff_getElem?.1 hx
      exact hj j x (by have := (List.getElem?_eq_some_iff.1 hj1).1; omega) hj1
    exact QS.retV Try.results38 rfl ⟨by rw [idxF_none hn]; rfl, rfl⟩
theorem index_blks {A : Option Addr} {c K : Nat} {xs : List Blk} {cap : List Value} (hK : Callable Try.prog K) (p : Blk → Bool) (hl : xs.length ≤ 4000000000000000000) (W0 : World) (G : List SL) (hR : Rd W0 G blkE A xs)
    (hq : ∀ x ∈ xs, Fn Try.prog K (blkV x :: cap) W0 G (Ret fun v G' => v = .bool (p x) ∧ G' = G)) :
    Fn Try.prog 35 [.slice A xs.length c, .func (.func K) #[] cap.toArray] W0 G (Ret fun v G' => v = .int .i64 (idxF p xs) ∧ G' = G) := by
  refine Fn.enter Try.func35 rfl Try.ntmps35 rfl ?_
  repeat' (first|refine bk ?_|refine bkc ?_|refine bks ?_|refine bkd ?_|refine bkq (fun q => ?_)|(refine bk2 ?_ ?_<;>(first|exact bkn|(refine bkk ?_;intro h))))
  refine CS.loop (X := Nat) (fun i => [(0, .slice A xs.length c), (1, .func (.func K) #[] cap.toArray), (7, .int .i64 (xs.length : Int)), (8, .int .i64 (i : Int))])
    (fun i => G) (fun i => i ≤ xs.length ∧ ∀ j y, j < i → xs[j]? = some y → p y = false) (fun i => xs.length - i) 0 ⟨rfl, rfl, rfl, rfl, trivial⟩ (fun w hs => hs) ⟨Nat.zero_le _, fun j y h => by omega⟩ ?_
  rintro i ⟨hi, hj⟩
  repeat' (first|refine bk ?_|refine bkc ?_|refine bks ?_|refine bkd ?_|refine bkq (fun q => ?_)|(refine bk2 ?_ ?_<;>(first|exact bkn|(refine bkk ?_;intro h))))
  · obtain ⟨x, hx⟩ : ∃ x, xs[i]? = some x := ⟨xs[i]'(by omega), List.getElem?_eq_getElem (by omega)⟩
    refine WL.idx TT hR rfl rfl rfl (by omega) (by rw [Int.toNat_natCast]; exact hx) rfl rfl rfl rfl (fun bb o hA => ?_)
    refine WL.s (op1_at TT hA rfl rfl rfl rfl) rfl ?_
    refine WL.call (fst := []) (cap := cap) hK rfl rfl rfl rfl (hq x (List.mem_of_getElem? hx)) ?_
    rintro _ G2 ⟨rfl, hG2⟩
    rw [hG2]; clear hG2 G2
    cases hpx : p x with
    | true =>
      repeat' (first|refine bk ?_|refine bkc ?_|refine bks ?_|refine bkd ?_|refine bkq (fun q => ?_)|(refine bk2 ?_ ?_<;>(first|exact bkn|(refine bkk ?_;intro h))))
      exact QS.retV Try.results35 rfl ⟨by rw [idxF_some hx hpx hj]; rfl, rfl⟩
    | false =>
      repeat' (first|refine bk ?_|refine bkc ?_|refine bks ?_|refine bkd ?_|refine bkq (fun q => ?_)|(refine bk2 ?_ ?_<;>(first|exact bkn|(refine bkk ?_;intro h))))
      refine QS.again (i + 1) ⟨by omega, fun j y hj1 hy => ?_⟩ (by show xs.length - (i + 1) < xs.length - i; omega) ⟨rfl, rfl, rfl, rfl, trivial⟩ (fun w hs => hs)
      by_cases e : j = i
      · subst e; rw [hx] at hy; injection hy with hy; rw [← hy]; exact hpx
      · exact hj j y (by omega) hy
  · have hn : ∀ x ∈ xs, p x = false := fun x hx => by
      obtain ⟨j, hj1⟩ := List.mem_iff_getElem?.1 hx
      exact hj j x (by have := (List.getElem?_eq_some_iff.1 hj1).1; omega) hj1
    exact QS.retV Try.results35 rfl ⟨by rw [idxF_none hn]; rfl, rfl⟩
theorem idxF_any {α : Type} {p : α → Bool} : ∀ xs : List α, (0 ≤ idxF p xs ↔ xs.any p = true) ∧ -1 ≤ idxF p xs
  | [] => ⟨by simp [idxF], Int.le_refl _⟩
  | x :: r => by
    have ih := idxF_any (p := p) r
    have i1 := ih.1
    have i2 := ih.2
    simp only [idxF, List.any_cons, Bool.or_eq_true]
    split
    · rename_i h; exact ⟨by simp [h], by omega⟩
    · rename_i h
      split
      · rename_i e
        rw [e] at i1
        exact ⟨⟨fun h2 => absurd h2 (by omega), fun h2 => h2.elim (fun h3 => absurd h3 h) (fun h3 => absurd (i1.2 h3) (by omega))⟩, by omega⟩
      · rename_i e
        exact ⟨⟨fun h2 => .inr (i1.1 (by omega)), fun h2 => h2.elim (fun h3 => absurd h3 h) (fun h3 => by have := i1.2 h3; omega)⟩, by omega⟩
theorem contains_blks {A : Option Addr} {c K : Nat} {xs : List Blk} {cap : List Value} (hK : Callable Try.prog K) (p : Blk → Bool) (hl : xs.length ≤ 4000000000000000000) (W0 : World) (G : List SL) (hR : Rd W0 G blkE A xs)
    (hq : ∀ x ∈ xs, Fn Try.prog K (blkV x :: cap) W0 G (Ret fun v G' => v = .bool (p x) ∧ G' = G)) :
    Fn Try.prog 27 [.slice A xs.length c, .func (.func K) #[] cap.toArray] W0 G (Ret fun v G' => v = .bool (xs.any p) ∧ G' = G) := by
  refine Fn.enter Try.func27 rfl Try.ntmps27 rfl ?_
  repeat' (first|refine bk ?_|refine bkc ?_|refine bks ?_|refine bkd ?_|refine bkq (fun q => ?_)|(refine bk2 ?_ ?_<;>(first|exact bkn|(refine bkk ?_;intro h))))
  refine WL.call c35 rfl rfl rfl rfl (index_blks hK p hl W0 G hR hq) ?_
  rintro _ G2 ⟨rfl, hG2⟩
  rw [hG2]; clear hG2 G2
  repeat' (first|refine bk ?_|refine bkc ?_|refine bks ?_|refine bkd ?_|refine bkq (fun q => ?_)|(refine bk2 ?_ ?_<;>(first|exact bkn|(refine bkk ?_;intro h))))
  exact QS.retV Try.results27 rfl ⟨by rw [show decide (0 ≤ idxF p xs) = xs.any p from by rw [Bool.eq_iff_iff, decide_eq_true_iff]; exact (idxF_any xs).1]; rfl, rfl⟩
end Go.Proofs.Ytgebdehpoalfbaa.B

set_option linter.unusedVariables false
set_option linter.unusedSimpArgs false
set_option maxRecDepth 8000
/-! slices.DeleteFunc of integers; who holds a block. -/
namespace Go.Proofs.Ytgebdehpoalfbaa.B
open Go Go.Proofs
theorem idxF_cases {α : Type} {p : α → Bool} : ∀ xs : List α, (idxF p xs = -1 ∧ ∀ x ∈ xs, p x = false) ∨ ∃ (i : Nat) (x : α), idxF p xs = (i : Int) ∧ xs[i]? = some x ∧ p x = true ∧ ∀ j y, j < i → xs[j]? = some y → p y = false
  | [] => .inl ⟨rfl, fun _ h => by cases h⟩
  | x :: r => by
    cases hp : p x with
    | true => exact .inr ⟨0, x, by simp [idxF, hp], rfl, hp, fun j y h => by omega⟩
    | false =>
      rcases idxF_cases (p := p) r with ⟨h1, h2⟩ | ⟨i, y, h1, h2, h3, h4⟩
      · refine .inl ⟨by simp [idxF, hp, h1], fun y hy => ?_⟩
        rcases List.mem_cons.1 hy with rfl | hy
        · exact hp
        · exact h2 y hy
      · refine .inr ⟨i + 1, y, ?_, by simpa using h2, h3, fun j z hj hz => ?_⟩
        · simp only [idxF]
          rw [if_neg (by rw [hp]; decide), h1, if_neg (by omega)]
          omega
        · cases j with
          | zero => simp only [List.getElem?_cons_zero, Option.some.injEq] at hz; rw [← hz]; exact hp
          | succ j => exact h4 j z (by omega) (by simpa using hz)
def keepF (p : Int → Bool) (xs : List Int) (j : Nat) : List Int := (xs.take j).filter fun x => !p x
theorem keepF_succ {p : Int → Bool} {xs : List Int} {j : Nat} {x : Int} (h : xs[j]? = some x) : keepF p xs (j + 1) = keepF p xs j ++ (if p x = true then [] else [x]) := by
  unfold keepF
  rw [List.take_add_one, h, Option.toList_some, List.filter_append, List.filter_cons, List.filter_nil]
  cases hp : p x <;> simp
theorem keepF_all {p : Int → Bool} {xs : List Int} {j : Nat} (hj : xs.length ≤ j) : keepF p xs j = xs.filter fun x => !p x := by
  unfold keepF
  rw [List.take_of_length_le hj]
theorem keepF_first {p : Int → Bool} {xs : List Int} {i : Nat} (h : ∀ j y, j < i → xs[j]? = some y → p y = false) : keepF p xs i = xs.take i := by
  unfold keepF
  refine List.filter_eq_self.2 fun x hx => ?_
  obtain ⟨j, hj⟩ := List.mem_iff_getElem?.1 hx
  rw [List.getElem?_take] at hj
  split at hj
  · rw [h j x (by assumption) hj]; rfl
  · cases hj
structure DelInv (p : Int → Bool) (xs : List Int) (j : Nat) (ys : List Int) : Prop where
  jl : j ≤ xs.length
  len : ys.length = xs.length
  pre : ys.take (keepF p xs j).length = keepF p xs j
  suf : ys.drop j = xs.drop j
  lt : (keepF p xs j).length < j
theorem del_start {p : Int → Bool} {xs : List Int} {i : Nat} {x : Int} (h1 : xs[i]? = some x) (h2 : p x = true) (h3 : ∀ j y, j < i → xs[j]? = some y → p y = false) : DelInv p xs (i + 1) xs ∧ (keepF p xs (i + 1)).length = i := by
  have hi := (List.getElem?_eq_some_iff.1 h1).1
  have e : keepF p xs (i + 1) = xs.take i := by rw [keepF_succ h1, h2, if_pos rfl, List.append_nil, keepF_first h3]
  have el : (xs.take i).length = i := by rw [List.length_take]; omega
  refine ⟨⟨by omega, rfl, by rw [e, el], rfl, by rw [e, el]; omega⟩, by rw [e, el]⟩
theorem del_get {p : Int → Bool} {xs ys : List Int} {j : Nat} (h : DelInv p xs j ys) {x : Int} (hx : xs[j]? = some x) : ys[j]? = some x := by
  have h1 : (ys.drop j)[0]? = (xs.drop j)[0]? := by rw [h.suf]
  simpa [List.getElem?_drop, hx] using h1
theorem del_skip {p : Int → Bool} {xs ys : List Int} {j : Nat} (h : DelInv p xs j ys) {x : Int} (hx : xs[j]? = some x) (hp : p x = true) : DelInv p xs (j + 1) ys ∧ (keepF p xs (j + 1)).length = (keepF p xs j).length := by
  have hi := (List.getElem?_eq_some_iff.1 hx).1
  have e : keepF p xs (j + 1) = keepF p xs j := by rw [keepF_succ hx, hp, if_pos rfl, List.append_nil]
  have hl := h.lt
  exact ⟨⟨by omega, h.len, by rw [e]; exact h.pre, by rw [← List.drop_drop, ← List.drop_drop, h.suf], by rw [e]; omega⟩, by rw [e]⟩
theorem del_take {p : Int → Bool} {xs ys : List Int} {j : Nat} (h : DelInv p xs j ys) {x : Int} (hx : xs[j]? = some x) (hp : p x = false) : DelInv p xs (j + 1) (ys.set (keepF p xs j).length x) ∧ (keepF p xs (j + 1)).length = (keepF p xs j).length + 1 := by
  have hi := (List.getElem?_eq_some_iff.1 hx).1
  have e : keepF p xs (j + 1) = keepF p xs j ++ [x] := by rw [keepF_succ hx, hp]; rfl
  have hl := h.lt
  have hlen := h.len
  have el : (keepF p xs (j + 1)).length = (keepF p xs j).length + 1 := by rw [e]; simp
  refine ⟨⟨by omega, by rw [List.length_set]; exact h.len, ?_, ?_, by omega⟩, el⟩
  · rw [el, List.take_add_one, List.getElem?_set_self (by omega), e, Option.toList_some]
    congr 1
    rw [List.take_set_of_le (Nat.le_refl _)]
    exact h.pre
  · rw [List.drop_set_of_lt (by omega), ← List.drop_drop, ← List.drop_drop, h.suf]
attribute [local irreducible] WL CS QS WQ WH WS Fn Op1 row Sat
attribute [local irreducible] slc mapb bmA inners
set_option maxHeartbeats 1000000 in
theorem delete_ints {A : Option Addr} {c K : Nat} {xs : List Int} {cap : List Value} (hK : Callable Try.prog K) (p : Int → Bool) (hl : xs.length ≤ 4000000000000000000) (W0 : World) (G : List SL)
    (hq : ∀ x ∈ xs, ∀ ys, Fn Try.prog K (.int .i64 x :: cap) W0 (slc intE 3 A c ys :: G) (Ret fun v G' => v = .bool (p x) ∧ G' = slc intE 3 A c ys :: G)) :
    Fn Try.prog 30 [.slice A xs.length c, .func (.func K) #[] cap.toArray] W0 (slc intE 3 A c xs :: G)
      (Ret fun v G' => v = .slice A (xs.filter fun x => !p x).length c ∧ G' = slc intE 3 A c (xs.filter fun x => !p x) :: G) := by
  refine Fn.fact (slc_at (i := 0) rfl) fun ⟨hc1, hc2, hAt⟩ => ?_
  refine Fn.enter Try.func30 rfl Try.ntmps30 rfl ?_
  repeat' (first|refine bk ?_|refine bkc ?_|refine bks ?_|refine bkd ?_|refine bkq (fun q => ?_)|(refine bk2 ?_ ?_<;>(first|exact bkn|(refine bkk ?_;intro h))))
  refine WL.call c38 rfl rfl rfl rfl (index_ints hK p hl W0 _ (Rd.slc (i := 0) rfl) (fun x hx => hq x hx xs)) ?_
  rintro _ G2 ⟨rfl, hG2⟩
  rw [hG2]; clear hG2 G2
  rcases idxF_cases (p := p) xs with ⟨h1, h2⟩ | ⟨i0, x0, h1, h2, h3, h4⟩
  · rw [h1]
    repeat' (first|refine bk ?_|refine bkc ?_|refine bks ?_|refine bkd ?_|refine bkq (fun q => ?_)|(refine bk2 ?_ ?_<;>(first|exact bkn|(refine bkk ?_;intro h))))
    have e : (xs.filter fun x => !p x) = xs := List.filter_eq_self.2 fun x hx => by rw [h2 x hx]; rfl
    exact QS.retV Try.results30 rfl ⟨by rw [e]; rfl, by rw [e]⟩
  · rw [h1]
    have hi0 := (List.getElem?_eq_some_iff.1 h2).1
    obtain ⟨g, rfl⟩ : ∃ g, A = some ⟨g, 0, none⟩ := hAt.elim (fun h => by rw [h.2.2] at hi0; simp at hi0) (fun h => h)
    obtain ⟨hs1, hs2⟩ := del_start h2 h3 h4
    have hne : ¬ ((i0 : Int) = -1) := by omega
    repeat' (first|refine bk ?_|refine bkc ?_|refine bks ?_|refine bkd ?_|refine bkq (fun q => ?_)|(refine bk2 ?_ ?_<;>(first|exact bkn|(refine bkk ?_;intro h))))
    refine CS.loop (X := Nat × List Int) (fun y => [(0, .slice (some ⟨g, 0, none⟩) xs.length c), (1, .func (.func K) #[] cap.toArray), (5, .int .i64 ((keepF p xs y.1).length : Int)), (6, .int .i64 (y.1 : Int))])
      (fun y => slc intE 3 (some ⟨g, 0, none⟩) c y.2 :: G) (fun y => DelInv p xs y.1 y.2) (fun y => xs.length - y.1) (i0 + 1, xs) ⟨rfl, rfl, by rw [hs2]; rfl, rfl, trivial⟩ (fun w hs => hs) hs1 ?_
    rintro ⟨j, ys⟩ hI
    simp only at hI ⊢
    have hj := hI.jl
    have hlt := hI.lt
    have hlen := hI.len
    repeat' (first|refine bk ?_|refine bkc ?_|refine bks ?_|refine bkd ?_|refine bkq (fun q => ?_)|(refine bk2 ?_ ?_<;>(first|exact bkn|(refine bkk ?_;intro h))))
    · obtain ⟨x, hx⟩ : ∃ x, xs[j]? = some x := ⟨xs[j]'(by omega), List.getElem?_eq_getElem (by omega)⟩
      have hy := del_get hI hx
      refine WL.idx TT (Rd.slc (i := 0) rfl) rfl rfl hlen.symm (by omega) (by rw [Int.toNat_natCast]; exact hy) rfl rfl rfl rfl (fun bb o hA => ?_)
      refine WL.s (op1_at TT hA rfl rfl rfl rfl) rfl ?_
      repeat' (first|refine bk ?_|refine bkc ?_|refine bks ?_|refine bkd ?_|refine bkq (fun q => ?_)|(refine bk2 ?_ ?_<;>(first|exact bkn|(refine bkk ?_;intro h))))
      refine WL.call (fst := []) (cap := cap) hK rfl rfl rfl rfl (hq x (List.mem_of_getElem? hx) ys) ?_
      rintro _ G2 ⟨rfl, hG2⟩
      rw [hG2]; clear hG2 G2
      cases hpx : p x with
      | true =>
        obtain ⟨e1, e2⟩ := del_skip hI hx hpx
        repeat' (first|refine bk ?_|refine bkc ?_|refine bks ?_|refine bkd ?_|refine bkq (fun q => ?_)|(refine bk2 ?_ ?_<;>(first|exact bkn|(refine bkk ?_;intro h))))
        refine QS.again (j + 1, ys) e1 (by show xs.length - (j + 1) < xs.length - j; omega) ⟨rfl, rfl, by rw [e2]; rfl, rfl, trivial⟩ (fun w hs => hs)
      | false =>
        obtain ⟨e1, e2⟩ := del_take hI hx hpx
        repeat' (first|refine bk ?_|refine bkc ?_|refine bks ?_|refine bkd ?_|refine bkq (fun q => ?_)|(refine bk2 ?_ ?_<;>(first|exact bkn|(refine bkk ?_;intro h))))
        refine WL.s (op1_idxA TT intE rfl rfl (by omega) rfl rfl rfl) rfl ?_
        obtain ⟨z, hz⟩ : ∃ z, ys[(keepF p xs j).length]? = some z := ⟨ys[(keepF p xs j).length]'(by omega), List.getElem?_eq_getElem (by omega)⟩
        refine WL.storeS TT (E := intE) 0 (j := (keepF p xs j).length) (k := 0) (z := z) (z' := x) rfl rfl rfl (by rw [Int.toNat_natCast]; rfl) hz rfl rfl rfl rfl rfl rfl ?_
        repeat' (first|refine bk ?_|refine bkc ?_|refine bks ?_|refine bkd ?_|refine bkq (fun q => ?_)|(refine bk2 ?_ ?_<;>(first|exact bkn|(refine bkk ?_;intro h))))
        refine QS.again (j + 1, ys.set (keepF p xs j).length x) e1 (by show xs.length - (j + 1) < xs.length - j; omega) ⟨rfl, rfl, by rw [e2]; rfl, rfl, trivial⟩ (fun w hs => hs)
    · have e := keepF_all (p := p) (show xs.length ≤ j by omega)
      have hpre := hI.pre
      refine WL.s (op1_sliceS (E := intE) (xs := ys) (l := ((keepF p xs j).length : Int)) (r := (xs.length : Int)) TT (by rfl) (by rfl) rfl rfl hlen.symm rfl rfl (by omega) hc1) rfl ?_
      rw [if_neg (by omega)]
      refine WL.clearI TT 0 (lo := (keepF p xs j).length) rfl rfl (by simp only [Int.toNat_natCast]; omega) (.inr (by simp [Addr.add, intE]; intro e9; rw [e9]; rfl)) rfl rfl rfl rfl ?_
      rw [hpre]
      repeat' (first|refine bk ?_|refine bkc ?_|refine bks ?_|refine bkd ?_|refine bkq (fun q => ?_)|(refine bk2 ?_ ?_<;>(first|exact bkn|(refine bkk ?_;intro h))))
      refine WL.s (op1_sliceS (E := intE) (xs := ys) (l := 0) (r := ((keepF p xs j).length : Int)) TT (by rfl) (by rfl) rfl rfl hlen.symm rfl rfl (by omega) hc1) rfl ?_
      rw [if_neg (by show ¬ c = 0; omega)]
      repeat' (first|refine bk ?_|refine bkc ?_|refine bks ?_|refine bkd ?_|refine bkq (fun q => ?_)|(refine bk2 ?_ ?_<;>(first|exact bkn|(refine bkk ?_;intro h))))
      rw [e]
      exact QS.retV Try.results30 rfl ⟨by simp [Addr.add, resV], rfl⟩
end Go.Proofs.Ytgebdehpoalfbaa.B
