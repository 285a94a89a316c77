import Derived.Test.YtfolmcpfdcgliaaGreatMg14
import Derived.Test.YtfolmcpfdcgliaaGreatMg21
set_option linter.unusedVariables false
set_option linter.unusedSimpArgs false
/-! Texts as one, in plain words. -/
set_option maxRecDepth 8000
namespace Go.Proofs.YtfolmcpfdcgliaaGreat.B
open Go Go.Proofs

def joinT (l : List ByteArray) : List UInt8 := l.flatMap fun s => textB (bs s)
def joinB (l : List ByteArray) : List UInt8 := numB l.length ++ joinT l
def joinOk (l : List ByteArray) : Bool := decide (l.length ≤ 1000) && l.all fun s => decide (s.size ≤ 4000)
noncomputable def texts : Nat → List UInt8 → Option (List ByteArray × List UInt8)
  | 0, l => some ([], l)
  | n + 1, l => match takeText l with
    | none => none
    | some (x, r) => (texts n r).map fun p => (mk x :: p.1, p.2)
def splitE : Option (List ByteArray × List UInt8) → Option (List ByteArray)
  | some (xs, r) => if r = [] then some xs else none
  | none => none
noncomputable def splitP (l : List UInt8) : Option (List ByteArray) :=
  match takeNum l with
  | none => none
  | some (n, r) => if n < 0 ∨ 1000 < n then none else splitE (texts n.toNat r)
theorem joinT_cons (s : ByteArray) (l : List ByteArray) : joinT (s :: l) = textB (bs s) ++ joinT l := rfl
theorem joinT_snoc (s : ByteArray) (l : List ByteArray) : joinT (l ++ [s]) = joinT l ++ textB (bs s) := by simp [joinT]
theorem joinOk_iff {l : List ByteArray} : joinOk l = true ↔ l.length ≤ 1000 ∧ ∀ s ∈ l, s.size ≤ 4000 := by
  simp [joinOk, List.all_eq_true]
theorem texts_join : ∀ (l : List ByteArray) (r : List UInt8), (∀ s ∈ l, s.size ≤ 4000) → texts l.length (joinT l ++ r) = some (l, r)
  | [], r, _ => rfl
  | s :: l, r, h => by
    have h1 := h s (List.mem_cons_self ..)
    rw [joinT_cons, List.append_assoc, List.length_cons, texts, takeText_text (by rw [bs_len]; exact h1)]
    simp only
    rw [texts_join l r (fun x hx => h x (List.mem_cons_of_mem _ hx)), mk_bs]; rfl
theorem texts_some : ∀ {n : Nat} {l r : List UInt8} {xs : List ByteArray}, texts n l = some (xs, r) → l = joinT xs ++ r ∧ xs.length = n ∧ ∀ s ∈ xs, s.size ≤ 4000
  | 0, l, r, xs, h => by
    simp only [texts, Option.some.injEq, Prod.mk.injEq] at h
    obtain ⟨rfl, rfl⟩ := h
    exact ⟨rfl, rfl, fun s hs => by cases hs⟩
  | n + 1, l, r, xs, h => by
    rw [texts] at h
    cases ht : takeText l with
    | none => rw [ht] at h; cases h
    | some p =>
      obtain ⟨x, r1⟩ := p
      rw [ht] at h
      simp only at h
      obtain ⟨⟨ys, r2⟩, h1, h2⟩ := Option.map_eq_some_iff.1 h
      simp only [Prod.mk.injEq] at h2
      obtain ⟨rfl, rfl⟩ := h2
      obtain ⟨i1, i2, i3⟩ := texts_some h1
      obtain ⟨j1, j2⟩ := takeText_some ht
      refine ⟨by rw [j1, i1, joinT_cons, bs_mk, List.append_assoc], by rw [List.length_cons, i2], fun s hs => ?_⟩
      rcases List.mem_cons.1 hs with rfl | hs
      · rw [mk_size]; exact j2
      · exact i3 s hs
theorem splitP_join {l : List ByteArray} (h : joinOk l = true) : splitP (joinB l) = some l := by
  obtain ⟨h1, h2⟩ := joinOk_iff.1 h
  rw [splitP, joinB, takeNum_num (by unfold I64; omega)]
  simp only
  have h3 := texts_join l [] h2
  rw [List.append_nil] at h3
  rw [if_neg (by omega), Int.toNat_natCast, h3]
  simp [splitE]
theorem splitP_some {t : List UInt8} {l : List ByteArray} (h : splitP t = some l) : t = joinB l ∧ joinOk l = true := by
  rw [splitP] at h
  cases ht : takeNum t with
  | none => rw [ht] at h; cases h
  | some p =>
    obtain ⟨n, r⟩ := p
    rw [ht] at h
    simp only at h
    split at h
    · cases h
    · rename_i hn
      cases hx : texts n.toNat r with
      | none => rw [hx] at h; simp only [splitE] at h; cases h
      | some q =>
        obtain ⟨xs, r'⟩ := q
        rw [hx] at h
        simp only [splitE] at h
        split at h
        · rename_i hr
          simp only [Option.some.injEq] at h
          subst h hr
          obtain ⟨i1, i2, i3⟩ := texts_some hx
          obtain ⟨j1, j2⟩ := takeNum_some ht
          refine ⟨?_, joinOk_iff.2 ⟨by omega, i3⟩⟩
          rw [j2, i1, joinB, List.append_nil, i2]
          congr 1
          congr 1
          omega
        · cases h
/-- One text more is read. -/
theorem texts_next {n : Nat} {l r : List UInt8} {x : List UInt8} (h : takeText l = some (x, r)) : texts (n + 1) l = (texts n r).map fun p => (mk x :: p.1, p.2) := by rw [texts, h]
theorem texts_stop {n : Nat} {l : List UInt8} (h : takeText l = none) : texts (n + 1) l = none := by rw [texts, h]
theorem textB_len {s : ByteArray} (h : s.size ≤ 4000) : (textB (bs s)).length ≤ 4010 := by
  have := num_len (n := (bs s).length) (by unfold I64; rw [bs_len]; omega)
  rw [textB, List.length_append, bs_len] at *
  omega
theorem joinT_len : ∀ {l : List ByteArray}, (∀ s ∈ l, s.size ≤ 4000) → (joinT l).length ≤ l.length * 4010
  | [], _ => by simp [joinT]
  | s :: l, h => by
    have h1 := joinT_len (l := l) (fun x hx => h x (List.mem_cons_of_mem _ hx))
    have h2 := textB_len (h s (List.mem_cons_self ..))
    rw [joinT_cons, List.length_append, List.length_cons]
    omega
theorem joinB_len {l : List ByteArray} (h : joinOk l = true) : (joinB l).length ≤ 4010010 := by
  obtain ⟨h1, h2⟩ := joinOk_iff.1 h
  have := joinT_len h2
  have := num_len (n := l.length) (by unfold I64; omega)
  rw [joinB, List.length_append]
  omega
theorem texts_go {n m : Nat} {l l2 : List UInt8} {xs : List ByteArray} (h : texts n l = (texts (m + 1) l2).map fun p => (xs ++ p.1, p.2)) {x r : List UInt8} (ht : takeText l2 = some (x, r)) : texts n l = (texts m r).map fun p => (xs ++ [mk x] ++ p.1, p.2) := by
  rw [h, texts_next ht, Option.map_map]
  congr 1
  funext p
  simp
end Go.Proofs.YtfolmcpfdcgliaaGreat.B

set_option linter.unusedVariables false
set_option linter.unusedSimpArgs false
set_option maxRecDepth 8000
/-! A journal node, in plain words. -/
namespace Go.Proofs.YtfolmcpfdcgliaaGreat.B
open Go Go.Proofs

/-! ### What is read of a log -/
theorem ents_some : ∀ {f k : Nat} {l r : List UInt8} {xs : List Ent}, ents f k l = (xs, r) → l = entB xs ++ r ∧ entsOk k xs = true ∧ xs.length ≤ f
  | 0, k, l, r, xs, h => by
    simp only [ents, Prod.mk.injEq] at h
    obtain ⟨rfl, rfl⟩ := h
    exact ⟨rfl, rfl, Nat.le_refl _⟩
  | f + 1, k, l, r, xs, h => by
    rw [ents] at h
    cases ht : takeEnt k l with
    | none =>
      rw [ht] at h
      simp only [Prod.mk.injEq] at h
      obtain ⟨rfl, rfl⟩ := h
      exact ⟨rfl, rfl, Nat.zero_le _⟩
    | some p =>
      obtain ⟨x, r1⟩ := p
      rw [ht] at h
      simp only [Prod.mk.injEq] at h
      obtain ⟨rfl, rfl⟩ := h
      obtain ⟨i1, i2, i3⟩ := ents_some (f := f) (k := k + 1) (l := r1) rfl
      rw [takeEnt] at ht
      cases ho : openP l with
      | none => rw [ho] at ht; cases ht
      | some q =>
        obtain ⟨n, s, r2⟩ := q
        rw [ho] at ht
        simp only at ht
        split at ht
        · rename_i hc
          simp only [Option.some.injEq, Prod.mk.injEq] at ht
          obtain ⟨rfl, rfl⟩ := ht
          obtain ⟨j1, j2, j3⟩ := openP_some ho
          refine ⟨?_, ?_, by simp only [List.length_cons]; omega⟩
          · rw [j2]
            show _ = (partB n (bs (mk s)) ++ entB _) ++ _
            rw [bs_mk, List.append_assoc, ← i1]
          · simp only [entsOk, Bool.and_eq_true, decide_eq_true_eq]
            exact ⟨⟨hc.1, by rw [mk_size]; exact hc.2⟩, i2⟩
        · cases ht
theorem parseP_some {l r : List UInt8} {n : Int} {xs : List Ent} (h : parseP l = some (n, xs, r)) : logOk n xs = true ∧ l = logB n xs ++ r := by
  rw [parseP] at h
  cases ho : openP l with
  | none => rw [ho] at h; cases h
  | some q =>
    obtain ⟨m, s, r2⟩ := q
    rw [ho] at h
    simp only at h
    split at h
    · rename_i hc
      simp only [Option.some.injEq, Prod.mk.injEq] at h
      obtain ⟨rfl, rfl, rfl⟩ := h
      obtain ⟨j1, j2, j3⟩ := openP_some ho
      obtain ⟨i1, i2, i3⟩ := ents_some (f := 300) (k := 0) (l := r2) (xs := (ents 300 0 r2).1) (r := (ents 300 0 r2).2) rfl
      refine ⟨logOk_iff.2 ⟨⟨hc.2.1, hc.2.2, i3⟩, i2⟩, ?_⟩
      rw [j2, hc.1, logB, List.append_assoc, ← i1]
    · cases h
theorem partB_short {n : Int} (hn : I64 n) {s : List UInt8} (hs : s.length ≤ 600) : (partB n s).length ≤ 624 := by
  have h1 := num_len hn
  have h2 : (numB n ++ s).length ≤ 610 := by rw [List.length_append]; omega
  rw [partB, if_neg (by omega)]
  have := (sealB_len (s := numB n ++ s) (by omega)).1
  omega
theorem entB_short : ∀ {k : Nat} {xs : List Ent}, entsOk k xs = true → k + xs.length ≤ 300 → (entB xs).length ≤ xs.length * 624
  | _, [], _, _ => by simp [entB]
  | k, x :: xs, h, hl => by
    simp only [entsOk, Bool.and_eq_true, decide_eq_true_eq] at h
    simp only [List.length_cons] at hl ⊢
    have ih := entB_short h.2 (by omega)
    have h1 := partB_short (n := x.n) (by unfold I64; omega) (s := bs x.s) (by rw [bs_len]; exact h.1.2)
    show (partB x.n (bs x.s) ++ entB xs).length ≤ _
    rw [List.length_append]
    omega
theorem logB_small {e : Int} {xs : List Ent} (h : logOk e xs = true) : (logB e xs).length ≤ 187900 := by
  obtain ⟨⟨h1, h2, h3⟩, h4⟩ := logOk_iff.1 h
  have i1 := entB_short h4 (by omega)
  have i2 := partB_short (n := e) (by unfold I64; omega) (s := []) (by simp)
  rw [logB, List.length_append]
  omega

/-! ### Requests -/
abbrev jLog : ByteArray := ⟨#[108, 111, 103]⟩
abbrev jProm : ByteArray := ⟨#[112, 114, 111, 109, 105, 115, 101]⟩
abbrev kP : ByteArray := ⟨#[112]⟩
abbrev kA : ByteArray := ⟨#[97]⟩
abbrev kW : ByteArray := ⟨#[119]⟩
noncomputable def numP (s : ByteArray) : Option Int := match takeNum (bs s) with | some (n, r) => if r = [] then some n else none | none => none
theorem numP_num {n : Int} (h : I64 n) : numP (mk (numB n)) = some n := by
  have := takeNum_num h []
  rw [List.append_nil] at this
  rw [numP, bs_mk, this]; rfl
def entsF : Nat → List ByteArray → List Ent
  | _, [] => []
  | k, s :: r => ⟨(k : Int) + 1, s⟩ :: entsF (k + 1) r
theorem entsF_len : ∀ (k : Nat) (l : List ByteArray), (entsF k l).length = l.length
  | _, [] => rfl
  | k, s :: r => by simp [entsF, entsF_len (k + 1) r]
theorem entsF_snoc : ∀ (k : Nat) (l : List ByteArray) (s : ByteArray), entsF k (l ++ [s]) = entsF k l ++ [⟨((k + l.length : Nat) : Int) + 1, s⟩]
  | k, [], s => rfl
  | k, t :: r, s => by
    simp only [List.cons_append, entsF, entsF_snoc (k + 1) r s, List.length_cons]
    rw [show k + 1 + r.length = k + (r.length + 1) from by omega]
theorem entsF_of : ∀ {k : Nat} {xs : List Ent}, entsOk k xs = true → entsF k (xs.map (·.s)) = xs
  | _, [], _ => rfl
  | k, x :: xs, h => by
    simp only [entsOk, Bool.and_eq_true, decide_eq_true_eq] at h
    simp only [List.map_cons, entsF, entsF_of h.2]
    rw [← h.1.1]
structure Rq where
  kind : ByteArray
  epoch : Int
  xs : List Ent
noncomputable def readW (ep : Int) : List ByteArray → Option Rq
  | [t, d] => match numP t with
    | some tx => if 1 ≤ tx ∧ tx ≤ 300 ∧ d.size ≤ 600 then some ⟨kW, ep, [⟨tx, d⟩]⟩ else none
    | none => none
  | _ => none
noncomputable def readK (k : ByteArray) (ep : Int) (r : List ByteArray) : Option Rq :=
  if k = kP then (if r = [] then some ⟨kP, ep, []⟩ else none)
  else if k = kA then (if logOk 0 (entsF 0 r) = true then some ⟨kA, ep, entsF 0 r⟩ else none)
  else if k = kW then readW ep r
  else none
noncomputable def readL : List ByteArray → Option Rq
  | k :: e :: r => match numP e with
    | some ep => if 1 ≤ ep ∧ ep ≤ 9007199254740991 then readK k ep r else none
    | none => none
  | _ => none
noncomputable def readQ (s : List UInt8) : Option Rq := (splitP s).bind readL

/-! ### Answers -/
def chunks : Nat → List UInt8 → List ByteArray
  | 0, _ => []
  | f + 1, l => if l = [] then [] else mk (l.take 4000) :: chunks f (l.drop 4000)
theorem chunks_flat : ∀ {f : Nat} {l : List UInt8}, l.length ≤ f → (chunks f l).flatMap (fun s => bs s) = l
  | 0, l, h => by
    have : l = [] := List.eq_nil_of_length_eq_zero (by omega)
    subst this; rfl
  | f + 1, l, h => by
    unfold chunks
    split
    · rename_i e; rw [e]; rfl
    · rename_i hne
      have hp := List.length_pos_iff.2 hne
      rw [List.flatMap_cons, chunks_flat (f := f) (by rw [List.length_drop]; omega), bs_mk, List.take_append_drop]
theorem chunks_size : ∀ {f : Nat} {l : List UInt8}, ∀ s ∈ chunks f l, s.size ≤ 4000
  | 0, l, s, h => by cases h
  | f + 1, l, s, h => by
    unfold chunks at h
    split at h
    · cases h
    · rcases List.mem_cons.1 h with rfl | h
      · rw [mk_size, List.length_take]; omega
      · exact chunks_size s h
theorem chunks_len : ∀ {f : Nat} {l : List UInt8}, (chunks f l).length * 4000 ≤ l.length + 3999
  | 0, l => by simp [chunks]
  | f + 1, l => by
    unfold chunks
    split
    · simp
    · rename_i hne
      have hp := List.length_pos_iff.2 hne
      have ih := chunks_len (f := f) (l := l.drop 4000)
      rw [List.length_drop] at ih
      rw [List.length_cons, Nat.succ_mul]
      by_cases h4 : 4000 ≤ l.length
      · generalize (chunks f (l.drop 4000)).length * 4000 = m at ih ⊢
        omega
      · rw [List.drop_eq_nil_of_le (by omega), show chunks f [] = [] from by cases f <;> simp [chunks], List.length_nil, Nat.zero_mul, Nat.zero_add]
        omega
theorem chunks_fuel : ∀ {f g : Nat} {l : List UInt8}, l.length ≤ f → l.length ≤ g → chunks f l = chunks g l
  | 0, 0, l, _, _ => rfl
  | 0, g + 1, l, h, _ => by
    have : l = [] := List.eq_nil_of_length_eq_zero (by omega)
    subst this; simp [chunks]
  | f + 1, 0, l, _, h => by
    have : l = [] := List.eq_nil_of_length_eq_zero (by omega)
    subst this; simp [chunks]
  | f + 1, g + 1, l, h1, h2 => by
    unfold chunks
    split
    · rfl
    · rename_i hne
      have hp := List.length_pos_iff.2 hne
      rw [chunks_fuel (f := f) (g := g) (by rw [List.length_drop]; omega) (by rw [List.length_drop]; omega)]
def saidL (e : Int) : List ByteArray := [mk (numB e)]
def saidB (e : Int) : List UInt8 := joinB (saidL e)
def toldL (e : Int) (xs : List Ent) : List ByteArray := mk (numB 0) :: (if logOk e xs = true then chunks (logB e xs).length (logB e xs) else [])
def toldB (e : Int) (xs : List Ent) : List UInt8 := joinB (toldL e xs)
theorem num_small {n : Int} (h : I64 n) : (mk (numB n)).size ≤ 4000 := by rw [mk_size]; have := num_len h; omega
theorem saidL_ok {e : Int} (h : I64 e) : joinOk (saidL e) = true := joinOk_iff.2 ⟨by simp [saidL], fun s hs => by
  simp only [saidL, List.mem_singleton] at hs; subst hs; exact num_small h⟩
theorem toldL_ok (e : Int) (xs : List Ent) : joinOk (toldL e xs) = true := by
  refine joinOk_iff.2 ⟨?_, fun s hs => ?_⟩
  · unfold toldL
    split
    · rename_i h
      have h1 := logB_small h
      have h2 := chunks_len (f := (logB e xs).length) (l := logB e xs)
      simp only [List.length_cons]
      omega
    · simp
  · unfold toldL at hs
    rcases List.mem_cons.1 hs with rfl | hs
    · exact num_small (by unfold I64; decide)
    · split at hs
      · exact chunks_size s hs
      · cases hs
def promL (ep : Int) : List ByteArray := [kP, mk (numB ep)]
def accL (ep : Int) (xs : List Ent) : List ByteArray := kA :: mk (numB ep) :: xs.map (·.s)
def addL (ep : Int) (x : Ent) : List ByteArray := [kW, mk (numB ep), mk (numB x.n), x.s]
theorem promL_ok {ep : Int} (h : I64 ep) : joinOk (promL ep) = true := joinOk_iff.2 ⟨by simp [promL], fun s hs => by
  simp only [promL, List.mem_cons, List.not_mem_nil, or_false] at hs
  rcases hs with rfl | rfl
  · decide
  · exact num_small h⟩
theorem accL_ok {ep : Int} {xs : List Ent} (h : logOk ep xs = true) : joinOk (accL ep xs) = true := by
  obtain ⟨⟨h1, h2, h3⟩, h4⟩ := logOk_iff.1 h
  refine joinOk_iff.2 ⟨by simp [accL]; omega, fun s hs => ?_⟩
  simp only [accL, List.mem_cons, List.mem_map] at hs
  rcases hs with rfl | rfl | ⟨x, hx, rfl⟩
  · decide
  · exact num_small (by unfold I64; omega)
  · obtain ⟨i, hi⟩ := List.getElem?_of_mem hx
    have := (entsOk_get h4 hi).2
    omega
theorem addL_ok {ep : Int} {x : Ent} (h : I64 ep) (hx : I64 x.n) (hs : x.s.size ≤ 600) : joinOk (addL ep x) = true := joinOk_iff.2 ⟨by simp [addL], fun s hs' => by
  simp only [addL, List.mem_cons, List.not_mem_nil, or_false] at hs'
  rcases hs' with rfl | rfl | rfl | rfl
  · decide
  · exact num_small h
  · exact num_small hx
  · omega⟩
/-- What an answer tells: the epoch, the entries, the error. -/
noncomputable def toldM (s : List UInt8) : Int × List Ent × Int :=
  match splitP s with
  | some (h :: t) => match numP h with
    | some n => if 0 ≤ n ∧ n ≤ 14 ∧ (n = 0 ∨ t = []) then
        (if t = [] then (0, [], n) else match parseP (t.flatMap fun x => bs x) with
          | some (e, xs, r) => if r = [] ∧ toldB e xs = s then (e, xs, 0) else (0, [], 2)
          | none => (0, [], 2))
      else (0, [], 2)
    | none => (0, [], 2)
  | _ => (0, [], 2)

/-! ### The node -/
structure Jn where
  p : Int
  e : Int
  xs : List Ent
  dead : Bool
structure JnOk (J : Jn) : Prop where
  p0 : 0 ≤ J.p
  p1 : J.p ≤ 9007199254740991
  log : logOk J.e J.xs = true
def placeP (D : Disk) (ep : Int) : Int × Disk := place1 D (jProm ++ dotNew) jProm (mk (sealB (numB ep)))
def promJ (J : Jn) (D : Disk) (ep : Int) : Int × Jn × Disk := ((placeP D ep).1, if (placeP D ep).1 = 0 then { J with p := ep } else J, (placeP D ep).2)
def storeJ (J : Jn) (D : Disk) (ep : Int) (xs : List Ent) : Int × Jn × Disk := ((storeM D ep xs jLog).1, if (storeM D ep xs jLog).1 = 0 then { J with e := ep, xs := xs } else J, (storeM D ep xs jLog).2)
def addJ (J : Jn) (D : Disk) (x : Ent) : Int × Jn × Disk :=
  if (J.xs.length : Int) + 1 < x.n ∨ (x.n ≤ (J.xs.length : Int) ∧ J.xs[(x.n - 1).toNat]? ≠ some x) then (11, J, D)
  else if x.n ≤ (J.xs.length : Int) then (0, J, D)
  else ((addM D x.n x.s jLog).1, if (addM D x.n x.s jLog).1 = 0 then { J with xs := J.xs ++ [x] } else J, (addM D x.n x.s jLog).2)
def begB (xs ys : List Ent) : Bool := decide (xs.length ≤ ys.length ∧ ys.take xs.length = xs)
def accJ (J : Jn) (D : Disk) (q : Rq) : Int × Jn × Disk :=
  if J.p < q.epoch then (if (promJ J D q.epoch).1 = 0 then storeJ (promJ J D q.epoch).2.1 (promJ J D q.epoch).2.2 q.epoch q.xs else promJ J D q.epoch)
  else storeJ J D q.epoch q.xs
def doJ (J : Jn) (D : Disk) (q : Rq) : Int × Jn × Disk :=
  if q.kind = kP then (if q.epoch ≤ J.p then (10, J, D) else promJ J D q.epoch)
  else if q.epoch < J.p ∨ (q.kind = kW ∧ (q.epoch ≠ J.p ∨ q.epoch ≠ J.e)) then (10, J, D)
  else if q.kind = kW then addJ J D (q.xs.headD ⟨0, ⟨#[]⟩⟩)
  else if q.epoch = J.e then (if begB q.xs J.xs = true then (0, J, D) else (11, J, D))
  else accJ J D q
def ansJ (q : Rq) (r : Int × Jn × Disk) : List UInt8 × Jn × Disk :=
  if r.1 = 10 ∨ r.1 = 11 then (saidB r.1, r.2)
  else if r.1 ≠ 0 then (saidB 12, { r.2.1 with dead := true }, r.2.2)
  else if q.kind = kP then (toldB r.2.1.e r.2.1.xs, r.2)
  else (saidB 0, r.2)
noncomputable def handJ (J : Jn) (D : Disk) (s : List UInt8) : List UInt8 × Jn × Disk :=
  if J.dead = true then (saidB 12, J, D)
  else match readQ s with
    | none => (saidB 2, J, D)
    | some q => ansJ q (doJ J D q)
/-- What the file of the promise says. -/
noncomputable def promP (b : ByteArray) : Option Int :=
  match openB (bs b) with
  | (e, x, r) => if e = 0 ∧ r = [] then (match numP (mk x) with | some n => if 1 ≤ n ∧ n ≤ 9007199254740991 then some n else none | none => none) else none
noncomputable def open2 (p : Int) (D : Disk) : Int × Jn × Disk :=
  match loadM (bs (D.read jLog).1) (D.read jLog).2 with
  | (e, xs, w, er) => if er = 5 then (0, ⟨p, 0, [], false⟩, D) else if er ≠ 0 then (er, ⟨p, 0, [], false⟩, D)
    else if w = true then (0, ⟨p, e, xs, false⟩, D) else ((storeM D e xs jLog).1, ⟨p, e, xs, false⟩, (storeM D e xs jLog).2)
noncomputable def openJ (D : Disk) : Int × Jn × Disk :=
  if (D.read jProm).2 = 5 then open2 0 D
  else if (D.read jProm).2 = 0 then (match promP (D.read jProm).1 with | some n => open2 n D | none => (2, ⟨0, 0, [], false⟩, D))
  else ((D.read jProm).2, ⟨0, 0, [], false⟩, D)
end Go.Proofs.YtfolmcpfdcgliaaGreat.B
