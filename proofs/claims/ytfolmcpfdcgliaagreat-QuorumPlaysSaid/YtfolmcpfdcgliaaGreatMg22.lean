import Derived.Test.YtfolmcpfdcgliaaGreatMg21
import Derived.Test.YtfolmcpfdcgliaaGreatMg13
import Derived.Test.YtfolmcpfdcgliaaGreatMg15
import Derived.Test.YtfolmcpfdcgliaaGreatMg10
set_option linter.unusedVariables false
set_option linter.unusedSimpArgs false
set_option maxRecDepth 8000
namespace Go.Proofs.YtfolmcpfdcgliaaGreat.B
open Go Go.Proofs
theorem ents_some : ∀ {f k : Nat} {l r : List UInt8} {xs : List Ent}, ents f k l = (xs, r) → l = entB xs ++ r ∧ entsOk k xs = true ∧ xs.length ≤ f
  | 0, k, l, r, xs, h => by
    simp only [ents, Prod.mk.injEq] at h
    obtain ⟨rfl, rfl⟩ := h
    exact ⟨rfl, rfl, Nat.le_refl _⟩
  | f + 1, k, l, r, xs, h => by
    rw [ents] at h
    cases ht : takeEnt k l with
    | none =>
      rw [ht] at h
      simp only [Prod.mk.injEq] at h
      obtain ⟨rfl, rfl⟩ := h
      exact ⟨rfl, rfl, Nat.zero_le _⟩
    | some p =>
      obtain ⟨x, r1⟩ := p
      rw [ht] at h
      simp only [Prod.mk.injEq] at h
      obtain ⟨rfl, rfl⟩ := h
      obtain ⟨i1, i2, i3⟩ := ents_some (f := f) (k := k + 1) (l := r1) rfl
      rw [takeEnt] at ht
      cases ho : openP l with
      | none => rw [ho] at ht; cases ht
      | some q =>
        obtain ⟨n, s, r2⟩ := q
        rw [ho] at ht
        simp only at ht
        split at ht
        · rename_i hc
          simp only [Option.some.injEq, Prod.mk.injEq] at ht
          obtain ⟨rfl, rfl⟩ := ht
          obtain ⟨j1, j2, j3⟩ := openP_some ho
          refine ⟨?_, ?_, by simp only [List.length_cons]; omega⟩
          · rw [j2]
            show _ = (partB n (bs (mk s)) ++ entB _) ++ _
            rw [bs_mk, List.append_assoc, ← i1]
          · simp only [entsOk, Bool.and_eq_true, decide_eq_true_eq]
            exact ⟨⟨hc.1, by rw [mk_size]; exact hc.2⟩, i2⟩
        · cases ht
theorem parseP_some {l r : List UInt8} {n : Int} {xs : List Ent} (h : parseP l = some (n, xs, r)) : logOk n xs = true ∧ l = logB n xs ++ r := by
  rw [parseP] at h
  cases ho : openP l with
  | none => rw [ho] at h; cases h
  | some q =>
    obtain ⟨m, s, r2⟩ := q
    rw [ho] at h
    simp only at h
    split at h
    · rename_i hc
      simp only [Option.some.injEq, Prod.mk.injEq] at h
      obtain ⟨rfl, rfl, rfl⟩ := h
      obtain ⟨j1, j2, j3⟩ := openP_some ho
      obtain ⟨i1, i2, i3⟩ := ents_some (f := 300) (k := 0) (l := r2) (xs := (ents 300 0 r2).1) (r := (ents 300 0 r2).2) rfl
      refine ⟨logOk_iff.2 ⟨⟨hc.2.1, hc.2.2, i3⟩, i2⟩, ?_⟩
      rw [j2, hc.1, logB, List.append_assoc, ← i1]
    · cases h
theorem partB_short {n : Int} (hn : I64 n) {s : List UInt8} (hs : s.length ≤ 600) : (partB n s).length ≤ 624 := by
  have h1 := num_len hn
  have h2 : (numB n ++ s).length ≤ 610 := by rw [List.length_append]; omega
  rw [partB, if_neg (by omega)]
  have := (sealB_len (s := numB n ++ s) (by omega)).1
  omega
theorem entB_short : ∀ {k : Nat} {xs : List Ent}, entsOk k xs = true → k + xs.length ≤ 300 → (entB xs).length ≤ xs.length * 624
  | _, [], _, _ => by simp [entB]
  | k, x :: xs, h, hl => by
    simp only [entsOk, Bool.and_eq_true, decide_eq_true_eq] at h
    simp only [List.length_cons] at hl ⊢
    have ih := entB_short h.2 (by omega)
    have h1 := partB_short (n := x.n) (by unfold I64; omega) (s := bs x.s) (by rw [bs_len]; exact h.1.2)
    show (partB x.n (bs x.s) ++ entB xs).length ≤ _
    rw [List.length_append]
    omega
theorem logB_small {e : Int} {xs : List Ent} (h : logOk e xs = true) : (logB e xs).length ≤ 187900 := by
  obtain ⟨⟨h1, h2, h3⟩, h4⟩ := logOk_iff.1 h
  have i1 := entB_short h4 (by omega)
  have i2 := partB_short (n := e) (by unfold I64; omega) (s := []) (by simp)
  rw [logB, List.length_append]
  omega
abbrev jLog : ByteArray := ⟨#[108, 111, 103]⟩
abbrev jProm : ByteArray := ⟨#[112, 114, 111, 109, 105, 115, 101]⟩
abbrev kP : ByteArray := ⟨#[112]⟩
abbrev kA : ByteArray := ⟨#[97]⟩
abbrev kW : ByteArray := ⟨#[119]⟩
noncomputable def numP (s : ByteArray) : Option Int := match takeNum (bs s) with | some (n, r) => if r = [] then some n else none | none => none
theorem numP_num {n : Int} (h : I64 n) : numP (mk (numB n)) = some n := by
  have := takeNum_num h []
  rw [List.append_nil] at this
  rw [numP, bs_mk, this]; rfl
def entsF : Nat → List ByteArray → List Ent
  | _, [] => []
  | k, s :: r => ⟨(k : Int) + 1, s⟩ :: entsF (k + 1) r
theorem entsF_len : ∀ (k : Nat) (l : List ByteArray), (entsF k l).length = l.length
  | _, [] => rfl
  | k, s :: r => by simp [entsF, entsF_len (k + 1) r]
theorem entsF_snoc : ∀ (k : Nat) (l : List ByteArray) (s : ByteArray), entsF k (l ++ [s]) = entsF k l ++ [⟨((k + l.length : Nat) : Int) + 1, s⟩]
  | k, [], s => rfl
  | k, t :: r, s => by
    simp only [List.cons_append, entsF, entsF_snoc (k + 1) r s, List.length_cons]
    rw [show k + 1 + r.length = k + (r.length + 1) from by omega]
theorem entsF_of : ∀ {k : Nat} {xs : List Ent}, entsOk k xs = true → entsF k (xs.map (·.s)) = xs
  | _, [], _ => rfl
  | k, x :: xs, h => by
    simp only [entsOk, Bool.and_eq_true, decide_eq_true_eq] at h
    simp only [List.map_cons, entsF, entsF_of h.2]
    rw [← h.1.1]
structure Rq where
  kind : ByteArray
  epoch : Int
  xs : List Ent
noncomputable def readW (ep : Int) : List ByteArray → Option Rq
  | [t, d] => match numP t with
    | some tx => if 1 ≤ tx ∧ tx ≤ 300 ∧ d.size ≤ 600 then some ⟨kW, ep, [⟨tx, d⟩]⟩ else none
    | none => none
  | _ => none
noncomputable def readK (k : ByteArray) (ep : Int) (r : List ByteArray) : Option Rq :=
  if k = kP then (if r = [] then some ⟨kP, ep, []⟩ else none)
  else if k = kA then (if logOk 0 (entsF 0 r) = true then some ⟨kA, ep, entsF 0 r⟩ else none)
  else if k = kW then readW ep r
  else none
noncomputable def readL : List ByteArray → Option Rq
  | k :: e :: r => match numP e with
    | some ep => if 1 ≤ ep ∧ ep ≤ 9007199254740991 then readK k ep r else none
    | none => none
  | _ => none
noncomputable def readQ (s : List UInt8) : Option Rq := (splitP s).bind readL
def chunks : Nat → List UInt8 → List ByteArray
  | 0, _ => []
  | f + 1, l => if l = [] then [] else mk (l.take 4000) :: chunks f (l.drop 4000)
theorem chunks_flat : ∀ {f : Nat} {l : List UInt8}, l.length ≤ f → (chunks f l).flatMap (fun s => bs s) = l
  | 0, l, h => by
    have : l = [] := List.eq_nil_of_length_eq_zero (by omega)
    subst this; rfl
  | f + 1, l, h => by
    unfold chunks
    split
    · rename_i e; rw [e]; rfl
    · rename_i hne
      have hp := List.length_pos_iff.2 hne
      rw [List.flatMap_cons, chunks_flat (f := f) (by rw [List.length_drop]; omega), bs_mk, List.take_append_drop]
theorem chunks_size : ∀ {f : Nat} {l : List UInt8}, ∀ s ∈ chunks f l, s.size ≤ 4000
  | 0, l, s, h => by cases h
  | f + 1, l, s, h => by
    unfold chunks at h
    split at h
    · cases h
    · rcases List.mem_cons.1 h with rfl | h
      · rw [mk_size, List.length_take]; omega
      · exact chunks_size s h
theorem chunks_len : ∀ {f : Nat} {l : List UInt8}, (chunks f l).length * 4000 ≤ l.length + 3999
  | 0, l => by simp [chunks]
  | f + 1, l => by
    unfold chunks
    split
    · simp
    · rename_i hne
      have hp := List.length_pos_iff.2 hne
      have ih := chunks_len (f := f) (l := l.drop 4000)
      rw [List.length_drop] at ih
      rw [List.length_cons, Nat.succ_mul]
      by_cases h4 : 4000 ≤ l.length
      · generalize (chunks f (l.drop 4000)).length * 4000 = m at ih ⊢
        omega
      · rw [List.drop_eq_nil_of_le (by omega), show chunks f [] = [] from by cases f <;> simp [chunks], List.length_nil, Nat.zero_mul, Nat.zero_add]
        omega
theorem chunks_fuel : ∀ {f g : Nat} {l : List UInt8}, l.length ≤ f → l.length ≤ g → chunks f l = chunks g l
  | 0, 0, l, _, _ => rfl
  | 0, g + 1, l, h, _ => by
    have : l = [] := List.eq_nil_of_length_eq_zero (by omega)
    subst this; simp [chunks]
  | f + 1, 0, l, _, h => by
    have : l = [] := List.eq_nil_of_length_eq_zero (by omega)
    subst this; simp [chunks]
  | f + 1, g + 1, l, h1, h2 => by
    unfold chunks
    split
    · rfl
    · rename_i hne
      have hp := List.length_pos_iff.2 hne
      rw [chunks_fuel (f := f) (g := g) (by rw [List.length_drop]; omega) (by rw [List.length_drop]; omega)]
def saidL (e : Int) : List ByteArray := [mk (numB e)]
def saidB (e : Int) : List UInt8 := joinB (saidL e)
def toldL (e : Int) (xs : List Ent) : List ByteArray := mk (numB 0) :: (if logOk e xs = true then chunks (logB e xs).length (logB e xs) else [])
def toldB (e : Int) (xs : List Ent) : List UInt8 := joinB (toldL e xs)
theorem num_small {n : Int} (h : I64 n) : (mk (numB n)).size ≤ 4000 := by rw [mk_size]; have := num_len h; omega
theorem saidL_ok {e : Int} (h : I64 e) : joinOk (saidL e) = true := joinOk_iff.2 ⟨by simp [saidL], fun s hs => by
  simp only [saidL, List.mem_singleton] at hs; subst hs; exact num_small h⟩
theorem toldL_ok (e : Int) (xs : List Ent) : joinOk (toldL e xs) = true := by
  refine joinOk_iff.2 ⟨?_, fun s hs => ?_⟩
  · unfold toldL
    split
    · rename_i h
      have h1 := logB_small h
      have h2 := chunks_len (f := (logB e xs).length) (l := logB e xs)
      simp only [List.length_cons]
      omega
    · simp
  · unfold toldL at hs
    rcases List.mem_cons.1 hs with rfl | hs
    · exact num_small (by unfold I64; decide)
    · split at hs
      · exact chunks_size s hs
      · cases hs
def promL (ep : Int) : List ByteArray := [kP, mk (numB ep)]
def accL (ep : Int) (xs : List Ent) : List ByteArray := kA :: mk (numB ep) :: xs.map (·.s)
def addL (ep : Int) (x : Ent) : List ByteArray := [kW, mk (numB ep), mk (numB x.n), x.s]
theorem promL_ok {ep : Int} (h : I64 ep) : joinOk (promL ep) = true := joinOk_iff.2 ⟨by simp [promL], fun s hs => by
  simp only [promL, List.mem_cons, List.not_mem_nil, or_false] at hs
  rcases hs with rfl | rfl
  · decide
  · exact num_small h⟩
theorem accL_ok {ep : Int} {xs : List Ent} (h : logOk ep xs = true) : joinOk (accL ep xs) = true := by
  obtain ⟨⟨h1, h2, h3⟩, h4⟩ := logOk_iff.1 h
  refine joinOk_iff.2 ⟨by simp [accL]; omega, fun s hs => ?_⟩
  simp only [accL, List.mem_cons, List.mem_map] at hs
  rcases hs with rfl | rfl | ⟨x, hx, rfl⟩
  · decide
  · exact num_small (by unfold I64; omega)
  · obtain ⟨i, hi⟩ := List.getElem?_of_mem hx
    have := (entsOk_get h4 hi).2
    omega
theorem addL_ok {ep : Int} {x : Ent} (h : I64 ep) (hx : I64 x.n) (hs : x.s.size ≤ 600) : joinOk (addL ep x) = true := joinOk_iff.2 ⟨by simp [addL], fun s hs' => by
  simp only [addL, List.mem_cons, List.not_mem_nil, or_false] at hs'
  rcases hs' with rfl | rfl | rfl | rfl
  · decide
  · exact num_small h
  · exact num_small hx
  · omega⟩
noncomputable def toldM (s : List UInt8) : Int × List Ent × Int :=
  match splitP s with
  | some (h :: t) => match numP h with
    | some n => if 0 ≤ n ∧ n ≤ 14 ∧ (n = 0 ∨ t = []) then
        (if t = [] then (0, [], n) else match parseP (t.flatMap fun x => bs x) with
          | some (e, xs, r) => if r = [] ∧ toldB e xs = s then (e, xs, 0) else (0, [], 2)
          | none => (0, [], 2))
      else (0, [], 2)
    | none => (0, [], 2)
  | _ => (0, [], 2)
structure Jn where
  p : Int
  e : Int
  xs : List Ent
  dead : Bool
structure JnOk (J : Jn) : Prop where
  p0 : 0 ≤ J.p
  p1 : J.p ≤ 9007199254740991
  log : logOk J.e J.xs = true
def placeP (D : Disk) (ep : Int) : Int × Disk := place1 D (jProm ++ dotNew) jProm (mk (sealB (numB ep)))
def promJ (J : Jn) (D : Disk) (ep : Int) : Int × Jn × Disk := ((placeP D ep).1, if (placeP D ep).1 = 0 then { J with p := ep } else J, (placeP D ep).2)
def storeJ (J : Jn) (D : Disk) (ep : Int) (xs : List Ent) : Int × Jn × Disk := ((storeM D ep xs jLog).1, if (storeM D ep xs jLog).1 = 0 then { J with e := ep, xs := xs } else J, (storeM D ep xs jLog).2)
def addJ (J : Jn) (D : Disk) (x : Ent) : Int × Jn × Disk :=
  if (J.xs.length : Int) + 1 < x.n ∨ (x.n ≤ (J.xs.length : Int) ∧ J.xs[(x.n - 1).toNat]? ≠ some x) then (11, J, D)
  else if x.n ≤ (J.xs.length : Int) then (0, J, D)
  else ((addM D x.n x.s jLog).1, if (addM D x.n x.s jLog).1 = 0 then { J with xs := J.xs ++ [x] } else J, (addM D x.n x.s jLog).2)
def begB (xs ys : List Ent) : Bool := decide (xs.length ≤ ys.length ∧ ys.take xs.length = xs)
def accJ (J : Jn) (D : Disk) (q : Rq) : Int × Jn × Disk :=
  if J.p < q.epoch then (if (promJ J D q.epoch).1 = 0 then storeJ (promJ J D q.epoch).2.1 (promJ J D q.epoch).2.2 q.epoch q.xs else promJ J D q.epoch)
  else storeJ J D q.epoch q.xs
def doJ (J : Jn) (D : Disk) (q : Rq) : Int × Jn × Disk :=
  if q.kind = kP then (if q.epoch ≤ J.p then (10, J, D) else promJ J D q.epoch)
  else if q.epoch < J.p ∨ (q.kind = kW ∧ (q.epoch ≠ J.p ∨ q.epoch ≠ J.e)) then (10, J, D)
  else if q.kind = kW then addJ J D (q.xs.headD ⟨0, ⟨#[]⟩⟩)
  else if q.epoch = J.e then (if begB q.xs J.xs = true then (0, J, D) else (11, J, D))
  else accJ J D q
def ansJ (q : Rq) (r : Int × Jn × Disk) : List UInt8 × Jn × Disk :=
  if r.1 = 10 ∨ r.1 = 11 then (saidB r.1, r.2)
  else if r.1 ≠ 0 then (saidB 12, { r.2.1 with dead := true }, r.2.2)
  else if q.kind = kP then (toldB r.2.1.e r.2.1.xs, r.2)
  else (saidB 0, r.2)
noncomputable def handJ (J : Jn) (D : Disk) (s : List UInt8) : List UInt8 × Jn × Disk :=
  if J.dead = true then (saidB 12, J, D)
  else match readQ s with
    | none => (saidB 2, J, D)
    | some q => ansJ q (doJ J D q)
noncomputable def promP (b : ByteArray) : Option Int :=
  match openB (bs b) with
  | (e, x, r) => if e = 0 ∧ r = [] then (match numP (mk x) with | some n => if 1 ≤ n ∧ n ≤ 9007199254740991 then some n else none | none => none) else none
noncomputable def open2 (p : Int) (D : Disk) : Int × Jn × Disk :=
  match loadM (bs (D.read jLog).1) (D.read jLog).2 with
  | (e, xs, w, er) => if er = 5 then (0, ⟨p, 0, [], false⟩, D) else if er ≠ 0 then (er, ⟨p, 0, [], false⟩, D)
    else if w = true then (0, ⟨p, e, xs, false⟩, D) else ((storeM D e xs jLog).1, ⟨p, e, xs, false⟩, (storeM D e xs jLog).2)
noncomputable def openJ (D : Disk) : Int × Jn × Disk :=
  if (D.read jProm).2 = 5 then open2 0 D
  else if (D.read jProm).2 = 0 then (match promP (D.read jProm).1 with | some n => open2 n D | none => (2, ⟨0, 0, [], false⟩, D))
  else ((D.read jProm).2, ⟨0, 0, [], false⟩, D)
end Go.Proofs.YtfolmcpfdcgliaaGreat.B

namespace Go.Proofs.YtfolmcpfdcgliaaGreat.B
open Go Go.Proofs
attribute [local irreducible] WL CS QS WQ WH WS Fn Op1 row Sat
attribute [local irreducible] slc bldA
theorem wire_Join (A : Option Addr) (k c : Nat) (xs : List ByteArray) (hk : k = xs.length) (hx : ∀ s ∈ xs, s.size ≤ 9223372036854775807) (hl : xs.length ≤ 9223372036854775807) (W0 : World) (G : List SL) (hR : Rd W0 G strE A xs) :
    Fn Tryz.prog 121 [.slice A k c] W0 G (Ret fun v G' => v = (if joinOk xs then .tuple #[.string (mk (joinB xs)), .int .i64 0] else .tuple #[.string ⟨#[]⟩, .int .i64 4]) ∧ G' = G) := by
  subst hk
  refine Fn.enter Tryz.func121 rfl Tryz.ntmps121 rfl ?_
  repeat' (first|refine bA ?_|refine bkq fun q=>?_|(refine bk2 ?_ ?_<;>(first|exact bkn|(refine bkk ?_;intro h))))
  · refine QS.retV Tryz.results121 rfl ⟨?_, rfl⟩
    rw [if_neg (fun e => by have := (joinOk_iff.1 e).1; omega)]; rfl
  have hl2 : xs.length ≤ 1000 := by omega
  refine WL.turn (fun w hs => bldA_new w hs) ?_
  refine WL.call c75 rfl rfl rfl rfl (wire_Num (n := (xs.length : Int)) (by unfold I64; omega) W0 _) ?_
  rintro _ _ ⟨rfl, rfl⟩
  have hnl := num_len (n := (xs.length : Int)) (by unfold I64; omega)
  have hnp := num_pos (xs.length : Int)
  repeat' (first|refine bA ?_|refine bkq fun q=>?_|(refine bk2 ?_ ?_<;>(first|exact bkn|(refine bkk ?_;intro h))))
  refine WL.call c139 rfl rfl rfl rfl (bld_WriteString q [] (mk (numB xs.length)) (by rw [mk_size]; simp; omega) W0 _) ?_
  rintro _ _ ⟨rfl, rfl⟩
  rw [List.nil_append, bs_mk]
  repeat' (first|refine bA ?_|refine bkq fun q=>?_|(refine bk2 ?_ ?_<;>(first|exact bkn|(refine bkk ?_;intro h))))
  refine CS.loop (X := Nat) (fun i => [(2, .string ⟨#[]⟩), (3, .int .i64 0), (4, .pointer (some ⟨q, 0, none⟩)), (16, .slice A xs.length c), (17, .int .i64 (xs.length : Int)), (18, .int .i64 (i : Int))])
    (fun i => bldA q (numB xs.length ++ joinT (xs.take i)) :: G) (fun i => i ≤ xs.length ∧ ∀ s ∈ xs.take i, s.size ≤ 4000) (fun i => xs.length - i) 0 ⟨rfl, rfl, rfl, rfl, rfl, rfl, trivial⟩ (fun w hs => by rw [List.take_zero, show joinT [] = [] from rfl, List.append_nil]; exact hs) ⟨Nat.zero_le _, fun s hs => by cases hs⟩ ?_
  rintro i ⟨hi, hs⟩
  have hjl := joinT_len hs
  rw [List.length_take] at hjl
  repeat' (first|refine bA ?_|refine bkq fun q=>?_|(refine bk2 ?_ ?_<;>(first|exact bkn|(refine bkk ?_;intro h))))
  · obtain ⟨s, hsx⟩ : ∃ x, xs[i]? = some x := ⟨xs[i]'(by omega), List.getElem?_eq_getElem (by omega)⟩
    refine WL.idx TT hR.cons rfl rfl rfl (by omega) (by rw [Int.toNat_natCast]; exact hsx) rfl rfl rfl rfl (fun bb o hA => ?_)
    refine WL.s (op1_at TT hA rfl rfl rfl rfl) rfl ?_
    repeat' (first|refine bA ?_|refine bkq fun q=>?_|(refine bk2 ?_ ?_<;>(first|exact bkn|(refine bkk ?_;intro h))))
    refine WL.call c162 rfl rfl rfl rfl (wire_Text s (hx s (List.mem_of_getElem? hsx)) W0 _) ?_
    rintro _ _ ⟨rfl, rfl⟩
    by_cases hb : 4000 < s.size
    · rw [if_pos hb]
      repeat' (first|refine bA ?_|refine bkq fun q=>?_|(refine bk2 ?_ ?_<;>(first|exact bkn|(refine bkk ?_;intro h))))
      refine QS.turn (G' := G) (fun w hs => hs.drop) (QS.retV Tryz.results121 rfl ⟨?_, rfl⟩)
      rw [if_neg (fun e => by have := (joinOk_iff.1 e).2 s (List.mem_of_getElem? hsx); omega)]; rfl
    · rw [if_neg hb]
      have htl := textB_len (s := s) (by omega)
      repeat' (first|refine bA ?_|refine bkq fun q=>?_|(refine bk2 ?_ ?_<;>(first|exact bkn|(refine bkk ?_;intro h))))
      refine WL.call c139 rfl rfl rfl rfl (bld_WriteString q _ (mk (textB (bs s))) (by rw [mk_size, List.length_append]; omega) W0 _) ?_
      rintro _ _ ⟨rfl, rfl⟩
      repeat' (first|refine bA ?_|refine bkq fun q=>?_|(refine bk2 ?_ ?_<;>(first|exact bkn|(refine bkk ?_;intro h))))
      refine QS.again (i + 1) ⟨by omega, fun x hx => ?_⟩ (by omega) ⟨rfl, rfl, rfl, rfl, rfl, ?_, trivial⟩ (fun w hs => ?_)
      · rw [List.take_add_one, hsx] at hx
        rcases List.mem_append.1 hx with h | h
        · exact hs x h
        · simp at h; subst h; omega
      · rw [show ((i + 1 : Nat) : Int) = (i : Int) + 1 from by omega]; rfl
      · rw [List.take_add_one, hsx, Option.toList_some, joinT_snoc, ← List.append_assoc]; rw [bs_mk] at hs; exact hs
  · have hix : i = xs.length := by omega
    subst hix
    rw [List.take_length] at hs ⊢
    refine WL.call c141 rfl rfl rfl rfl (bld_String q _ (fun e => by rw [List.append_eq_nil_iff] at e; rw [e.1] at hnp; simp at hnp) W0 _) ?_
    rintro _ _ ⟨rfl, rfl⟩
    repeat' (first|refine bA ?_|refine bkq fun q=>?_|(refine bk2 ?_ ?_<;>(first|exact bkn|(refine bkk ?_;intro h))))
    refine QS.retV Tryz.results121 rfl ⟨?_, rfl⟩
    rw [if_pos (joinOk_iff.2 ⟨hl2, hs⟩)]; rfl
set_option maxHeartbeats 1000000 in
theorem wire_Split (s : ByteArray) (hs : s.size ≤ 9223372036854775807) (W0 : World) (G : List SL) :
    Fn Tryz.prog 96 [.string s] W0 G (Ret fun v G' => match splitP (bs s) with
      | some l => ∃ A c, v = .tuple #[.slice A l.length c, .int .i64 0] ∧ G' = slc strE 9 A c l :: G
      | none => v = .tuple #[.slice none 0 0, .int .i64 2] ∧ G' = G) := by
  refine Fn.enter Tryz.func96 rfl Tryz.ntmps96 rfl ?_
  repeat' (first|refine bA ?_|refine bkq fun q=>?_|(refine bk2 ?_ ?_<;>(first|exact bkn|(refine bkk ?_;intro h))))
  refine WL.call c64 rfl rfl rfl rfl (wire_TakeNum s hs W0 _) ?_
  rintro _ G2 ⟨rfl, hG2⟩
  rw [hG2]; clear hG2 G2
  have hbl := bs_len s
  cases hn : takeNum (bs s) with
  | none =>
    simp only
    repeat' (first|refine bA ?_|refine bkq fun q=>?_|(refine bk2 ?_ ?_<;>(first|exact bkn|(refine bkk ?_;intro h))))
    refine QS.retV Tryz.results96 rfl ?_
    rw [splitP, hn]
    exact ⟨rfl, rfl⟩
  | some p =>
    obtain ⟨n, r⟩ := p
    have hnr := takeNum_some hn
    have hI := hnr.1
    unfold I64 at hI
    have hrl : r.length ≤ s.size := by rw [← hbl, hnr.2, List.length_append]; omega
    simp only
    repeat' (first|refine bA ?_|refine bkq fun q=>?_|(refine bk2 ?_ ?_<;>(first|exact bkn|(refine bkk ?_;intro h))))
    · refine QS.retV Tryz.results96 rfl ?_
      rw [splitP, hn]
      simp only
      rw [if_pos (by omega)]
      exact ⟨rfl, rfl⟩
    · refine QS.retV Tryz.results96 rfl ?_
      rw [splitP, hn]
      simp only
      rw [if_pos (by omega)]
      exact ⟨rfl, rfl⟩
    have hsp : splitP (bs s) = splitE (texts n.toNat r) := by
      rw [splitP, hn]
      simp only
      rw [if_neg (by omega)]
    refine CS.loop (X := Nat × Option Addr × Nat × List ByteArray × List UInt8) (fun y => [(2, .slice none 0 0), (3, .int .i64 0), (5, .string (mk y.2.2.2.2)), (7, .slice y.2.1 y.2.2.2.1.length y.2.2.1), (25, .int .i64 n), (26, .int .i64 (y.1 : Int))])
      (fun y => slc strE 9 y.2.1 y.2.2.1 y.2.2.2.1 :: G) (fun y => (y.1 : Int) ≤ n ∧ y.2.2.2.1.length = y.1 ∧ y.2.2.2.2.length ≤ s.size ∧ texts n.toNat r = (texts (n.toNat - y.1) y.2.2.2.2).map fun p => (y.2.2.2.1 ++ p.1, p.2))
      (fun y => n.toNat - y.1) (0, none, 0, [], r) ⟨rfl, rfl, rfl, rfl, rfl, rfl, trivial⟩ (fun w hs => hs.slcNil _ _) ⟨by simp only; omega, rfl, hrl, by simp⟩ ?_
    rintro ⟨i, A, c, xs, r2⟩ ⟨hi, hxl, hr2, hT⟩
    simp only at hi hxl hr2 hT ⊢
    repeat' (first|refine bA ?_|refine bkq fun q=>?_|(refine bk2 ?_ ?_<;>(first|exact bkn|(refine bkk ?_;intro h))))
    · obtain ⟨m, hm⟩ : ∃ m, n.toNat - i = m + 1 := ⟨n.toNat - i - 1, by omega⟩
      rw [hm] at hT
      refine WL.call c103 rfl rfl rfl rfl (wire_TakeText (mk r2) (by rw [mk_size]; omega) W0 _) ?_
      rintro _ _ ⟨rfl, rfl⟩
      rw [bs_mk]
      cases ht : takeText r2 with
      | none =>
        simp only [takeTextV]
        repeat' (first|refine bA ?_|refine bkq fun q=>?_|(refine bk2 ?_ ?_<;>(first|exact bkn|(refine bkk ?_;intro h))))
        refine QS.turn (G' := G) (fun w hs => hs.drop) (QS.retV Tryz.results96 rfl ?_)
        rw [hsp, hT, texts_stop ht]
        simp only [Option.map_none, splitE]
        exact ⟨rfl, rfl⟩
      | some q =>
        obtain ⟨x, r3⟩ := q
        have hts := takeText_some ht
        have hr3 : r3.length ≤ r2.length := by rw [hts.1, List.length_append]; omega
        simp only [takeTextV]
        repeat' (first|refine bA ?_|refine bkq fun q=>?_|(refine bk2 ?_ ?_<;>(first|exact bkn|(refine bkk ?_;intro h))))
        refine WL.buildSlice TT rfl rfl rfl rfl rfl rfl rfl rfl (fun q => ?_)
        refine WL.append TT (E := strE) (xs := xs) (ys := [mk x]) 1 rfl rfl rfl rfl rfl (Rd.row (i := 0) rfl rfl) rfl rfl rfl rfl rfl (by decide) (by simp only [List.length_cons, List.length_nil]; omega) (fun _ _ => rfl) rfl (fun A5 c5 => ?_)
        repeat' (first|refine bA ?_|refine bkq fun q=>?_|(refine bk2 ?_ ?_<;>(first|exact bkn|(refine bkk ?_;intro h))))
        refine QS.again (i + 1, A5, c5, xs ++ [mk x], r3) ⟨by simp only; omega, by simp [hxl], by simp only; omega, ?_⟩ (by simp only; omega) ⟨rfl, rfl, rfl, rfl, rfl, ?_, trivial⟩ (fun w hs => hs.drop)
        · simp only
          rw [show n.toNat - (i + 1) = m from by omega]
          exact texts_go hT ht
        · rw [show ((i + 1 : Nat) : Int) = (i : Int) + 1 from by omega]; rfl
    all_goals
      rw [show n.toNat - i = 0 from by omega, texts] at hT
      simp only [Option.map_some, List.append_nil] at hT
      rw [hT, splitE] at hsp
    · refine QS.turn (G' := G) (fun w hs => hs.drop) (QS.retV Tryz.results96 rfl ?_)
      rw [hsp, if_neg (fun e => ‹¬ mk r2 = _› (by rw [e]))]
      exact ⟨rfl, rfl⟩
    · refine QS.retV Tryz.results96 rfl ?_
      rw [hsp, if_pos (by have := congrArg bs ‹mk r2 = _›; rw [bs_mk] at this; exact this)]
      exact ⟨A, c, rfl, rfl⟩
end Go.Proofs.YtfolmcpfdcgliaaGreat.B
