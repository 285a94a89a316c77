import Derived.Test.YtfolmcpfdcgliaaGreatMg28
import Derived.Test.YtfolmcpfdcgliaaGreatMg27
set_option linter.unusedVariables false
set_option maxRecDepth 8000
namespace Go.Proofs.YtfolmcpfdcgliaaGreat.B
open Go Go.Proofs
abbrev Lg := Int × List Ent
structure Nd where
  b : Nat
  d : Nat
  J : Jn
  D : Disk
structure NdOk (x : Nd) : Prop where
  J : JnOk x.J
  D : DiskOk x.D
noncomputable def Nd.ans (x : Nd) (s : List UInt8) : List UInt8 := (handJ x.J x.D s).1
noncomputable def Nd.hand (x : Nd) (s : List UInt8) : Nd := ⟨x.b, x.d, (handJ x.J x.D s).2.1, (handJ x.J x.D s).2.2⟩
abbrev Msg := Int × ByteArray
def sendM (m : List Msg) (i : Int) (s : ByteArray) : List Msg := if 50 ≤ m.length ∨ 4000 < s.size then m else m ++ [(i, s)]
def fateM (fs : List Int) (i : Nat) : Int := match fs[i]? with | some c => pickM c 5 | none => 0
structure Got where
  logs : List Lg
  bad : Int
  m : List Msg
def heard (t : Int × List Ent × Int) (σ : Got) : Got := if t.2.2 = 0 then { σ with logs := σ.logs ++ [(t.1, t.2.1)] } else if t.2.2 = 10 then { σ with bad := 10 } else σ
noncomputable def ndM (k : Int) (s : ByteArray) (x : Nd) : Nd := if k = 1 ∨ k = 4 then x else if k = 3 then (x.hand (bs s)).hand (bs s) else x.hand (bs s)
noncomputable def gotM (k : Int) (i : Nat) (s : ByteArray) (x : Nd) (σ : Got) : Got :=
  if k = 1 then σ else if k = 4 then { σ with m := sendM σ.m i s } else if k = 2 then σ else heard (toldM (x.ans (bs s))) σ
noncomputable def ndsM (fs : List Int) (s : ByteArray) (xs : List Nd) (i : Nat) : List Nd := xs.mapIdx fun j x => if j < i then ndM (fateM fs j) s x else x
noncomputable def gotsM (fs : List Int) (s : ByteArray) (xs : List Nd) (m : List Msg) : Nat → Got
  | 0 => ⟨[], 12, m⟩
  | i + 1 => match xs[i]? with | some x => gotM (fateM fs i) i s x (gotsM fs s xs m i) | none => gotsM fs s xs m i
structure Wr where
  e : Int
  n : Int
  over : Bool
structure Res where
  logs : List Lg
  err : Int
  w : Wr
  xs : List Nd
  m : List Msg
def mostM (n : Int) : Int := if n < 1 then 0 else n / 2 + 1
noncomputable def allM (w : Wr) (xs : List Nd) (m : List Msg) (s : ByteArray) (fs : List Int) : Res :=
  let g := gotsM fs s xs m xs.length
  if xs.length = 0 ∨ (g.logs.length : Int) < mostM xs.length then ⟨[], g.bad, ⟨0, 0, true⟩, ndsM fs s xs xs.length, g.m⟩
  else ⟨g.logs, 0, w, ndsM fs s xs xs.length, g.m⟩
structure Out1 where
  l : List Ent
  err : Int
  w : Wr
  xs : List Nd
  m : List Msg
def betterQ (a b : Lg) : Bool := decide (b.1 < a.1) || (decide (a.1 = b.1) && decide (b.2.length < a.2.length))
def bestQ (ls : List Lg) : Nat → Int
  | 0 => -1
  | i + 1 => if bestQ ls i < 0 then i else match ls[i]?, ls[(bestQ ls i).toNat]? with
    | some a, some b => if betterQ a b = true then i else bestQ ls i
    | _, _ => bestQ ls i
def bestL (ls : List Lg) : List Ent := match ls[(bestQ ls ls.length).toNat]? with | some x => x.2 | none => []
noncomputable def accS (ep : Int) (l : List Ent) : ByteArray := if logOk ep l = true then mk (joinB (accL ep l)) else ⟨#[]⟩
noncomputable def addS (ep : Int) (n : Int) (s : ByteArray) : ByteArray := if fitsB n s = true then mk (joinB (addL ep ⟨n, s⟩)) else ⟨#[]⟩
noncomputable def promS (ep : Int) : ByteArray := mk (joinB (promL ep))
noncomputable def begin2 (ep : Int) (fs : List Int) (l : List Ent) (w : Wr) (xs : List Nd) (m : List Msg) : Out1 :=
  let b := allM w xs m (accS ep l) (fs.drop (min fs.length xs.length))
  if b.err ≠ 0 then ⟨[], b.err, b.w, b.xs, b.m⟩ else ⟨l, 0, ⟨ep, l.length, b.w.over⟩, b.xs, b.m⟩
noncomputable def beginM (w : Wr) (xs : List Nd) (m : List Msg) (ep : Int) (fs : List Int) : Out1 :=
  if w.over = true ∨ 0 < w.e then ⟨[], 14, w, xs, m⟩
  else if ep < 1 ∨ 9007199254740991 < ep then ⟨[], 1, w, xs, m⟩
  else
    let a := allM w xs m (promS ep) fs
    if a.err ≠ 0 then ⟨[], a.err, a.w, a.xs, a.m⟩ else begin2 ep fs (bestL a.logs) a.w a.xs a.m
noncomputable def writeM (w : Wr) (xs : List Nd) (m : List Msg) (s : ByteArray) (fs : List Int) : Out1 :=
  if w.over = true ∨ w.e = 0 then ⟨[], 14, w, xs, m⟩
  else if 600 < s.size then ⟨[], 1, w, xs, m⟩
  else if 300 ≤ w.n then ⟨[], 4, w, xs, m⟩
  else
    let a := allM w xs m (addS w.e (w.n + 1) s) fs
    ⟨[], a.err, if a.err = 0 then { a.w with n := a.w.n + 1 } else a.w, a.xs, a.m⟩
theorem ndsM_zero (fs : List Int) (s : ByteArray) (xs : List Nd) : ndsM fs s xs 0 = xs := by
  refine List.ext_getElem? fun i => ?_
  simp [ndsM, List.getElem?_mapIdx]
theorem ndsM_len (fs : List Int) (s : ByteArray) (xs : List Nd) (i : Nat) : (ndsM fs s xs i).length = xs.length := by simp [ndsM]
theorem ndsM_get {fs : List Int} {s : ByteArray} {xs : List Nd} {i : Nat} {x : Nd} (h : xs[i]? = some x) : (ndsM fs s xs i)[i]? = some x := by
  simp [ndsM, List.getElem?_mapIdx, h]
theorem ndsM_succ {fs : List Int} {s : ByteArray} {xs : List Nd} {i : Nat} {x : Nd} (h : xs[i]? = some x) : ndsM fs s xs (i + 1) = (ndsM fs s xs i).set i (ndM (fateM fs i) s x) := by
  have hi := (List.getElem?_eq_some_iff.1 h).1
  refine List.ext_getElem? fun j => ?_
  rw [List.getElem?_set]
  by_cases hj : i = j
  · subst hj
    rw [if_pos rfl, if_pos (by rw [ndsM_len]; exact hi)]
    simp [ndsM, List.getElem?_mapIdx, h]
  · rw [if_neg hj]
    simp only [ndsM, List.getElem?_mapIdx]
    congr 1
    funext y
    by_cases h2 : j < i
    · rw [if_pos h2, if_pos (by omega)]
    · rw [if_neg h2, if_neg (by omega)]
theorem ndM_same (k : Int) (s : ByteArray) (x : Nd) : (ndM k s x).b = x.b ∧ (ndM k s x).d = x.d := by unfold ndM; split; exact ⟨rfl, rfl⟩; split <;> exact ⟨rfl, rfl⟩
theorem ndsM_map {α : Type} (f : Nd → α) (hf : ∀ k s x, f (ndM k s x) = f x) (fs : List Int) (s : ByteArray) (xs : List Nd) (i : Nat) : (ndsM fs s xs i).map f = xs.map f := by
  refine List.ext_getElem? fun j => ?_
  simp only [ndsM, List.getElem?_map, List.getElem?_mapIdx, Option.map_map]
  congr 1
  funext x
  simp only [Function.comp]
  split
  · exact hf _ _ _
  · rfl
theorem hand_ok {x : Nd} (h : NdOk x) (s : List UInt8) : NdOk (x.hand s) := ⟨(hand_jok h.J h.D s).1, (hand_jok h.J h.D s).2⟩
theorem ndM_ok {x : Nd} (h : NdOk x) (k : Int) (s : ByteArray) : NdOk (ndM k s x) := by
  unfold ndM
  split
  · exact h
  · split
    · exact hand_ok (hand_ok h _) _
    · exact hand_ok h _
theorem ndsM_ok {xs : List Nd} (h : ∀ x ∈ xs, NdOk x) (fs : List Int) (s : ByteArray) (i : Nat) : ∀ x ∈ ndsM fs s xs i, NdOk x := by
  intro x hx
  obtain ⟨j, hj⟩ := List.mem_iff_getElem?.1 hx
  simp only [ndsM, List.getElem?_mapIdx, Option.map_eq_some_iff] at hj
  obtain ⟨y, hy, rfl⟩ := hj
  split
  · exact ndM_ok (h y (List.mem_of_getElem? hy)) _ _
  · exact h y (List.mem_of_getElem? hy)
theorem fate_range (fs : List Int) (i : Nat) : 0 ≤ fateM fs i ∧ fateM fs i < 5 := by
  unfold fateM
  split
  · exact pickM_range (by decide)
  · exact ⟨by decide, by decide⟩
theorem sendM_len {m : List Msg} (h : m.length ≤ 50) (i : Int) (s : ByteArray) : (sendM m i s).length ≤ 50 := by
  unfold sendM
  split
  · exact h
  · simp only [List.length_append, List.length_cons, List.length_nil]; omega
theorem gotM_len {σ : Got} {k : Int} {i : Nat} {s : ByteArray} {x : Nd} : (gotM k i s x σ).logs.length ≤ σ.logs.length + 1 := by
  unfold gotM heard
  split <;> (try split) <;> (try split) <;> (try split) <;> (try split) <;> simp
theorem gotsM_len (fs : List Int) (s : ByteArray) (xs : List Nd) (m : List Msg) : ∀ i, (gotsM fs s xs m i).logs.length ≤ i
  | 0 => Nat.le_refl _
  | i + 1 => by
    rw [gotsM]
    have := gotsM_len fs s xs m i
    split
    · have := gotM_len (σ := gotsM fs s xs m i) (k := fateM fs i) (i := i) (s := s) (x := by assumption)
      omega
    · omega
theorem gotsM_mail (fs : List Int) (s : ByteArray) (xs : List Nd) (m : List Msg) (hm : m.length ≤ 50) : ∀ i, (gotsM fs s xs m i).m.length ≤ 50
  | 0 => hm
  | i + 1 => by
    rw [gotsM]
    have := gotsM_mail fs s xs m hm i
    split
    · unfold gotM heard
      split
      · exact this
      · split
        · exact sendM_len this _ _
        · split
          · exact this
          · split
            · exact this
            · split <;> exact this
    · exact this
end Go.Proofs.YtfolmcpfdcgliaaGreat.B

set_option linter.unusedSimpArgs false
namespace Go.Proofs.YtfolmcpfdcgliaaGreat.B
open Go Go.Proofs
def pureW (J : Jn) (x : Ent) : Int × Jn :=
  if (J.xs.length : Int) + 1 < x.n ∨ (x.n ≤ (J.xs.length : Int) ∧ J.xs[(x.n - 1).toNat]? ≠ some x) then (11, J)
  else if x.n ≤ (J.xs.length : Int) then (0, J) else (0, { J with xs := J.xs ++ [x] })
def pureJ (J : Jn) (q : Rq) : Int × Jn :=
  if q.kind = kP then (if q.epoch ≤ J.p then (10, J) else (0, { J with p := q.epoch }))
  else if q.epoch < J.p ∨ (q.kind = kW ∧ (q.epoch ≠ J.p ∨ q.epoch ≠ J.e)) then (10, J)
  else if q.kind = kW then pureW J (q.xs.headD ⟨0, ⟨#[]⟩⟩)
  else if q.epoch = J.e then (if begB q.xs J.xs = true then (0, J) else (11, J))
  else (0, ⟨q.epoch, q.epoch, q.xs, J.dead⟩)
noncomputable def handP (J : Jn) (s : List UInt8) : List UInt8 × Jn :=
  match readQ s with
  | none => (saidB 2, J)
  | some q => (if (pureJ J q).1 = 0 then (if q.kind = kP then toldB (pureJ J q).2.e (pureJ J q).2.xs else saidB 0) else saidB (pureJ J q).1, (pureJ J q).2)
theorem pure_code (J : Jn) (q : Rq) : (pureJ J q).1 = 0 ∨ (pureJ J q).1 = 10 ∨ (pureJ J q).1 = 11 := by
  unfold pureJ pureW; (repeat' split) <;> simp
theorem do_pure {R : Int} (hR : 400000 ≤ R) {J : Jn} (hJ : JWell J) {q : Rq} (hq : RqOk q) : doJ J (jD R J) q = ((pureJ J q).1, (pureJ J q).2, jD R (pureJ J q).2) ∧ JWell (pureJ J q).2 := by
  have hfs := files_small hJ
  have hj0 := hJ.ok.p0
  have hj1 := hJ.ok.p1
  have hje := hJ.ok.e0
  have hjep := hJ.ep
  have hal := hJ.alive
  have hq0 := hq.e0
  have hq1 := hq.e1
  have hpw : J.p < q.epoch → JWell { J with p := q.epoch } := fun h => ⟨⟨by simp only; omega, hq1, hJ.ok.log⟩, hal, by simp only; omega, hJ.none⟩
  unfold pureJ
  by_cases h1 : q.kind = kP
  · rw [if_pos h1]
    by_cases h2 : q.epoch ≤ J.p
    · rw [if_pos h2]
      exact ⟨by rw [doJ, if_pos h1, if_pos h2], hJ⟩
    · rw [if_neg h2]
      exact ⟨by rw [doJ, if_pos h1, if_neg h2, prom_well hJ ⟨hq0, hq1⟩ (by omega)], hpw (by omega)⟩
  · rw [if_neg h1]
    by_cases h2 : q.epoch < J.p ∨ (q.kind = kW ∧ (q.epoch ≠ J.p ∨ q.epoch ≠ J.e))
    · rw [if_pos h2]
      exact ⟨by rw [doJ, if_neg h1, if_pos h2], hJ⟩
    · rw [if_neg h2]
      by_cases h3 : q.kind = kW
      · rw [if_pos h3]
        have hk : ¬ q.kind = kA := fun h => by rw [h] at h3; exact kAW h3
        obtain ⟨x, hx, x1, x2, x3⟩ : ∃ x : Ent, q.xs = [x] ∧ 1 ≤ x.n ∧ x.n ≤ 300 ∧ x.s.size ≤ 600 := by
          rcases hq.kind with ⟨h, _⟩ | ⟨h, _⟩ | ⟨_, h⟩
          · exact absurd h h1
          · exact absurd h hk
          · exact h
        have hne : q.epoch = J.p ∧ q.epoch = J.e := by
          refine ⟨Decidable.byContradiction fun h => h2 (.inr ⟨h3, .inl h⟩), Decidable.byContradiction fun h => h2 (.inr ⟨h3, .inr h⟩)⟩
        have hxd : q.xs.headD ⟨0, ⟨#[]⟩⟩ = x := by rw [hx]; rfl
        have e1 : doJ J (jD R J) q = addJ J (jD R J) x := by rw [doJ, if_neg h1, if_neg h2, if_pos h3, hxd]
        rw [e1, hxd, pureW]
        by_cases h4 : (J.xs.length : Int) + 1 < x.n ∨ (x.n ≤ (J.xs.length : Int) ∧ J.xs[(x.n - 1).toNat]? ≠ some x)
        · rw [if_pos h4]
          exact ⟨by rw [addJ, if_pos h4], hJ⟩
        · rw [if_neg h4]
          by_cases h5 : x.n ≤ (J.xs.length : Int)
          · rw [if_pos h5]
            exact ⟨by rw [addJ, if_neg h4, if_pos h5], hJ⟩
          · rw [if_neg h5]
            have h6 : x.n = (J.xs.length : Int) + 1 := by
              rcases Int.lt_or_le ((J.xs.length : Int) + 1) x.n with h | h
              · exact absurd (.inl h) h4
              · omega
            have hps := partB_short (n := x.n) (by unfold I64; omega) (s := bs x.s) (by rw [bs_len]; exact x3)
            refine ⟨addJ_well hJ (by omega) h6 x2 x3 (by omega), ⟨⟨hj0, hj1, ?_⟩, hal, hjep, fun h => by simp only at h; omega⟩⟩
            obtain ⟨⟨l1, l2, l3⟩, l4⟩ := logOk_iff.1 hJ.ok.log
            refine logOk_iff.2 ⟨⟨l1, l2, by simp only [List.length_append, List.length_cons, List.length_nil]; omega⟩, ?_⟩
            rw [entsOk_snoc, l4, decide_eq_true ⟨by omega, x3⟩]; rfl
      · rw [if_neg h3]
        have hlog : logOk q.epoch q.xs = true := by
          rcases hq.kind with ⟨h, _⟩ | ⟨_, h⟩ | ⟨h, _⟩
          · exact absurd h h1
          · obtain ⟨⟨_, _, l3⟩, l4⟩ := logOk_iff.1 h
            exact logOk_iff.2 ⟨⟨by omega, by omega, l3⟩, l4⟩
          · exact absurd h h3
        have hlb := logB_small hlog
        by_cases h4 : q.epoch = J.e
        · rw [if_pos h4]
          have e2 : doJ J (jD R J) q = (if begB q.xs J.xs = true then (0, J, jD R J) else (11, J, jD R J)) := by rw [doJ, if_neg h1, if_neg h2, if_neg h3, if_pos h4]
          rw [e2]
          split <;> exact ⟨rfl, hJ⟩
        · rw [if_neg h4]
          have e2 : doJ J (jD R J) q = accJ J (jD R J) q := by rw [doJ, if_neg h1, if_neg h2, if_neg h3, if_neg h4]
          rw [e2, accJ]
          have hep : ¬ q.epoch < J.p := fun h => h2 (.inl h)
          have hfin : JWell ⟨q.epoch, q.epoch, q.xs, J.dead⟩ := ⟨⟨by simp only; omega, hq1, hlog⟩, hal, Int.le_refl _, fun h => by simp only at h; omega⟩
          by_cases h5 : J.p < q.epoch
          · rw [if_pos h5, prom_well hJ ⟨hq0, hq1⟩ (by omega)]
            simp only [if_true]
            have hw := hpw h5
            rw [store_well hw hlog ⟨hq0, Int.le_refl _⟩ (by have := files_small hw; omega)]
            exact ⟨rfl, hfin⟩
          · have h6 : J.p = q.epoch := by omega
            rw [if_neg h5, store_well hJ hlog ⟨hq0, by omega⟩ (by omega)]
            exact ⟨by simp only [h6], hfin⟩
theorem hand_pure {R : Int} (hR : 400000 ≤ R) {J : Jn} (hJ : JWell J) (s : List UInt8) : handJ J (jD R J) s = ((handP J s).1, (handP J s).2, jD R (handP J s).2) ∧ JWell (handP J s).2 := by
  have hd : ¬ J.dead = true := by rw [hJ.alive]; decide
  rw [handJ, if_neg hd, handP]
  cases hq : readQ s with
  | none => exact ⟨rfl, hJ⟩
  | some q =>
    obtain ⟨h1, h2⟩ := do_pure hR hJ (readQ_ok hq)
    simp only
    rw [h1, ans_well (J := J) (pure_code J q)]
    exact ⟨rfl, h2⟩
structure NW (x : Nd) : Prop where
  J : JWell x.J
  D : x.D = jD 2000000 x.J
  ok : NdOk x
theorem NW.hand {x : Nd} (h : NW x) (s : List UInt8) : NW (x.hand s) ∧ (x.hand s).J = (handP x.J s).2 ∧ x.ans s = (handP x.J s).1 := by
  obtain ⟨h1, h2⟩ := hand_pure (R := 2000000) (by decide) h.J s
  rw [← h.D] at h1
  have e1 : (x.hand s).J = (handP x.J s).2 := by show (handJ x.J x.D s).2.1 = _; rw [h1]
  have e2 : (x.hand s).D = jD 2000000 (handP x.J s).2 := by show (handJ x.J x.D s).2.2 = _; rw [h1]
  exact ⟨⟨by rw [e1]; exact h2, by rw [e2, e1], hand_ok h.ok s⟩, e1, by show (handJ x.J x.D s).1 = _; rw [h1]⟩
noncomputable def respM (fs : List Int) (s : ByteArray) (xs : List Nd) (i : Nat) : Option Lg :=
  match xs[i]? with
  | some x => if (fateM fs i = 0 ∨ fateM fs i = 3) ∧ (toldM (x.ans (bs s))).2.2 = 0 then some ((toldM (x.ans (bs s))).1, (toldM (x.ans (bs s))).2.1) else none
  | none => none
theorem logs_are (fs : List Int) (s : ByteArray) (xs : List Nd) (m : List Msg) : ∀ k, (gotsM fs s xs m k).logs = (List.range k).filterMap (respM fs s xs)
  | 0 => rfl
  | k + 1 => by
    rw [List.range_succ, List.filterMap_append, ← logs_are fs s xs m k, gotsM]
    have hr := fate_range fs k
    cases hx : xs[k]? with
    | none => simp [respM, hx]
    | some x =>
      simp only [respM, hx, List.filterMap_cons, List.filterMap_nil]
      have hf : fateM fs k = 0 ∨ fateM fs k = 1 ∨ fateM fs k = 2 ∨ fateM fs k = 3 ∨ fateM fs k = 4 := by omega
      unfold gotM heard
      by_cases h0 : (toldM (x.ans (bs s))).2.2 = 0
      · rcases hf with h | h | h | h | h <;> simp [h, h0]
      · rcases hf with h | h | h | h | h <;> simp [h, h0] <;> split <;> simp
theorem bad_is (fs : List Int) (s : ByteArray) (xs : List Nd) (m : List Msg) : ∀ k, (gotsM fs s xs m k).bad = 12 ∨ (gotsM fs s xs m k).bad = 10
  | 0 => .inl rfl
  | k + 1 => by
    have := bad_is fs s xs m k
    rw [gotsM]
    split
    · unfold gotM heard
      (repeat' split) <;> first | exact this | exact .inr rfl
    · exact this
theorem bad_no (fs : List Int) (s : ByteArray) (xs : List Nd) (m : List Msg) (h : ∀ i x, xs[i]? = some x → (fateM fs i = 0 ∨ fateM fs i = 3) → (toldM (x.ans (bs s))).2.2 ≠ 10) : ∀ k, (gotsM fs s xs m k).bad = 12
  | 0 => rfl
  | k + 1 => by
    have ih := bad_no fs s xs m h k
    rw [gotsM]
    cases hx : xs[k]? with
    | none => exact ih
    | some x =>
      have hr := fate_range fs k
      have hf : fateM fs k = 0 ∨ fateM fs k = 1 ∨ fateM fs k = 2 ∨ fateM fs k = 3 ∨ fateM fs k = 4 := by omega
      have h1 := h k x hx
      simp only
      unfold gotM heard
      rcases hf with e | e | e | e | e <;> simp [e] at h1 ⊢ <;> (repeat' split) <;> simp_all
theorem nds_at {fs : List Int} {s : ByteArray} {xs : List Nd} {i : Nat} (h : i < xs.length) : (ndsM fs s xs xs.length)[i]? = (xs[i]?).map (ndM (fateM fs i) s) := by
  simp only [ndsM, List.getElem?_mapIdx]
  congr 1
  funext y
  rw [if_pos h]
theorem NW.step {x : Nd} (h : NW x) (k : Int) (s : ByteArray) : NW (ndM k s x) := by
  unfold ndM
  split
  · exact h
  · split
    · exact ((h.hand _).1.hand _).1
    · exact (h.hand _).1
theorem NW.all {xs : List Nd} (h : ∀ x ∈ xs, NW x) (fs : List Int) (s : ByteArray) (i : Nat) : ∀ x ∈ ndsM fs s xs i, NW x := by
  intro x hx
  obtain ⟨j, hj⟩ := List.mem_iff_getElem?.1 hx
  simp only [ndsM, List.getElem?_mapIdx, Option.map_eq_some_iff] at hj
  obtain ⟨y, hy, rfl⟩ := hj
  split
  · exact (h y (List.mem_of_getElem? hy)).step _ _
  · exact h y (List.mem_of_getElem? hy)
theorem read_prom {ep : Int} (h : 1 ≤ ep ∧ ep ≤ 9007199254740991) : readQ (bs (promS ep)) = some ⟨kP, ep, []⟩ := by
  rw [promS, bs_mk, readQ_prom (by unfold I64; omega), if_pos h]
theorem read_acc {ep : Int} {l : List Ent} (h : 1 ≤ ep) (hl : logOk ep l = true) : readQ (bs (accS ep l)) = some ⟨kA, ep, l⟩ := by
  rw [accS, if_pos hl, bs_mk, readQ_acc hl, if_pos h]
theorem read_add {ep n : Int} {s : ByteArray} (h : 1 ≤ ep ∧ ep ≤ 9007199254740991) (hn : 1 ≤ n ∧ n ≤ 300) (hs : s.size ≤ 600) : readQ (bs (addS ep n s)) = some ⟨kW, ep, [⟨n, s⟩]⟩ := by
  rw [addS, if_pos (by unfold fitsB; exact decide_eq_true ⟨hn.1, hn.2, hs⟩), bs_mk, readQ_add (by unfold I64; omega) ⟨hn.1, hn.2, hs⟩, if_pos h]
theorem hand_of {J : Jn} {s : List UInt8} {q : Rq} (h : readQ s = some q) : handP J s = (if (pureJ J q).1 = 0 then (if q.kind = kP then toldB (pureJ J q).2.e (pureJ J q).2.xs else saidB 0) else saidB (pureJ J q).1, (pureJ J q).2) := by
  rw [handP, h]
theorem told_ans {J : Jn} {s : List UInt8} {q : Rq} (hJ : JWell (pureJ J q).2) (h : readQ s = some q) :
    toldM (handP J s).1 = if (pureJ J q).1 = 0 then (if q.kind = kP then ((pureJ J q).2.e, (pureJ J q).2.xs, 0) else (0, [], 0)) else (0, [], (pureJ J q).1) := by
  rw [hand_of h]
  have hc := pure_code J q
  by_cases h0 : (pureJ J q).1 = 0
  · rw [if_pos h0, if_pos h0]
    by_cases hk : q.kind = kP
    · rw [if_pos hk, if_pos hk, told_told hJ.ok.log]
    · rw [if_neg hk, if_neg hk, told_said (by decide) (by decide)]
  · rw [if_neg h0, if_neg h0, told_said (by omega) (by omega)]
end Go.Proofs.YtfolmcpfdcgliaaGreat.B
