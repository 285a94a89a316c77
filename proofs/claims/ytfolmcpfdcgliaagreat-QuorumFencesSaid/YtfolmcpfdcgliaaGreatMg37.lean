import Derived.Test.YtfolmcpfdcgliaaGreatMg31
import Derived.Test.YtfolmcpfdcgliaaGreatMg29
set_option linter.unusedVariables false
set_option linter.unusedSimpArgs false
set_option maxRecDepth 8000
/-! A node over a disk with room and without a fuse: what it answers is a matter of the node alone. -/
namespace Go.Proofs.YtfolmcpfdcgliaaGreat.B
open Go Go.Proofs
def pureW (J : Jn) (x : Ent) : Int × Jn :=
  if (J.xs.length : Int) + 1 < x.n ∨ (x.n ≤ (J.xs.length : Int) ∧ J.xs[(x.n - 1).toNat]? ≠ some x) then (11, J)
  else if x.n ≤ (J.xs.length : Int) then (0, J) else (0, { J with xs := J.xs ++ [x] })
def pureJ (J : Jn) (q : Rq) : Int × Jn :=
  if q.kind = kP then (if q.epoch ≤ J.p then (10, J) else (0, { J with p := q.epoch }))
  else if q.epoch < J.p ∨ (q.kind = kW ∧ (q.epoch ≠ J.p ∨ q.epoch ≠ J.e)) then (10, J)
  else if q.kind = kW then pureW J (q.xs.headD ⟨0, ⟨#[]⟩⟩)
  else if q.epoch = J.e then (if begB q.xs J.xs = true then (0, J) else (11, J))
  else (0, ⟨q.epoch, q.epoch, q.xs, J.dead⟩)
noncomputable def handP (J : Jn) (s : List UInt8) : List UInt8 × Jn :=
  match readQ s with
  | none => (saidB 2, J)
  | some q => (if (pureJ J q).1 = 0 then (if q.kind = kP then toldB (pureJ J q).2.e (pureJ J q).2.xs else saidB 0) else saidB (pureJ J q).1, (pureJ J q).2)
theorem pure_code (J : Jn) (q : Rq) : (pureJ J q).1 = 0 ∨ (pureJ J q).1 = 10 ∨ (pureJ J q).1 = 11 := by
  unfold pureJ pureW; (repeat' split) <;> simp
theorem do_pure {R : Int} (hR : 400000 ≤ R) {J : Jn} (hJ : JWell J) {q : Rq} (hq : RqOk q) : doJ J (jD R J) q = ((pureJ J q).1, (pureJ J q).2, jD R (pureJ J q).2) ∧ JWell (pureJ J q).2 := by
  have hfs := files_small hJ
  have hj0 := hJ.ok.p0
  have hj1 := hJ.ok.p1
  have hje := hJ.ok.e0
  have hjep := hJ.ep
  have hal := hJ.alive
  have hq0 := hq.e0
  have hq1 := hq.e1
  have hpw : J.p < q.epoch → JWell { J with p := q.epoch } := fun h => ⟨⟨by simp only; omega, hq1, hJ.ok.log⟩, hal, by simp only; omega, hJ.none⟩
  unfold pureJ
  by_cases h1 : q.kind = kP
  · rw [if_pos h1]
    by_cases h2 : q.epoch ≤ J.p
    · rw [if_pos h2]
      exact ⟨by rw [doJ, if_pos h1, if_pos h2], hJ⟩
    · rw [if_neg h2]
      exact ⟨by rw [doJ, if_pos h1, if_neg h2, prom_well hJ ⟨hq0, hq1⟩ (by omega)], hpw (by omega)⟩
  · rw [if_neg h1]
    by_cases h2 : q.epoch < J.p ∨ (q.kind = kW ∧ (q.epoch ≠ J.p ∨ q.epoch ≠ J.e))
    · rw [if_pos h2]
      exact ⟨by rw [doJ, if_neg h1, if_pos h2], hJ⟩
    · rw [if_neg h2]
      by_cases h3 : q.kind = kW
      · rw [if_pos h3]
        have hk : ¬ q.kind = kA := fun h => by rw [h] at h3; exact kAW h3
        obtain ⟨x, hx, x1, x2, x3⟩ : ∃ x : Ent, q.xs = [x] ∧ 1 ≤ x.n ∧ x.n ≤ 300 ∧ x.s.size ≤ 600 := by
          rcases hq.kind with ⟨h, _⟩ | ⟨h, _⟩ | ⟨_, h⟩
          · exact absurd h h1
          · exact absurd h hk
          · exact h
        have hne : q.epoch = J.p ∧ q.epoch = J.e := by
          refine ⟨Decidable.byContradiction fun h => h2 (.inr ⟨h3, .inl h⟩), Decidable.byContradiction fun h => h2 (.inr ⟨h3, .inr h⟩)⟩
        have hxd : q.xs.headD ⟨0, ⟨#[]⟩⟩ = x := by rw [hx]; rfl
        have e1 : doJ J (jD R J) q = addJ J (jD R J) x := by rw [doJ, if_neg h1, if_neg h2, if_pos h3, hxd]
        rw [e1, hxd, pureW]
        by_cases h4 : (J.xs.length : Int) + 1 < x.n ∨ (x.n ≤ (J.xs.length : Int) ∧ J.xs[(x.n - 1).toNat]? ≠ some x)
        · rw [if_pos h4]
          exact ⟨by rw [addJ, if_pos h4], hJ⟩
        · rw [if_neg h4]
          by_cases h5 : x.n ≤ (J.xs.length : Int)
          · rw [if_pos h5]
            exact ⟨by rw [addJ, if_neg h4, if_pos h5], hJ⟩
          · rw [if_neg h5]
            have h6 : x.n = (J.xs.length : Int) + 1 := by
              rcases Int.lt_or_le ((J.xs.length : Int) + 1) x.n with h | h
              · exact absurd (.inl h) h4
              · omega
            have hps := partB_short (n := x.n) (by unfold I64; omega) (s := bs x.s) (by rw [bs_len]; exact x3)
            refine ⟨addJ_well hJ (by omega) h6 x2 x3 (by omega), ⟨⟨hj0, hj1, ?_⟩, hal, hjep, fun h => by simp only at h; omega⟩⟩
            obtain ⟨⟨l1, l2, l3⟩, l4⟩ := logOk_iff.1 hJ.ok.log
            refine logOk_iff.2 ⟨⟨l1, l2, by simp only [List.length_append, List.length_cons, List.length_nil]; omega⟩, ?_⟩
            rw [entsOk_snoc, l4, decide_eq_true ⟨by omega, x3⟩]; rfl
      · rw [if_neg h3]
        have hlog : logOk q.epoch q.xs = true := by
          rcases hq.kind with ⟨h, _⟩ | ⟨_, h⟩ | ⟨h, _⟩
          · exact absurd h h1
          · obtain ⟨⟨_, _, l3⟩, l4⟩ := logOk_iff.1 h
            exact logOk_iff.2 ⟨⟨by omega, by omega, l3⟩, l4⟩
          · exact absurd h h3
        have hlb := logB_small hlog
        by_cases h4 : q.epoch = J.e
        · rw [if_pos h4]
          have e2 : doJ J (jD R J) q = (if begB q.xs J.xs = true then (0, J, jD R J) else (11, J, jD R J)) := by rw [doJ, if_neg h1, if_neg h2, if_neg h3, if_pos h4]
          rw [e2]
          split <;> exact ⟨rfl, hJ⟩
        · rw [if_neg h4]
          have e2 : doJ J (jD R J) q = accJ J (jD R J) q := by rw [doJ, if_neg h1, if_neg h2, if_neg h3, if_neg h4]
          rw [e2, accJ]
          have hep : ¬ q.epoch < J.p := fun h => h2 (.inl h)
          have hfin : JWell ⟨q.epoch, q.epoch, q.xs, J.dead⟩ := ⟨⟨by simp only; omega, hq1, hlog⟩, hal, Int.le_refl _, fun h => by simp only at h; omega⟩
          by_cases h5 : J.p < q.epoch
          · rw [if_pos h5, prom_well hJ ⟨hq0, hq1⟩ (by omega)]
            simp only [if_true]
            have hw := hpw h5
            rw [store_well hw hlog ⟨hq0, Int.le_refl _⟩ (by have := files_small hw; omega)]
            exact ⟨rfl, hfin⟩
          · have h6 : J.p = q.epoch := by omega
            rw [if_neg h5, store_well hJ hlog ⟨hq0, by omega⟩ (by omega)]
            exact ⟨by simp only [h6], hfin⟩
theorem hand_pure {R : Int} (hR : 400000 ≤ R) {J : Jn} (hJ : JWell J) (s : List UInt8) : handJ J (jD R J) s = ((handP J s).1, (handP J s).2, jD R (handP J s).2) ∧ JWell (handP J s).2 := by
  have hd : ¬ J.dead = true := by rw [hJ.alive]; decide
  rw [handJ, if_neg hd, handP]
  cases hq : readQ s with
  | none => exact ⟨rfl, hJ⟩
  | some q =>
    obtain ⟨h1, h2⟩ := do_pure hR hJ (readQ_ok hq)
    simp only
    rw [h1, ans_well (J := J) (pure_code J q)]
    exact ⟨rfl, h2⟩
/-- A node over its own disk. -/
structure NW (x : Nd) : Prop where
  J : JWell x.J
  D : x.D = jD 2000000 x.J
  ok : NdOk x
theorem NW.hand {x : Nd} (h : NW x) (s : List UInt8) : NW (x.hand s) ∧ (x.hand s).J = (handP x.J s).2 ∧ x.ans s = (handP x.J s).1 := by
  obtain ⟨h1, h2⟩ := hand_pure (R := 2000000) (by decide) h.J s
  rw [← h.D] at h1
  have e1 : (x.hand s).J = (handP x.J s).2 := by show (handJ x.J x.D s).2.1 = _; rw [h1]
  have e2 : (x.hand s).D = jD 2000000 (handP x.J s).2 := by show (handJ x.J x.D s).2.2 = _; rw [h1]
  exact ⟨⟨by rw [e1]; exact h2, by rw [e2, e1], hand_ok h.ok s⟩, e1, by show (handJ x.J x.D s).1 = _; rw [h1]⟩
/-- What is heard of the i-th. -/
noncomputable def respM (fs : List Int) (s : ByteArray) (xs : List Nd) (i : Nat) : Option Lg :=
  match xs[i]? with
  | some x => if (fateM fs i = 0 ∨ fateM fs i = 3) ∧ (toldM (x.ans (bs s))).2.2 = 0 then some ((toldM (x.ans (bs s))).1, (toldM (x.ans (bs s))).2.1) else none
  | none => none
theorem logs_are (fs : List Int) (s : ByteArray) (xs : List Nd) (m : List Msg) : ∀ k, (gotsM fs s xs m k).logs = (List.range k).filterMap (respM fs s xs)
  | 0 => rfl
  | k + 1 => by
    rw [List.range_succ, List.filterMap_append, ← logs_are fs s xs m k, gotsM]
    have hr := fate_range fs k
    cases hx : xs[k]? with
    | none => simp [respM, hx]
    | some x =>
      simp only [respM, hx, List.filterMap_cons, List.filterMap_nil]
      have hf : fateM fs k = 0 ∨ fateM fs k = 1 ∨ fateM fs k = 2 ∨ fateM fs k = 3 ∨ fateM fs k = 4 := by omega
      unfold gotM heard
      by_cases h0 : (toldM (x.ans (bs s))).2.2 = 0
      · rcases hf with h | h | h | h | h <;> simp [h, h0]
      · rcases hf with h | h | h | h | h <;> simp [h, h0] <;> split <;> simp
theorem bad_is (fs : List Int) (s : ByteArray) (xs : List Nd) (m : List Msg) : ∀ k, (gotsM fs s xs m k).bad = 12 ∨ (gotsM fs s xs m k).bad = 10
  | 0 => .inl rfl
  | k + 1 => by
    have := bad_is fs s xs m k
    rw [gotsM]
    split
    · unfold gotM heard
      (repeat' split) <;> first | exact this | exact .inr rfl
    · exact this
theorem bad_no (fs : List Int) (s : ByteArray) (xs : List Nd) (m : List Msg) (h : ∀ i x, xs[i]? = some x → (fateM fs i = 0 ∨ fateM fs i = 3) → (toldM (x.ans (bs s))).2.2 ≠ 10) : ∀ k, (gotsM fs s xs m k).bad = 12
  | 0 => rfl
  | k + 1 => by
    have ih := bad_no fs s xs m h k
    rw [gotsM]
    cases hx : xs[k]? with
    | none => exact ih
    | some x =>
      have hr := fate_range fs k
      have hf : fateM fs k = 0 ∨ fateM fs k = 1 ∨ fateM fs k = 2 ∨ fateM fs k = 3 ∨ fateM fs k = 4 := by omega
      have h1 := h k x hx
      simp only
      unfold gotM heard
      rcases hf with e | e | e | e | e <;> simp [e] at h1 ⊢ <;> (repeat' split) <;> simp_all
theorem nds_at {fs : List Int} {s : ByteArray} {xs : List Nd} {i : Nat} (h : i < xs.length) : (ndsM fs s xs xs.length)[i]? = (xs[i]?).map (ndM (fateM fs i) s) := by
  simp only [ndsM, List.getElem?_mapIdx]
  congr 1
  funext y
  rw [if_pos h]
theorem NW.step {x : Nd} (h : NW x) (k : Int) (s : ByteArray) : NW (ndM k s x) := by
  unfold ndM
  split
  · exact h
  · split
    · exact ((h.hand _).1.hand _).1
    · exact (h.hand _).1
theorem NW.all {xs : List Nd} (h : ∀ x ∈ xs, NW x) (fs : List Int) (s : ByteArray) (i : Nat) : ∀ x ∈ ndsM fs s xs i, NW x := by
  intro x hx
  obtain ⟨j, hj⟩ := List.mem_iff_getElem?.1 hx
  simp only [ndsM, List.getElem?_mapIdx, Option.map_eq_some_iff] at hj
  obtain ⟨y, hy, rfl⟩ := hj
  split
  · exact (h y (List.mem_of_getElem? hy)).step _ _
  · exact h y (List.mem_of_getElem? hy)
/-! ### What is asked of a node -/
theorem read_prom {ep : Int} (h : 1 ≤ ep ∧ ep ≤ 9007199254740991) : readQ (bs (promS ep)) = some ⟨kP, ep, []⟩ := by
  rw [promS, bs_mk, readQ_prom (by unfold I64; omega), if_pos h]
theorem read_acc {ep : Int} {l : List Ent} (h : 1 ≤ ep) (hl : logOk ep l = true) : readQ (bs (accS ep l)) = some ⟨kA, ep, l⟩ := by
  rw [accS, if_pos hl, bs_mk, readQ_acc hl, if_pos h]
theorem read_add {ep n : Int} {s : ByteArray} (h : 1 ≤ ep ∧ ep ≤ 9007199254740991) (hn : 1 ≤ n ∧ n ≤ 300) (hs : s.size ≤ 600) : readQ (bs (addS ep n s)) = some ⟨kW, ep, [⟨n, s⟩]⟩ := by
  rw [addS, if_pos (by unfold fitsB; exact decide_eq_true ⟨hn.1, hn.2, hs⟩), bs_mk, readQ_add (by unfold I64; omega) ⟨hn.1, hn.2, hs⟩, if_pos h]
theorem hand_of {J : Jn} {s : List UInt8} {q : Rq} (h : readQ s = some q) : handP J s = (if (pureJ J q).1 = 0 then (if q.kind = kP then toldB (pureJ J q).2.e (pureJ J q).2.xs else saidB 0) else saidB (pureJ J q).1, (pureJ J q).2) := by
  rw [handP, h]
theorem told_ans {J : Jn} {s : List UInt8} {q : Rq} (hJ : JWell (pureJ J q).2) (h : readQ s = some q) :
    toldM (handP J s).1 = if (pureJ J q).1 = 0 then (if q.kind = kP then ((pureJ J q).2.e, (pureJ J q).2.xs, 0) else (0, [], 0)) else (0, [], (pureJ J q).1) := by
  rw [hand_of h]
  have hc := pure_code J q
  by_cases h0 : (pureJ J q).1 = 0
  · rw [if_pos h0, if_pos h0]
    by_cases hk : q.kind = kP
    · rw [if_pos hk, if_pos hk, told_told hJ.ok.log]
    · rw [if_neg hk, if_neg hk, told_said (by decide) (by decide)]
  · rw [if_neg h0, if_neg h0, told_said (by omega) (by omega)]
end Go.Proofs.YtfolmcpfdcgliaaGreat.B
