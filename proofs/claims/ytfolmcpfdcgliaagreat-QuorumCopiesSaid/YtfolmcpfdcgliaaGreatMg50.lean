import Derived.Test.YtfolmcpfdcgliaaGreatMg37
set_option linter.unusedVariables false
set_option linter.unusedSimpArgs false
set_option maxRecDepth 8000
/-! What a writer does with nodes of which the first ones answer nothing, and the others are alike. -/
namespace Go.Proofs.YtfolmcpfdcgliaaGreat.B
open Go Go.Proofs
theorem filter_range {α : Type} {f : Nat → Option α} {c : α} {d : Nat} : ∀ (n : Nat), (∀ i, i < n → f i = if i < d then none else some c) → (List.range n).filterMap f = List.replicate (n - d) c
  | 0, _ => by simp
  | n + 1, h => by
    rw [List.range_succ, List.filterMap_append, filter_range n (fun i hi => h i (by omega))]
    simp only [List.filterMap_cons, List.filterMap_nil, h n (by omega)]
    by_cases hd : n < d
    · rw [if_pos hd, show n + 1 - d = 0 from by omega, show n - d = 0 from by omega]; rfl
    · rw [if_neg hd, show n + 1 - d = (n - d) + 1 from by omega, List.replicate_succ']
theorem best_same (T : Lg) (k : Nat) : ∀ i, 1 ≤ i → i ≤ k → bestQ (List.replicate k T) i = 0
  | 0, h, _ => by omega
  | 1, _, _ => by simp [bestQ]
  | i + 2, _, h => by
    have ih := best_same T k (i + 1) (by omega) (by omega)
    rw [bestQ, ih, if_neg (by decide)]
    have h1 : (List.replicate k T)[i + 1]? = some T := by rw [List.getElem?_replicate, if_pos (by omega)]
    have h2 : (List.replicate k T)[(0 : Int).toNat]? = some T := by rw [List.getElem?_replicate, if_pos (by show 0 < k; omega)]
    rw [h1, h2]
    simp [betterQ]
theorem bestL_same (T : Lg) (k : Nat) (hk : 1 ≤ k) : bestL (List.replicate k T) = T.2 := by
  unfold bestL
  rw [List.length_replicate, best_same T k k hk (Nat.le_refl _)]
  have h2 : (List.replicate k T)[(0 : Int).toNat]? = some T := by rw [List.getElem?_replicate, if_pos (by show 0 < k; omega)]
  rw [h2]
/-- The nodes from the d-th on are alike. -/
def Hu (J : Jn) (d : Nat) (xs : List Nd) : Prop := ∀ i x, xs[i]? = some x → NW x ∧ (d ≤ i → x.J = J)
/-- .. and the first d answer nothing. -/
def FD (fs : List Int) (d n : Nat) : Prop := ∀ i, i < n → fateM fs i = if i < d then 1 else 0
theorem FD.nil (n : Nat) : FD [] 0 n := fun i _ => by simp [fateM]
theorem Hu.mem {J : Jn} {d : Nat} {xs : List Nd} (h : Hu J d xs) : ∀ x ∈ xs, NW x := fun x hx => by
  obtain ⟨i, hi⟩ := List.mem_iff_getElem?.1 hx
  exact (h i x hi).1
abbrev toldQ (J : Jn) (q : Rq) : Lg := if q.kind = kP then ((pureJ J q).2.e, (pureJ J q).2.xs) else (0, [])
theorem NW.told {x : Nd} (h : NW x) {s : ByteArray} {q : Rq} (hq : readQ (bs s) = some q) :
    toldM (x.ans (bs s)) = (if (pureJ x.J q).1 = 0 then ((toldQ x.J q).1, (toldQ x.J q).2, 0) else (0, [], (pureJ x.J q).1)) ∧ (x.hand (bs s)).J = (pureJ x.J q).2 := by
  obtain ⟨h1, h2, h3⟩ := h.hand (bs s)
  have h4 : JWell (pureJ x.J q).2 := by have hh := (hand_pure (R := 2000000) (by decide) h.J (bs s)).2; rw [hand_of hq] at hh; exact hh
  refine ⟨?_, by rw [h2, hand_of hq]⟩
  rw [h3, told_ans h4 hq]
  unfold toldQ
  split
  · split <;> rfl
  · rfl
theorem resp_hu {J : Jn} {d : Nat} {xs : List Nd} (h : Hu J d xs) {fs : List Int} (hf : FD fs d xs.length) {s : ByteArray} {q : Rq} (hq : readQ (bs s) = some q) (h0 : (pureJ J q).1 = 0) :
    ∀ i, i < xs.length → respM fs s xs i = if i < d then none else some (toldQ J q) := fun i hi => by
  obtain ⟨x, hx⟩ : ∃ x, xs[i]? = some x := ⟨xs[i]'hi, List.getElem?_eq_getElem hi⟩
  obtain ⟨h1, h2⟩ := h i x hx
  obtain ⟨t1, t2⟩ := h1.told hq
  unfold respM
  rw [hx, hf i hi]
  by_cases hd : i < d
  · simp [hd]
  · have hJ := h2 (by omega)
    rw [hJ] at t1
    rw [if_pos h0] at t1
    simp only [hd, if_false, true_or, true_and, t1, if_true]
theorem hu_next {J : Jn} {d : Nat} {xs : List Nd} (h : Hu J d xs) {fs : List Int} (hf : FD fs d xs.length) {s : ByteArray} {q : Rq} (hq : readQ (bs s) = some q) : Hu (pureJ J q).2 d (ndsM fs s xs xs.length) := fun i x hx => by
  have hi := (List.getElem?_eq_some_iff.1 hx).1
  rw [ndsM_len] at hi
  rw [nds_at hi] at hx
  obtain ⟨y, hy, rfl⟩ := Option.map_eq_some_iff.1 hx
  obtain ⟨h1, h2⟩ := h i y hy
  refine ⟨h1.step _ _, fun hd => ?_⟩
  rw [hf i hi, if_neg (by omega)]
  have e : ndM 0 s y = y.hand (bs s) := by unfold ndM; simp
  rw [e, (h1.told hq).2, h2 hd]
theorem most_pos {n : Nat} (h : 1 ≤ n) : mostM n = (n : Int) / 2 + 1 := by unfold mostM; rw [if_neg (by omega)]
/-- Enough of them answer. -/
theorem all_ok {J : Jn} {d : Nat} {xs : List Nd} (h : Hu J d xs) {fs : List Int} (hf : FD fs d xs.length) {s : ByteArray} {q : Rq} (hq : readQ (bs s) = some q) (h0 : (pureJ J q).1 = 0) (w : Wr) (m : List Msg)
    (hn : 1 ≤ xs.length) (he : xs.length / 2 + 1 ≤ xs.length - d) :
    ∃ m', allM w xs m s fs = ⟨List.replicate (xs.length - d) (toldQ J q), 0, w, ndsM fs s xs xs.length, m'⟩ ∧ Hu (pureJ J q).2 d (ndsM fs s xs xs.length) := by
  refine ⟨(gotsM fs s xs m xs.length).m, ?_, hu_next h hf hq⟩
  have hl := logs_are fs s xs m xs.length
  rw [filter_range _ (resp_hu h hf hq h0)] at hl
  unfold allM
  simp only
  rw [if_neg (by rw [hl, List.length_replicate, most_pos hn]; omega), hl]
/-- Too few of them do. -/
theorem all_few {J : Jn} {d : Nat} {xs : List Nd} (h : Hu J d xs) {fs : List Int} (hf : FD fs d xs.length) {s : ByteArray} {q : Rq} (hq : readQ (bs s) = some q) (h0 : (pureJ J q).1 = 0) (w : Wr) (m : List Msg)
    (hn : 1 ≤ xs.length) (he : xs.length - d < xs.length / 2 + 1) : ∃ m', allM w xs m s fs = ⟨[], 12, ⟨0, 0, true⟩, ndsM fs s xs xs.length, m'⟩ := by
  refine ⟨(gotsM fs s xs m xs.length).m, ?_⟩
  have hl := logs_are fs s xs m xs.length
  rw [filter_range _ (resp_hu h hf hq h0)] at hl
  have hb : (gotsM fs s xs m xs.length).bad = 12 := bad_no fs s xs m (fun i x hx hfi => by
    have hi := (List.getElem?_eq_some_iff.1 hx).1
    rw [hf i hi] at hfi
    have hd : ¬ i < d := fun hd => by rw [if_pos hd] at hfi; omega
    obtain ⟨h1, h2⟩ := h i x hx
    have t1 := (h1.told hq).1
    rw [h2 (by omega), if_pos h0] at t1
    rw [t1]; simp) xs.length
  unfold allM
  simp only
  rw [if_pos (.inr (by rw [hl, List.length_replicate, most_pos hn]; omega)), hb]
/-- None of them does. -/
theorem all_no {J : Jn} {xs : List Nd} (h : Hu J 0 xs) (fs : List Int) {s : ByteArray} {q : Rq} (hq : readQ (bs s) = some q) (h0 : (pureJ J q).1 ≠ 0) (hJ : (pureJ J q).2 = J) (w : Wr) (m : List Msg) :
    ∃ e m', (e = 12 ∨ e = 10) ∧ allM w xs m s fs = ⟨[], e, ⟨0, 0, true⟩, ndsM fs s xs xs.length, m'⟩ ∧ Hu J 0 (ndsM fs s xs xs.length) := by
  have hl : (gotsM fs s xs m xs.length).logs = [] := by
    rw [logs_are]
    refine List.filterMap_eq_nil_iff.2 fun i hi => ?_
    have hi' := List.mem_range.1 hi
    obtain ⟨x, hx⟩ : ∃ x, xs[i]? = some x := ⟨xs[i]'hi', List.getElem?_eq_getElem hi'⟩
    obtain ⟨h1, h2⟩ := h i x hx
    have t1 := (h1.told hq).1
    rw [h2 (by omega), if_neg h0] at t1
    unfold respM
    rw [hx]
    simp only [t1]
    rw [if_neg (fun hh => h0 hh.2)]
  refine ⟨(gotsM fs s xs m xs.length).bad, (gotsM fs s xs m xs.length).m, bad_is fs s xs m _, ?_, fun i x hx => ?_⟩
  · unfold allM
    simp only
    rw [if_pos ?_]
    by_cases hn : xs.length = 0
    · exact .inl hn
    · refine .inr ?_
      rw [hl, most_pos (by omega)]
      simp only [List.length_nil]; omega
  · have hi := (List.getElem?_eq_some_iff.1 hx).1
    rw [ndsM_len] at hi
    rw [nds_at hi] at hx
    obtain ⟨y, hy, rfl⟩ := Option.map_eq_some_iff.1 hx
    obtain ⟨h1, h2⟩ := h i y hy
    refine ⟨h1.step _ _, fun hd => ?_⟩
    have hyJ := h2 hd
    have e1 := (h1.told hq).2
    rw [hyJ, hJ] at e1
    have hh := (h1.hand (bs s)).1
    have e2 := (hh.told hq).2
    rw [e1, hJ] at e2
    unfold ndM
    split
    · exact hyJ
    · split
      · exact e2
      · exact e1
theorem FD.drop {fs : List Int} {d n : Nat} (h : ∀ i, i < n → fateM fs (n + i) = if i < d then 1 else 0) (hl : fs = [] ∨ n ≤ fs.length) (hd : fs = [] → d = 0) : FD (fs.drop (min fs.length n)) d n := fun i hi => by
  rcases hl with rfl | hl
  · rw [hd rfl]; simp [fateM]
  · have := h i hi
    rw [Nat.min_eq_right hl]
    unfold fateM at this ⊢
    rw [List.getElem?_drop]
    exact this
theorem Hu.well {J : Jn} {d : Nat} {xs : List Nd} (h : Hu J d xs) (hd : d < xs.length) : JWell J := by
  obtain ⟨x, hx⟩ : ∃ x, xs[d]? = some x := ⟨xs[d]'hd, List.getElem?_eq_getElem hd⟩
  obtain ⟨h1, h2⟩ := h d x hx
  rw [← h2 (Nat.le_refl _)]; exact h1.J
theorem pure_prom {J : Jn} {ep : Int} (h : J.p < ep) : pureJ J ⟨kP, ep, []⟩ = (0, { J with p := ep }) := by
  unfold pureJ
  rw [if_pos rfl, if_neg (by simp only; omega)]
theorem pure_acc {J : Jn} {ep : Int} {l : List Ent} (h : J.p = ep) (h2 : J.e < ep) : pureJ J ⟨kA, ep, l⟩ = (0, ⟨ep, ep, l, J.dead⟩) := by
  unfold pureJ
  rw [if_neg kAP, if_neg (fun hh => hh.elim (fun hh => by simp only at hh; omega) (fun hh => kAW hh.1)), if_neg kAW, if_neg (by simp only; omega)]
theorem pure_add {J : Jn} {ep : Int} {s : ByteArray} (h : J.p = ep) (h2 : J.e = ep) : pureJ J ⟨kW, ep, [⟨(J.xs.length : Int) + 1, s⟩]⟩ = (0, { J with xs := J.xs ++ [⟨(J.xs.length : Int) + 1, s⟩] }) := by
  unfold pureJ
  rw [if_neg kWP, if_neg (fun hh => hh.elim (fun hh => by simp only at hh; omega) (fun hh => by simp only at hh; omega)), if_pos rfl]
  show pureW J ⟨(J.xs.length : Int) + 1, s⟩ = _
  unfold pureW
  rw [if_neg (fun hh => hh.elim (fun hh => by simp only at hh; omega) (fun hh => by have := hh.1; simp only at this; omega)), if_neg (by simp only; omega)]
/-- A writer begins. -/
theorem begin_ok {J : Jn} {d : Nat} {xs : List Nd} (h : Hu J d xs) {fs : List Int} (hf : FD fs d xs.length) (hf2 : FD (fs.drop (min fs.length xs.length)) d xs.length) {ep : Int} (h1 : J.p < ep) (h2 : 1 ≤ ep) (h3 : ep ≤ 9007199254740991) (m : List Msg)
    (hn : 1 ≤ xs.length) (he : xs.length / 2 + 1 ≤ xs.length - d) :
    ∃ xs' m', beginM ⟨0, 0, false⟩ xs m ep fs = ⟨J.xs, 0, ⟨ep, J.xs.length, false⟩, xs', m'⟩ ∧ Hu ⟨ep, ep, J.xs, J.dead⟩ d xs' ∧ xs'.length = xs.length := by
  have hw := h.well (by omega)
  obtain ⟨m1, a1, a2⟩ := all_ok h hf (read_prom ⟨h2, h3⟩) (by rw [pure_prom h1]) ⟨0, 0, false⟩ m hn he
  rw [pure_prom h1] at a2
  have hT : toldQ J ⟨kP, ep, []⟩ = (J.e, J.xs) := by unfold toldQ; rw [if_pos rfl, pure_prom h1]
  rw [hT] at a1
  have hlen := ndsM_len fs (promS ep) xs xs.length
  have hlog : logOk ep J.xs = true := by
    obtain ⟨⟨_, _, l3⟩, l4⟩ := logOk_iff.1 hw.ok.log
    exact logOk_iff.2 ⟨⟨by omega, h3, l3⟩, l4⟩
  generalize ndsM fs (promS ep) xs xs.length = ys at a1 a2 hlen
  have hpa : pureJ { J with p := ep } ⟨kA, ep, J.xs⟩ = (0, ⟨ep, ep, J.xs, J.dead⟩) := pure_acc rfl (by have := hw.ep; simp only; omega)
  obtain ⟨m2, b1, b2⟩ := all_ok a2 (fs := fs.drop (min fs.length xs.length)) (by rw [hlen]; exact hf2) (read_acc h2 hlog) (by rw [hpa]) ⟨0, 0, false⟩ m1 (by omega) (by omega)
  rw [hpa] at b2
  refine ⟨_, m2, ?_, b2, by rw [ndsM_len, hlen]⟩
  unfold beginM
  rw [if_neg (by simp), if_neg (by omega)]
  simp only [a1]
  rw [if_neg (by simp), bestL_same _ _ (by omega)]
  unfold begin2
  simp only [hlen, b1]
  rw [if_neg (by simp)]
/-- .. or does not. -/
theorem begin_few {J : Jn} {d : Nat} {xs : List Nd} (h : Hu J d xs) {fs : List Int} (hf : FD fs d xs.length) {ep : Int} (h1 : J.p < ep) (h2 : 1 ≤ ep) (h3 : ep ≤ 9007199254740991) (m : List Msg)
    (hn : 1 ≤ xs.length) (he : xs.length - d < xs.length / 2 + 1) :
    ∃ xs' m', beginM ⟨0, 0, false⟩ xs m ep fs = ⟨[], 12, ⟨0, 0, true⟩, xs', m'⟩ := by
  obtain ⟨m1, a1⟩ := all_few h hf (read_prom ⟨h2, h3⟩) (by rw [pure_prom h1]) ⟨0, 0, false⟩ m hn he
  refine ⟨ndsM fs (promS ep) xs xs.length, m1, ?_⟩
  unfold beginM
  rw [if_neg (by simp), if_neg (by omega)]
  simp only [a1]
  rw [if_pos (by simp)]
/-- .. for somebody has begun with that epoch. -/
theorem begin_late {J : Jn} {xs : List Nd} (h : Hu J 0 xs) (fs : List Int) {ep : Int} (h1 : ep ≤ J.p) (h2 : 1 ≤ ep) (h3 : ep ≤ 9007199254740991) (m : List Msg) :
    ∃ e xs' m', (e = 12 ∨ e = 10) ∧ beginM ⟨0, 0, false⟩ xs m ep fs = ⟨[], e, ⟨0, 0, true⟩, xs', m'⟩ ∧ Hu J 0 xs' ∧ xs'.length = xs.length := by
  have hp : pureJ J ⟨kP, ep, []⟩ = (10, J) := by unfold pureJ; rw [if_pos rfl, if_pos (by simp only; omega)]
  obtain ⟨e, m1, he, a1, a2⟩ := all_no h fs (read_prom ⟨h2, h3⟩) (by rw [hp]; simp) (by rw [hp]) ⟨0, 0, false⟩ m
  refine ⟨e, _, m1, he, ?_, a2, ndsM_len _ _ _ _⟩
  unfold beginM
  rw [if_neg (by simp), if_neg (by omega)]
  simp only [a1]
  rw [if_pos (by omega)]
/-- A writer writes. -/
theorem write_ok {J : Jn} {d : Nat} {xs : List Nd} (h : Hu J d xs) {fs : List Int} (hf : FD fs d xs.length) {ep : Int} (h1 : J.p = ep) (h2 : J.e = ep) (h3 : 1 ≤ ep) {s : ByteArray} (hs : s.size ≤ 600) (hl : J.xs.length < 300) (m : List Msg)
    (hn : 1 ≤ xs.length) (he : xs.length / 2 + 1 ≤ xs.length - d) :
    ∃ xs' m', writeM ⟨ep, J.xs.length, false⟩ xs m s fs = ⟨[], 0, ⟨ep, (J.xs.length : Int) + 1, false⟩, xs', m'⟩ ∧ Hu { J with xs := J.xs ++ [⟨(J.xs.length : Int) + 1, s⟩] } d xs' ∧ xs'.length = xs.length := by
  have hw := h.well (by omega)
  have hp1 := hw.ok.p1
  obtain ⟨m1, a1, a2⟩ := all_ok h hf (read_add (ep := ep) (n := (J.xs.length : Int) + 1) ⟨h3, by omega⟩ ⟨by omega, by omega⟩ hs) (by rw [pure_add h1 h2]) ⟨ep, J.xs.length, false⟩ m hn he
  rw [pure_add h1 h2] at a2
  refine ⟨_, m1, ?_, a2, ndsM_len _ _ _ _⟩
  unfold writeM
  rw [if_neg (by simp; omega), if_neg (by omega), if_neg (by simp only; omega)]
  simp only [a1]
  rw [if_pos trivial]
/-- .. or is behind another one. -/
theorem write_late {J : Jn} {xs : List Nd} (h : Hu J 0 xs) (fs : List Int) {ep n : Int} (h1 : ep < J.p) (h3 : 1 ≤ ep) (hn : 0 ≤ n ∧ n < 300) {s : ByteArray} (hs : s.size ≤ 600) (hl : xs ≠ []) (m : List Msg) :
    ∃ e xs' m', (e = 12 ∨ e = 10) ∧ writeM ⟨ep, n, false⟩ xs m s fs = ⟨[], e, ⟨0, 0, true⟩, xs', m'⟩ ∧ Hu J 0 xs' ∧ xs'.length = xs.length := by
  have hw := h.well (List.length_pos_iff.2 hl)
  have hp1 := hw.ok.p1
  have hp : pureJ J ⟨kW, ep, [⟨n + 1, s⟩]⟩ = (10, J) := by unfold pureJ; rw [if_neg kWP, if_pos (.inl (by simp only; omega))]
  obtain ⟨e, m1, he, a1, a2⟩ := all_no h fs (read_add (ep := ep) (n := n + 1) ⟨h3, by omega⟩ ⟨by omega, by omega⟩ hs) (by rw [hp]; simp) (by rw [hp]) ⟨ep, n, false⟩ m
  refine ⟨e, _, m1, he, ?_, a2, ndsM_len _ _ _ _⟩
  unfold writeM
  rw [if_neg (by simp; omega), if_neg (by omega), if_neg (by simp only; omega)]
  simp only [a1]
  rw [if_neg (by omega)]
end Go.Proofs.YtfolmcpfdcgliaaGreat.B

set_option linter.unusedVariables false
set_option linter.unusedSimpArgs false
set_option maxRecDepth 8000
/-! What a majority has. -/
namespace Go.Proofs.YtfolmcpfdcgliaaGreat.B
open Go Go.Proofs
/-- All nodes are of one epoch. -/
def He (ep : Int) (xs : List Nd) : Prop := ∀ x ∈ xs, NW x ∧ x.J.p = ep ∧ x.J.e = ep
theorem Hu.he {ep : Int} {l : List Ent} {b : Bool} {xs : List Nd} (h : Hu ⟨ep, ep, l, b⟩ 0 xs) : He ep xs := fun x hx => by
  obtain ⟨i, hi⟩ := List.mem_iff_getElem?.1 hx
  obtain ⟨h1, h2⟩ := h i x hi
  have := h2 (Nat.zero_le _)
  exact ⟨h1, by rw [this], by rw [this]⟩
/-- Has the node s as its i-th, of that epoch? -/
def hasB (ep : Int) (i : Nat) (s : ByteArray) (J : Jn) : Bool := decide (J.e = ep) && (decide (i < J.xs.length) && match J.xs[i]? with | some y => decide (y.s = s) | none => false)
theorem pure_add2 {J : Jn} {ep : Int} {i : Nat} {s : ByteArray} (h : J.p = ep) (h2 : J.e = ep) :
    (pureJ J ⟨kW, ep, [⟨(i : Int) + 1, s⟩]⟩).2.p = ep ∧ (pureJ J ⟨kW, ep, [⟨(i : Int) + 1, s⟩]⟩).2.e = ep ∧
    ((pureJ J ⟨kW, ep, [⟨(i : Int) + 1, s⟩]⟩).1 = 0 → (pureJ J ⟨kW, ep, [⟨(i : Int) + 1, s⟩]⟩).2.xs[i]? = some ⟨(i : Int) + 1, s⟩) ∧
    (J.xs[i]? = some ⟨(i : Int) + 1, s⟩ → (pureJ J ⟨kW, ep, [⟨(i : Int) + 1, s⟩]⟩).2 = J) := by
  unfold pureJ
  rw [if_neg kWP, if_neg (fun hh => hh.elim (fun hh => by simp only at hh; omega) (fun hh => by simp only at hh; omega)), if_pos rfl]
  show (pureW J ⟨(i : Int) + 1, s⟩).2.p = ep ∧ (pureW J ⟨(i : Int) + 1, s⟩).2.e = ep ∧ ((pureW J ⟨(i : Int) + 1, s⟩).1 = 0 → (pureW J ⟨(i : Int) + 1, s⟩).2.xs[i]? = some ⟨(i : Int) + 1, s⟩) ∧ (J.xs[i]? = some ⟨(i : Int) + 1, s⟩ → (pureW J ⟨(i : Int) + 1, s⟩).2 = J)
  unfold pureW
  simp only [show ((i : Int) + 1 - 1).toNat = i from by omega]
  by_cases h4 : (J.xs.length : Int) + 1 < (i : Int) + 1 ∨ ((i : Int) + 1 ≤ (J.xs.length : Int) ∧ J.xs[i]? ≠ some ⟨(i : Int) + 1, s⟩)
  · rw [if_pos h4]
    exact ⟨h, h2, fun hh => by simp at hh, fun _ => rfl⟩
  · rw [if_neg h4]
    by_cases h5 : (i : Int) + 1 ≤ (J.xs.length : Int)
    · rw [if_pos h5]
      exact ⟨h, h2, fun _ => Decidable.byContradiction fun hh => h4 (.inr ⟨h5, hh⟩), fun _ => rfl⟩
    · rw [if_neg h5]
      have h6 : i = J.xs.length := by
        rcases Nat.lt_or_ge J.xs.length i with hh | hh
        · exact absurd (.inl (by omega)) h4
        · omega
      refine ⟨h, h2, fun _ => ?_, fun hh => ?_⟩
      · subst h6; simp
      · have := (List.getElem?_eq_some_iff.1 hh).1
        omega
theorem has_of {ep : Int} {i : Nat} {s : ByteArray} {J : Jn} (h : J.e = ep) (hx : J.xs[i]? = some ⟨(i : Int) + 1, s⟩) : hasB ep i s J = true := by
  have := (List.getElem?_eq_some_iff.1 hx).1
  unfold hasB
  rw [hx]
  simp [h, this]
theorem count_range {α : Type} {f : Nat → Option α} {p : Nat → Bool} (n : Nat) (h : ∀ i, i < n → (f i).isSome = true → p i = true) : ((List.range n).filterMap f).length ≤ (List.range n).countP p := by
  induction n with
  | zero => simp
  | succ n ih =>
    rw [List.range_succ, List.filterMap_append, List.countP_append, List.length_append]
    have := ih (fun i hi => h i (by omega))
    have h2 := h n (by omega)
    simp only [List.filterMap_cons, List.filterMap_nil, List.countP_cons, List.countP_nil]
    cases hf : f n with
    | none => simp; omega
    | some c => rw [hf] at h2; simp [h2 rfl]; omega
/-- How many of the first k nodes have it. -/
def manyM (ep : Int) (i : Nat) (s : ByteArray) (xs : List Nd) (k : Nat) : Nat := (List.range k).countP fun j => match xs[j]? with | some x => hasB ep i s x.J | none => false
theorem write_many {ep : Int} {xs : List Nd} (h : He ep xs) (hep : 1 ≤ ep ∧ ep ≤ 9007199254740991) (fs : List Int) {i : Nat} (hi : i < 300) {s : ByteArray} (hs : s.size ≤ 600) (m : List Msg) (hn : 1 ≤ xs.length) :
    ∃ xs' m', He ep xs' ∧ xs'.length = xs.length ∧
      ((∃ e, e ≠ 0 ∧ writeM ⟨ep, i, false⟩ xs m s fs = ⟨[], e, ⟨0, 0, true⟩, xs', m'⟩) ∨
       (writeM ⟨ep, i, false⟩ xs m s fs = ⟨[], 0, ⟨ep, (i : Int) + 1, false⟩, xs', m'⟩ ∧ xs.length / 2 + 1 ≤ manyM ep i s xs' xs.length)) := by
  have hq := read_add (ep := ep) (n := (i : Int) + 1) (s := s) hep ⟨by omega, by omega⟩ hs
  have hnode : ∀ x ∈ xs, ∀ k, NW (ndM k (addS ep ((i : Int) + 1) s) x) ∧ (ndM k (addS ep ((i : Int) + 1) s) x).J.p = ep ∧ (ndM k (addS ep ((i : Int) + 1) s) x).J.e = ep ∧
      ((k = 0 ∨ k = 3) → (toldM (x.ans (bs (addS ep ((i : Int) + 1) s)))).2.2 = 0 → (ndM k (addS ep ((i : Int) + 1) s) x).J.xs[i]? = some ⟨(i : Int) + 1, s⟩) := fun x hx k => by
    obtain ⟨h1, h2, h3⟩ := h x hx
    obtain ⟨t1, t2⟩ := h1.told hq
    obtain ⟨p1, p2, p3, p4⟩ := pure_add2 (i := i) (s := s) h2 h3
    have hh := (h1.hand (bs (addS ep ((i : Int) + 1) s))).1
    have u2 := (hh.told hq).2
    rw [t2] at u2
    obtain ⟨q1, q2, q3, q4⟩ := pure_add2 (i := i) (s := s) p1 p2
    refine ⟨h1.step _ _, ?_⟩
    unfold ndM
    split
    · rename_i hk
      exact ⟨h2, h3, fun hk2 => by omega⟩
    · split
      · rw [u2]
        refine ⟨q1, q2, fun _ h0 => ?_⟩
        rw [t1] at h0
        by_cases hc : (pureJ x.J ⟨kW, ep, [⟨(i : Int) + 1, s⟩]⟩).1 = 0
        · rw [q4 (p3 hc)]; exact p3 hc
        · rw [if_neg hc] at h0; exact absurd h0 hc
      · rw [t2]
        refine ⟨p1, p2, fun _ h0 => ?_⟩
        rw [t1] at h0
        by_cases hc : (pureJ x.J ⟨kW, ep, [⟨(i : Int) + 1, s⟩]⟩).1 = 0
        · exact p3 hc
        · rw [if_neg hc] at h0; exact absurd h0 hc
  have hnext : He ep (ndsM fs (addS ep ((i : Int) + 1) s) xs xs.length) := fun x hx => by
    obtain ⟨j, hj⟩ := List.mem_iff_getElem?.1 hx
    have hjl := (List.getElem?_eq_some_iff.1 hj).1
    rw [ndsM_len] at hjl
    rw [nds_at hjl] at hj
    obtain ⟨y, hy, rfl⟩ := Option.map_eq_some_iff.1 hj
    obtain ⟨a1, a2, a3, _⟩ := hnode y (List.mem_of_getElem? hy) (fateM fs j)
    exact ⟨a1, a2, a3⟩
  refine ⟨_, (gotsM fs (addS ep ((i : Int) + 1) s) xs m xs.length).m, hnext, ndsM_len _ _ _ _, ?_⟩
  have hcnt := count_range (f := respM fs (addS ep ((i : Int) + 1) s) xs) (p := fun j => match (ndsM fs (addS ep ((i : Int) + 1) s) xs xs.length)[j]? with | some x => hasB ep i s x.J | none => false) xs.length (fun j hj hs2 => by
    obtain ⟨y, hy⟩ : ∃ y, xs[j]? = some y := ⟨xs[j]'hj, List.getElem?_eq_getElem hj⟩
    rw [nds_at hj, hy]
    simp only [Option.map_some]
    unfold respM at hs2
    rw [hy] at hs2
    simp only at hs2
    obtain ⟨a1, a2, a3, a4⟩ := hnode y (List.mem_of_getElem? hy) (fateM fs j)
    by_cases hc : (fateM fs j = 0 ∨ fateM fs j = 3) ∧ (toldM (y.ans (bs (addS ep ((i : Int) + 1) s)))).2.2 = 0
    · exact has_of a3 (a4 hc.1 hc.2)
    · rw [if_neg hc] at hs2; simp at hs2)
  rw [← logs_are fs (addS ep ((i : Int) + 1) s) xs m xs.length] at hcnt
  have hbad := bad_is fs (addS ep ((i : Int) + 1) s) xs m xs.length
  unfold writeM
  rw [if_neg (by simp; omega), if_neg (by omega), if_neg (by simp only; omega)]
  simp only [allM]
  by_cases hc : xs.length = 0 ∨ ((gotsM fs (addS ep ((i : Int) + 1) s) xs m xs.length).logs.length : Int) < mostM xs.length
  · rw [if_pos hc]
    refine .inl ⟨(gotsM fs (addS ep ((i : Int) + 1) s) xs m xs.length).bad, by omega, ?_⟩
    simp only
    rw [if_neg (by omega)]
  · rw [if_neg hc]
    refine .inr ⟨by simp, ?_⟩
    rw [most_pos hn] at hc
    unfold manyM
    omega
end Go.Proofs.YtfolmcpfdcgliaaGreat.B
