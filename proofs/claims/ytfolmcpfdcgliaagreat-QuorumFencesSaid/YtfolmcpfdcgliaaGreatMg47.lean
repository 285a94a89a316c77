import Derived.Test.YtfolmcpfdcgliaaGreatMg46
import Derived.Test.YtfolmcpfdcgliaaGreatMg9
import Derived.Test.YtfolmcpfdcgliaaGreatMg11
import Derived.Test.YtfolmcpfdcgliaaGreatMg33
import Derived.Sort.OwnSortedInts
set_option linter.unusedVariables false
set_option linter.unusedSimpArgs false
set_option maxRecDepth 8000
/-! What a majority has. -/
namespace Go.Proofs.YtfolmcpfdcgliaaGreat.B
open Go Go.Proofs
/-- All nodes are of one epoch. -/
def He (ep : Int) (xs : List Nd) : Prop := ∀ x ∈ xs, NW x ∧ x.J.p = ep ∧ x.J.e = ep
theorem Hu.he {ep : Int} {l : List Ent} {b : Bool} {xs : List Nd} (h : Hu ⟨ep, ep, l, b⟩ 0 xs) : He ep xs := fun x hx => by
  obtain ⟨i, hi⟩ := List.mem_iff_getElem?.1 hx
  obtain ⟨h1, h2⟩ := h i x hi
  have := h2 (Nat.zero_le _)
  exact ⟨h1, by rw [this], by rw [this]⟩
/-- Has the node s as its i-th, of that epoch? -/
def hasB (ep : Int) (i : Nat) (s : ByteArray) (J : Jn) : Bool := decide (J.e = ep) && (decide (i < J.xs.length) && match J.xs[i]? with | some y => decide (y.s = s) | none => false)
theorem pure_add2 {J : Jn} {ep : Int} {i : Nat} {s : ByteArray} (h : J.p = ep) (h2 : J.e = ep) :
    (pureJ J ⟨kW, ep, [⟨(i : Int) + 1, s⟩]⟩).2.p = ep ∧ (pureJ J ⟨kW, ep, [⟨(i : Int) + 1, s⟩]⟩).2.e = ep ∧
    ((pureJ J ⟨kW, ep, [⟨(i : Int) + 1, s⟩]⟩).1 = 0 → (pureJ J ⟨kW, ep, [⟨(i : Int) + 1, s⟩]⟩).2.xs[i]? = some ⟨(i : Int) + 1, s⟩) ∧
    (J.xs[i]? = some ⟨(i : Int) + 1, s⟩ → (pureJ J ⟨kW, ep, [⟨(i : Int) + 1, s⟩]⟩).2 = J) := by
  unfold pureJ
  rw [if_neg kWP, if_neg (fun hh => hh.elim (fun hh => by simp only at hh; omega) (fun hh => by simp only at hh; omega)), if_pos rfl]
  show (pureW J ⟨(i : Int) + 1, s⟩).2.p = ep ∧ (pureW J ⟨(i : Int) + 1, s⟩).2.e = ep ∧ ((pureW J ⟨(i : Int) + 1, s⟩).1 = 0 → (pureW J ⟨(i : Int) + 1, s⟩).2.xs[i]? = some ⟨(i : Int) + 1, s⟩) ∧ (J.xs[i]? = some ⟨(i : Int) + 1, s⟩ → (pureW J ⟨(i : Int) + 1, s⟩).2 = J)
  unfold pureW
  simp only [show ((i : Int) + 1 - 1).toNat = i from by omega]
  by_cases h4 : (J.xs.length : Int) + 1 < (i : Int) + 1 ∨ ((i : Int) + 1 ≤ (J.xs.length : Int) ∧ J.xs[i]? ≠ some ⟨(i : Int) + 1, s⟩)
  · rw [if_pos h4]
    exact ⟨h, h2, fun hh => by simp at hh, fun _ => rfl⟩
  · rw [if_neg h4]
    by_cases h5 : (i : Int) + 1 ≤ (J.xs.length : Int)
    · rw [if_pos h5]
      exact ⟨h, h2, fun _ => Decidable.byContradiction fun hh => h4 (.inr ⟨h5, hh⟩), fun _ => rfl⟩
    · rw [if_neg h5]
      have h6 : i = J.xs.length := by
        rcases Nat.lt_or_ge J.xs.length i with hh | hh
        · exact absurd (.inl (by omega)) h4
        · omega
      refine ⟨h, h2, fun _ => ?_, fun hh => ?_⟩
      · subst h6; simp
      · have := (List.getElem?_eq_some_iff.1 hh).1
        omega
theorem has_of {ep : Int} {i : Nat} {s : ByteArray} {J : Jn} (h : J.e = ep) (hx : J.xs[i]? = some ⟨(i : Int) + 1, s⟩) : hasB ep i s J = true := by
  have := (List.getElem?_eq_some_iff.1 hx).1
  unfold hasB
  rw [hx]
  simp [h, this]
theorem count_range {α : Type} {f : Nat → Option α} {p : Nat → Bool} (n : Nat) (h : ∀ i, i < n → (f i).isSome = true → p i = true) : ((List.range n).filterMap f).length ≤ (List.range n).countP p := by
  induction n with
  | zero => simp
  | succ n ih =>
    rw [List.range_succ, List.filterMap_append, List.countP_append, List.length_append]
    have := ih (fun i hi => h i (by omega))
    have h2 := h n (by omega)
    simp only [List.filterMap_cons, List.filterMap_nil, List.countP_cons, List.countP_nil]
    cases hf : f n with
    | none => simp; omega
    | some c => rw [hf] at h2; simp [h2 rfl]; omega
/-- How many of the first k nodes have it. -/
def manyM (ep : Int) (i : Nat) (s : ByteArray) (xs : List Nd) (k : Nat) : Nat := (List.range k).countP fun j => match xs[j]? with | some x => hasB ep i s x.J | none => false
theorem write_many {ep : Int} {xs : List Nd} (h : He ep xs) (hep : 1 ≤ ep ∧ ep ≤ 9007199254740991) (fs : List Int) {i : Nat} (hi : i < 300) {s : ByteArray} (hs : s.size ≤ 600) (m : List Msg) (hn : 1 ≤ xs.length) :
    ∃ xs' m', He ep xs' ∧ xs'.length = xs.length ∧
      ((∃ e, e ≠ 0 ∧ writeM ⟨ep, i, false⟩ xs m s fs = ⟨[], e, ⟨0, 0, true⟩, xs', m'⟩) ∨
       (writeM ⟨ep, i, false⟩ xs m s fs = ⟨[], 0, ⟨ep, (i : Int) + 1, false⟩, xs', m'⟩ ∧ xs.length / 2 + 1 ≤ manyM ep i s xs' xs.length)) := by
  have hq := read_add (ep := ep) (n := (i : Int) + 1) (s := s) hep ⟨by omega, by omega⟩ hs
  have hnode : ∀ x ∈ xs, ∀ k, NW (ndM k (addS ep ((i : Int) + 1) s) x) ∧ (ndM k (addS ep ((i : Int) + 1) s) x).J.p = ep ∧ (ndM k (addS ep ((i : Int) + 1) s) x).J.e = ep ∧
      ((k = 0 ∨ k = 3) → (toldM (x.ans (bs (addS ep ((i : Int) + 1) s)))).2.2 = 0 → (ndM k (addS ep ((i : Int) + 1) s) x).J.xs[i]? = some ⟨(i : Int) + 1, s⟩) := fun x hx k => by
    obtain ⟨h1, h2, h3⟩ := h x hx
    obtain ⟨t1, t2⟩ := h1.told hq
    obtain ⟨p1, p2, p3, p4⟩ := pure_add2 (i := i) (s := s) h2 h3
    have hh := (h1.hand (bs (addS ep ((i : Int) + 1) s))).1
    have u2 := (hh.told hq).2
    rw [t2] at u2
    obtain ⟨q1, q2, q3, q4⟩ := pure_add2 (i := i) (s := s) p1 p2
    refine ⟨h1.step _ _, ?_⟩
    unfold ndM
    split
    · rename_i hk
      exact ⟨h2, h3, fun hk2 => by omega⟩
    · split
      · rw [u2]
        refine ⟨q1, q2, fun _ h0 => ?_⟩
        rw [t1] at h0
        by_cases hc : (pureJ x.J ⟨kW, ep, [⟨(i : Int) + 1, s⟩]⟩).1 = 0
        · rw [q4 (p3 hc)]; exact p3 hc
        · rw [if_neg hc] at h0; exact absurd h0 hc
      · rw [t2]
        refine ⟨p1, p2, fun _ h0 => ?_⟩
        rw [t1] at h0
        by_cases hc : (pureJ x.J ⟨kW, ep, [⟨(i : Int) + 1, s⟩]⟩).1 = 0
        · exact p3 hc
        · rw [if_neg hc] at h0; exact absurd h0 hc
  have hnext : He ep (ndsM fs (addS ep ((i : Int) + 1) s) xs xs.length) := fun x hx => by
    obtain ⟨j, hj⟩ := List.mem_iff_getElem?.1 hx
    have hjl := (List.getElem?_eq_some_iff.1 hj).1
    rw [ndsM_len] at hjl
    rw [nds_at hjl] at hj
    obtain ⟨y, hy, rfl⟩ := Option.map_eq_some_iff.1 hj
    obtain ⟨a1, a2, a3, _⟩ := hnode y (List.mem_of_getElem? hy) (fateM fs j)
    exact ⟨a1, a2, a3⟩
  refine ⟨_, (gotsM fs (addS ep ((i : Int) + 1) s) xs m xs.length).m, hnext, ndsM_len _ _ _ _, ?_⟩
  have hcnt := count_range (f := respM fs (addS ep ((i : Int) + 1) s) xs) (p := fun j => match (ndsM fs (addS ep ((i : Int) + 1) s) xs xs.length)[j]? with | some x => hasB ep i s x.J | none => false) xs.length (fun j hj hs2 => by
    obtain ⟨y, hy⟩ : ∃ y, xs[j]? = some y := ⟨xs[j]'hj, List.getElem?_eq_getElem hj⟩
    rw [nds_at hj, hy]
    simp only [Option.map_some]
    unfold respM at hs2
    rw [hy] at hs2
    simp only at hs2
    obtain ⟨a1, a2, a3, a4⟩ := hnode y (List.mem_of_getElem? hy) (fateM fs j)
    by_cases hc : (fateM fs j = 0 ∨ fateM fs j = 3) ∧ (toldM (y.ans (bs (addS ep ((i : Int) + 1) s)))).2.2 = 0
    · exact has_of a3 (a4 hc.1 hc.2)
    · rw [if_neg hc] at hs2; simp at hs2)
  rw [← logs_are fs (addS ep ((i : Int) + 1) s) xs m xs.length] at hcnt
  have hbad := bad_is fs (addS ep ((i : Int) + 1) s) xs m xs.length
  unfold writeM
  rw [if_neg (by simp; omega), if_neg (by omega), if_neg (by simp only; omega)]
  simp only [allM]
  by_cases hc : xs.length = 0 ∨ ((gotsM fs (addS ep ((i : Int) + 1) s) xs m xs.length).logs.length : Int) < mostM xs.length
  · rw [if_pos hc]
    refine .inl ⟨(gotsM fs (addS ep ((i : Int) + 1) s) xs m xs.length).bad, by omega, ?_⟩
    simp only
    rw [if_neg (by omega)]
  · rw [if_neg hc]
    refine .inr ⟨by simp, ?_⟩
    rw [most_pos hn] at hc
    unfold manyM
    omega
end Go.Proofs.YtfolmcpfdcgliaaGreat.B

set_option linter.unusedVariables false
set_option linter.unusedSimpArgs false
set_option maxRecDepth 8000
/-! A writer begins with nodes that are not alike; the chapter's example. -/
namespace Go.Proofs.YtfolmcpfdcgliaaGreat.B
open Go Go.Proofs
theorem range_map {α β : Type} {f : Nat → Option β} {g : α → β} : ∀ (xs : List α), (∀ (i : Nat) x, xs[i]? = some x → f i = some (g x)) → (List.range xs.length).filterMap f = xs.map g := fun xs h => by
  have key : ∀ n, n ≤ xs.length → (List.range n).filterMap f = (xs.take n).map g := fun n => by
    induction n with
    | zero => intro _; simp
    | succ n ih =>
      intro hn
      obtain ⟨x, hx⟩ : ∃ x, xs[n]? = some x := ⟨xs[n]'(by omega), List.getElem?_eq_getElem (by omega)⟩
      rw [List.range_succ, List.filterMap_append, ih (by omega), List.take_add_one, hx]
      simp [h n x hx]
  have := key xs.length (Nat.le_refl _)
  rwa [List.take_length] at this
/-- All nodes answer OK. -/
theorem all_each {xs : List Nd} {s : ByteArray} {q : Rq} (h : ∀ x ∈ xs, NW x ∧ (pureJ x.J q).1 = 0) (hq : readQ (bs s) = some q) (w : Wr) (m : List Msg) (hn : 1 ≤ xs.length) :
    ∃ m', allM w xs m s [] = ⟨xs.map (fun x => toldQ x.J q), 0, w, ndsM [] s xs xs.length, m'⟩ ∧
      ∀ (i : Nat) y, (ndsM [] s xs xs.length)[i]? = some y → ∃ x, xs[i]? = some x ∧ NW y ∧ y.J = (pureJ x.J q).2 := by
  have hl : (gotsM [] s xs m xs.length).logs = xs.map (fun x => toldQ x.J q) := by
    rw [logs_are]
    refine range_map xs fun i x hx => ?_
    obtain ⟨h1, h2⟩ := h x (List.mem_of_getElem? hx)
    have t1 := (h1.told hq).1
    rw [if_pos h2] at t1
    unfold respM
    rw [hx]
    simp [fateM, t1]
  refine ⟨(gotsM [] s xs m xs.length).m, ?_, fun i y hy => ?_⟩
  · unfold allM
    simp only
    rw [if_neg (by rw [hl, List.length_map, most_pos hn]; omega), hl]
  · have hi := (List.getElem?_eq_some_iff.1 hy).1
    rw [ndsM_len] at hi
    rw [nds_at hi] at hy
    obtain ⟨x, hx, rfl⟩ := Option.map_eq_some_iff.1 hy
    obtain ⟨h1, h2⟩ := h x (List.mem_of_getElem? hx)
    refine ⟨x, hx, h1.step _ _, ?_⟩
    have e : ndM (fateM [] i) s x = x.hand (bs s) := by simp [ndM, fateM]
    rw [e, (h1.told hq).2]
/-- A writer begins: all nodes answer. -/
theorem begin_all {xs : List Nd} {ep : Int} (h : ∀ x ∈ xs, NW x ∧ x.J.p < ep) (h2 : 1 ≤ ep) (h3 : ep ≤ 9007199254740991) (m : List Msg) (hn : 1 ≤ xs.length) {L : List Ent} (hL : bestL (xs.map fun x => (x.J.e, x.J.xs)) = L) (hlog : logOk ep L = true) :
    ∃ xs' m', beginM ⟨0, 0, false⟩ xs m ep [] = ⟨L, 0, ⟨ep, L.length, false⟩, xs', m'⟩ ∧ Hu ⟨ep, ep, L, false⟩ 0 xs' ∧ xs'.length = xs.length := by
  obtain ⟨m1, a1, a2⟩ := all_each (q := ⟨kP, ep, []⟩) (fun x hx => ⟨(h x hx).1, by rw [pure_prom (h x hx).2]⟩) (read_prom ⟨h2, h3⟩) ⟨0, 0, false⟩ m hn
  have e1 : xs.map (fun x => toldQ x.J ⟨kP, ep, []⟩) = xs.map (fun x => (x.J.e, x.J.xs)) := by
    refine List.map_congr_left fun x hx => ?_
    unfold toldQ; rw [if_pos rfl, pure_prom (h x hx).2]
  rw [e1] at a1
  have hlen := ndsM_len [] (promS ep) xs xs.length
  have hy : ∀ y ∈ ndsM [] (promS ep) xs xs.length, NW y ∧ y.J.p = ep ∧ y.J.e < ep := fun y hy => by
    obtain ⟨i, hi⟩ := List.mem_iff_getElem?.1 hy
    obtain ⟨x, hx, b1, b2⟩ := a2 i y hi
    have hxm := h x (List.mem_of_getElem? hx)
    rw [pure_prom hxm.2] at b2
    have := hxm.1.J.ep
    exact ⟨b1, by rw [b2], by rw [b2]; simp only; omega⟩
  clear a2
  generalize ndsM [] (promS ep) xs xs.length = ys at a1 hlen hy
  obtain ⟨m2, b1, b2⟩ := all_each (q := ⟨kA, ep, L⟩) (fun y hym => ⟨(hy y hym).1, by rw [pure_acc (hy y hym).2.1 (hy y hym).2.2]⟩) (read_acc h2 hlog) ⟨0, 0, false⟩ m1 (by omega)
  refine ⟨ndsM [] (accS ep L) ys ys.length, m2, ?_, fun i y hyi => ?_, by rw [ndsM_len, hlen]⟩
  · unfold beginM
    rw [if_neg (by simp), if_neg (by omega)]
    simp only [a1]
    rw [if_neg (by simp), hL]
    unfold begin2
    simp only [List.drop_nil, b1]
    rw [if_neg (by simp)]
  · obtain ⟨x, hx, c1, c2⟩ := b2 i y hyi
    obtain ⟨d1, d2, d3⟩ := hy x (List.mem_of_getElem? hx)
    rw [pure_acc d2 d3] at c2
    refine ⟨c1, fun _ => ?_⟩
    rw [c2, d1.J.alive]
abbrev qx : ByteArray := ⟨#[120]⟩
abbrev qy : ByteArray := ⟨#[121]⟩
/-- The chapter's example. -/
theorem example_q {xs : List Nd} (h : Hu ⟨0, 0, [], false⟩ 0 xs) (hl : xs.length = 3) : ∃ x1 m1 x2 m2 x3 m3 x4 m4,
    beginM ⟨0, 0, false⟩ xs [] 1 [] = ⟨[], 0, ⟨1, 0, false⟩, x1, m1⟩ ∧ x1.length = 3 ∧
    writeM ⟨1, 0, false⟩ x1 m1 qx [] = ⟨[], 0, ⟨1, 1, false⟩, x2, m2⟩ ∧ x2.length = 3 ∧
    writeM ⟨1, 1, false⟩ x2 m2 qy [1, 1] = ⟨[], 12, ⟨0, 0, true⟩, x3, m3⟩ ∧ x3.length = 3 ∧
    beginM ⟨0, 0, false⟩ x3 m3 2 [] = ⟨[⟨1, qx⟩, ⟨2, qy⟩], 0, ⟨2, 2, false⟩, x4, m4⟩ := by
  obtain ⟨x1, m1, a1, a2, a3⟩ := begin_ok h (FD.nil _) (by simpa using FD.nil xs.length) (ep := 1) (by decide) (by decide) (by decide) [] (by omega) (by omega)
  rw [hl] at a3
  obtain ⟨x2, m2, b1, b2, b3⟩ := write_ok a2 (FD.nil _) (ep := 1) rfl rfl (by decide) (s := qx) (by decide) (by decide) m1 (by omega) (by omega)
  rw [a3] at b3
  have hf : FD [1, 1] 2 x2.length := fun i hi => by
    rw [b3] at hi
    have : i = 0 ∨ i = 1 ∨ i = 2 := by omega
    rcases this with rfl | rfl | rfl <;> rfl
  have b2' : Hu ⟨1, 1, [⟨1, qx⟩], false⟩ 0 x2 := b2
  have b22 : Hu ⟨1, 1, [⟨1, qx⟩], false⟩ 2 x2 := fun i x hx => ⟨(b2' i x hx).1, fun _ => (b2' i x hx).2 (Nat.zero_le _)⟩
  have hpa : pureJ ⟨1, 1, [⟨1, qx⟩], false⟩ ⟨kW, 1, [⟨2, qy⟩]⟩ = (0, ⟨1, 1, [⟨1, qx⟩, ⟨2, qy⟩], false⟩) := pure_add (J := ⟨1, 1, [⟨1, qx⟩], false⟩) (s := qy) rfl rfl
  have hq := read_add (ep := 1) (n := 2) (s := qy) (by decide) (by decide) (by decide)
  obtain ⟨m3, c1⟩ := all_few b22 hf hq (by rw [hpa]) ⟨1, 1, false⟩ m2 (by omega) (by omega)
  have c2 := hu_next b22 hf hq
  rw [hpa] at c2
  have c3 : ∀ (i : Nat) y, (ndsM [1, 1] (addS 1 2 qy) x2 x2.length)[i]? = some y → i < 2 → y.J = ⟨1, 1, [⟨1, qx⟩], false⟩ := fun i y hy hi2 => by
    have hi := (List.getElem?_eq_some_iff.1 hy).1
    rw [ndsM_len] at hi
    rw [nds_at hi] at hy
    obtain ⟨x, hx, rfl⟩ := Option.map_eq_some_iff.1 hy
    have e : fateM [1, 1] i = 1 := by rw [hf i hi, if_pos hi2]
    rw [e]
    have : ndM 1 (addS 1 2 qy) x = x := by simp [ndM]
    rw [this]
    exact (b2' i x hx).2 (Nat.zero_le _)
  have c4 := ndsM_len [1, 1] (addS 1 2 qy) x2 x2.length
  rw [b3] at c4
  have hw : writeM ⟨1, 1, false⟩ x2 m2 qy [1, 1] = ⟨[], 12, ⟨0, 0, true⟩, ndsM [1, 1] (addS 1 2 qy) x2 x2.length, m3⟩ := by
    unfold writeM
    rw [if_neg (by simp), if_neg (by decide), if_neg (by decide)]
    have : (1 : Int) + 1 = 2 := rfl
    simp only [this, c1]
    rw [if_neg (by decide)]
  rw [b3] at hw c1 c2 c3
  generalize ndsM [1, 1] (addS 1 2 qy) x2 3 = x3 at hw c2 c3 c4
  obtain ⟨n0, n1, n2, rfl⟩ : ∃ n0 n1 n2, x3 = [n0, n1, n2] := by
    match x3, c4 with
    | [n0, n1, n2], _ => exact ⟨n0, n1, n2, rfl⟩
  have j0 := c3 0 n0 rfl (by decide)
  have j1 := c3 1 n1 rfl (by decide)
  have j2 := (c2 2 n2 rfl).2 (Nat.le_refl _)
  have hL : bestL ([n0, n1, n2].map fun x => (x.J.e, x.J.xs)) = [⟨1, qx⟩, ⟨2, qy⟩] := by
    simp only [List.map_cons, List.map_nil, j0, j1, j2]; rfl
  obtain ⟨x4, m4, d1, d2, d3⟩ := begin_all (ep := 2) (xs := [n0, n1, n2]) (fun x hx => by
    obtain ⟨i, hi⟩ := List.mem_iff_getElem?.1 hx
    refine ⟨(c2 i x hi).1, ?_⟩
    simp only [List.mem_cons, List.not_mem_nil, or_false] at hx
    rcases hx with rfl | rfl | rfl
    · rw [j0]; decide
    · rw [j1]; decide
    · rw [j2]; decide) (by decide) (by decide) m3 (Nat.le_add_left 1 2) hL (by decide)
  exact ⟨x1, m1, x2, m2, _, m3, x4, m4, a1, a3, b1, b3, hw, rfl, d1⟩
end Go.Proofs.YtfolmcpfdcgliaaGreat.B

set_option linter.unusedVariables false
set_option linter.unusedSimpArgs false
set_option maxRecDepth 8000
/-! The chapter's example. -/
namespace Go.Proofs.YtfolmcpfdcgliaaGreat.B
open Go Go.Proofs
theorem new0_hu {xs : List Nd} (h : New0 xs) : Hu J00 0 xs := fun i x hx => by
  obtain ⟨h1, h2⟩ := h x (List.mem_of_getElem? hx)
  have hD := new_ok 2000000 (by decide)
  have e : Disk.new 2000000 = jD 2000000 J00 := new_jD (by decide)
  rw [e] at hD
  refine ⟨⟨by rw [h1]; exact well0, by rw [h2, h1], ⟨by rw [h1]; exact well0.ok, by rw [h2]; exact hD⟩⟩, fun _ => h1⟩
theorem Hu.oks {J : Jn} {d : Nat} {xs : List Nd} (h : Hu J d xs) : ∀ x ∈ xs, NdOk x := fun x hx => (h.mem x hx).ok
theorem begin_ok2 {w : Wr} {xs : List Nd} (hok : ∀ x ∈ xs, NdOk x) {m : List Msg} (hm : m.length ≤ 50) (ep : Int) (fs : List Int) : (∀ x ∈ (beginM w xs m ep fs).xs, NdOk x) ∧ (beginM w xs m ep fs).xs.length = xs.length ∧ (beginM w xs m ep fs).xs.map (·.b) = xs.map (·.b) ∧ (beginM w xs m ep fs).m.length ≤ 50 ∧ (beginM w xs m ep fs).xs.map (·.d) = xs.map (·.d) := by
  unfold beginM
  split
  · exact ⟨hok, rfl, rfl, hm, rfl⟩
  · split
    · exact ⟨hok, rfl, rfl, hm, rfl⟩
    · obtain ⟨f1, f2, f3, f4, _, _, f7⟩ := all_facts (w := w) hok hm (promS ep) fs
      simp only
      split
      · exact ⟨f1, f2, f3, f4, f7.symm⟩
      · unfold begin2
        obtain ⟨g1, g2, g3, g4, _, _, g7⟩ := all_facts (w := (allM w xs m (promS ep) fs).w) f1 f4 (accS ep (bestL (allM w xs m (promS ep) fs).logs)) (fs.drop (min fs.length (allM w xs m (promS ep) fs).xs.length))
        simp only
        split
        · exact ⟨g1, g2.trans f2, g3.trans f3, g4, (f7.trans g7).symm⟩
        · exact ⟨g1, g2.trans f2, g3.trans f3, g4, (f7.trans g7).symm⟩
theorem write_ok2 {w : Wr} {xs : List Nd} (hok : ∀ x ∈ xs, NdOk x) {m : List Msg} (hm : m.length ≤ 50) (s : ByteArray) (fs : List Int) : (∀ x ∈ (writeM w xs m s fs).xs, NdOk x) ∧ (writeM w xs m s fs).xs.length = xs.length ∧ (writeM w xs m s fs).xs.map (·.b) = xs.map (·.b) ∧ (writeM w xs m s fs).m.length ≤ 50 ∧ (writeM w xs m s fs).xs.map (·.d) = xs.map (·.d) := by
  unfold writeM
  split
  · exact ⟨hok, rfl, rfl, hm, rfl⟩
  · split
    · exact ⟨hok, rfl, rfl, hm, rfl⟩
    · split
      · exact ⟨hok, rfl, rfl, hm, rfl⟩
      · obtain ⟨f1, f2, f3, f4, _, _, f7⟩ := all_facts (w := w) hok hm (addS w.e (w.n + 1) s) fs
        exact ⟨f1, f2, f3, f4, f7.symm⟩
attribute [local irreducible] WL CS QS WQ WH WS Fn Op1 row Sat
attribute [local irreducible] slc jA diskA mailA nodesA nodesX rjA refA rnodesA rnodesX rmailA
/-- Nodes that are begun, one writer of them; a call's contract, told of a state. -/
abbrev jsA (Aj : Option Addr) (cj bm : Nat) (xs : List Nd) (m : List Msg) (F : List SL) : List SL := slc bpE 46 Aj cj (xs.map (·.b)) :: nodesA xs :: mailA bm m :: F
theorem q_Begin2 {bq : Nat} {Aj : Option Addr} {cj bm n : Nat} {w : Wr} {xs : List Nd} {m : List Msg} {ep : Int} {fs : List Int} {o : Out1} (h : beginM w xs m ep fs = o) (hl : xs.length = n) (hok : ∀ x ∈ xs, NdOk x) (hn : n ≤ 5) (hm : m.length ≤ 50) (hep : I64 ep) {A : Option Addr} {k c : Nat} (hk : k = fs.length) (hkc : k ≤ c) (hkb : k ≤ 9223372036854775807) (hI : ∀ x ∈ fs, I64 x) (W0 : World) (F : List SL) (hR : Rd W0 F intE A fs) :
    Fn Tryz.prog 12 [.pointer (some ⟨bq, 0, none⟩), .int .i64 ep, .slice A k c] W0 (row bq 92 (wrC Aj n cj bm w) :: jsA Aj cj bm xs m F)
      (Ret fun v G' => ∃ Al cl, v = .tuple #[.slice Al o.l.length cl, .int .i64 o.err] ∧ G' = slc entE 49 Al cl o.l :: row bq 92 (wrC Aj n cj bm o.w) :: jsA Aj cj bm o.xs o.m F) := by
  subst h; subst hl
  have h1 := (begin_ok2 (w := w) hok hm ep fs).2.2.1
  have := q_Begin bq Aj cj bm w xs hok hn m hm ep hep A k c fs hk hkc hkb hI W0 F hR
  simp only [jsA]
  rw [h1]
  exact this
theorem q_Write2 {bq : Nat} {Aj : Option Addr} {cj bm n : Nat} {w : Wr} {xs : List Nd} {m : List Msg} {s : ByteArray} {fs : List Int} {o : Out1} (h : writeM w xs m s fs = o) (hl : xs.length = n) (hok : ∀ x ∈ xs, NdOk x) (hn : n ≤ 5) (hm : m.length ≤ 50) (hw0 : 0 ≤ w.n ∧ w.n ≤ 9223372036854775807) (hwe : I64 w.e) (hs : s.size ≤ 9223372036854775807) {A : Option Addr} {k c : Nat} (hk : k = fs.length) (hI : ∀ x ∈ fs, I64 x) (W0 : World) (F : List SL) (hR : Rd W0 F intE A fs) :
    Fn Tryz.prog 13 [.pointer (some ⟨bq, 0, none⟩), .string s, .slice A k c] W0 (row bq 92 (wrC Aj n cj bm w) :: jsA Aj cj bm xs m F)
      (Ret fun v G' => v = .int .i64 o.err ∧ G' = row bq 92 (wrC Aj n cj bm o.w) :: jsA Aj cj bm o.xs o.m F) := by
  subst h; subst hl
  have h1 := (write_ok2 (w := w) hok hm s fs).2.2.1
  have := q_Write bq Aj cj bm w hw0 hwe xs hok hn m hm s hs A k c fs hk hI W0 F hR
  simp only [jsA]
  rw [h1]
  exact this
set_option maxHeartbeats 8000000 in
theorem law_examples (W0 : World) (F : List SL) : Fn Tryz.prog 8 [] W0 F (Ret fun v G' => v = .bool true ∧ G' = F) := by
  refine Fn.enter Tryz.func8 rfl Tryz.ntmps8 rfl ?_
  repeat' (first|refine bk ?_|refine bkc ?_|refine bks ?_|refine bkd ?_|refine bkq (fun q => ?_)|(refine bk2 ?_ ?_<;>(first|exact bkn|(refine bkk ?_;intro h))))
  refine WL.call c10 rfl rfl rfl rfl (law_begun 3 (by decide) W0 _) ?_
  rintro _ _ ⟨br, bm, bs, bn, ⟨xs, ys, Ad, cd, Aj, cj, Ax, cx, Ay, cy⟩, hN, hl, hly, rfl, rfl⟩
  simp only at hN hl hly ⊢
  refine WL.turn (G' := row br 35 (rlC Ad Aj 3 cd cj bm) :: jsA Aj cj bm xs [] F) (fun w hs => by rw [← hl]; exact hs.ord 10 [0, 2, 3, 4] rfl) ?_
  refine WL.fact (p := 3 ≤ cj) (fun w hs => by have := slc_cap (i := 1) rfl w hs; rw [List.length_map] at this; omega) (fun hcj => ?_)
  obtain ⟨x1, m1, x2, m2, x3, m3, x4, m4, p1, l1, p2, l2, p3, l3, p4⟩ := example_q (new0_hu hN) hl
  have k0 := (new0_hu hN).oks
  have k1 := begin_ok2 (w := ⟨0, 0, false⟩) k0 (m := []) (by decide) 1 []
  rw [p1] at k1
  have k2 := write_ok2 (w := ⟨1, 0, false⟩) k1.1 k1.2.2.2.1 qx []
  rw [p2] at k2
  have k3 := write_ok2 (w := ⟨1, 1, false⟩) k2.1 k2.2.2.2.1 qy [1, 1]
  rw [p3] at k3
  repeat' (first|refine bk ?_|refine bkc ?_|refine bks ?_|refine bkq (fun q => ?_)|(refine bk2 ?_ ?_<;>(first|exact bkn|(refine bkk ?_;intro h))))
  refine CS.drawT 8 mixed (by kernel_rfl) rfl ?_
  repeat' (first|refine bk ?_|refine bkc ?_|refine bks ?_|refine bkd ?_|refine bkh ?_|refine bkq (fun q => ?_)|((first|refine bk2 ?_ ?_|refine bk2h ?_ ?_)<;>(first|exact bkn|(refine bkk ?_;intro h))))
  refine WL.call c11 rfl rfl rfl rfl (q_New Aj 3 cj bm (by decide) hcj W0 _) ?_
  rintro _ _ ⟨bq, rfl, rfl⟩
  repeat' (first|refine bk ?_|refine bkc ?_|refine bks ?_|refine bkq (fun q => ?_)|(refine bk2 ?_ ?_<;>(first|exact bkn|(refine bkk ?_;intro h))))
  refine CS.drawT 8 mixed (by kernel_rfl) rfl ?_
  repeat' (first|refine bk ?_|refine bkc ?_|refine bks ?_|refine bkd ?_|refine bkh ?_|refine bkq (fun q => ?_)|((first|refine bk2 ?_ ?_|refine bk2h ?_ ?_)<;>(first|exact bkn|(refine bkk ?_;intro h))))
  refine WL.call c11 rfl rfl rfl rfl (q_New Aj 3 cj bm (by decide) hcj W0 _) ?_
  rintro _ _ ⟨bp, rfl, rfl⟩
  repeat' (first|refine bk ?_|refine bkc ?_|refine bks ?_|refine bkd ?_|refine bkq (fun q => ?_)|(refine bk2 ?_ ?_<;>(first|exact bkn|(refine bkk ?_;intro h))))
  refine WL.call c12 rfl rfl rfl rfl ((q_Begin2 (bq := bq) (Aj := Aj) (cj := cj) (bm := bm) (n := 3) p1 hl k0 (by decide) (by decide) (by unfold I64; decide) (A := none) (k := 0) (c := 0) rfl (by decide) (by decide) (fun x hx => by cases hx) W0 (row bp 92 (wrC Aj 3 cj bm ⟨0, 0, false⟩) :: F) Rd.nil).pre (fun w hs => hs.ord 6 [1, 3, 4, 5, 0] rfl)) ?_
  rintro _ _ ⟨Al, cl, rfl, rfl⟩
  repeat' (first|refine bk ?_|refine bkc ?_|refine bks ?_|refine bkd ?_|refine bkq (fun q => ?_)|(refine bk2 ?_ ?_<;>(first|exact bkn|(refine bkk ?_;intro h))))
  refine WL.call c13 rfl rfl rfl rfl ((q_Write2 (bq := bq) (Aj := Aj) (cj := cj) (bm := bm) (n := 3) p2 l1 k1.1 (by decide) k1.2.2.2.1 (by decide) (by unfold I64; decide) (by decide) (A := none) (k := 0) (c := 0) rfl (fun x hx => by cases hx) W0 (row bp 92 (wrC Aj 3 cj bm ⟨0, 0, false⟩) :: F) Rd.nil).pre (fun w hs => hs.drop)) ?_
  rintro _ _ ⟨rfl, rfl⟩
  repeat' (first|refine bk ?_|refine bkc ?_|refine bks ?_|refine bkd ?_|refine bkq (fun q => ?_)|(refine bk2 ?_ ?_<;>(first|exact bkn|(refine bkk ?_;intro h))))
  refine WL.buildSlice TT rfl rfl rfl rfl rfl rfl rfl rfl (fun q2 => ?_)
  refine WL.call c13 rfl rfl rfl rfl ((q_Write2 (bq := bq) (Aj := Aj) (cj := cj) (bm := bm) (n := 3) p3 l2 k2.1 (by decide) k2.2.2.2.1 (by decide) (by unfold I64; decide) (by decide) (A := some ⟨q2, 0, none⟩) (k := 2) (c := 2) rfl (fun x hx => by simp only [List.mem_cons, List.not_mem_nil, or_false] at hx; unfold I64; omega) W0 (row q2 3 [.int .i64 1, .int .i64 1] :: row bp 92 (wrC Aj 3 cj bm ⟨0, 0, false⟩) :: F) (Rd.row (i := 0) rfl rfl)).pre (fun w hs => hs.ord 6 [1, 2, 3, 4, 0, 5] rfl)) ?_
  rintro _ _ ⟨rfl, rfl⟩
  repeat' (first|refine bk ?_|refine bkc ?_|refine bks ?_|refine bkd ?_|refine bkq (fun q => ?_)|(refine bk2 ?_ ?_<;>(first|exact bkn|(refine bkk ?_;intro h))))
  refine WL.call c12 rfl rfl rfl rfl ((q_Begin2 (bq := bp) (Aj := Aj) (cj := cj) (bm := bm) (n := 3) p4 l3 k3.1 (by decide) k3.2.2.2.1 (by unfold I64; decide) (A := none) (k := 0) (c := 0) rfl (by decide) (by decide) (fun x hx => by cases hx) W0 (row bq 92 (wrC Aj 3 cj bm ⟨0, 0, true⟩) :: F) Rd.nil).pre (fun w hs => hs.ord 6 [5, 1, 2, 3, 0] rfl)) ?_
  rintro _ _ ⟨Al2, cl2, rfl, rfl⟩
  repeat' (first|refine bk ?_|refine bkc ?_|refine bks ?_|refine bkd ?_|refine bkq (fun q => ?_)|(refine bk2 ?_ ?_<;>(first|exact bkn|(refine bkk ?_;intro h))))
  refine WL.idx TT (E := entE) (xs := [⟨1, qx⟩, ⟨2, qy⟩]) (Rd.slc (i := 0) rfl) rfl rfl rfl (by decide) (x := ⟨2, qy⟩) rfl rfl rfl rfl rfl (fun b3 o3 hA3 => ?_)
  repeat' (first|refine bk ?_|refine bkc ?_|refine bks ?_|refine bkd ?_|refine bkq (fun q => ?_)|(refine bk2 ?_ ?_<;>(first|exact bkn|(refine bkk ?_;intro h))))
  refine WL.s (op1_atF TT 1 hA3 rfl rfl rfl rfl rfl) rfl ?_
  repeat' (first|refine bk ?_|refine bkc ?_|refine bks ?_|refine bkd ?_|refine bkq (fun q => ?_)|(refine bk2 ?_ ?_<;>(first|exact bkn|(refine bkk ?_;intro h))))
  refine WL.call c15 rfl rfl rfl rfl ((q_Epoch bq Aj 3 cj bm ⟨0, 0, true⟩ W0 _).pre (fun w hs => hs.ord 6 [5, 0, 1, 2, 3, 4] rfl)) ?_
  rintro _ _ ⟨rfl, rfl⟩
  repeat' (first|refine bk ?_|refine bkc ?_|refine bks ?_|refine bkd ?_|refine bkq (fun q => ?_)|(refine bk2 ?_ ?_<;>(first|exact bkn|(refine bkk ?_;intro h))))
  refine WL.call c14 rfl rfl rfl rfl ((q_Many bp Aj 3 cj bm ⟨2, 2, false⟩ W0 _).pre (fun w hs => hs.ord 6 [2, 0, 1, 3, 4, 5] rfl)) ?_
  rintro _ _ ⟨rfl, rfl⟩
  repeat' (first|refine bk ?_|refine bkc ?_|refine bks ?_|refine bkd ?_|refine bkq (fun q => ?_)|(refine bk2 ?_ ?_<;>(first|exact bkn|(refine bkk ?_;intro h))))
  exact QS.turn (G' := F) (fun w hs => hs.ord 6 [] rfl) (QS.retV Tryz.results8 rfl ⟨rfl, rfl⟩)
end Go.Proofs.YtfolmcpfdcgliaaGreat.B

set_option linter.unusedVariables false
set_option linter.unusedSimpArgs false
set_option maxRecDepth 8000
/-! QuorumCopies: the walk. -/
namespace Go.Proofs.YtfolmcpfdcgliaaGreat.B
open Go Go.Proofs
theorem He.oks {ep : Int} {xs : List Nd} (h : He ep xs) : ∀ x ∈ xs, NdOk x := fun x hx => (h x hx).1.ok
attribute [local irreducible] WL CS QS WQ WH WS Fn Op1 row Sat
attribute [local irreducible] slc jA diskA mailA nodesA nodesX rjA refA rnodesA rnodesX rmailA
theorem q_Log {ys : List Nd} {i : Nat} {x : Nd} (hx : ys[i]? = some x) (hxo : NdOk x) (ha : x.J.dead = false) (W0 : World) (F : List SL) :
    Fn Tryz.prog 16 [.pointer (some ⟨x.b, 0, none⟩)] W0 (nodesA ys :: F) (Ret fun v G' => ∃ A c, v = logV x.J.e A x.J.xs.length c ∧ G' = slc entE 49 A c x.J.xs :: nodesA ys :: F) := by
  have h := j_Log x.b x.d x.J (by have := hxo.J.len; omega) W0 (diskA x.d x.D :: nodesX ys i :: F)
  rw [if_neg (by rw [ha]; decide), if_neg (by rw [ha]; decide)] at h
  refine Fn.post (h.pre (nodes_open hx)) (Ret.post fun v G' ⟨A, c, h1, h2⟩ => ⟨slc entE 49 A c x.J.xs :: nodesA ys :: F, fun w hw => ?_, A, c, h1, rfl⟩)
  rw [h2] at hw
  have h3 := nodes_shut hx w (hw.ord 4 [1, 2, 3, 0] rfl)
  rw [set_self hx] at h3
  exact h3.front (i := 1) rfl
set_option maxHeartbeats 16000000 in
theorem law_QuorumCopies (a b : Int) (ha : I64 a) (hb : I64 b) (Ad0 : Option Addr) (k0 c0 : Nat) (data : List ByteArray) (hk0 : k0 = data.length) (Af : Option Addr) (kf cf : Nat) (fs : List Int) (hkf : kf = fs.length) (hcf : kf ≤ cf) (hmf : kf ≤ 9223372036854775807) (hI : ∀ x ∈ fs, I64 x) (W0 : World) (F : List SL) (hR : Rd W0 F strE Ad0 data) (hRf : Rd W0 F intE Af fs) (hk0b : k0 ≤ 9223372036854775807) :
    Fn Tryz.prog 4 [.int .i64 a, .int .i64 b, .slice Ad0 k0 c0, .slice Af kf cf] W0 F (Ret fun v G' => v = .bool true ∧ G' = F) := by
  subst hk0
  subst hkf
  refine Fn.enter Tryz.func4 rfl Tryz.ntmps4 rfl ?_
  repeat' (first|refine bk ?_|refine bkc ?_|refine bks ?_|refine bkd ?_|refine bkq (fun q => ?_)|(refine bk2 ?_ ?_<;>(first|exact bkn|(refine bkk ?_;intro h))))
  refine WL.call c8 rfl rfl rfl rfl (law_examples W0 _) ?_
  rintro _ G2 ⟨rfl, hG2⟩
  rw [hG2]; clear hG2 G2
  repeat' (first|refine bk ?_|refine bkc ?_|refine bks ?_|refine bkd ?_|refine bkq (fun q => ?_)|(refine bk2 ?_ ?_<;>(first|exact bkn|(refine bkk ?_;intro h))))
  refine WL.call c9 rfl rfl rfl rfl (law_pick a 5 ha (by decide) W0 _) ?_
  rintro _ G2 ⟨rfl, hG2⟩
  rw [hG2]; clear hG2 G2
  have hp := pickM_range (n := a) (m := 5) (by decide)
  obtain ⟨n, hn, hn1⟩ : ∃ n : Nat, 1 + pickM a 5 = (n : Int) ∧ 1 ≤ n ∧ n ≤ 5 := ⟨(1 + pickM a 5).toNat, by omega, by omega, by omega⟩
  obtain ⟨hn1, hn5⟩ := hn1
  repeat' (first|refine bk ?_|refine bkc ?_|refine bks ?_|refine bkd ?_|refine bkq (fun q => ?_)|(refine bk2 ?_ ?_<;>(first|exact bkn|(refine bkk ?_;intro h))))
  rw [hn]
  refine WL.call c10 rfl rfl rfl rfl (law_begun n hn5 W0 _) ?_
  rintro _ _ ⟨br, bm, bs, bn, ⟨xs, ys, Ad, cd, Aj, cj, Ax, cx, Ay, cy⟩, hN, hl, hly, rfl, rfl⟩
  simp only at hN hl hly ⊢
  refine WL.turn (G' := row br 35 (rlC Ad Aj n cd cj bm) :: jsA Aj cj bm xs [] F) (fun w hs => by rw [← hl]; exact hs.ord 10 [0, 2, 3, 4] rfl) ?_
  refine WL.fact (p := n ≤ cj) (fun w hs => by have := slc_cap (i := 1) rfl w hs; rw [List.length_map] at this; omega) (fun hcj => ?_)
  have k0 := (new0_hu hN).oks
  repeat' (first|refine bk ?_|refine bkc ?_|refine bks ?_|refine bkd ?_|refine bkq (fun q => ?_)|(refine bk2 ?_ ?_<;>(first|exact bkn|(refine bkk ?_;intro h))))
  refine WL.call c9 rfl rfl rfl rfl (law_pick b 1000 hb (by decide) W0 _) ?_
  rintro _ G2 ⟨rfl, hG2⟩
  rw [hG2]; clear hG2 G2
  have hp2 := pickM_range (n := b) (m := 1000) (by decide)
  obtain ⟨ep, hep⟩ : ∃ ep, ep = 1 + pickM b 1000 := ⟨_, rfl⟩
  repeat' (first|refine bk ?_|refine bkc ?_|refine bks ?_|refine bkq (fun q => ?_)|(refine bk2 ?_ ?_<;>(first|exact bkn|(refine bkk ?_;intro h))))
  rw [← hep]
  have he1 : 1 ≤ ep ∧ ep ≤ 9007199254740991 := by omega
  have heI : I64 ep := by unfold I64; omega
  clear hep hp2
  refine CS.drawT 8 mixed (by kernel_rfl) rfl ?_
  repeat' (first|refine bk ?_|refine bkc ?_|refine bks ?_|refine bkd ?_|refine bkh ?_|refine bkq (fun q => ?_)|((first|refine bk2 ?_ ?_|refine bk2h ?_ ?_)<;>(first|exact bkn|(refine bkk ?_;intro h))))
  refine WL.call c11 rfl rfl rfl rfl (q_New Aj n cj bm hn5 hcj W0 _) ?_
  rintro _ _ ⟨bq, rfl, rfl⟩
  repeat' (first|refine bk ?_|refine bkc ?_|refine bks ?_|refine bkd ?_|refine bkq (fun q => ?_)|(refine bk2 ?_ ?_<;>(first|exact bkn|(refine bkk ?_;intro h))))
  obtain ⟨x1, m1, p1, h1, l1⟩ := begin_ok (new0_hu hN) (FD.nil _) (by simpa using FD.nil xs.length) (ep := ep) (by show (0 : Int) < ep; omega) he1.1 he1.2 [] (by omega) (by omega)
  have k1 := begin_ok2 (w := ⟨0, 0, false⟩) k0 (m := []) (by decide) ep []
  rw [p1] at k1
  rw [hl] at l1
  refine WL.call c12 rfl rfl rfl rfl ((q_Begin2 (bq := bq) (Aj := Aj) (cj := cj) (bm := bm) (n := n) p1 hl k0 hn5 (by decide) heI (A := none) (k := 0) (c := 0) rfl (by decide) (by decide) (fun x hx => by cases hx) W0 (row br 35 (rlC Ad Aj n cd cj bm) :: F) Rd.nil).pre (fun w hs => hs.ord 5 [0, 2, 3, 4, 1] rfl)) ?_
  rintro _ _ ⟨Al, cl, rfl, rfl⟩
  have h1 := h1.he
  have k1m := k1.2.2.2.1
  simp only at k1m
  refine WL.turn (G' := row br 35 (rlC Ad Aj n cd cj bm) :: row bq 92 (wrC Aj n cj bm ⟨ep, ((0 : Nat) : Int), false⟩) :: jsA Aj cj bm x1 m1 F) (fun w hs => hs.ord 6 [5, 1, 2, 3, 4] rfl) ?_
  clear p1 k1 k0 hN hly hl
  repeat' (first|refine bk ?_|refine bkc ?_|refine bks ?_|refine bkd ?_|refine bkq (fun q => ?_)|(refine bk2 ?_ ?_<;>(first|exact bkn|(refine bkk ?_;intro h))))
  refine CS.loop (X := Nat × List Nd × List Msg) (fun y => [(1, .int .i64 ep), (2, .slice Ad0 data.length c0), (3, .slice Af fs.length cf), (9, .bool true), (10, .int .i64 (n : Int)), (11, .pointer (some ⟨br, 0, none⟩)), (14, .pointer (some ⟨bq, 0, none⟩)), (17, .int .i64 (y.1 : Int))])
    (fun y => row br 35 (rlC Ad Aj n cd cj bm) :: row bq 92 (wrC Aj n cj bm ⟨ep, (y.1 : Int), false⟩) :: jsA Aj cj bm y.2.1 y.2.2 F) (fun y => y.1 ≤ 12 ∧ y.1 ≤ data.length ∧ He ep y.2.1 ∧ y.2.1.length = n ∧ y.2.2.length ≤ 50) (fun y => 12 - y.1) (0, x1, m1) ⟨rfl, rfl, rfl, rfl, rfl, rfl, rfl, rfl, trivial⟩ (fun w hs => hs) ⟨Nat.zero_le _, Nat.zero_le _, h1, l1, k1m⟩ ?_
  rintro ⟨i, xs, m⟩ ⟨hi, hid, hH, hl, hm⟩
  simp only at hi hid hH hl hm ⊢
  by_cases hgo : i < data.length ∧ i < 12
  rotate_left 1
  · repeat' (first|refine bk ?_|refine bkc ?_|refine bks ?_|refine bkd ?_|refine bkq (fun q => ?_)|(refine bk2 ?_ ?_<;>(first|exact bkn|(refine bkk ?_;intro h))))
    all_goals first
      | (exfalso; omega)
      | (refine WL.call c15 rfl rfl rfl rfl ((q_Epoch bq Aj n cj bm ⟨ep, (i : Int), false⟩ W0 _).pre (fun w hs => hs.front (i := 1) rfl)) ?_
         rintro _ _ ⟨rfl, rfl⟩
         repeat' (first|refine bk ?_|refine bkc ?_|refine bks ?_|refine bkd ?_|refine bkq (fun q => ?_)|(refine bk2 ?_ ?_<;>(first|exact bkn|(refine bkk ?_;intro h))))
         exact QS.turn (G' := F) (fun w hs => hs.ord 5 [] rfl) (QS.retV Tryz.results4 rfl ⟨by rw [decide_eq_true rfl]; rfl, rfl⟩))
  · obtain ⟨hg1, hg2⟩ := hgo
    obtain ⟨d, hd⟩ : ∃ x, data[i]? = some x := ⟨data[i]'(by omega), List.getElem?_eq_getElem (by omega)⟩
    refine CS.world fun hw => ?_
    repeat' (first|refine bk ?_|refine bkc ?_|refine bks ?_|refine bkd ?_|refine bkq (fun q => ?_)|(refine bk2 ?_ ?_<;>(first|exact bkn|(refine bkk ?_;intro h))))
    refine WQ.idx TT (E := strE) hR.cons.cons.cons.cons.cons rfl rfl rfl (by omega) (by rw [Int.toNat_natCast]; exact hd) rfl rfl rfl rfl hw (fun b2 o2 hA2 => ?_)
    refine WQ.s (op1_at TT hA2 rfl rfl rfl rfl) rfl ?_
    repeat' (first|refine bk ?_|refine bkc ?_|refine bks ?_|refine bkd ?_|refine bkq (fun q => ?_)|(refine bk2 ?_ ?_<;>(first|exact bkn|(refine bkk ?_;intro h))))
    refine WQ.idx TT (E := strE) hR.cons.cons.cons.cons.cons rfl rfl rfl (by omega) (by rw [Int.toNat_natCast]; exact hd) rfl rfl rfl rfl hw (fun b3 o3 hA3 => ?_)
    refine WQ.s (op1_at TT hA3 rfl rfl rfl rfl) rfl ?_
    repeat' (first|refine bk ?_|refine bkc ?_|refine bks ?_|refine bkd ?_|refine bkq (fun q => ?_)|(refine bk2 ?_ ?_<;>(first|exact bkn|(refine bkk ?_;intro h))))
    rw [show (if (600 : Int) < (d.size : Int) then (600 : Int) else (d.size : Int)) = ((min d.size 600 : Nat) : Int) from by split <;> omega]
    refine WQ.s (op1_slice TT (l := 0) (r := ((min d.size 600 : Nat) : Int)) (s := d) rfl rfl rfl rfl ⟨by omega, by omega, by omega⟩) rfl ?_
    rw [show (0 : Int).toNat = 0 from rfl, Int.toNat_natCast]
    obtain ⟨z, hz⟩ : ∃ z, z = d.extract 0 (min d.size 600) := ⟨_, rfl⟩
    have hzs : z.size ≤ 600 := by rw [hz, ByteArray.size_extract]; omega
    rw [← hz]
    clear hz
    repeat' (first|refine bk ?_|refine bkc ?_|refine bkd ?_|refine bkq (fun q => ?_)|(refine bk2 ?_ ?_<;>(first|exact bkn|(refine bkk ?_;intro h))))
    refine CS.seq ?_
    repeat' (first|refine bk ?_|refine bkc ?_|refine bkd ?_|refine bkq (fun q => ?_)|(refine bk2 ?_ ?_<;>(first|exact bkn|(refine bkk ?_;intro h))))
    refine CS.seq ?_
    refine CS.cut (X := {y : Option Addr × Nat × List Int // Rd W0 F intE y.1 y.2.2 ∧ ∀ x ∈ y.2.2, I64 x}) (fun y => [(1, .int .i64 ep), (2, .slice Ad0 data.length c0), (3, .slice Af fs.length cf), (9, .bool true), (10, .int .i64 (n : Int)), (11, .pointer (some ⟨br, 0, none⟩)), (14, .pointer (some ⟨bq, 0, none⟩)), (17, .int .i64 (i : Int)), (18, .string z), (19, .slice y.1.1 y.1.2.2.length y.1.2.1)])
      (fun _ => row br 35 (rlC Ad Aj n cd cj bm) :: row bq 92 (wrC Aj n cj bm ⟨ep, (i : Int), false⟩) :: jsA Aj cj bm xs m F) (fun _ => True) ?_ ?_
    · repeat' (first|refine bk ?_|refine bkc ?_|refine bks ?_|refine bkd ?_|refine bkq (fun q => ?_)|(refine bk2 ?_ ?_<;>(first|exact bkn|(refine bkk ?_;intro h))))
      · obtain ⟨j, hj⟩ : ∃ j : Nat, (3 : Int) * (i : Int) = (j : Int) := ⟨3 * i, by omega⟩
        rw [hj]
        refine WL.s (op1_sliceS (E := intE) (xs := fs) (l := (j : Int)) (r := (fs.length : Int)) TT (by rfl) (by rfl) rfl rfl rfl rfl rfl (by omega) hcf) rfl ?_
        simp only [Int.toNat_natCast]
        have hRp := hRf.part (c := cf) (l := j) (r := fs.length) (Nat.le_refl _) hcf
        rw [List.take_length] at hRp
        have hld : fs.length - j = (fs.drop j).length := by rw [List.length_drop]
        rw [hld]
        repeat' (first|refine bk ?_|refine bkc ?_|refine bks ?_|refine bkd ?_|refine bkq (fun q => ?_)|(refine bk2 ?_ ?_<;>(first|exact bkn|(refine bkk ?_;intro h))))
        exact QS.met ⟨(_, cf - j, fs.drop j), hRp, fun x hx => hI x (List.mem_of_mem_drop hx)⟩ trivial ⟨rfl, rfl, rfl, rfl, rfl, rfl, rfl, rfl, rfl, rfl, trivial⟩ (fun w hs => hs)
      · exact QS.met ⟨(Af, cf, fs), hRf, hI⟩ trivial ⟨rfl, rfl, rfl, rfl, rfl, rfl, rfl, rfl, rfl, rfl, trivial⟩ (fun w hs => hs)
    rintro ⟨⟨Ao, co, fo⟩, hRo, hIo⟩ _
    simp only at hRo hIo ⊢
    obtain ⟨x2, m2, hH2, hl2, hcase⟩ := write_many hH he1 fo (i := i) (by omega) hzs m (by omega)
    have k2 := write_ok2 (w := ⟨ep, (i : Int), false⟩) hH.oks hm z fo
    repeat' (first|refine bk ?_|refine bkc ?_|refine bks ?_|refine bkq (fun q => ?_)|(refine bk2 ?_ ?_<;>(first|exact bkn|(refine bkk ?_;intro h))))
    rcases hcase with ⟨e, he, hw1⟩ | ⟨hw1, hmany⟩
    · rw [hw1] at k2
      refine WL.call c13 rfl rfl rfl rfl ((q_Write2 (bq := bq) (Aj := Aj) (cj := cj) (bm := bm) (n := n) hw1 hl hH.oks hn5 hm (by simp only; omega) heI (by omega) (A := Ao) (k := fo.length) (c := co) rfl hIo W0 (row br 35 (rlC Ad Aj n cd cj bm) :: F) hRo.cons).pre (fun w hs => hs.ord 5 [1, 2, 3, 4, 0] rfl)) ?_
      rintro _ _ ⟨rfl, rfl⟩
      repeat' (first|refine bk ?_|refine bkc ?_|refine bks ?_|refine bkq (fun q => ?_)|(refine bk2 ?_ ?_<;>(first|exact bkn|(refine bkk ?_;intro h))))
      refine WL.call c14 rfl rfl rfl rfl (q_Many bq Aj n cj bm ⟨0, 0, true⟩ W0 _) ?_
      rintro _ _ ⟨rfl, rfl⟩
      repeat' (first|refine bk ?_|refine bkc ?_|refine bks ?_|refine bkq (fun q => ?_)|(refine bk2 ?_ ?_<;>(first|exact bkn|(refine bkk ?_;intro h))))
      have p2 : writeM ⟨0, 0, true⟩ x2 m2 qx [] = ⟨[], 14, ⟨0, 0, true⟩, x2, m2⟩ := by unfold writeM; rw [if_pos (.inl rfl)]
      refine WL.call c13 rfl rfl rfl rfl (q_Write2 (bq := bq) (Aj := Aj) (cj := cj) (bm := bm) (n := n) p2 (hl2.trans hl) k2.1 hn5 k2.2.2.2.1 (by decide) (by unfold I64; decide) (by decide) (A := none) (k := 0) (c := 0) rfl (fun x hx => by cases hx) W0 (row br 35 (rlC Ad Aj n cd cj bm) :: F) Rd.nil) ?_
      rintro _ _ ⟨rfl, rfl⟩
      repeat' (first|refine bk ?_|refine bkc ?_|refine bks ?_|refine bkd ?_|refine bkq (fun q => ?_)|(refine bk2 ?_ ?_<;>(first|exact bkn|(refine bkk ?_;intro h))))
      exact QS.turn (G' := F) (fun w hs => hs.ord 5 [] rfl) (QS.retV Tryz.results4 rfl ⟨rfl, rfl⟩)
    · rw [hw1] at k2
      refine WL.call c13 rfl rfl rfl rfl ((q_Write2 (bq := bq) (Aj := Aj) (cj := cj) (bm := bm) (n := n) hw1 hl hH.oks hn5 hm (by simp only; omega) heI (by omega) (A := Ao) (k := fo.length) (c := co) rfl hIo W0 (row br 35 (rlC Ad Aj n cd cj bm) :: F) hRo.cons).pre (fun w hs => hs.ord 5 [1, 2, 3, 4, 0] rfl)) ?_
      rintro _ _ ⟨rfl, rfl⟩
      have hmx : manyM ep i z x2 xs.length ≤ xs.length := by unfold manyM; have := List.countP_le_length (p := fun j => match x2[j]? with | some x => hasB ep i z x.J | none => false) (l := List.range xs.length); rwa [List.length_range] at this
      rw [hl] at hmany hmx hl2
      have k2m := k2.2.2.2.1
      simp only at k2m
      refine WL.turn (G' := row br 35 (rlC Ad Aj n cd cj bm) :: row bq 92 (wrC Aj n cj bm ⟨ep, ((i + 1 : Nat) : Int), false⟩) :: jsA Aj cj bm x2 m2 F) (fun w hs => by rw [show ((i + 1 : Nat) : Int) = (i : Int) + 1 from by omega]; exact hs.ord 5 [4, 0, 1, 2, 3] rfl) ?_
      repeat' (first|refine bk ?_|refine bkc ?_|refine bkd ?_|refine bkq (fun q => ?_)|(refine bk2 ?_ ?_<;>(first|exact bkn|(refine bkk ?_;intro h))))
      refine CS.seq ?_
      repeat' (first|refine bk ?_|refine bkc ?_|refine bkd ?_|refine bkq (fun q => ?_)|(refine bk2 ?_ ?_<;>(first|exact bkn|(refine bkk ?_;intro h))))
      refine CS.seq ?_
      refine CS.cut (X := Unit) (fun _ => [(1, .int .i64 ep), (2, .slice Ad0 data.length c0), (3, .slice Af fs.length cf), (9, .bool true), (10, .int .i64 (n : Int)), (11, .pointer (some ⟨br, 0, none⟩)), (14, .pointer (some ⟨bq, 0, none⟩)), (17, .int .i64 (i : Int)), (18, .string z), (20, .int .i64 (manyM ep i z x2 n : Int))])
        (fun _ => row br 35 (rlC Ad Aj n cd cj bm) :: row bq 92 (wrC Aj n cj bm ⟨ep, ((i + 1 : Nat) : Int), false⟩) :: jsA Aj cj bm x2 m2 F) (fun _ => True) ?_ ?_
      · refine CS.seq ?_
        repeat' (first|refine bk ?_|refine bkc ?_|refine bkd ?_|refine bkq (fun q => ?_)|(refine bk2 ?_ ?_<;>(first|exact bkn|(refine bkk ?_;intro h))))
        refine CS.loop (X := Nat) (fun y => [(1, .int .i64 ep), (2, .slice Ad0 data.length c0), (3, .slice Af fs.length cf), (9, .bool true), (10, .int .i64 (n : Int)), (11, .pointer (some ⟨br, 0, none⟩)), (14, .pointer (some ⟨bq, 0, none⟩)), (17, .int .i64 (i : Int)), (18, .string z), (20, .int .i64 (manyM ep i z x2 y : Int)), (21, .int .i64 (y : Int))])
          (fun _ => row br 35 (rlC Ad Aj n cd cj bm) :: row bq 92 (wrC Aj n cj bm ⟨ep, ((i + 1 : Nat) : Int), false⟩) :: jsA Aj cj bm x2 m2 F) (fun y => y ≤ n) (fun y => n - y) 0 ⟨rfl, rfl, rfl, rfl, rfl, rfl, rfl, rfl, rfl, rfl, rfl, trivial⟩ (fun w hs => hs) (Nat.zero_le _) ?_
        intro y hy
        by_cases hyn : y < n
        · obtain ⟨x, hx⟩ : ∃ x, x2[y]? = some x := ⟨x2[y]'(by omega), List.getElem?_eq_getElem (by omega)⟩
          obtain ⟨hx1, hx2, hx3⟩ := hH2 x (List.mem_of_getElem? hx)
          have hm1 : manyM ep i z x2 (y + 1) = manyM ep i z x2 y + (if hasB ep i z x.J = true then 1 else 0) := by
            unfold manyM
            rw [List.range_succ, List.countP_append]
            simp only [List.countP_cons, List.countP_nil, hx]
            omega
          have hmy : manyM ep i z x2 y ≤ y := by unfold manyM; have := List.countP_le_length (p := fun j => match x2[j]? with | some x => hasB ep i z x.J | none => false) (l := List.range y); rwa [List.length_range] at this
          repeat' (first|refine bk ?_|refine bkc ?_|refine bks ?_|refine bkq (fun q => ?_)|(refine bk2 ?_ ?_<;>(first|exact bkn|(refine bkk ?_;intro h))))
          refine WL.idx TT (E := bpE) (Rd.slc (i := 2) rfl) rfl rfl (by rw [List.length_map]; omega) (by omega) (x := x.b) (by rw [Int.toNat_natCast, List.getElem?_map, hx]; rfl) rfl rfl rfl rfl (fun b4 o4 hA4 => ?_)
          refine WL.s (op1_at TT hA4 rfl rfl rfl rfl) rfl ?_
          repeat' (first|refine bk ?_|refine bkc ?_|refine bks ?_|refine bkq (fun q => ?_)|(refine bk2 ?_ ?_<;>(first|exact bkn|(refine bkk ?_;intro h))))
          refine WL.call c16 rfl rfl rfl rfl ((q_Log hx hx1.ok hx1.J.alive W0 _).pre (fun w hs => hs.front (i := 3) rfl)) ?_
          rintro _ _ ⟨A4, c4, rfl, rfl⟩
          have hok4 := hx1.J.ok.len
          have hB : hasB ep i z x.J = (decide (i < x.J.xs.length) && match x.J.xs[i]? with | some y => decide (y.s = z) | none => false) := by unfold hasB; (rw [decide_eq_true hx3, Bool.true_and]) <;> rfl
          repeat' (first|refine bk ?_|refine bkc ?_|refine bks ?_|refine bkq (fun q => ?_)|(refine bk2 ?_ ?_<;>(first|exact bkn|(refine bkk ?_;intro h))))
          · obtain ⟨e4, he4⟩ : ∃ e4, x.J.xs[i]? = some e4 := ⟨x.J.xs[i]'(by omega), List.getElem?_eq_getElem (by omega)⟩
            rw [he4, decide_eq_true (by omega), Bool.true_and] at hB
            simp only at hB
            refine WL.idx TT (E := entE) (Rd.slc (i := 1) rfl) rfl rfl rfl (by omega) (by rw [Int.toNat_natCast]; exact he4) rfl rfl rfl rfl (fun b5 o5 hA5 => ?_)
            repeat' (first|refine bk ?_|refine bkc ?_|refine bks ?_|refine bkq (fun q => ?_)|(refine bk2 ?_ ?_<;>(first|exact bkn|(refine bkk ?_;intro h))))
            refine WL.s (op1_atF TT 1 hA5 rfl rfl rfl rfl rfl) rfl ?_
            by_cases hez : e4.s = z
            · rw [decide_eq_true hez] at hB
              rw [hB, if_pos rfl] at hm1
              repeat' (first|refine bk ?_|refine bkc ?_|refine bks ?_|refine bkd ?_|refine bkq (fun q => ?_)|(refine bk2 ?_ ?_<;>(first|exact bkn|(refine bkk ?_;intro h))))
              all_goals first
                | (exfalso; exact absurd hez (by assumption))
                | (refine QS.again (y + 1) hyn (by show n - (y + 1) < n - y; omega) ⟨rfl, rfl, rfl, rfl, rfl, rfl, rfl, rfl, rfl, ?_, ?_, trivial⟩ (fun w hs => hs.ord 7 [3, 4, 5, 2, 6] rfl)
                   · rw [hm1, show ((manyM ep i z x2 y + 1 : Nat) : Int) = (manyM ep i z x2 y : Int) + 1 from by omega]; rfl
                   · rw [show ((y + 1 : Nat) : Int) = (y : Int) + 1 from by omega]; rfl)
            · rw [decide_eq_false hez] at hB
              rw [hB, if_neg (by decide)] at hm1
              repeat' (first|refine bk ?_|refine bkc ?_|refine bks ?_|refine bkd ?_|refine bkq (fun q => ?_)|(refine bk2 ?_ ?_<;>(first|exact bkn|(refine bkk ?_;intro h))))
              all_goals first
                | (exfalso; exact absurd (by assumption) hez)
                | (refine QS.again (y + 1) hyn (by show n - (y + 1) < n - y; omega) ⟨rfl, rfl, rfl, rfl, rfl, rfl, rfl, rfl, rfl, ?_, ?_, trivial⟩ (fun w hs => hs.ord 7 [3, 4, 5, 2, 6] rfl)
                   · rw [hm1]; rfl
                   · rw [show ((y + 1 : Nat) : Int) = (y : Int) + 1 from by omega]; rfl)
          · rw [decide_eq_false (by omega), Bool.false_and] at hB
            rw [hB, if_neg (by decide)] at hm1
            refine QS.again (y + 1) hyn (by show n - (y + 1) < n - y; omega) ⟨rfl, rfl, rfl, rfl, rfl, rfl, rfl, rfl, rfl, ?_, ?_, trivial⟩ (fun w hs => hs.ord 7 [3, 4, 5, 2, 6] rfl)
            · rw [hm1]; rfl
            · rw [show ((y + 1 : Nat) : Int) = (y : Int) + 1 from by omega]; rfl
        · obtain rfl : y = n := by omega
          repeat' (first|refine bk ?_|refine bkc ?_|refine bks ?_|refine bkd ?_|refine bkq (fun q => ?_)|(refine bk2 ?_ ?_<;>(first|exact bkn|(refine bkk ?_;intro h))))
          exact QS.met () trivial ⟨rfl, rfl, rfl, rfl, rfl, rfl, rfl, rfl, rfl, rfl, trivial⟩ (fun w hs => hs)
      rintro _ _
      have hn2 : (n : Int).tdiv 2 = (n : Int) / 2 := Int.tdiv_eq_ediv_of_nonneg (by omega)
      have hw2 : IntKind.i64.wrap (IntKind.i64.wrap ((n : Int).tdiv 2) + 1) = (n : Int) / 2 + 1 := by
        have h1 : IntKind.i64.wrap ((n : Int) / 2) = (n : Int) / 2 := w64 (by omega)
        have h2 : IntKind.i64.wrap ((n : Int) / 2 + 1) = (n : Int) / 2 + 1 := w64 (by omega)
        rw [hn2, h1, h2]
      repeat' (first|refine bk ?_|refine bkc ?_|refine bks ?_|refine bkq (fun q => ?_)|(refine bk2 ?_ ?_<;>(first|exact bkn|(refine bkk ?_;intro h))))
      refine WL.call c14 rfl rfl rfl rfl ((q_Many bq Aj n cj bm ⟨ep, ((i + 1 : Nat) : Int), false⟩ W0 _).pre (fun w hs => hs.front (i := 1) rfl)) ?_
      rintro _ _ ⟨rfl, rfl⟩
      repeat' (first|refine bk ?_|refine bkc ?_|refine bks ?_|refine bkd ?_|refine bkq (fun q => ?_)|(refine bk2 ?_ ?_<;>(first|exact bkn|(refine bkk ?_;intro h))))
      refine QS.again (i + 1, x2, m2) ⟨by simp only; omega, by simp only; omega, hH2, hl2, k2m⟩ (by simp only; omega) ⟨rfl, rfl, rfl, rfl, rfl, rfl, rfl, ?_, trivial⟩ (fun w hs => hs.front (i := 1) rfl)
      rw [show ((i + 1 : Nat) : Int) = (i : Int) + 1 from by omega]; rfl
end Go.Proofs.YtfolmcpfdcgliaaGreat.B

set_option linter.unusedVariables false
set_option linter.unusedSimpArgs false
set_option maxRecDepth 8000
/-! Sorting a slice of integers. -/
namespace Go.Proofs.YtfolmcpfdcgliaaGreat.B
open Go Go.Proofs Go.Sort

def sortI (xs : List Int) : List Int := xs.mergeSort fun x y => decide (x ≤ y)
theorem flat_int (xs : List Int) : flat intE xs = xs.map (Value.int .i64) := by
  induction xs with
  | nil => rfl
  | cons x r ih => simp only [flat, List.flatMap_cons, List.map_cons] at ih ⊢; rw [ih]; rfl
theorem sortI_len (xs : List Int) : (sortI xs).length = xs.length := List.length_mergeSort xs
theorem sort_ints {A : Option Addr} {c : Nat} {xs : List Int} (hl : xs.length ≤ 4000000000000000000) (W0 : World) (G : List SL) :
    Fn Tryz.prog 77 [.slice A xs.length c] W0 (slc intE 3 A c xs :: G) (Ret fun v G' => v = .tuple #[] ∧ G' = slc intE 3 A c (sortI xs) :: G) := fun w hs => by
  obtain ⟨h1, h2, h3⟩ := slc_at (i := 0) rfl w hs
  have hsl := sortI_len xs
  rcases h3 with ⟨rfl, rfl, rfl⟩ | ⟨g, rfl⟩
  · refine (sh_slices_Sort_int_none none 0 w).mono fun e w' h => ?_
    obtain ⟨rfl, rfl⟩ := h
    refine ⟨_, ⟨rfl, rfl⟩, ?_⟩
    simpa [sortI] using hs
  · obtain ⟨hp, h, hle⟩ := hs.head
    rcases h with ⟨h, _⟩ | ⟨g', cur, hg, hb, h3, h4, h5, h6⟩
    · cases h
    injection hg with hg
    injection hg with hg _ _
    subst hg
    have hb' := hle g _ hb
    have hsz : intE.sz = 1 := rfl
    rw [hsz, Nat.mul_one] at h5 h6
    rw [flat_int] at h6
    have hH : Holds (Value.int .i64) w g 0 xs.toArray := holds_of_blockI hb' h6
    have hlt : g < w.heap.size := (Array.getElem?_eq_some_iff.1 hb').1
    refine (sh_slices_Sort_int g 0 c xs w hH hlt (by omega)).mono fun e w' h => ?_
    obtain ⟨rfl, n, os, rfl⟩ := h
    have ho := ownsRow_sortedI (n := n) (os := os) (base := 0) (ts := sortI xs) hsl (Nat.zero_le _) hb' h3 h4 (by rw [h5, Nat.mul_one])
    obtain ⟨A', c', hA, s2⟩ := hs.slcTurn (v' := .slice (some ⟨g, 0, none⟩) xs.length c) (ys := sortI xs) (by rw [hsl, flat_int]; exact ho) (grownBy_sortedI (g := g) _) (.inl rfl)
    simp only [Value.slice.injEq] at hA
    obtain ⟨rfl, _, rfl⟩ := hA
    exact ⟨_, ⟨rfl, rfl⟩, s2⟩
end Go.Proofs.YtfolmcpfdcgliaaGreat.B
