import Derived.Test.YtfolmcpfdcgliaaGreatMg31
import Derived.Test.YtfolmcpfdcgliaaGreatMg30
import Derived.Test.YtfolmcpfdcgliaaGreatMg8
import Derived.Test.YtfolmcpfdcgliaaGreatMg17
import Derived.Test.YtfolmcpfdcgliaaGreatMg10
import Derived.Test.YtfolmcpfdcgliaaGreatMg20
set_option linter.unusedVariables false
set_option linter.unusedSimpArgs false
set_option maxRecDepth 8000
namespace Go.Proofs.YtfolmcpfdcgliaaGreat.B
open Go Go.Proofs
theorem filter_range {α : Type} {f : Nat → Option α} {c : α} {d : Nat} : ∀ (n : Nat), (∀ i, i < n → f i = if i < d then none else some c) → (List.range n).filterMap f = List.replicate (n - d) c
  | 0, _ => by simp
  | n + 1, h => by
    rw [List.range_succ, List.filterMap_append, filter_range n (fun i hi => h i (by omega))]
    simp only [List.filterMap_cons, List.filterMap_nil, h n (by omega)]
    by_cases hd : n < d
    · rw [if_pos hd, show n + 1 - d = 0 from by omega, show n - d = 0 from by omega]; rfl
    · rw [if_neg hd, show n + 1 - d = (n - d) + 1 from by omega, List.replicate_succ']
theorem best_same (T : Lg) (k : Nat) : ∀ i, 1 ≤ i → i ≤ k → bestQ (List.replicate k T) i = 0
  | 0, h, _ => by omega
  | 1, _, _ => by simp [bestQ]
  | i + 2, _, h => by
    have ih := best_same T k (i + 1) (by omega) (by omega)
    rw [bestQ, ih, if_neg (by decide)]
    have h1 : (List.replicate k T)[i + 1]? = some T := by rw [List.getElem?_replicate, if_pos (by omega)]
    have h2 : (List.replicate k T)[(0 : Int).toNat]? = some T := by rw [List.getElem?_replicate, if_pos (by show 0 < k; omega)]
    rw [h1, h2]
    simp [betterQ]
theorem bestL_same (T : Lg) (k : Nat) (hk : 1 ≤ k) : bestL (List.replicate k T) = T.2 := by
  unfold bestL
  rw [List.length_replicate, best_same T k k hk (Nat.le_refl _)]
  have h2 : (List.replicate k T)[(0 : Int).toNat]? = some T := by rw [List.getElem?_replicate, if_pos (by show 0 < k; omega)]
  rw [h2]
def Hu (J : Jn) (d : Nat) (xs : List Nd) : Prop := ∀ i x, xs[i]? = some x → NW x ∧ (d ≤ i → x.J = J)
def FD (fs : List Int) (d n : Nat) : Prop := ∀ i, i < n → fateM fs i = if i < d then 1 else 0
theorem FD.nil (n : Nat) : FD [] 0 n := fun i _ => by simp [fateM]
theorem Hu.mem {J : Jn} {d : Nat} {xs : List Nd} (h : Hu J d xs) : ∀ x ∈ xs, NW x := fun x hx => by
  obtain ⟨i, hi⟩ := List.mem_iff_getElem?.1 hx
  exact (h i x hi).1
abbrev toldQ (J : Jn) (q : Rq) : Lg := if q.kind = kP then ((pureJ J q).2.e, (pureJ J q).2.xs) else (0, [])
theorem NW.told {x : Nd} (h : NW x) {s : ByteArray} {q : Rq} (hq : readQ (bs s) = some q) :
    toldM (x.ans (bs s)) = (if (pureJ x.J q).1 = 0 then ((toldQ x.J q).1, (toldQ x.J q).2, 0) else (0, [], (pureJ x.J q).1)) ∧ (x.hand (bs s)).J = (pureJ x.J q).2 := by
  obtain ⟨h1, h2, h3⟩ := h.hand (bs s)
  have h4 : JWell (pureJ x.J q).2 := by have hh := (hand_pure (R := 2000000) (by decide) h.J (bs s)).2; rw [hand_of hq] at hh; exact hh
  refine ⟨?_, by rw [h2, hand_of hq]⟩
  rw [h3, told_ans h4 hq]
  unfold toldQ
  split
  · split <;> rfl
  · rfl
theorem resp_hu {J : Jn} {d : Nat} {xs : List Nd} (h : Hu J d xs) {fs : List Int} (hf : FD fs d xs.length) {s : ByteArray} {q : Rq} (hq : readQ (bs s) = some q) (h0 : (pureJ J q).1 = 0) :
    ∀ i, i < xs.length → respM fs s xs i = if i < d then none else some (toldQ J q) := fun i hi => by
  obtain ⟨x, hx⟩ : ∃ x, xs[i]? = some x := ⟨xs[i]'hi, List.getElem?_eq_getElem hi⟩
  obtain ⟨h1, h2⟩ := h i x hx
  obtain ⟨t1, t2⟩ := h1.told hq
  unfold respM
  rw [hx, hf i hi]
  by_cases hd : i < d
  · simp [hd]
  · have hJ := h2 (by omega)
    rw [hJ] at t1
    rw [if_pos h0] at t1
    simp only [hd, if_false, true_or, true_and, t1, if_true]
theorem hu_next {J : Jn} {d : Nat} {xs : List Nd} (h : Hu J d xs) {fs : List Int} (hf : FD fs d xs.length) {s : ByteArray} {q : Rq} (hq : readQ (bs s) = some q) : Hu (pureJ J q).2 d (ndsM fs s xs xs.length) := fun i x hx => by
  have hi := (List.getElem?_eq_some_iff.1 hx).1
  rw [ndsM_len] at hi
  rw [nds_at hi] at hx
  obtain ⟨y, hy, rfl⟩ := Option.map_eq_some_iff.1 hx
  obtain ⟨h1, h2⟩ := h i y hy
  refine ⟨h1.step _ _, fun hd => ?_⟩
  rw [hf i hi, if_neg (by omega)]
  have e : ndM 0 s y = y.hand (bs s) := by unfold ndM; simp
  rw [e, (h1.told hq).2, h2 hd]
theorem most_pos {n : Nat} (h : 1 ≤ n) : mostM n = (n : Int) / 2 + 1 := by unfold mostM; rw [if_neg (by omega)]
theorem all_ok {J : Jn} {d : Nat} {xs : List Nd} (h : Hu J d xs) {fs : List Int} (hf : FD fs d xs.length) {s : ByteArray} {q : Rq} (hq : readQ (bs s) = some q) (h0 : (pureJ J q).1 = 0) (w : Wr) (m : List Msg)
    (hn : 1 ≤ xs.length) (he : xs.length / 2 + 1 ≤ xs.length - d) :
    ∃ m', allM w xs m s fs = ⟨List.replicate (xs.length - d) (toldQ J q), 0, w, ndsM fs s xs xs.length, m'⟩ ∧ Hu (pureJ J q).2 d (ndsM fs s xs xs.length) := by
  refine ⟨(gotsM fs s xs m xs.length).m, ?_, hu_next h hf hq⟩
  have hl := logs_are fs s xs m xs.length
  rw [filter_range _ (resp_hu h hf hq h0)] at hl
  unfold allM
  simp only
  rw [if_neg (by rw [hl, List.length_replicate, most_pos hn]; omega), hl]
theorem all_few {J : Jn} {d : Nat} {xs : List Nd} (h : Hu J d xs) {fs : List Int} (hf : FD fs d xs.length) {s : ByteArray} {q : Rq} (hq : readQ (bs s) = some q) (h0 : (pureJ J q).1 = 0) (w : Wr) (m : List Msg)
    (hn : 1 ≤ xs.length) (he : xs.length - d < xs.length / 2 + 1) : ∃ m', allM w xs m s fs = ⟨[], 12, ⟨0, 0, true⟩, ndsM fs s xs xs.length, m'⟩ := by
  refine ⟨(gotsM fs s xs m xs.length).m, ?_⟩
  have hl := logs_are fs s xs m xs.length
  rw [filter_range _ (resp_hu h hf hq h0)] at hl
  have hb : (gotsM fs s xs m xs.length).bad = 12 := bad_no fs s xs m (fun i x hx hfi => by
    have hi := (List.getElem?_eq_some_iff.1 hx).1
    rw [hf i hi] at hfi
    have hd : ¬ i < d := fun hd => by rw [if_pos hd] at hfi; omega
    obtain ⟨h1, h2⟩ := h i x hx
    have t1 := (h1.told hq).1
    rw [h2 (by omega), if_pos h0] at t1
    rw [t1]; simp) xs.length
  unfold allM
  simp only
  rw [if_pos (.inr (by rw [hl, List.length_replicate, most_pos hn]; omega)), hb]
theorem FD.drop {fs : List Int} {d n : Nat} (h : ∀ i, i < n → fateM fs (n + i) = if i < d then 1 else 0) (hl : fs = [] ∨ n ≤ fs.length) (hd : fs = [] → d = 0) : FD (fs.drop (min fs.length n)) d n := fun i hi => by
  rcases hl with rfl | hl
  · rw [hd rfl]; simp [fateM]
  · have := h i hi
    rw [Nat.min_eq_right hl]
    unfold fateM at this ⊢
    rw [List.getElem?_drop]
    exact this
theorem Hu.well {J : Jn} {d : Nat} {xs : List Nd} (h : Hu J d xs) (hd : d < xs.length) : JWell J := by
  obtain ⟨x, hx⟩ : ∃ x, xs[d]? = some x := ⟨xs[d]'hd, List.getElem?_eq_getElem hd⟩
  obtain ⟨h1, h2⟩ := h d x hx
  rw [← h2 (Nat.le_refl _)]; exact h1.J
theorem pure_prom {J : Jn} {ep : Int} (h : J.p < ep) : pureJ J ⟨kP, ep, []⟩ = (0, { J with p := ep }) := by
  unfold pureJ
  rw [if_pos rfl, if_neg (by simp only; omega)]
theorem pure_acc {J : Jn} {ep : Int} {l : List Ent} (h : J.p = ep) (h2 : J.e < ep) : pureJ J ⟨kA, ep, l⟩ = (0, ⟨ep, ep, l, J.dead⟩) := by
  unfold pureJ
  rw [if_neg kAP, if_neg (fun hh => hh.elim (fun hh => by simp only at hh; omega) (fun hh => kAW hh.1)), if_neg kAW, if_neg (by simp only; omega)]
theorem pure_add {J : Jn} {ep : Int} {s : ByteArray} (h : J.p = ep) (h2 : J.e = ep) : pureJ J ⟨kW, ep, [⟨(J.xs.length : Int) + 1, s⟩]⟩ = (0, { J with xs := J.xs ++ [⟨(J.xs.length : Int) + 1, s⟩] }) := by
  unfold pureJ
  rw [if_neg kWP, if_neg (fun hh => hh.elim (fun hh => by simp only at hh; omega) (fun hh => by simp only at hh; omega)), if_pos rfl]
  show pureW J ⟨(J.xs.length : Int) + 1, s⟩ = _
  unfold pureW
  rw [if_neg (fun hh => hh.elim (fun hh => by simp only at hh; omega) (fun hh => by have := hh.1; simp only at this; omega)), if_neg (by simp only; omega)]
theorem begin_ok {J : Jn} {d : Nat} {xs : List Nd} (h : Hu J d xs) {fs : List Int} (hf : FD fs d xs.length) (hf2 : FD (fs.drop (min fs.length xs.length)) d xs.length) {ep : Int} (h1 : J.p < ep) (h2 : 1 ≤ ep) (h3 : ep ≤ 9007199254740991) (m : List Msg)
    (hn : 1 ≤ xs.length) (he : xs.length / 2 + 1 ≤ xs.length - d) :
    ∃ xs' m', beginM ⟨0, 0, false⟩ xs m ep fs = ⟨J.xs, 0, ⟨ep, J.xs.length, false⟩, xs', m'⟩ ∧ Hu ⟨ep, ep, J.xs, J.dead⟩ d xs' ∧ xs'.length = xs.length := by
  have hw := h.well (by omega)
  obtain ⟨m1, a1, a2⟩ := all_ok h hf (read_prom ⟨h2, h3⟩) (by rw [pure_prom h1]) ⟨0, 0, false⟩ m hn he
  rw [pure_prom h1] at a2
  have hT : toldQ J ⟨kP, ep, []⟩ = (J.e, J.xs) := by unfold toldQ; rw [if_pos rfl, pure_prom h1]
  rw [hT] at a1
  have hlen := ndsM_len fs (promS ep) xs xs.length
  have hlog : logOk ep J.xs = true := by
    obtain ⟨⟨_, _, l3⟩, l4⟩ := logOk_iff.1 hw.ok.log
    exact logOk_iff.2 ⟨⟨by omega, h3, l3⟩, l4⟩
  generalize ndsM fs (promS ep) xs xs.length = ys at a1 a2 hlen
  have hpa : pureJ { J with p := ep } ⟨kA, ep, J.xs⟩ = (0, ⟨ep, ep, J.xs, J.dead⟩) := pure_acc rfl (by have := hw.ep; simp only; omega)
  obtain ⟨m2, b1, b2⟩ := all_ok a2 (fs := fs.drop (min fs.length xs.length)) (by rw [hlen]; exact hf2) (read_acc h2 hlog) (by rw [hpa]) ⟨0, 0, false⟩ m1 (by omega) (by omega)
  rw [hpa] at b2
  refine ⟨_, m2, ?_, b2, by rw [ndsM_len, hlen]⟩
  unfold beginM
  rw [if_neg (by simp), if_neg (by omega)]
  simp only [a1]
  rw [if_neg (by simp), bestL_same _ _ (by omega)]
  unfold begin2
  simp only [hlen, b1]
  rw [if_neg (by simp)]
theorem write_ok {J : Jn} {d : Nat} {xs : List Nd} (h : Hu J d xs) {fs : List Int} (hf : FD fs d xs.length) {ep : Int} (h1 : J.p = ep) (h2 : J.e = ep) (h3 : 1 ≤ ep) {s : ByteArray} (hs : s.size ≤ 600) (hl : J.xs.length < 300) (m : List Msg)
    (hn : 1 ≤ xs.length) (he : xs.length / 2 + 1 ≤ xs.length - d) :
    ∃ xs' m', writeM ⟨ep, J.xs.length, false⟩ xs m s fs = ⟨[], 0, ⟨ep, (J.xs.length : Int) + 1, false⟩, xs', m'⟩ ∧ Hu { J with xs := J.xs ++ [⟨(J.xs.length : Int) + 1, s⟩] } d xs' ∧ xs'.length = xs.length := by
  have hw := h.well (by omega)
  have hp1 := hw.ok.p1
  obtain ⟨m1, a1, a2⟩ := all_ok h hf (read_add (ep := ep) (n := (J.xs.length : Int) + 1) ⟨h3, by omega⟩ ⟨by omega, by omega⟩ hs) (by rw [pure_add h1 h2]) ⟨ep, J.xs.length, false⟩ m hn he
  rw [pure_add h1 h2] at a2
  refine ⟨_, m1, ?_, a2, ndsM_len _ _ _ _⟩
  unfold writeM
  rw [if_neg (by simp; omega), if_neg (by omega), if_neg (by simp only; omega)]
  simp only [a1]
  rw [if_pos trivial]
end Go.Proofs.YtfolmcpfdcgliaaGreat.B

namespace Go.Proofs.YtfolmcpfdcgliaaGreat.B
open Go Go.Proofs
def He (ep : Int) (xs : List Nd) : Prop := ∀ x ∈ xs, NW x ∧ x.J.p = ep ∧ x.J.e = ep
theorem Hu.he {ep : Int} {l : List Ent} {b : Bool} {xs : List Nd} (h : Hu ⟨ep, ep, l, b⟩ 0 xs) : He ep xs := fun x hx => by
  obtain ⟨i, hi⟩ := List.mem_iff_getElem?.1 hx
  obtain ⟨h1, h2⟩ := h i x hi
  have := h2 (Nat.zero_le _)
  exact ⟨h1, by rw [this], by rw [this]⟩
def hasB (ep : Int) (i : Nat) (s : ByteArray) (J : Jn) : Bool := decide (J.e = ep) && (decide (i < J.xs.length) && match J.xs[i]? with | some y => decide (y.s = s) | none => false)
def manyM (ep : Int) (i : Nat) (s : ByteArray) (xs : List Nd) (k : Nat) : Nat := (List.range k).countP fun j => match xs[j]? with | some x => hasB ep i s x.J | none => false
end Go.Proofs.YtfolmcpfdcgliaaGreat.B

namespace Go.Proofs.YtfolmcpfdcgliaaGreat.B.Q2
open Go Go.Proofs
structure Up (S : Jn → Prop) (r : Int × Jn × Disk) : Prop where
  e : r.1 = 0
  a : r.2.1.dead = false
  d : r.2.2.down = false
  k : Keep r.2.1 r.2.2
  s : S r.2.1
def Has (S : Jn → Prop) (x : Nd) : Prop :=
  (x.J.dead = false ∧ x.D.down = false ∧ Keep x.J x.D ∧ S x.J) ∨ (x.J.dead = true ∧ ∀ keeps, Up S (openJ (x.D.crash keeps)))
section
variable {S T : Jn → Prop} {x : Nd} {s : List UInt8} {q : Rq}
theorem Has.mono (h : Has S x) (hST : ∀ K, S K → T K) : Has T x := by
  rcases h with ⟨a, b, c, d⟩ | ⟨a, b⟩
  · exact .inl ⟨a, b, c, hST _ d⟩
  · exact .inr ⟨a, fun k => ⟨(b k).e, (b k).a, (b k).d, (b k).k, hST _ (b k).s⟩⟩
theorem Has.two (h : Has S x) (h2 : Has T x) : Has (fun K => S K ∧ T K) x := by
  rcases h with ⟨a, b, c, d⟩ | ⟨a, b⟩
  · rcases h2 with ⟨_, _, _, d2⟩ | ⟨a2, _⟩
    · exact .inl ⟨a, b, c, d, d2⟩
    · rw [a] at a2; cases a2
  · rcases h2 with ⟨a2, _⟩ | ⟨_, b2⟩
    · rw [a] at a2; cases a2
    · exact .inr ⟨a, fun k => ⟨(b k).e, (b k).a, (b k).d, (b k).k, (b k).s, (b2 k).s⟩⟩
def Cl (q : Rq) (S : Jn → Prop) : Prop := ∀ J K : Jn, J.e ≤ J.p → 0 ≤ J.e → S J → Nx J q K → S K
def ClS (s : List UInt8) (S : Jn → Prop) : Prop := ∀ q, readQ s = some q → Cl q S
theorem Has.hand (h : Has S x) (hc : ClS s S) : Has S (x.hand s) := by
  rcases h with ⟨a, b, c, d⟩ | ⟨a, b⟩
  · cases hq : readQ s with
    | none =>
      have e : handJ x.J x.D s = (saidB 2, x.J, x.D) := hand_none (by rw [a]; decide) hq
      refine .inl ?_
      show (handJ x.J x.D s).2.1.dead = false ∧ (handJ x.J x.D s).2.2.down = false ∧ Keep (handJ x.J x.D s).2.1 (handJ x.J x.D s).2.2 ∧ S (handJ x.J x.D s).2.1
      rw [e]; exact ⟨a, b, c, d⟩
    | some q =>
      have hcl := hc q hq x.J
      rcases hand_q c a b hq with ⟨h1, h2, h3, h4, h5⟩ | ⟨h1, h2, K, o, k1, k2, k3, k4⟩
      · exact .inl ⟨h1, h2, h3, hcl _ c.ep c.ok.e0.1 d h4⟩
      · refine .inr ⟨h1, fun keeps => ?_⟩
        obtain ⟨o1, o2, o3, o4, o5⟩ := open_keep k2 k1 keeps
        refine ⟨o1, o2, o3, o4, ?_⟩
        rcases o5 with e | ⟨y, hy, e⟩
        · show S (openJ ((handJ x.J x.D s).2.2.crash keeps)).2.1
          rw [e]; exact hcl _ c.ep c.ok.e0.1 d k3
        · show S (openJ ((handJ x.J x.D s).2.2.crash keeps)).2.1
          rw [e]; exact hcl _ c.ep c.ok.e0.1 d (k4 y hy)
  · have e : handJ x.J x.D s = (saidB 12, x.J, x.D) := by rw [handJ, if_pos a]
    refine .inr ?_
    show (handJ x.J x.D s).2.1.dead = true ∧ ∀ keeps, Up S (openJ ((handJ x.J x.D s).2.2.crash keeps))
    rw [e]; exact ⟨a, b⟩
theorem Has.step (h : Has S x) {s : ByteArray} (hc : ClS (bs s) S) (k : Int) : Has S (ndM k s x) := by
  unfold ndM
  split
  · exact h
  · split
    · exact (h.hand hc).hand hc
    · exact h.hand hc
theorem Has.crash (h : Has S x) (keeps : List Int) : Up S (openJ (x.D.crash keeps)) := by
  rcases h with ⟨a, b, c, d⟩ | ⟨a, b⟩
  · obtain ⟨o1, o2, o3, o4, o5⟩ := open_keep c.torn a keeps
    refine ⟨o1, o2, o3, o4, ?_⟩
    rcases o5 with e | ⟨y, hy, _⟩
    · rw [e]; exact d
    · cases hy
  · exact b keeps
theorem Up.has {r : Int × Jn × Disk} (h : Up S r) (b d : Nat) : Has S ⟨b, d, r.2.1, r.2.2⟩ := .inl ⟨h.a, h.d, h.k, h.s⟩
theorem light_crash (D : Disk) (n : Int) (keeps : List Int) : (D.light n).crash keeps = D.crash keeps := by
  have h : ∀ k, crashSt (D.light n) keeps k = crashSt D keeps k := fun k => by
    induction k with
    | zero => rfl
    | succ k ih => simp only [crashSt, ih]; rfl
  unfold Disk.crash
  rw [show (D.light n).names = D.names from rfl, h]; rfl
theorem Has.light (h : Has S x) {n : Int} (hn : n ≤ 9223372036854775807) : Has S ⟨x.b, x.d, x.J, x.D.light n⟩ := by
  rcases h with ⟨a, b, c, d⟩ | ⟨a, b⟩
  · exact .inl ⟨a, b, c.light hn, d⟩
  · exact .inr ⟨a, fun keeps => by rw [light_crash]; exact b keeps⟩
end
theorem Has.now {T : Jn → Prop} {x : Nd} (h : Has T x) (ha : x.J.dead = false) : T x.J := by
  rcases h with ⟨_, _, _, h⟩ | ⟨h, _⟩
  · exact h
  · rw [ha] at h; cases h
def Maj (n : Nat) (P : Nat → Prop) : Prop := ∃ f : Nat → Bool, (∀ i, i < n → f i = true → P i) ∧ n / 2 + 1 ≤ (List.range n).countP f
theorem Maj.mono {n : Nat} {P Q : Nat → Prop} (h : Maj n P) (hi : ∀ i, i < n → P i → Q i) : Maj n Q := by
  obtain ⟨f, h1, h2⟩ := h
  exact ⟨f, fun i a b => hi i a (h1 i a b), h2⟩
theorem count_apart (f g : Nat → Bool) : ∀ n : Nat, (∀ i, i < n → f i = true → g i = true → False) → (List.range n).countP f + (List.range n).countP g ≤ n
  | 0, _ => by simp
  | n + 1, h => by
    have ih := count_apart f g n (fun i hi => h i (by omega))
    have hn := h n (by omega)
    rw [List.range_succ, List.countP_append, List.countP_append]
    simp only [List.countP_cons, List.countP_nil]
    cases hf : f n <;> cases hg : g n <;> simp_all <;> omega
theorem Maj.meet {n : Nat} {P Q : Nat → Prop} (h1 : Maj n P) (h2 : Maj n Q) : ∃ i, i < n ∧ P i ∧ Q i := by
  obtain ⟨f, f1, f2⟩ := h1
  obtain ⟨g, g1, g2⟩ := h2
  refine Classical.byContradiction fun hno => ?_
  have := count_apart f g n (fun i hi a b => hno ⟨i, hi, f1 i hi a, g1 i hi b⟩)
  omega
def HasAt (xs : List Nd) (S : Jn → Prop) (i : Nat) : Prop := ∃ x, xs[i]? = some x ∧ Has S x
theorem HasAt.mono {xs : List Nd} {S T : Jn → Prop} {i : Nat} (h : HasAt xs S i) (hST : ∀ K, S K → T K) : HasAt xs T i := by
  obtain ⟨x, h1, h2⟩ := h
  exact ⟨x, h1, h2.mono hST⟩
theorem HasAt.all {xs : List Nd} {S : Jn → Prop} {i : Nat} (h : HasAt xs S i) {fs : List Int} {s : ByteArray} (hc : ClS (bs s) S) : HasAt (ndsM fs s xs xs.length) S i := by
  obtain ⟨x, h1, h2⟩ := h
  have hi := (List.getElem?_eq_some_iff.1 h1).1
  exact ⟨_, by rw [nds_at hi, h1]; rfl, h2.step hc _⟩
theorem HasAt.set {xs : List Nd} {S : Jn → Prop} {i j : Nat} (h : HasAt xs S i) {y : Nd} (hy : ∀ x, xs[j]? = some x → Has S x → Has S y) : HasAt (xs.set j y) S i := by
  obtain ⟨x, h1, h2⟩ := h
  have hi := (List.getElem?_eq_some_iff.1 h1).1
  by_cases hj : j = i
  · subst hj
    exact ⟨y, by rw [List.getElem?_set_self hi], hy x h1 h2⟩
  · exact ⟨x, by rw [List.getElem?_set_ne hj]; exact h1, h2⟩
structure Gh where
  lo : Int → Option (List Ent)
  hi : Int → List Ent
structure Gh.Ok (g : Gh) : Prop where
  pre : ∀ c l, g.lo c = some l → l <+: g.hi c
structure Gh.Le (g g' : Gh) : Prop where
  lo : ∀ c l, g.lo c = some l → g'.lo c = some l
  hi : ∀ c l, g.lo c = some l → g.hi c <+: g'.hi c
structure Val (g : Gh) (q : Rq) : Prop where
  a : q.kind = kA → g.lo q.epoch = some q.xs
  w : q.kind = kW → ∀ x, q.xs = [x] → ∃ l, g.lo q.epoch = some l ∧ (g.hi q.epoch)[(x.n - 1).toNat]? = some x
def ValS (g : Gh) (s : List UInt8) : Prop := ∀ q, readQ s = some q → Val g q
def Good (g : Gh) (K : Jn) : Prop := (K.e = 0 ∧ K.xs = []) ∨ ∃ l, g.lo K.e = some l ∧ l <+: K.xs ∧ K.xs <+: g.hi K.e
theorem Good.mono {g g' : Gh} (h : g.Le g') {K : Jn} (hK : Good g K) : Good g' K := by
  rcases hK with hK | ⟨l, a, b, c⟩
  · exact .inl hK
  · exact .inr ⟨l, h.lo _ _ a, b, c.trans (h.hi _ _ a)⟩
theorem pre_get {l l' : List Ent} {i : Nat} {x : Ent} (h : l <+: l') (hx : l[i]? = some x) : l'[i]? = some x := by
  obtain ⟨r, rfl⟩ := h
  rw [List.getElem?_append_left (List.getElem?_eq_some_iff.1 hx).1]; exact hx
theorem Val.mono {g g' : Gh} (h : g.Le g') {q : Rq} (hq : Val g q) : Val g' q := by
  refine ⟨fun hk => h.lo _ _ (hq.a hk), fun hk x hx => ?_⟩
  obtain ⟨l, a, b⟩ := hq.w hk x hx
  exact ⟨l, h.lo _ _ a, pre_get (h.hi _ _ a) b⟩
theorem good_cl {g : Gh} (hg : g.Ok) {q : Rq} (hv : Val g q) (hqo : RqOk q) : Cl q (Good g) := fun J K _ _ hJ hnx => by
  cases hnx with
  | same => exact hJ
  | prom _ _ => exact hJ
  | acc hk _ _ => exact .inr ⟨q.xs, hv.a hk, List.prefix_refl _, hg.pre _ _ (hv.a hk)⟩
  | add x hk hx hp he hn =>
    obtain ⟨l, a, b⟩ := hv.w hk x hx
    have h1 := hqo.e0
    rcases hJ with ⟨hJ, _⟩ | ⟨l', a', b', c'⟩
    · omega
    · refine .inr ⟨l', a', b'.trans (List.prefix_append _ _), ?_⟩
      show J.xs ++ [x] <+: g.hi J.e
      rw [show (x.n - 1).toNat = J.xs.length from by omega, ← he] at b
      obtain ⟨r, hr⟩ := c'
      rw [← hr] at b ⊢
      rw [List.getElem?_append_right (Nat.le_refl _), Nat.sub_self] at b
      cases r with
      | nil => simp at b
      | cons y r =>
        simp only [List.getElem?_cons_zero, Option.some.injEq] at b
        subst b
        exact ⟨r, by simp⟩
theorem good_clS {g : Gh} (hg : g.Ok) {s : List UInt8} (hv : ValS g s) : ClS s (Good g) := fun q hq => good_cl hg (hv q hq) (readQ_ok hq)
def Prm (c : Int) (K : Jn) : Prop := c ≤ K.p
theorem prm_cl (c : Int) (q : Rq) : Cl q (Prm c) := fun J K _ _ hJ hnx => by
  unfold Prm at *
  cases hnx with
  | same => exact hJ
  | prom _ h => simp only; omega
  | acc _ h _ => simp only; omega
  | add _ _ _ _ _ _ => exact hJ
def Holds (c : Int) (l : List Ent) (K : Jn) : Prop := c < K.e ∨ (K.e = c ∧ l <+: K.xs)
theorem holds_cl (c : Int) (l : List Ent) (q : Rq) : Cl q (Holds c l) := fun J K _ _ hJ hnx => by
  unfold Holds at *
  cases hnx with
  | same => exact hJ
  | prom _ h => exact hJ
  | acc _ _ h => refine .inl ?_; simp only; omega
  | add x _ _ _ _ _ =>
    rcases hJ with h | ⟨h1, h2⟩
    · exact .inl h
    · exact .inr ⟨h1, h2.trans (List.prefix_append _ _)⟩
end Go.Proofs.YtfolmcpfdcgliaaGreat.B.Q2

namespace Go.Proofs.YtfolmcpfdcgliaaGreat.B
open Go Go.Proofs
attribute [local irreducible] WL CS QS WQ WH WS Fn Op1 row Sat
theorem Ent.ext' {x y : Ent} (h1 : x.n = y.n) (h2 : x.s = y.s) : x = y := by cases x; cases y; simp_all
theorem eqEnt (x y : Ent) : eqFs TT [(3, 0), (9, 1)] [.int .i64 x.n, .string x.s] [.int .i64 y.n, .string y.s] = some (decide (x = y)) := by
  have e : decide (x = y) = (decide (x.n = y.n) && (decide (x.s = y.s) && true)) := by
    rw [Bool.and_true, ← Bool.decide_and, decide_eq_decide]
    exact ⟨fun h => by subst h; exact ⟨rfl, rfl⟩, fun h => Ent.ext' h.1 h.2⟩
  rw [e]; rfl
def agreeN : List Ent → List Ent → Nat
  | x :: a, y :: b => if x = y then agreeN a b + 1 else 0
  | _, _ => 0
theorem choose_Most (n : Int) (hn : I64 n) (W0 : World) (G : List SL) :
    Fn Tryz.prog 39 [.int .i64 n] W0 G (Ret fun v G' => v = .int .i64 (if n < 1 then 0 else n / 2 + 1) ∧ G' = G) := by
  refine Fn.enter Tryz.func39 rfl Tryz.ntmps39 rfl ?_
  unfold I64 at hn
  repeat' (first|refine bA ?_|refine bkq fun q=>?_|(refine bk2 ?_ ?_<;>(first|exact bkn|(refine bkk ?_;intro h))))
  · exact QS.retV Tryz.results39 rfl ⟨by rw [if_pos (by assumption)]; rfl, rfl⟩
  · refine QS.retV Tryz.results39 rfl ⟨?_, rfl⟩
    have h2 : n.tdiv 2 = n / 2 := Int.tdiv_eq_ediv_of_nonneg (by omega)
    rw [if_neg (by assumption), w64 (show -9223372036854775808 ≤ n.tdiv 2 ∧ n.tdiv 2 ≤ 9223372036854775807 from by omega), h2]
    first
      | rfl
      | (rw [w64 (by omega)]; rfl)
def longT (n : Nat) : List Ent := (List.range n).map fun (i : Nat) => ⟨(i : Int) + 1, ⟨#[120]⟩⟩
end Go.Proofs.YtfolmcpfdcgliaaGreat.B

namespace Go.Proofs.YtfolmcpfdcgliaaGreat.B
open Go Go.Proofs
attribute [local irreducible] WL CS QS WQ WH WS Fn Op1 row Sat
structure LogX where
  e : Int
  A : Option Addr
  c : Nat
  xs : List Ent
def lgE : EncK LogX := ⟨fun l => [.int .i64 l.e, .slice l.A l.xs.length l.c], 2, fun _ => rfl, by decide, fun _ u hu => by simp only [List.mem_cons, List.not_mem_nil, or_false] at hu; rcases hu with rfl | rfl <;> rfl⟩
def better (a b : LogX) : Bool := decide (b.e < a.e) || (decide (a.e = b.e) && decide (b.xs.length < a.xs.length))
def bestP (ls : List LogX) : Nat → Int
  | 0 => -1
  | i + 1 => if bestP ls i < 0 then i else match ls[i]?, ls[(bestP ls i).toNat]? with
    | some a, some b => if better a b = true then i else bestP ls i
    | _, _ => bestP ls i
def bestI (ls : List LogX) : Int := bestP ls ls.length
theorem bestP_range (ls : List LogX) : ∀ i, -1 ≤ bestP ls i ∧ bestP ls i < i ∧ (0 < i → 0 ≤ bestP ls i)
  | 0 => ⟨by rw [bestP]; decide, by rw [bestP]; decide, fun h => absurd h (by decide)⟩
  | i + 1 => by
    have ih := bestP_range ls i
    rw [bestP]
    split
    · omega
    · split
      · split <;> omega
      · omega
theorem bestP_lt {ls : List LogX} {i : Nat} (h : bestP ls i < 0) : bestP ls (i + 1) = i := by rw [bestP, if_pos h]
theorem bestP_ge {ls : List LogX} {i : Nat} {a b : LogX} (h : ¬ bestP ls i < 0) (ha : ls[i]? = some a) (hb : ls[(bestP ls i).toNat]? = some b) : bestP ls (i + 1) = if better a b = true then (i : Int) else bestP ls i := by
  rw [bestP, if_neg h, ha, hb]
theorem choose_better (a b : LogX) (W0 : World) (G : List SL) :
    Fn Tryz.prog 76 [.agg #[.int .i64 a.e, .slice a.A a.xs.length a.c], .agg #[.int .i64 b.e, .slice b.A b.xs.length b.c]] W0 G (Ret fun v G' => v = .bool (better a b) ∧ G' = G) := by
  refine Fn.enter Tryz.func76 rfl Tryz.ntmps76 rfl ?_
  repeat' (first|refine bA ?_|refine bkq fun q=>?_|(refine bk2 ?_ ?_<;>(first|exact bkn|(refine bkk ?_;intro h))))
  all_goals
    refine QS.turn (fun w hs => hs.drop.drop) (QS.retV Tryz.results76 rfl ⟨?_, rfl⟩)
    simp [better, resV, *]
set_option maxHeartbeats 2000000 in
theorem choose_Best (A : Option Addr) (k c : Nat) (ls : List LogX) (hk : k = ls.length) (hkb : k ≤ 9223372036854775807) (W0 : World) (G : List SL) (hR : Rd W0 G lgE A ls) :
    Fn Tryz.prog 33 [.slice A k c] W0 G (Ret fun v G' => v = .int .i64 (bestI ls) ∧ G' = G) := by
  refine Fn.enter Tryz.func33 rfl Tryz.ntmps33 rfl ?_
  repeat' (first|refine bA ?_|refine bkq fun q=>?_|(refine bk2 ?_ ?_<;>(first|exact bkn|(refine bkk ?_;intro h))))
  refine CS.loop (X := Nat) (fun i => [(0, .slice A k c), (3, .int .i64 (bestP ls i)), (4, .func (.func 76) #[] #[]), (7, .int .i64 (k : Int)), (8, .int .i64 (i : Int))]) (fun i => G)
    (fun i => i ≤ k) (fun i => k - i) 0 ⟨rfl, rfl, rfl, rfl, rfl, trivial⟩ (fun w hs => hs) (Nat.zero_le _) ?_
  intro i hi
  have hbr := bestP_range ls i
  obtain ⟨B, hB⟩ : ∃ B, B = bestP ls i := ⟨_, rfl⟩
  rw [← hB] at hbr
  rw [← hB]
  refine CS.world fun hw => ?_
  repeat' (first|refine bA ?_|refine bkq fun q=>?_|(refine bk2 ?_ ?_<;>(first|exact bkn|(refine bkk ?_;intro h))))
  · refine QS.again (i + 1) (by omega) (by omega) ⟨rfl, ?_, rfl, rfl, ?_, trivial⟩ (fun w hs => hs)
    · rw [bestP_lt (by omega)]; rfl
    · rw [show ((i + 1 : Nat) : Int) = (i : Int) + 1 from by omega]; rfl
  · obtain ⟨x, hx⟩ : ∃ x, ls[i]? = some x := ⟨ls[i]'(by omega), List.getElem?_eq_getElem (by omega)⟩
    obtain ⟨y, hy⟩ : ∃ y, ls[B.toNat]? = some y := ⟨ls[B.toNat]'(by omega), List.getElem?_eq_getElem (by omega)⟩
    have hst := bestP_ge (ls := ls) (i := i) (by omega) hx (by rw [← hB]; exact hy)
    rw [← hB] at hst
    refine WQ.idx TT hR rfl rfl hk (by omega) (by rw [Int.toNat_natCast]; exact hx) rfl rfl rfl rfl hw (fun b2 o hA => ?_)
    repeat' (first|refine bA ?_|refine bkq fun q=>?_|(refine bk2 ?_ ?_<;>(first|exact bkn|(refine bkk ?_;intro h))))
    refine WQ.s (op1_at TT hA rfl rfl rfl rfl) rfl ?_
    repeat' (first|refine bA ?_|refine bkq fun q=>?_|(refine bk2 ?_ ?_<;>(first|exact bkn|(refine bkk ?_;intro h))))
    refine WQ.idx TT hR rfl rfl hk (by omega) hy rfl rfl rfl rfl hw (fun b3 o3 hA3 => ?_)
    repeat' (first|refine bA ?_|refine bkq fun q=>?_|(refine bk2 ?_ ?_<;>(first|exact bkn|(refine bkk ?_;intro h))))
    refine WQ.s (op1_at TT hA3 rfl rfl rfl rfl) rfl ?_
    repeat' (first|refine bA ?_|refine bkq fun q=>?_|(refine bk2 ?_ ?_<;>(first|exact bkn|(refine bkk ?_;intro h))))
    refine WQ.call c76 rfl rfl rfl rfl (choose_better x y W0 _) ?_
    cases hbb : better x y
    all_goals
      rw [hbb] at hst
      repeat' (first|refine bA ?_|refine bkq fun q=>?_|(refine bk2 ?_ ?_<;>(first|exact bkn|(refine bkk ?_;intro h))))
      refine QS.again (i + 1) (by omega) (by omega) ⟨rfl, ?_, rfl, rfl, ?_, trivial⟩ (fun w hs => hs)
      · rw [hst]; rfl
      · rw [show ((i + 1 : Nat) : Int) = (i : Int) + 1 from by omega]; rfl
  · refine QS.retV Tryz.results33 rfl ⟨?_, rfl⟩
    rw [bestI, hB, show i = ls.length from by omega]; rfl
end Go.Proofs.YtfolmcpfdcgliaaGreat.B
