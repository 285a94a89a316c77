import Derived.Test.YtfolmcpfdcgliaaGreatMg32
import Derived.Test.YtfolmcpfdcgliaaGreatMg33
set_option linter.unusedVariables false
set_option linter.unusedSimpArgs false
set_option maxRecDepth 8000
/-! Why what was answered OK to lasts: all nodes, the mail, the writers. -/
namespace Go.Proofs.YtfolmcpfdcgliaaGreat.B.Q2
open Go Go.Proofs
/-- What is right of the nodes and the mail at any time. -/
structure Sys (g : Gh) (xs : List Nd) (m : List Msg) : Prop where
  ok : g.Ok
  nodes : ∀ (i : Nat) (x : Nd), xs[i]? = some x → NdOk x ∧ Has (Good g) x
  mail : ∀ z ∈ m, 0 ≤ z.1 ∧ z.1 < (xs.length : Int) ∧ ValS g (bs z.2) ∧ z.2.size ≤ 4000
  ch : ∀ c l, g.lo c = some l → Maj xs.length (HasAt xs (Prm c))
structure Dn (g : Gh) (xs : List Nd) (done : List Ent) (last : Int) : Prop where
  z : last = 0 → done = []
  p : 0 ≤ last
  h : 0 < last → g.lo last ≠ none ∧ done <+: g.hi last ∧ Maj xs.length (HasAt xs (Holds last done))
  later : ∀ c l, g.lo c = some l → last < c → done <+: l
/-! ### All nodes are asked -/
theorem gots_mail {g : Gh} {fs : List Int} {s : ByteArray} {xs : List Nd} {m : List Msg} (hm : ∀ z ∈ m, 0 ≤ z.1 ∧ z.1 < (xs.length : Int) ∧ ValS g (bs z.2) ∧ z.2.size ≤ 4000) (hv : ValS g (bs s)) : ∀ k, k ≤ xs.length → ∀ z ∈ (gotsM fs s xs m k).m, 0 ≤ z.1 ∧ z.1 < (xs.length : Int) ∧ ValS g (bs z.2) ∧ z.2.size ≤ 4000
  | 0, _ => hm
  | k + 1, hk => by
    have ih := gots_mail (fs := fs) hm hv k (by omega)
    rw [gotsM]
    cases xs[k]? with
    | none => exact ih
    | some x =>
      simp only
      intro z hz
      unfold gotM heard at hz
      have hsend : z ∈ sendM (gotsM fs s xs m k).m (k : Int) s → 0 ≤ z.1 ∧ z.1 < (xs.length : Int) ∧ ValS g (bs z.2) ∧ z.2.size ≤ 4000 := fun hz => by
        unfold sendM at hz
        split at hz
        · exact ih z hz
        · rename_i hsz
          rcases List.mem_append.1 hz with hz | hz
          · exact ih z hz
          · rw [List.mem_singleton] at hz
            subst hz
            exact ⟨by simp only; omega, by simp only; omega, hv, by simp only; omega⟩
      split at hz
      · exact ih z hz
      · split at hz
        · exact hsend hz
        · split at hz
          · exact ih z hz
          · split at hz
            · exact ih z hz
            · split at hz <;> exact ih z hz
theorem Sys.all {g : Gh} {xs : List Nd} {m : List Msg} (h : Sys g xs m) {s : ByteArray} (hv : ValS g (bs s)) (fs : List Int) : Sys g (ndsM fs s xs xs.length) (gotsM fs s xs m xs.length).m := by
  refine ⟨h.ok, fun i x hx => ?_, ?_, fun c l hc => ?_⟩
  · have hi := (List.getElem?_eq_some_iff.1 hx).1
    rw [ndsM_len] at hi
    rw [nds_at hi] at hx
    obtain ⟨y, hy, rfl⟩ := Option.map_eq_some_iff.1 hx
    exact ⟨ndM_ok (h.nodes i y hy).1 _ _, (h.nodes i y hy).2.step (good_clS h.ok hv) _⟩
  · rw [ndsM_len]
    exact gots_mail h.mail hv xs.length (Nat.le_refl _)
  · rw [ndsM_len]
    exact (h.ch c l hc).mono fun i _ hi => hi.all (fun q _ => prm_cl c q)
theorem Dn.all {g : Gh} {xs : List Nd} {done : List Ent} {last : Int} (h : Dn g xs done last) (s : ByteArray) (fs : List Int) : Dn g (ndsM fs s xs xs.length) done last :=
  ⟨h.z, h.p, fun hp => ⟨(h.h hp).1, (h.h hp).2.1, by rw [ndsM_len]; exact (h.h hp).2.2.mono fun i _ hi => hi.all (fun q _ => holds_cl last done q)⟩, h.later⟩
/-- Who answered OK. -/
structure Resp (g : Gh) (fs : List Int) (s : ByteArray) (xs : List Nd) (q : Rq) (i : Nat) (t : Lg) (x : Nd) (K : Jn) : Prop where
  at0 : xs[i]? = some x
  al : x.J.dead = false
  good : Good g x.J
  k : Keep x.J x.D
  kk : Good g K
  ke : K.e ≤ K.p
  nx : Nx x.J q K
  ack : Ack x.J q K
  t : q.kind = kP → t = (K.e, K.xs)
  at' : ∀ T : Jn → Prop, T K → Cl q T → HasAt (ndsM fs s xs xs.length) T i
theorem resp_of {g : Gh} {xs : List Nd} {m : List Msg} (h : Sys g xs m) {fs : List Int} {s : ByteArray} (hv : ValS g (bs s)) {i : Nat} {t : Lg} (ht : respM fs s xs i = some t) : ∃ q x K, readQ (bs s) = some q ∧ Resp g fs s xs q i t x K := by
  unfold respM at ht
  cases hx : xs[i]? with
  | none => rw [hx] at ht; cases ht
  | some x =>
    rw [hx] at ht
    simp only at ht
    split at ht
    · rename_i hc
      have hi := (List.getElem?_eq_some_iff.1 hx).1
      obtain ⟨q, K, a1, a0, a2, a3, a4, a5, a6, a7, a8⟩ := (h.nodes i x hx).2.acked hc.2
      refine ⟨q, x, K, a1, hx, a0, a2, a3, good_cl h.ok (hv q a1) (readQ_ok a1) _ _ a3.ep a3.ok.e0.1 a2 a5, a4.ep, a5, a6, fun hk => ?_, fun T hT hcl => ⟨_, by rw [nds_at hi, hx]; rfl, a8 T hT hcl _ hc.1⟩⟩
      have := a7 hk
      rw [this] at ht
      exact (Option.some.inj ht).symm
    · cases ht
theorem Resp.now {g : Gh} {fs : List Int} {s : ByteArray} {xs : List Nd} {q : Rq} {i : Nat} {t : Lg} {x : Nd} {K : Jn} (h : Resp g fs s xs q i t x K) {T : Jn → Prop} (hT : HasAt xs T i) : T x.J := by
  obtain ⟨y, h1, h2⟩ := hT
  rw [h.at0] at h1; obtain rfl := Option.some.inj h1
  exact h2.now h.al
/-- What so many answered. -/
theorem all_maj {w : Wr} {xs : List Nd} {m : List Msg} {s : ByteArray} {fs : List Int} (h : (allM w xs m s fs).err = 0) :
    allM w xs m s fs = ⟨(List.range xs.length).filterMap (respM fs s xs), 0, w, ndsM fs s xs xs.length, (gotsM fs s xs m xs.length).m⟩ ∧ Maj xs.length (fun i => ∃ t, respM fs s xs i = some t) ∧ 1 ≤ xs.length := by
  unfold allM at h ⊢
  simp only at h ⊢
  split
  · rename_i hc
    rw [if_pos hc] at h
    have := bad_is fs s xs m xs.length
    simp only at h; omega
  · rename_i hc
    rw [← logs_are fs s xs m xs.length]
    refine ⟨rfl, ⟨fun i => (respM fs s xs i).isSome, fun i _ hi => Option.isSome_iff_exists.1 hi, ?_⟩, by omega⟩
    have h1 := count_range (f := respM fs s xs) (p := fun i => (respM fs s xs i).isSome) xs.length (fun i _ h => h)
    rw [← logs_are fs s xs m xs.length] at h1
    have h2 := most_pos (n := xs.length) (by omega)
    omega
theorem all_bad {w : Wr} {xs : List Nd} {m : List Msg} {s : ByteArray} {fs : List Int} (h : (allM w xs m s fs).err ≠ 0) :
    ∃ e, e ≠ 0 ∧ allM w xs m s fs = ⟨[], e, ⟨0, 0, true⟩, ndsM fs s xs xs.length, (gotsM fs s xs m xs.length).m⟩ := by
  unfold allM at h ⊢
  simp only at h ⊢
  split
  · rename_i hc
    rw [if_pos hc] at h
    exact ⟨_, h, rfl⟩
  · rename_i hc
    rw [if_neg hc] at h
    exact absurd rfl h
/-! ### The best log -/
theorem bestQ_range (ls : List Lg) : ∀ i, -1 ≤ bestQ ls i ∧ bestQ ls i < i ∧ (0 < i → 0 ≤ bestQ ls i)
  | 0 => by simp [bestQ]
  | i + 1 => by
    have ih := bestQ_range ls i
    unfold bestQ
    split
    · omega
    · split
      · split <;> omega
      · omega
theorem bestQ_max (ls : List Lg) : ∀ i, i ≤ ls.length → ∀ j, j < i → ∃ a b, ls[j]? = some a ∧ ls[(bestQ ls i).toNat]? = some b ∧ (a.1 < b.1 ∨ (a.1 = b.1 ∧ a.2.length ≤ b.2.length))
  | 0, _, j, hj => by omega
  | i + 1, hi, j, hj => by
    have hr := bestQ_range ls i
    obtain ⟨a, ha⟩ : ∃ a, ls[i]? = some a := ⟨ls[i]'(by omega), List.getElem?_eq_getElem (by omega)⟩
    unfold bestQ
    by_cases h0 : bestQ ls i < 0
    · rw [if_pos h0]
      have : i = 0 := by
        rcases Nat.eq_zero_or_pos i with h | h
        · exact h
        · have := hr.2.2 h; omega
      subst this
      obtain rfl : j = 0 := by omega
      exact ⟨a, a, ha, by simpa using ha, .inr ⟨rfl, Nat.le_refl _⟩⟩
    · rw [if_neg h0]
      obtain ⟨b, hb⟩ : ∃ b, ls[(bestQ ls i).toNat]? = some b := ⟨ls[(bestQ ls i).toNat]'(by omega), List.getElem?_eq_getElem (by omega)⟩
      rw [ha, hb]
      simp only
      by_cases hbt : betterQ a b = true
      · rw [if_pos hbt]
        simp only [betterQ, Bool.or_eq_true, decide_eq_true_eq, Bool.and_eq_true] at hbt
        by_cases hji : j = i
        · subst hji
          exact ⟨a, a, ha, by simpa using ha, .inr ⟨rfl, Nat.le_refl _⟩⟩
        · obtain ⟨c, b', hc, hb', h⟩ := bestQ_max ls i (by omega) j (by omega)
          rw [hb] at hb'; obtain rfl := Option.some.inj hb'
          exact ⟨c, a, hc, by simpa using ha, by omega⟩
      · rw [if_neg hbt]
        simp only [betterQ, Bool.or_eq_true, decide_eq_true_eq, Bool.and_eq_true, not_or, not_and] at hbt
        by_cases hji : j = i
        · subst hji
          refine ⟨a, b, ha, hb, ?_⟩
          have h1 := hbt.1
          have h2 := hbt.2
          rcases Int.lt_trichotomy a.1 b.1 with h | h | h
          · exact .inl h
          · exact .inr ⟨h, by have := h2 h; omega⟩
          · exact absurd h h1
        · obtain ⟨c, b', hc, hb', h⟩ := bestQ_max ls i (by omega) j (by omega)
          rw [hb] at hb'; obtain rfl := Option.some.inj hb'
          exact ⟨c, b, hc, hb, h⟩
theorem bestL_max {ls : List Lg} (h : ls ≠ []) : ∃ b ∈ ls, bestL ls = b.2 ∧ ∀ a ∈ ls, a.1 < b.1 ∨ (a.1 = b.1 ∧ a.2.length ≤ b.2.length) := by
  have hp := List.length_pos_iff.2 h
  have hr := bestQ_range ls ls.length
  have h0 := hr.2.2 hp
  obtain ⟨b, hb⟩ : ∃ b, ls[(bestQ ls ls.length).toNat]? = some b := ⟨ls[(bestQ ls ls.length).toNat]'(by omega), List.getElem?_eq_getElem (by omega)⟩
  refine ⟨b, List.mem_of_getElem? hb, by unfold bestL; rw [hb], fun a ha => ?_⟩
  obtain ⟨j, hj⟩ := List.mem_iff_getElem?.1 ha
  obtain ⟨a', b', h1, h2, h3⟩ := bestQ_max ls ls.length (Nat.le_refl _) j (List.getElem?_eq_some_iff.1 hj).1
  rw [hj] at h1; obtain rfl := Option.some.inj h1
  rw [hb] at h2; obtain rfl := Option.some.inj h2
  exact h3
theorem two_prefix {a b c : List Ent} (h1 : a <+: c) (h2 : b <+: c) (h : a.length ≤ b.length) : a <+: b := List.prefix_of_prefix_length_le h1 h2 h
/-! ### A writer begins -/
def WOk (g : Gh) (done : List Ent) (last : Int) (w : Wr) : Prop := w.e = 0 ∨ (0 < w.e ∧ w.e ≤ 9007199254740991 ∧ w.e ≤ last ∧ w.over = false ∧ g.lo w.e ≠ none ∧ ((g.hi w.e).length : Int) = w.n ∧ (w.e = last → g.hi w.e = done))
def gset (g : Gh) (c : Int) (l : Option (List Ent)) (r : List Ent) : Gh := ⟨fun e => if e = c then l else g.lo e, fun e => if e = c then r else g.hi e⟩
theorem gset_le {g : Gh} {c : Int} (h : g.lo c = none) (l r : List Ent) : g.Le (gset g c (some l) r) :=
  ⟨fun e l' he => by
    have hne : e ≠ c := fun hh => by rw [hh, h] at he; cases he
    simp only [gset, if_neg hne]; exact he, fun e l' he => by
    have hne : e ≠ c := fun hh => by rw [hh, h] at he; cases he
    simp only [gset, if_neg hne]; exact List.prefix_refl _⟩
theorem ValS.mono {g g' : Gh} (h : g.Le g') {s : List UInt8} (hs : ValS g s) : ValS g' s := fun q hq => (hs q hq).mono h
/-- More is known of what was asked. -/
theorem Sys.more {g g' : Gh} {xs : List Nd} {m : List Msg} (h : Sys g xs m) (hle : g.Le g') (hok : g'.Ok) (hch : ∀ c l, g'.lo c = some l → (∃ l', g.lo c = some l') ∨ Maj xs.length (HasAt xs (Prm c))) : Sys g' xs m :=
  ⟨hok, fun i x hx => ⟨(h.nodes i x hx).1, (h.nodes i x hx).2.mono fun K hK => hK.mono hle⟩, fun z hz => ⟨(h.mail z hz).1, (h.mail z hz).2.1, (h.mail z hz).2.2.1.mono hle, (h.mail z hz).2.2.2⟩, fun c l hc => by
    rcases hch c l hc with ⟨l', hl'⟩ | h'
    · exact h.ch c l' hl'
    · exact h'⟩
theorem prom_phase {g : Gh} {xs : List Nd} {m : List Msg} {done : List Ent} {last : Int} (h : Sys g xs m) (hd : Dn g xs done last) {w : Wr} {ep : Int} (h1 : 1 ≤ ep) (h2 : ep ≤ 9007199254740991) {fs : List Int} (he : (allM w xs m (promS ep) fs).err = 0) :
    ∃ L, bestL (allM w xs m (promS ep) fs).logs = L ∧ last < ep ∧ done <+: L ∧ logOk ep L = true ∧ (∀ c l, g.lo c = some l → c < ep) ∧
    Sys (gset g ep (some L) L) (ndsM fs (promS ep) xs xs.length) (gotsM fs (promS ep) xs m xs.length).m ∧ Dn (gset g ep (some L) L) (ndsM fs (promS ep) xs xs.length) done last := by
  obtain ⟨e1, e2, e3⟩ := all_maj he
  have hq := read_prom (ep := ep) ⟨h1, h2⟩
  have hv : ValS g (bs (promS ep)) := fun q hq' => by
    rw [hq] at hq'; obtain rfl := Option.some.inj hq'
    exact ⟨fun h => absurd h.symm kAP, fun h => absurd h.symm kWP⟩
  have hresp : ∀ i t, respM fs (promS ep) xs i = some t → ∃ x K, Resp g fs (promS ep) xs ⟨kP, ep, []⟩ i t x K ∧ x.J.p < ep ∧ K = { x.J with p := ep } ∧ t = (x.J.e, x.J.xs) := fun i t ht => by
    obtain ⟨q, x, K, a1, a2⟩ := resp_of h hv ht
    rw [hq] at a1; obtain rfl := Option.some.inj a1
    obtain ⟨b1, b2⟩ := a2.ack.p rfl
    exact ⟨x, K, a2, b1, b2, by have := a2.t rfl; rw [this, b2]⟩
  have hsys := h.all hv fs
  have hdn := hd.all (promS ep) fs
  have hlate : ∀ c l, g.lo c = some l → c < ep := fun c l hc => by
    obtain ⟨i, hi, hP, t, ht⟩ := (h.ch c l hc).meet e2
    obtain ⟨x, K, a1, a2, _, _⟩ := hresp i t ht
    have := a1.now hP
    unfold Prm at this; omega
  have hnone : g.lo ep = none := by
    cases hh : g.lo ep with
    | none => rfl
    | some l => have := hlate ep l hh; omega
  have hmem : ∀ i t, i < xs.length → respM fs (promS ep) xs i = some t → t ∈ (allM w xs m (promS ep) fs).logs := fun i t hi ht => by
    rw [e1]; exact List.mem_filterMap.2 ⟨i, List.mem_range.2 hi, ht⟩
  have hne : (allM w xs m (promS ep) fs).logs ≠ [] := by
    obtain ⟨i, hi, ⟨t, ht⟩, _⟩ := e2.meet e2
    exact List.ne_nil_of_mem (hmem i t hi ht)
  obtain ⟨b, hb, hbL, hbm⟩ := bestL_max hne
  obtain ⟨j, hj, hjt⟩ : ∃ j, j < xs.length ∧ respM fs (promS ep) xs j = some b := by
    rw [e1] at hb
    obtain ⟨j, hj, hjt⟩ := List.mem_filterMap.1 hb
    exact ⟨j, List.mem_range.1 hj, hjt⟩
  obtain ⟨y, Ky, y1, y2, y3, y4⟩ := hresp j b hjt
  refine ⟨_, hbL, ?_⟩
  have hge := y1.good
  rw [y4] at hbm ⊢
  simp only at hbm ⊢
  have hlast : 0 < last → ∃ i t x K, Resp g fs (promS ep) xs ⟨kP, ep, []⟩ i t x K ∧ x.J.p < ep ∧ Holds last done x.J ∧ (x.J.e < y.J.e ∨ (x.J.e = y.J.e ∧ x.J.xs.length ≤ y.J.xs.length)) := fun hp => by
    obtain ⟨i, hi, hP, t, ht⟩ := ((hd.h hp).2.2).meet e2
    obtain ⟨x, K, a1, a2, a3, a4⟩ := hresp i t ht
    have := hbm t (hmem i t hi ht)
    rw [a4] at this
    exact ⟨i, t, x, K, a1, a2, a1.now hP, this⟩
  have hlt : last < ep := by
    have hp0 := hd.p
    rcases Int.lt_or_le 0 last with hp | hp
    · obtain ⟨i, t, x, K, a1, a2, a3, a4⟩ := hlast hp
      have hep := a1.k.ep
      unfold Holds at a3
      omega
    · omega
  have hpre : done <+: y.J.xs := by
    rcases Int.lt_or_le 0 last with hp | hp
    · obtain ⟨i, t, x, K, a1, a2, a3, a4⟩ := hlast hp
      have hgx := a1.good
      unfold Holds at a3
      have hmore : last < y.J.e → done <+: y.J.xs := fun hlt => by
        rcases hge with ⟨hz, _⟩ | ⟨l, hl1, hl2, _⟩
        · omega
        · exact (hd.later _ l hl1 hlt).trans hl2
      by_cases hlt : last < y.J.e
      · exact hmore hlt
      · have h3 : x.J.e = last ∧ done <+: x.J.xs := by
          rcases a3 with a3 | a3
          · omega
          · exact a3
        have hye : y.J.e = last := by omega
        rcases hge with ⟨hz, _⟩ | ⟨l, hl1, hl2, hl3⟩
        · omega
        · rcases hgx with ⟨hz, _⟩ | ⟨l', hx1, hx2, hx3⟩
          · omega
          · rw [hye] at hl3; rw [h3.1] at hx3
            exact h3.2.trans (two_prefix hx3 hl3 (by omega))
    · have := hd.p
      rw [hd.z (by omega)]; exact List.nil_prefix
  have hle := gset_le hnone y.J.xs y.J.xs
  have hok' : (gset g ep (some y.J.xs) y.J.xs).Ok := ⟨fun c l hc => by
    simp only [gset] at hc ⊢
    split at hc
    · rename_i hce
      rw [if_pos hce]
      obtain rfl := Option.some.inj hc
      exact List.prefix_refl _
    · rename_i hce
      rw [if_neg hce]
      exact h.ok.pre c l hc⟩
  refine ⟨hlt, hpre, ?_, hlate, hsys.more hle hok' (fun c l hc => ?_), ⟨hdn.z, hdn.p, fun hp => ?_, fun c l hc hlc => ?_⟩⟩
  · obtain ⟨⟨_, _, l3⟩, l4⟩ := logOk_iff.1 y1.k.ok.log
    exact logOk_iff.2 ⟨⟨by omega, h2, l3⟩, l4⟩
  · simp only [gset] at hc
    split at hc
    · rename_i hce
      refine .inr ?_
      rw [ndsM_len]
      refine e2.mono fun i hi ⟨t, ht⟩ => ?_
      obtain ⟨x, K, a1, a2, a3, a4⟩ := hresp i t ht
      exact a1.at' _ (by unfold Prm; rw [a3, hce]; exact Int.le_refl _) (prm_cl c _)
    · exact .inl ⟨l, hc⟩
  · obtain ⟨q1, q2, q3⟩ := hdn.h hp
    have hle2 : last ≠ ep := by omega
    simp only [gset, if_neg hle2]
    exact ⟨q1, q2, q3⟩
  · simp only [gset] at hc
    split at hc
    · obtain rfl := Option.some.inj hc
      exact hpre
    · exact hdn.later c l hc hlc
theorem acc_phase {g : Gh} {xs : List Nd} {m : List Msg} {done : List Ent} {last : Int} (h : Sys g xs m) (hd : Dn g xs done last) {w : Wr} {ep : Int} (h1 : 1 ≤ ep) {L : List Ent} (hL : logOk ep L = true) (hlo : g.lo ep = some L) (hhi : g.hi ep = L) (hlate : ∀ c l, g.lo c = some l → c ≤ ep) (fs : List Int) :
    Sys g (ndsM fs (accS ep L) xs xs.length) (gotsM fs (accS ep L) xs m xs.length).m ∧ Dn g (ndsM fs (accS ep L) xs xs.length) done last ∧
    ((allM w xs m (accS ep L) fs).err = 0 → Dn g (ndsM fs (accS ep L) xs xs.length) L ep) := by
  have hq := read_acc h1 hL
  have hv : ValS g (bs (accS ep L)) := fun q hq' => by
    rw [hq] at hq'; obtain rfl := Option.some.inj hq'
    exact ⟨fun _ => hlo, fun hh => absurd hh kAW⟩
  refine ⟨h.all hv fs, hd.all _ fs, fun he => ?_⟩
  obtain ⟨e1, e2, e3⟩ := all_maj he
  refine ⟨fun hz => by omega, by omega, fun _ => ⟨by rw [hlo]; simp, by rw [hhi]; exact List.prefix_refl _, ?_⟩, fun c l hc hlc => by have := hlate c l hc; omega⟩
  rw [ndsM_len]
  refine e2.mono fun i hi ⟨t, ht⟩ => ?_
  obtain ⟨q, x, K, a1, a2⟩ := resp_of h hv ht
  rw [hq] at a1; obtain rfl := Option.some.inj a1
  obtain ⟨b1, b2⟩ := a2.ack.a rfl
  exact a2.at' _ (.inr ⟨b1, beg_prefix b2⟩) (holds_cl _ _ _)
/-- A writer begins: what is right behind it. -/
theorem begin_safe {g : Gh} {xs : List Nd} {m : List Msg} {done : List Ent} {last : Int} (h : Sys g xs m) (hd : Dn g xs done last) {w : Wr} (hw : WOk g done last w) (ep : Int) (fs : List Int) {r : Out1} (hr : beginM w xs m ep fs = r) :
    ∃ g', g.Le g' ∧ (∀ c l, g.lo c = some l → g'.hi c = g.hi c) ∧ Sys g' r.xs r.m ∧ r.xs.length = xs.length ∧
      ((r.err ≠ 0 ∧ Dn g' r.xs done last ∧ (r.w = ⟨0, 0, true⟩ ∨ r.w = w)) ∨
       (r.err = 0 ∧ Dn g' r.xs r.l ep ∧ done <+: r.l ∧ last < ep ∧ r.w = ⟨ep, r.l.length, false⟩ ∧ g.lo ep = none ∧ g'.lo ep = some r.l ∧ g'.hi ep = r.l ∧ 1 ≤ ep ∧ ep ≤ 9007199254740991 ∧ r.l.length ≤ 300)) := by
  subst hr
  have hrefl : g.Le g := ⟨fun _ _ h => h, fun _ _ _ => List.prefix_refl _⟩
  unfold beginM
  by_cases h1 : w.over = true ∨ 0 < w.e
  · rw [if_pos h1]
    exact ⟨g, hrefl, fun _ _ _ => rfl, h, rfl, .inl ⟨by simp, hd, .inr rfl⟩⟩
  · rw [if_neg h1]
    simp only [not_or] at h1
    have hwe : w.e = 0 := by rcases hw with hw | ⟨hw, _⟩ <;> omega
    by_cases h2 : ep < 1 ∨ 9007199254740991 < ep
    · rw [if_pos h2]
      exact ⟨g, hrefl, fun _ _ _ => rfl, h, rfl, .inl ⟨by simp, hd, .inr rfl⟩⟩
    · rw [if_neg h2]
      simp only [not_or, Int.not_lt] at h2
      by_cases h3 : (allM w xs m (promS ep) fs).err ≠ 0
      · obtain ⟨e, e1, e2⟩ := all_bad h3
        have hq := read_prom (ep := ep) h2
        have hv : ValS g (bs (promS ep)) := fun q hq' => by
          rw [hq] at hq'; obtain rfl := Option.some.inj hq'
          exact ⟨fun h => absurd h.symm kAP, fun h => absurd h.symm kWP⟩
        simp only [e2]
        rw [if_pos e1]
        exact ⟨g, hrefl, fun _ _ _ => rfl, h.all hv fs, ndsM_len _ _ _ _, .inl ⟨e1, hd.all _ fs, .inl rfl⟩⟩
      · have h4 : (allM w xs m (promS ep) fs).err = 0 := Decidable.byContradiction h3
        obtain ⟨L, p1, p2, p3, p4, p5, p6, p7⟩ := prom_phase h hd h2.1 h2.2 h4
        simp only
        rw [if_neg h3, p1, (all_maj h4).1]
        simp only
        have hnone : g.lo ep = none := by
          cases hh : g.lo ep with
          | none => rfl
          | some l => have := p5 ep l hh; omega
        have hlen := ndsM_len fs (promS ep) xs xs.length
        have hsame : ∀ c l, g.lo c = some l → (gset g ep (some L) L).hi c = g.hi c := fun c l hc => by
          have hne : c ≠ ep := fun hh => by rw [hh, hnone] at hc; cases hc
          simp only [gset, if_neg hne]
        generalize ndsM fs (promS ep) xs xs.length = ys at p6 p7 hlen ⊢
        generalize (gotsM fs (promS ep) xs m xs.length).m = m1 at p6 ⊢
        unfold begin2
        rw [← hlen] at *
        obtain ⟨a1, a2, a3⟩ := acc_phase (w := w) p6 p7 h2.1 p4 (by simp [gset]) (by simp [gset]) (fun c l hc => by
          simp only [gset] at hc
          split at hc
          · omega
          · have := p5 c l hc; omega) (fs.drop (min fs.length ys.length))
        simp only
        by_cases h5 : (allM w ys m1 (accS ep L) (fs.drop (min fs.length ys.length))).err ≠ 0
        · obtain ⟨e, e1, e2⟩ := all_bad h5
          rw [if_pos h5, e2]
          exact ⟨_, gset_le hnone L L, hsame, a1, ndsM_len _ _ _ _, .inl ⟨e1, a2, .inl rfl⟩⟩
        · have h6 : (allM w ys m1 (accS ep L) (fs.drop (min fs.length ys.length))).err = 0 := Decidable.byContradiction h5
          rw [if_neg h5, (all_maj h6).1]
          refine ⟨_, gset_le hnone L L, hsame, a1, ndsM_len _ _ _ _, .inr ⟨rfl, a3 h6, p3, p2, ?_, hnone, by simp [gset], by simp [gset], h2.1, h2.2, ?_⟩⟩
          · have : w.over = false := by cases hh : w.over with | false => rfl | true => exact absurd hh h1.1
            simp only [this]
          · exact (logOk_iff.1 p4).1.2.2
/-- A writer writes: what is right behind it. -/
theorem write_safe {g : Gh} {xs : List Nd} {m : List Msg} {done : List Ent} {last : Int} (h : Sys g xs m) (hd : Dn g xs done last) {w : Wr} (hw : WOk g done last w) (s : ByteArray) (fs : List Int) {r : Out1} (hr : writeM w xs m s fs = r) :
    ∃ g', g.Le g' ∧ (∀ c l, g.lo c = some l → c ≠ w.e → g'.hi c = g.hi c) ∧ (∀ c, g'.lo c = g.lo c) ∧ Sys g' r.xs r.m ∧ r.xs.length = xs.length ∧
      ((r.err ≠ 0 ∧ Dn g' r.xs done last ∧ (r.w = ⟨0, 0, true⟩ ∨ (r.w = w ∧ g' = g))) ∨
       (r.err = 0 ∧ 0 < w.e ∧ w.e = last ∧ w.n < 300 ∧ w.n = (done.length : Int) ∧ r.w = { w with n := w.n + 1 } ∧ g'.hi last = done ++ [⟨w.n + 1, s⟩] ∧ Dn g' r.xs (done ++ [⟨w.n + 1, s⟩]) last)) := by
  subst hr
  have hrefl : g.Le g := ⟨fun _ _ h => h, fun _ _ _ => List.prefix_refl _⟩
  unfold writeM
  by_cases h1 : w.over = true ∨ w.e = 0
  · rw [if_pos h1]
    exact ⟨g, hrefl, fun _ _ _ _ => rfl, fun _ => rfl, h, rfl, .inl ⟨by simp, hd, .inr ⟨rfl, rfl⟩⟩⟩
  rw [if_neg h1]
  by_cases h2 : 600 < s.size
  · rw [if_pos h2]
    exact ⟨g, hrefl, fun _ _ _ _ => rfl, fun _ => rfl, h, rfl, .inl ⟨by simp, hd, .inr ⟨rfl, rfl⟩⟩⟩
  rw [if_neg h2]
  by_cases h3 : 300 ≤ w.n
  · rw [if_pos h3]
    exact ⟨g, hrefl, fun _ _ _ _ => rfl, fun _ => rfl, h, rfl, .inl ⟨by simp, hd, .inr ⟨rfl, rfl⟩⟩⟩
  rw [if_neg h3]
  simp only [not_or] at h1
  obtain ⟨w1, hep, w2, w3, w4, w5, w6⟩ : 0 < w.e ∧ w.e ≤ 9007199254740991 ∧ w.e ≤ last ∧ w.over = false ∧ g.lo w.e ≠ none ∧ ((g.hi w.e).length : Int) = w.n ∧ (w.e = last → g.hi w.e = done) := hw.resolve_left h1.2
  obtain ⟨l0, hl0⟩ := Option.ne_none_iff_exists'.1 w4
  obtain ⟨g', hg'⟩ : ∃ g', g' = gset g w.e (some l0) (g.hi w.e ++ [⟨w.n + 1, s⟩]) := ⟨_, rfl⟩
  have hlo : ∀ c, g'.lo c = g.lo c := fun c => by
    rw [hg']; simp only [gset]; split
    · rename_i hc; rw [hc, hl0]
    · rfl
  have hhe : g'.hi w.e = g.hi w.e ++ [⟨w.n + 1, s⟩] := by rw [hg']; simp [gset]
  have hho : ∀ c, c ≠ w.e → g'.hi c = g.hi c := fun c hc => by rw [hg']; simp only [gset, if_neg hc]
  have hle : g.Le g' := ⟨fun c l hc => by rw [hlo, hc], fun c l hc => by
    by_cases hce : c = w.e
    · rw [hce, hhe]; exact List.prefix_append _ _
    · rw [hho c hce]; exact List.prefix_refl _⟩
  have hok : g'.Ok := ⟨fun c l hc => (h.ok.pre c l (by rw [← hlo]; exact hc)).trans (hle.hi c l (by rw [← hlo]; exact hc))⟩
  have h' : Sys g' xs m := h.more hle hok (fun c l hc => .inl ⟨l, by rw [← hlo]; exact hc⟩)
  have hd' : Dn g' xs done last := ⟨hd.z, hd.p, fun hp => ⟨by rw [hlo]; exact (hd.h hp).1, by
    obtain ⟨q1, q2, q3⟩ := hd.h hp
    obtain ⟨l, hl⟩ := Option.ne_none_iff_exists'.1 q1
    exact q2.trans (hle.hi _ l hl), (hd.h hp).2.2⟩, fun c l hc => hd.later c l (by rw [← hlo]; exact hc)⟩
  have hbound : 0 ≤ w.n := by omega
  have hq := read_add (ep := w.e) (n := w.n + 1) (s := s) ⟨by omega, hep⟩ ⟨by omega, by omega⟩ (by omega)
  have hv : ValS g' (bs (addS w.e (w.n + 1) s)) := fun q hq' => by
    rw [hq] at hq'
    obtain rfl := Option.some.inj hq'
    refine ⟨fun hh => absurd hh.symm kAW, fun _ x hx => ⟨l0, by rw [hlo, hl0], ?_⟩⟩
    simp only [List.cons.injEq, and_true] at hx
    subst hx
    simp only
    rw [hhe, show (w.n + 1 - 1).toNat = (g.hi w.e).length from by omega]
    simp
  have hsys := h'.all hv fs
  have hdn := hd'.all (addS w.e (w.n + 1) s) fs
  by_cases h4 : (allM w xs m (addS w.e (w.n + 1) s) fs).err = 0
  · obtain ⟨e1, e2, e3⟩ := all_maj h4
    have hresp : ∀ i t, respM fs (addS w.e (w.n + 1) s) xs i = some t → ∃ x K, Resp g' fs (addS w.e (w.n + 1) s) xs ⟨kW, w.e, [⟨w.n + 1, s⟩]⟩ i t x K := fun i t ht => by
      obtain ⟨q, x, K, a1, a2⟩ := resp_of h' hv ht
      rw [hq] at a1; obtain rfl := Option.some.inj a1
      exact ⟨x, K, a2⟩
    have hlast : w.e = last := by
      obtain ⟨i, hi, hP, t, ht⟩ := ((hd.h (by omega)).2.2).meet e2
      obtain ⟨x, K, a⟩ := hresp i t ht
      have h5 := a.now hP
      have h6 := a.ack.np kWP
      have h7 := a.k.ep
      simp only at h6
      unfold Holds at h5
      omega
    have hlate : ∀ c l, g.lo c = some l → ¬ last < c := fun c l hc hlt => by
      obtain ⟨i, hi, hP, t, ht⟩ := (h.ch c l hc).meet e2
      obtain ⟨x, K, a⟩ := hresp i t ht
      have h5 := a.now hP
      have h6 := a.ack.np kWP
      simp only at h6
      unfold Prm at h5
      omega
    have hdone := w6 hlast
    simp only [e1, if_true]
    refine ⟨g', hle, fun c l hc hne => hho c hne, hlo, hsys, ndsM_len _ _ _ _, .inr ⟨trivial, w1, hlast, by omega, by rw [← hdone, w5], trivial, by rw [← hlast, hhe, hdone], ?_⟩⟩
    refine ⟨fun hz => by omega, hd.p, fun hp => ⟨by rw [hlo]; exact (hd.h hp).1, by rw [← hlast, hhe, hdone]; exact List.prefix_refl _, ?_⟩, fun c l hc hlc => absurd hlc (hlate c l (by rw [← hlo]; exact hc))⟩
    rw [ndsM_len]
    refine e2.mono fun i hi ⟨t, ht⟩ => ?_
    obtain ⟨x, K, a⟩ := hresp i t ht
    obtain ⟨y, hy, b1, b2, b3⟩ := a.ack.w rfl
    simp only [List.cons.injEq, and_true] at hy
    subst hy
    simp only at b1 b2 b3
    refine a.at' _ (.inr ⟨by rw [b1, hlast], ?_⟩) (holds_cl _ _ _)
    rcases a.kk with ⟨hz, _⟩ | ⟨l, c1, c2, c3⟩
    · omega
    · rw [b1, hhe, hdone] at c3
      have hn : (w.n + 1 - 1).toNat = done.length := by rw [hdone] at w5; omega
      rw [hn] at b3
      have hlen := (List.getElem?_eq_some_iff.1 b3).1
      have := c3.length_le
      simp only [List.length_append, List.length_cons, List.length_nil] at this
      exact two_prefix (List.prefix_refl _) c3 (by simp only [List.length_append, List.length_cons, List.length_nil]; omega) |> fun _ => by
        have he := c3.eq_of_length (by simp only [List.length_append, List.length_cons, List.length_nil]; omega)
        rw [he]; exact List.prefix_refl _
  · obtain ⟨e, e1, e2⟩ := all_bad h4
    simp only [e2, if_neg e1]
    exact ⟨g', hle, fun c l hc hne => hho c hne, hlo, hsys, ndsM_len _ _ _ _, .inl ⟨e1, hdn, .inl trivial⟩⟩
end Go.Proofs.YtfolmcpfdcgliaaGreat.B.Q2
