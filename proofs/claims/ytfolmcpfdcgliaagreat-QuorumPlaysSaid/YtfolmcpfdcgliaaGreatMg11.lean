import Derived.Test.YtfolmcpfdcgliaaGreatMg6
import Derived.Test.YtfolmcpfdcgliaaGreatMg10
set_option linter.unusedVariables false
set_option linter.unusedSimpArgs false
set_option maxRecDepth 8000
namespace Go.Proofs.YtfolmcpfdcgliaaGreat.B
open Go
section
variable {P : Program} {ops : Array Oper} {md : Region.Mode} {C0 C1 C2 : World → Prop} {s1 s2 : Nat}
def quietZ (P : Program) (s1 s2 : Nat) (C0 C1 C2 : World → Prop) (i : Nat) (o : Oper) (a : Act) (v : Value) : Prop :=
  if i = s1 then (∀ w, C0 w → ∃ w', (execOp a.eval o).run P w = .ok (.value v) w' ∧ C1 w')
  else if i = s2 then (∀ w, C1 w → ∃ w', (execOp a.eval o).run P w = .ok (.value v) w' ∧ C2 w')
  else (∀ w, C0 w → o.quietAt P a C0 w v) ∧ (∀ w, C1 w → o.quietAt P a C1 w v) ∧ (∀ w, C2 w → o.quietAt P a C2 w v)
theorem quietZ_same {i : Nat} {o : Oper} {a a' : Act} {v : Value} (he : execOp a'.eval o = execOp a.eval o) (h : quietZ P s1 s2 C0 C1 C2 i o a v) : quietZ P s1 s2 C0 C1 C2 i o a' v := by
  unfold quietZ Oper.quietAt at *; rw [he]; exact h
def YZ (P : Program) (ops : Array Oper) (s1 s2 : Nat) (C0 C1 C2 : World → Prop) (i : Nat) (o : Oper) (v : Value) (a : Act) : Prop :=
  (Region.wanted o (yielded ops a.tmps) = true ∧ quietZ P s1 s2 C0 C1 C2 i o a v) ∨ ((i ≠ s1 ∧ i ≠ s2) ∧ Region.wanted o (yielded ops a.tmps) = false ∧ v = undef)
theorem YZ.of_same {i : Nat} {o : Oper} {v : Value} {a a' : Act} (hy : YZ P ops s1 s2 C0 C1 C2 i o v a) (he : execOp a'.eval o = execOp a.eval o)
    (hw : Region.wanted o (yielded ops a'.tmps) = Region.wanted o (yielded ops a.tmps)) : YZ P ops s1 s2 C0 C1 C2 i o v a' := by
  unfold YZ
  rw [hw]
  rcases hy with ⟨h1, h2⟩ | h
  · exact .inl ⟨h1, quietZ_same he h2⟩
  · exact .inr h
def headZ (P : Program) (md : Region.Mode) (ops : Array Oper) (s1 s2 : Nat) (C0 C1 C2 : World → Prop) (n : Nat) (K : Array Bool → Act → Prop) : Nat → Array Bool → Act → Prop
  | 0, listed, a => K listed a
  | f + 1, listed, a => Region.ready md ops listed ≠ [] ∧ ∀ i ∈ Region.ready md ops listed, i < n ∧ ∃ o, ops[i]? = some o ∧ ∃ v, YZ P ops s1 s2 C0 C1 C2 i o v a ∧ headZ P md ops s1 s2 C0 C1 C2 n K f (listed.setIfInBounds i true) (a.put o.dst v)
def Ph2 (s1 s2 : Nat) (C0 C1 C2 : World → Prop) (listed : Array Bool) (w : World) : Prop := if listed.getD s2 true = true then C2 w else if listed.getD s1 true = true then C1 w else C0 w
theorem any_of_headZ {n g : Nat} (hne : s1 ≠ s2) (hdep : ∀ o, ops[s2]? = some o → ∃ e ∈ o.after, Region.binds md e = true ∧ e.on = s1) {K : Array Bool → Act → Prop} {Q' : Exit → Act → World → Prop} (hK : ∀ listed a w, Ph2 s1 s2 C0 C1 C2 listed w → K listed a → wpAny P md ops Q' g listed a w) :
    ∀ (f : Nat) (listed : Array Bool) (a : Act) (w : World), (listed.getD s1 true = false → listed.getD s2 true = false) → Ph2 s1 s2 C0 C1 C2 listed w → headZ P md ops s1 s2 C0 C1 C2 n K f listed a → wpAny P md ops Q' (f + g) listed a w
  | 0, listed, a, w, _, hw, h => by rw [Nat.zero_add]; exact hK _ _ _ hw h
  | f + 1, listed, a, w, hinv, hw, h => by
    rw [show f + 1 + g = (f + g) + 1 from by omega]
    refine ⟨fun h0 => absurd h0 h.1, fun i hi => ?_⟩
    obtain ⟨hin, o, ho, v, hy, hn⟩ := h.2 i hi
    obtain ⟨hun, o', ho', hall⟩ := mem_ready.1 hi
    have hinv' : (listed.setIfInBounds i true).getD s1 true = false → (listed.setIfInBounds i true).getD s2 true = false := fun h1 => by
      have h1s : i ≠ s1 := fun e => by rw [e, getD_set_self] at h1; cases h1
      rw [getD_set_ne true h1s] at h1
      have h2 := hinv h1
      by_cases his2 : i = s2
      · subst his2
        rw [ho] at ho'
        obtain rfl := Option.some.inj ho'
        obtain ⟨e, he, hb, hon⟩ := hdep o ho
        have h3 := hall e he hb
        rw [hon, getD_both h1] at h3
        cases h3
      · rw [getD_set_ne true his2]; exact h2
    unfold wpOp
    simp only [ho]
    rcases hy with ⟨h1, h2⟩ | ⟨h0, h1, rfl⟩
    · simp only [h1, if_true]
      left
      unfold quietZ at h2
      by_cases his1 : i = s1
      · rw [if_pos his1] at h2
        have hs1 : listed.getD s1 true = false := by rw [← his1]; exact hun
        have hs2 := hinv hs1
        unfold Ph2 at hw
        rw [hs2, hs1, if_neg (by decide), if_neg (by decide)] at hw
        obtain ⟨w', h3, h4⟩ := h2 w hw
        unfold Oper.wp
        rw [h3, Oper.upon_value]
        exact any_of_headZ hne hdep hK f _ _ _ hinv' (by unfold Ph2; rw [his1, getD_set_ne true hne, hs2, if_neg (by decide), getD_set_self, if_pos rfl]; exact h4) hn
      · rw [if_neg his1] at h2
        by_cases his2 : i = s2
        · rw [if_pos his2] at h2
          have hs2 : listed.getD s2 true = false := by rw [← his2]; exact hun
          have hs1 : listed.getD s1 true = true := by
            cases hc : listed.getD s1 true with
            | true => rfl
            | false =>
              rw [ho] at ho'
              obtain rfl := Option.some.inj ho'
              obtain ⟨e, he, hb, hon⟩ := hdep o (by rw [← his2]; exact ho)
              have h3 := hall e he hb
              rw [hon, getD_both hc] at h3
              cases h3
          unfold Ph2 at hw
          rw [hs2, hs1, if_neg (by decide), if_pos rfl] at hw
          obtain ⟨w', h3, h4⟩ := h2 w hw
          unfold Oper.wp
          rw [h3, Oper.upon_value]
          exact any_of_headZ hne hdep hK f _ _ _ hinv' (by unfold Ph2; rw [his2, getD_set_self, if_pos rfl]; exact h4) hn
        · rw [if_neg his2] at h2
          have e1 : (listed.setIfInBounds i true).getD s1 true = listed.getD s1 true := getD_set_ne true his1
          have e2 : (listed.setIfInBounds i true).getD s2 true = listed.getD s2 true := getD_set_ne true his2
          unfold Ph2 at hw
          by_cases hp2 : listed.getD s2 true = true
          · rw [if_pos hp2] at hw
            refine Oper.wp_of_quiet (C := C2) (K := fun a' => headZ P md ops s1 s2 C0 C1 C2 n K f (listed.setIfInBounds i true) a') hw (fun a' w' hw' h' => any_of_headZ hne hdep hK f _ _ _ hinv' ?_ h') ⟨v, h2.2.2, hn⟩
            unfold Ph2; rw [e2, if_pos hp2]; exact hw'
          · rw [if_neg hp2] at hw
            by_cases hp1 : listed.getD s1 true = true
            · rw [if_pos hp1] at hw
              refine Oper.wp_of_quiet (C := C1) (K := fun a' => headZ P md ops s1 s2 C0 C1 C2 n K f (listed.setIfInBounds i true) a') hw (fun a' w' hw' h' => any_of_headZ hne hdep hK f _ _ _ hinv' ?_ h') ⟨v, h2.2.1, hn⟩
              unfold Ph2; rw [e2, if_neg hp2, e1, if_pos hp1]; exact hw'
            · rw [if_neg hp1] at hw
              refine Oper.wp_of_quiet (C := C0) (K := fun a' => headZ P md ops s1 s2 C0 C1 C2 n K f (listed.setIfInBounds i true) a') hw (fun a' w' hw' h' => any_of_headZ hne hdep hK f _ _ _ hinv' ?_ h') ⟨v, h2.1, hn⟩
              unfold Ph2; rw [e2, if_neg hp2, e1, if_neg hp1]; exact hw'
    · simp only [h1, Bool.false_eq_true, if_false]
      exact any_of_headZ hne hdep hK f _ _ _ hinv' (by unfold Ph2 at *; rw [getD_set_ne true h0.1, getD_set_ne true h0.2]; exact hw) hn
theorem headZ_take {n i : Nat} {oi : Oper} {v : Value} {K : Array Bool → Act → Prop} (hi : ops[i]? = some oi) (hsel : ∀ (j : Nat) (o : Oper) cs b, ops[j]? = some o → o.op ≠ .select cs b)
    (hs : Region.sinkB md ops n = true) (hc : Region.chainB md ops n = true) (hn : n < ops.size) (hin : i < n) (hdone : ∀ listed a, K listed a → ∀ j ∈ Region.ready md ops listed, n ≤ j) :
    ∀ (f : Nat) (listed : Array Bool) (a : Act), HeadInv md ops n listed →
      (∀ j oj, ops[j]? = some oj → j ≠ i → listed.getD j true = false → (∀ e ∈ oj.after, Region.binds md e = true → e.on ≠ i) → oi.apart ops oj = true) →
      i ∈ Region.ready md ops listed → YZ P ops s1 s2 C0 C1 C2 i oi v a →
      headZ P md ops s1 s2 C0 C1 C2 n K f (listed.setIfInBounds i true) (a.put oi.dst v) → headZ P md ops s1 s2 C0 C1 C2 n K (f + 1) listed a := by
  intro f
  induction f with
  | zero =>
    intro listed a inv _ hr hy H
    refine ⟨fun h => (by rw [h] at hr; cases hr), fun j hj => ?_⟩
    have hjn : j < n := by
      rcases Nat.lt_or_ge j n with h | h
      · exact h
      · exact absurd hj (tail_waits hs hc hn inv _ i rfl hin (mem_ready.1 hr).1 j h)
    refine ⟨hjn, ?_⟩
    by_cases hji : j = i
    · subst hji; exact ⟨oi, hi, v, hy, H⟩
    · have := hdone _ _ H j (ready_mono hj hji)
      omega
  | succ f ih =>
    intro listed a inv hfree hr hy H
    have hun := (mem_ready.1 hr).1
    refine ⟨fun h => (by rw [h] at hr; cases hr), fun j hj => ?_⟩
    have hjn : j < n := by
      rcases Nat.lt_or_ge j n with h | h
      · exact h
      · exact absurd hj (tail_waits hs hc hn inv _ i rfl hin hun j h)
    refine ⟨hjn, ?_⟩
    by_cases hji : j = i
    · subst hji; exact ⟨oi, hi, v, hy, H⟩
    · obtain ⟨_, oj, hoj, u, hyj, H2⟩ := H.2 j (ready_mono hj hji)
      obtain ⟨hjun, oj', hoj', hall⟩ := mem_ready.1 hj
      rw [hoj] at hoj'
      obtain rfl := Option.some.inj hoj'
      have hnot : ∀ e ∈ oj.after, Region.binds md e = true → e.on ≠ i := fun e he hb heq => by
        have h1 := hall e he hb
        rw [heq, getD_both hun] at h1
        cases h1
      have hap := hfree j oj hoj hji hjun hnot
      obtain ⟨h1, h2, h3⟩ := Oper.apart_spec hap
      have hyj' : YZ P ops s1 s2 C0 C1 C2 j oj u a := hyj.of_same (execOp_put oj (fun cs b => hsel j oj cs b hoj) a oi.dst v h1).symm (wanted_put oj a oi.dst v h1).symm
      have hyi' : YZ P ops s1 s2 C0 C1 C2 i oi v (a.put oj.dst u) := hy.of_same (execOp_put oi (fun cs b => hsel i oi cs b hi) a oj.dst u h3) (wanted_put oi a oj.dst u h3)
      have hfree' : ∀ k ok, ops[k]? = some ok → k ≠ i → (listed.setIfInBounds j true).getD k true = false →
          (∀ e ∈ ok.after, Region.binds md e = true → e.on ≠ i) → oi.apart ops ok = true := fun k ok hk hki hun hno => by
        refine hfree k ok hk hki ?_ hno
        by_cases hjk : j = k
        · subst hjk; exact hjun
        · rw [getD_set_ne true hjk] at hun; exact hun
      refine ⟨oj, hoj, u, hyj', ih (listed.setIfInBounds j true) _ (inv.set hj hjn) hfree' (ready_mono hr (Ne.symm hji)) hyi' ?_⟩
      rw [Array.setIfInBounds_comm _ _ hji, ← Act.put_comm a v u h2]
      exact H2
def wpZ (P : Program) (ops : Array Oper) (s1 s2 : Nat) (C0 C1 C2 : World → Prop) (Lq : Act → Prop) : List Oper → Nat → Act → Prop
  | [], _, a => Lq a
  | o :: rest, k, a => ∃ v, YZ P ops s1 s2 C0 C1 C2 k o v a ∧ wpZ P ops s1 s2 C0 C1 C2 Lq rest (k + 1) (a.put o.dst v)
theorem headZ_lex {n g : Nat} {Lq : Act → Prop} (hsel : Region.noSelect ops = true) (hs : Region.sinkB md ops n = true) (hc : Region.chainB md ops n = true) (hn : n < ops.size) :
    ∀ (l : List Oper) (k : Nat) (listed : Array Bool) (a : Act), (∀ j, j < l.length → l[j]? = ops[k + j]?) → k + l.length = n → HeadInv md ops n listed → (∀ j < k, listed.getD j true = true) →
    Region.lexHead md ops g l.length k listed = true → wpZ P ops s1 s2 C0 C1 C2 Lq l k a →
    headZ P md ops s1 s2 C0 C1 C2 n (fun listed' a' => Region.seqB md ops g n listed' = true ∧ Lq a' ∧ ∀ j < n, listed'.getD j true = true) l.length listed a
  | [], k, listed, a, _, hk, _, hall, hB, h => by
    have : k = n := by simpa using hk
    subst this
    exact ⟨by simpa [Region.lexHead] using hB, h, hall⟩
  | o :: l, k, listed, a, hl, hk, inv, hall, hB, h => by
    have h0 : ops[k]? = some o := by simpa using (hl 0 (by simp)).symm
    simp only [List.length_cons, Region.lexHead, Bool.and_eq_true] at hB
    obtain ⟨⟨hr, hf⟩, hB'⟩ := hB
    have hkn : k < n := by simp only [List.length_cons] at hk; omega
    have hr' : k ∈ Region.ready md ops listed := by simpa using hr
    obtain ⟨v, hy, hK⟩ := h
    exact headZ_take h0 (Region.noSelect_spec hsel) hs hc hn hkn (fun listed' a' hL => seqB_ready hL.1) l.length listed a inv (Region.free_spec h0 hf) hr' hy
      (headZ_lex hsel hs hc hn l (k + 1) _ _ (fun j hj => by have := hl (j + 1) (by simp; omega); simpa [Nat.add_assoc, Nat.add_comm 1 j] using this) (by simp only [List.length_cons] at hk; omega) (inv.set hr' hkn) (fun j hj => by
        by_cases hjk : k = j
        · subst hjk; exact getD_set_self
        · rw [getD_set_ne true hjk]; exact hall j (by omega)) hB' hK)
theorem wp_headZ {id : Nat} {Q : Exit → Act → World → Prop} {a : Act} {w : World} {l : List Oper} (n s1 s2 : Nat) (h12 : s1 < s2) (hsn : s2 < n) (hdep : ∀ o, l[s2]? = some o → ∃ e ∈ o.after, Region.binds .any e = true ∧ e.on = s1)
    (hm : P.follows .mixedOrders = true) (hB : Region.lexTailB .any l.toArray n = true) (hC : C0 { w with drawn := w.drawn + 1 })
    (h : wpZ P l.toArray s1 s2 C0 C1 C2 (fun a' => ∀ w', C2 w' → wpList P l.toArray Q (l.drop n) a' w') (l.take n) 0 a) : (Code.region id l.toArray true).wp P Q a w := by
  simp only [Region.lexTailB, Bool.and_eq_true, decide_eq_true_eq] at hB
  obtain ⟨⟨⟨⟨hsel, hn⟩, hs⟩, hc⟩, hlex⟩ := hB
  have hn' : n < l.length := by simpa using hn
  have htl : (l.take n).length = n := by simp; omega
  have hdl : (l.drop n).length = l.toArray.size - n := by simp
  have inv0 : HeadInv .any l.toArray n (Array.replicate l.toArray.size false) :=
    ⟨by simp, fun j oj _ hl => (by rw [getD_replicate_false] at hl; cases hl), fun t _ ht => getD_in (by simpa using ht) (getD_replicate_false _ _)⟩
  have H := headZ_lex (md := .any) (g := l.toArray.size - n) (s1 := s1) (s2 := s2) (C0 := C0) (C1 := C1) (C2 := C2) hsel hs hc hn (l.take n) 0 _ a (fun j hj => by
    have hj' : j < n := by rw [htl] at hj; exact hj
    simp [hj']) (by simpa using htl) inv0 (fun j hj => absurd hj (by omega)) (by rw [htl]; exact hlex) h
  refine wp_region_any hm ?_
  have z1 : (Array.replicate l.toArray.size false).getD s1 true = false := getD_in (by simp; omega) (getD_replicate_false _ _)
  have z2 : (Array.replicate l.toArray.size false).getD s2 true = false := getD_in (by simp; omega) (getD_replicate_false _ _)
  have := any_of_headZ (Q' := Q) (g := l.toArray.size - n) (by omega) (fun o ho => hdep o (by simpa using ho)) (fun listed a' w' hw' hL => by
    unfold Ph2 at hw'
    rw [hL.2.2 s2 hsn, if_pos rfl] at hw'
    have := wpAny_of_seq (md := .any) (Q' := Q) (l.drop n) n listed a' w' (fun j => by simp [List.getElem?_drop]) (by rw [hdl]; exact hL.1) (hL.2.1 w' hw')
    rwa [hdl] at this) _ _ _ _ (fun _ => z2) (by
      unfold Ph2
      rw [z2, z1, if_neg (by decide), if_neg (by decide)]
      exact hC) H
  rw [htl, show n + (l.toArray.size - n) = l.toArray.size from by omega] at this
  exact this
end
def Eff (P : Program) (n : Nat) (ds : List Deferred) (L : TL) (W0 : World) (G : List SL) (o : Oper) (R : Value → List SL → Prop) : Prop :=
  ∀ a w, Fr n ds L a → Sat W0 G w → ∃ v w' G', (execOp a.eval o).run P w = .ok (.value v) w' ∧ R v G' ∧ Sat W0 G' w'
theorem Eff.mono {P : Program} {n : Nat} {ds : List Deferred} {L : TL} {W0 : World} {G : List SL} {o : Oper} {R R' : Value → List SL → Prop} (h : Eff P n ds L W0 G o R) (hR : ∀ v G', R v G' → R' v G') : Eff P n ds L W0 G o R' := fun a w hf hs => by
  obtain ⟨v, w', G', h1, h2, h3⟩ := h a w hf hs
  exact ⟨v, w', G', h1, hR _ _ h2, h3⟩
def WZ (P : Program) (Q : Exit → Act → World → Prop) (n : Nat) (ds : List Deferred) (ops : Array Oper) (s1 s2 : Nat) (o1 o2 : Oper) (tail rest : List Oper) (k : Nat) (L : TL) (W0 : World) (Gq G : List SL) : Prop :=
  k + rest.length = s1 ∧ ∀ a w, Fr n ds L a → Sat W0 G w → ∃ w1 w2, Sat W0 Gq w ∧ Sat W0 Gq w1 ∧ Sat W0 Gq w2 ∧
    wpZ P ops s1 s2 (fun x => x = w) (fun x => x = w1) (fun x => x = w2) (fun a' => ∀ x, x = w2 → wpList P ops Q tail a' x) (rest ++ [o1, o2]) k a
section
variable {P : Program} (T : Tab P) {Q : Exit → Act → World → Prop} {n : Nat} {ds : List Deferred} {L : TL} {W0 : World} {Gq G : List SL} {ops : Array Oper} {rest tail : List Oper} {s1 s2 k : Nat} {o1 o2 : Oper}
  {op : Op} {ty : TypeId} {pos : String} {af : Array Edge}
theorem CS.drawZ (s : Nat) (Gq : List SL) {id : Nat} {l hd tl : List Oper} (hG : ∀ w, Sat W0 G w → Sat W0 Gq w) (hm : P.follows .mixedOrders = true) (hB : Region.lexTailB .any l.toArray (s + 2) = true) (hdep : (match l[s + 1]? with | some o => o.after.any fun e => Region.binds .any e && Nat.beq e.on s | none => false) = true)
    (hsp : splitV s l = some (hd, o1 :: o2 :: tl)) (h : WZ P Q n ds l.toArray s (s + 1) o1 o2 tl hd 0 L W0 Gq G) :
    CS P Q n ds (.region id l.toArray true) L W0 G := fun a w hf hs => by
  obtain ⟨h1, h2⟩ := splitV_eq hsp
  have hs' : Sat W0 G { w with drawn := w.drawn + 1 } := hs.same rfl ⟨rfl, rfl, rfl⟩
  obtain ⟨w1, w2, _, _, _, hX⟩ := h.2 a _ hf hs'
  have hls : l[s]? = some o1 := by
    have := congrArg (·[0]?) h2
    simpa [List.getElem?_drop] using this
  have hls2 : l[s + 1]? = some o2 := by
    have := congrArg (·[1]?) h2
    simpa [List.getElem?_drop] using this
  have ht : l.take (s + 2) = hd ++ [o1, o2] := by
    rw [List.take_add_one, List.take_add_one, h1, hls, hls2]
    simp
  have hdr : l.drop (s + 2) = tl := by
    have := congrArg (List.drop 2) h2
    rw [List.drop_drop] at this
    simpa using this
  refine wp_headZ (C0 := fun x => x = { w with drawn := w.drawn + 1 }) (C1 := fun x => x = w1) (C2 := fun x => x = w2) (s + 2) s (s + 1) (Nat.lt_succ_self s) (Nat.lt_succ_self _) (fun o ho => ?_) hm hB rfl ?_
  · rw [ho] at hdep
    simp only [Array.any_eq_true, Bool.and_eq_true] at hdep
    obtain ⟨i, hi, hb, hon⟩ := hdep
    exact ⟨_, Array.getElem_mem hi, hb, Nat.eq_of_beq_eq_true hon⟩
  · rw [ht, hdr]
    exact hX
theorem WZ.s {v : Value} {d : Nat} (h1 : Op1 P n ds L W0 Gq op ty v) (hd : Nat.blt d n = true) (h12 : Nat.blt s1 s2 = true) (h : WZ P Q n ds ops s1 s2 o1 o2 tail rest (k + 1) ((d, v) :: L) W0 Gq G) :
    WZ P Q n ds ops s1 s2 o1 o2 tail (⟨some d, op, ty, pos, af, none⟩ :: rest) k L W0 Gq G := by
  refine ⟨by have := h.1; simp only [List.length_cons]; omega, fun a w hf hs => ?_⟩
  obtain ⟨w1, w2, g0, g1, g2, hX⟩ := h.2 _ w (hf.put (d := some d) (v := v) hd) hs
  refine ⟨w1, w2, g0, g1, g2, v, .inl ⟨rfl, ?_⟩, hX⟩
  have hk1 : k ≠ s1 := by have := h.1; omega
  have hk2 : k ≠ s2 := by have := h.1; have : s1 < s2 := by simpa using h12
                          omega
  unfold quietZ
  rw [if_neg hk1, if_neg hk2]
  refine ⟨fun x hx => ?_, fun x hx => ?_, fun x hx => ?_⟩ <;> subst hx <;> unfold Oper.quietAt
  · rw [h1 a _ hf g0]; exact ⟨rfl, rfl⟩
  · rw [h1 a _ hf g1]; exact ⟨rfl, rfl⟩
  · rw [h1 a _ hf g2]; exact ⟨rfl, rfl⟩
theorem WZ.two {R1 : Value → List SL → Prop} {R2 : Value → List SL → Value → List SL → Prop} {d1 d2 : Nat} (hk : k = s1) (h12 : Nat.beq (s1 + 1) s2 = true) (hGq : ∀ w, Sat W0 G w → Sat W0 Gq w) (e1 : Eff P n ds L W0 G o1 R1) (hd1 : o1.dst = some d1) (hn1 : Nat.blt d1 n = true) (hg1 : o1.guard = none)
    (e2 : ∀ v G1, R1 v G1 → (∀ w, Sat W0 G1 w → Sat W0 Gq w) ∧ Eff P n ds ((d1, v) :: L) W0 G1 o2 (R2 v G1)) (hd2 : o2.dst = some d2) (hn2 : Nat.blt d2 n = true) (hg2 : o2.guard = none)
    (h : ∀ v G1 u G2, R1 v G1 → R2 v G1 u G2 → (∀ w, Sat W0 G2 w → Sat W0 Gq w) ∧ WL P Q n ds ops tail ((d2, u) :: (d1, v) :: L) W0 G2) :
    WZ P Q n ds ops s1 s2 o1 o2 tail [] k L W0 Gq G := by
  subst hk
  have hs2 : s2 = k + 1 := (Nat.eq_of_beq_eq_true h12).symm
  subst hs2
  refine ⟨rfl, fun a w hf hs => ?_⟩
  obtain ⟨v, w1, G1, r1, q1, t1⟩ := e1 a w hf hs
  obtain ⟨f1, e2⟩ := e2 v G1 q1
  obtain ⟨u, w2, G2, r2, q2, t2⟩ := e2 (a.put (some d1) v) w1 (hf.put (d := some d1) hn1) t1
  obtain ⟨f2, h⟩ := h v G1 u G2 q1 q2
  refine ⟨w1, w2, hGq w hs, f1 w1 t1, f2 w2 t2, v, .inl ⟨by unfold Region.wanted; rw [hg1], ?_⟩, u, .inl ⟨by unfold Region.wanted; rw [hg2], ?_⟩, fun x hx => ?_⟩
  · unfold quietZ; rw [if_pos rfl]
    intro x hx; subst hx; exact ⟨w1, r1, rfl⟩
  · unfold quietZ; rw [if_neg (by omega), if_pos rfl]
    intro x hx; subst hx
    rw [hd1]
    exact ⟨w2, r2, rfl⟩
  · subst hx
    rw [hd1, hd2]
    exact h _ _ ((hf.put (d := some d1) hn1).put (d := some d2) hn2) t2
end
section
variable {P : Program} (T : Tab P) {α : Type} {E : EncK α} {n : Nat} {ds : List Deferred} {L : TL} {W0 : World} {G : List SL} {ty : TypeId} {pos : String} {af : Array Edge}
theorem Eff.buildSlice {d t e len : Nat} {parts : Array (Nat × Operand)} {te : TE} {vs : List (Nat × Value)} {zs cs : List Value} {z b1 c1 : _} (hl : lk T.tab t = some ⟨.slice e, z, b1, c1⟩) (he : lk T.tab e = some te) (hz : cellsO te.zero = some zs)
    (hzl : Nat.beq zs.length te.size = true) (hsmall : Nat.ble (len * te.size) 1000 = true) (hp : evP L parts.toList = some vs) (hc : fillV (fun i => some (i * te.size, te.size)) (zsN len zs) vs = some cs) :
    Eff P n ds L W0 G ⟨some d, .buildSlice t len parts, ty, pos, af, none⟩ (fun v G' => ∃ b, v = .slice (some ⟨b, 0, none⟩) len len ∧ G' = row b e cs :: G) := fun a w hf hs =>
  ⟨_, _, _, run_buildSlice T (w := w) (d := d) (ty := ty) (pos := pos) (af := af) hf hl he hz hzl hsmall hp hc, ⟨_, rfl, rfl⟩, hs.alloc _⟩
theorem Eff.append (i : Nat) {d k m t e c c2 : Nat} {A Bd : Option Addr} {xs ys : List α} {s x : Operand} {te : TE} {zs : List Value} {z b1 c1 : _} {G' : Option Addr → Nat → List SL}
    (hs : evL L s = some (.slice A k c)) (hk : k = xs.length) (hx : evL L x = some (.slice Bd m c2)) (hm : m = ys.length) (hG : G[i]? = some (slc E e A c xs)) (hR : Rd W0 G E Bd ys)
    (hl : lk T.tab t = some ⟨.slice e, z, b1, c1⟩) (he : lk T.tab e = some te) (hsz : te.size = E.sz) (hzz : cellsO te.zero = some zs) (hzl : zs.length = E.sz) (hby : 0 < te.bytes) (hb : (xs.length + ys.length) * te.bytes ≤ 140737488355328)
    (hG' : ∀ A' c', setG G i (slc E e A' c' (xs ++ ys)) = some (G' A' c')) :
    Eff P n ds L W0 G ⟨some d, .call ⟨.builtin .append, #[s, x], #[t, t]⟩, ty, pos, af, none⟩ (fun v G2 => ∃ A' c', v = .slice A' (xs ++ ys).length c' ∧ G2 = G' A' c') := fun a w hf hs' => by
    subst hk; subst hm
    obtain ⟨d1, hd1, e1, hu⟩ := T.und (w := w) hl
    obtain rfl := tdOf_slice e1
    obtain ⟨i0, hi, hz0, hz1, hz2⟩ := T.info he
    obtain ⟨r, hr⟩ := getG_pick hG
    have s1 := hs'.perm (pickG_eq hr).1.symm
    have hown := slc_owns s1
    have hzc : te.zero.cells.size = E.sz := by rw [cellsO_eq hzz]; simpa using hzl
    have hn63 : xs.length + ys.length ≤ maxLen := by
      have : xs.length + ys.length ≤ (xs.length + ys.length) * te.bytes := Nat.le_mul_of_pos_right _ hby
      simp only [maxLen]; omega
    have key : ∃ v' w', (Builtin.append_ #[t, t] ty #[.slice A xs.length c, .slice Bd ys.length c2]).run P w = .ok v' w' ∧ w'.ownsRow 0 e E.sz v' (xs ++ ys).length (flat E (xs ++ ys)) ∧ w.grownBy w' (Value.slice A xs.length c).ownBlock ∧
        (v'.ownBlock = (Value.slice A xs.length c).ownBlock ∨ v'.ownBlock = some w.heap.size) := by
      have hRw := hR w hs'
      rw [flat_append, List.length_append]
      cases hys : ys with
      | nil =>
        subst hys
        cases Bd with
        | none =>
          -- nothing is read
          simp only [List.length_nil, Nat.add_zero, flat, List.flatMap_nil, List.append_nil]
          refine ⟨.slice A xs.length c, w, ?_, hown, ⟨rfl, rfl, rfl, Nat.le_refl _, fun _ _ _ => rfl⟩, .inl rfl⟩
          have hcap : xs.length ≤ c := by
            rcases hown.2 with ⟨h1, h2⟩ | ⟨g, cap, cur, h1, _, _, h2, _⟩
            · omega
            · injection h1 with _ _ h3; omega
          have hsizes : (sizeOf e).run P w = .ok E.sz w := by rw [T.sizeOf he, hsz]
          simp [Builtin.append_, hd1, hsizes, Builtin.lenOf, Builtin.firstCells, hcap, storeCells]
          cases A <;> simp [storeCells]
        | some ad =>
          obtain ⟨v', w', h1, h2, h3, _, h5⟩ := run_append_own_at (P := P) w 0 t ty e i0 te.zero E.sz te.bytes hu hi hz0 (by rw [hz1, hsz]) hz2 hzc E.pos (.slice A xs.length c) xs.length (flat E xs) hown ad 0 c2 []
            (by simp) (by simp) (by simp) (by simpa using hn63) (by simpa using hb) (Nat.zero_le _)
          exact ⟨v', w', by simpa using h1, by simpa [flat] using h2, h3, h5⟩
      | cons y0 yr =>
        rcases hRw with h0 | ⟨b, o, rfl, hcells⟩
        · exfalso
          have h1 := congrArg List.length h0
          rw [flat_len, hys] at h1
          have h2 : 0 < (y0 :: yr).length * E.sz := Nat.mul_pos (by simp) E.pos
          simp only [List.length_nil] at h1
          omega
        · rw [← hys]
          obtain ⟨v', w', h1, h2, h3, _, h5⟩ := run_append_own_at (P := P) w 0 t ty e i0 te.zero E.sz te.bytes hu hi hz0 (by rw [hz1, hsz]) hz2 hzc E.pos (.slice A xs.length c) xs.length (flat E xs) hown ⟨b, o, none⟩ ys.length c2 (flat E ys)
            (flat_len E ys) (fun j u hj => by rw [add_off]; exact hcells j u hj) (flat_one E ys) hn63 hb (Nat.zero_le _)
          exact ⟨v', w', h1, h2, h3, h5⟩
    obtain ⟨v', w', h1, h2, h3, h5⟩ := key
    obtain ⟨A', c', rfl, s2⟩ := s1.slcTurn (ys := xs ++ ys) h2 h3 h5
    have s3 := s2.perm (setG_eq hr (hG' A' c'))
    have hrun : (execOp a.eval ⟨some d, .call ⟨.builtin .append, #[s, x], #[t, t]⟩, ty, pos, af, none⟩).run P w = .ok (.value (.slice A' (xs ++ ys).length c')) w' := by
      simp only [execOp, resolve, invoke, builtin, List.map_toArray, List.map_cons, List.map_nil, hf.ev hs, hf.ev hx, Sem.run_bind, Sem.run_pure, Result.andThen_ok, h1]
    exact ⟨_, _, _, hrun, ⟨A', c', rfl, rfl⟩, s3⟩
end
end Go.Proofs.YtfolmcpfdcgliaaGreat.B
