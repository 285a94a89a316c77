import Derived.Test.YtfolmcpfdcgliaaGreatMg6
set_option linter.unusedVariables false
set_option linter.unusedSimpArgs false
/-! A region that draws its order, with one operation in its head that makes a block. -/
namespace Go.Proofs.YtfolmcpfdcgliaaGreat.B
open Go

section
variable {P : Program} {ops : Array Oper} {md : Region.Mode} {C0 C1 : World → Prop} {s : Nat}

def quietX (P : Program) (s : Nat) (C0 C1 : World → Prop) (i : Nat) (o : Oper) (a : Act) (v : Value) : Prop :=
  if i = s then (∀ w, C0 w → ∃ w', (execOp a.eval o).run P w = .ok (.value v) w' ∧ C1 w')
  else (∀ w, C0 w → o.quietAt P a C0 w v) ∧ (∀ w, C1 w → o.quietAt P a C1 w v)
theorem quietX_same {i : Nat} {o : Oper} {a a' : Act} {v : Value} (he : execOp a'.eval o = execOp a.eval o) (h : quietX P s C0 C1 i o a v) : quietX P s C0 C1 i o a' v := by
  unfold quietX Oper.quietAt at *; rw [he]; exact h
def YX (P : Program) (ops : Array Oper) (s : Nat) (C0 C1 : World → Prop) (i : Nat) (o : Oper) (v : Value) (a : Act) : Prop :=
  (Region.wanted o (yielded ops a.tmps) = true ∧ quietX P s C0 C1 i o a v) ∨ (i ≠ s ∧ Region.wanted o (yielded ops a.tmps) = false ∧ v = undef)
theorem YX.of_same {i : Nat} {o : Oper} {v : Value} {a a' : Act} (hy : YX P ops s C0 C1 i o v a) (he : execOp a'.eval o = execOp a.eval o)
    (hw : Region.wanted o (yielded ops a'.tmps) = Region.wanted o (yielded ops a.tmps)) : YX P ops s C0 C1 i o v a' := by
  unfold YX
  rw [hw]
  rcases hy with ⟨h1, h2⟩ | h
  · exact .inl ⟨h1, quietX_same he h2⟩
  · exact .inr h
def headX (P : Program) (md : Region.Mode) (ops : Array Oper) (s : Nat) (C0 C1 : World → Prop) (n : Nat) (K : Array Bool → Act → Prop) : Nat → Array Bool → Act → Prop
  | 0, listed, a => K listed a
  | f + 1, listed, a => Region.ready md ops listed ≠ [] ∧ ∀ i ∈ Region.ready md ops listed, i < n ∧ ∃ o, ops[i]? = some o ∧ ∃ v, YX P ops s C0 C1 i o v a ∧ headX P md ops s C0 C1 n K f (listed.setIfInBounds i true) (a.put o.dst v)
def Ph (s : Nat) (C0 C1 : World → Prop) (listed : Array Bool) (w : World) : Prop := if listed.getD s true = true then C1 w else C0 w
theorem getD_set_self {listed : Array Bool} {i : Nat} : (listed.setIfInBounds i true).getD i true = true := by
  rcases Nat.lt_or_ge i listed.size with h | h
  · simp [h]
  · simp [h]
theorem any_of_headX {n g : Nat} {K : Array Bool → Act → Prop} {Q' : Exit → Act → World → Prop} (hK : ∀ listed a w, Ph s C0 C1 listed w → K listed a → wpAny P md ops Q' g listed a w) :
    ∀ (f : Nat) (listed : Array Bool) (a : Act) (w : World), Ph s C0 C1 listed w → headX P md ops s C0 C1 n K f listed a → wpAny P md ops Q' (f + g) listed a w
  | 0, listed, a, w, hw, h => by rw [Nat.zero_add]; exact hK _ _ _ hw h
  | f + 1, listed, a, w, hw, h => by
    rw [show f + 1 + g = (f + g) + 1 from by omega]
    refine ⟨fun h0 => absurd h0 h.1, fun i hi => ?_⟩
    obtain ⟨hin, o, ho, v, hy, hn⟩ := h.2 i hi
    have hun := (mem_ready.1 hi).1
    unfold wpOp
    simp only [ho]
    rcases hy with ⟨h1, h2⟩ | ⟨h0, h1, rfl⟩
    · simp only [h1, if_true]
      left
      by_cases his : i = s
      · unfold quietX at h2
        rw [if_pos his] at h2
        unfold Ph at hw
        rw [← his, hun, if_neg (by decide)] at hw
        obtain ⟨w', h3, h4⟩ := h2 w hw
        unfold Oper.wp
        rw [h3, Oper.upon_value]
        exact any_of_headX hK f _ _ _ (by unfold Ph; rw [← his, getD_set_self, if_pos rfl]; exact h4) hn
      · unfold quietX at h2
        rw [if_neg his] at h2
        unfold Ph at hw
        by_cases hph : listed.getD s true = true
        · rw [if_pos hph] at hw
          refine Oper.wp_of_quiet (C := C1) (K := fun a' => headX P md ops s C0 C1 n K f (listed.setIfInBounds i true) a') hw (fun a' w' hw' h' => any_of_headX hK f _ _ _ ?_ h') ⟨v, h2.2, hn⟩
          unfold Ph; rw [getD_set_ne true his, if_pos hph]; exact hw'
        · rw [if_neg hph] at hw
          refine Oper.wp_of_quiet (C := C0) (K := fun a' => headX P md ops s C0 C1 n K f (listed.setIfInBounds i true) a') hw (fun a' w' hw' h' => any_of_headX hK f _ _ _ ?_ h') ⟨v, h2.1, hn⟩
          unfold Ph; rw [getD_set_ne true his, if_neg hph]; exact hw'
    · simp only [h1, Bool.false_eq_true, if_false]
      exact any_of_headX hK f _ _ _ (by unfold Ph at *; rw [getD_set_ne true h0]; exact hw) hn
theorem headX_take {n i : Nat} {oi : Oper} {v : Value} {K : Array Bool → Act → Prop} (hi : ops[i]? = some oi) (hsel : ∀ (j : Nat) (o : Oper) cs b, ops[j]? = some o → o.op ≠ .select cs b)
    (hs : Region.sinkB md ops n = true) (hc : Region.chainB md ops n = true) (hn : n < ops.size) (hin : i < n) (hdone : ∀ listed a, K listed a → ∀ j ∈ Region.ready md ops listed, n ≤ j) :
    ∀ (f : Nat) (listed : Array Bool) (a : Act), HeadInv md ops n listed →
      (∀ j oj, ops[j]? = some oj → j ≠ i → listed.getD j true = false → (∀ e ∈ oj.after, Region.binds md e = true → e.on ≠ i) → oi.apart ops oj = true) →
      i ∈ Region.ready md ops listed → YX P ops s C0 C1 i oi v a →
      headX P md ops s C0 C1 n K f (listed.setIfInBounds i true) (a.put oi.dst v) → headX P md ops s C0 C1 n K (f + 1) listed a := by
  intro f
  induction f with
  | zero =>
    intro listed a inv _ hr hy H
    refine ⟨fun h => (by rw [h] at hr; cases hr), fun j hj => ?_⟩
    have hjn : j < n := by
      rcases Nat.lt_or_ge j n with h | h
      · exact h
      · exact absurd hj (tail_waits hs hc hn inv _ i rfl hin (mem_ready.1 hr).1 j h)
    refine ⟨hjn, ?_⟩
    by_cases hji : j = i
    · subst hji; exact ⟨oi, hi, v, hy, H⟩
    · have := hdone _ _ H j (ready_mono hj hji)
      omega
  | succ f ih =>
    intro listed a inv hfree hr hy H
    have hun := (mem_ready.1 hr).1
    refine ⟨fun h => (by rw [h] at hr; cases hr), fun j hj => ?_⟩
    have hjn : j < n := by
      rcases Nat.lt_or_ge j n with h | h
      · exact h
      · exact absurd hj (tail_waits hs hc hn inv _ i rfl hin hun j h)
    refine ⟨hjn, ?_⟩
    by_cases hji : j = i
    · subst hji; exact ⟨oi, hi, v, hy, H⟩
    · obtain ⟨_, oj, hoj, u, hyj, H2⟩ := H.2 j (ready_mono hj hji)
      obtain ⟨hjun, oj', hoj', hall⟩ := mem_ready.1 hj
      rw [hoj] at hoj'
      obtain rfl := Option.some.inj hoj'
      have hnot : ∀ e ∈ oj.after, Region.binds md e = true → e.on ≠ i := fun e he hb heq => by
        have h1 := hall e he hb
        rw [heq, getD_both hun] at h1
        cases h1
      have hap := hfree j oj hoj hji hjun hnot
      obtain ⟨h1, h2, h3⟩ := Oper.apart_spec hap
      have hyj' : YX P ops s C0 C1 j oj u a := hyj.of_same (execOp_put oj (fun cs b => hsel j oj cs b hoj) a oi.dst v h1).symm (wanted_put oj a oi.dst v h1).symm
      have hyi' : YX P ops s C0 C1 i oi v (a.put oj.dst u) := hy.of_same (execOp_put oi (fun cs b => hsel i oi cs b hi) a oj.dst u h3) (wanted_put oi a oj.dst u h3)
      have hfree' : ∀ k ok, ops[k]? = some ok → k ≠ i → (listed.setIfInBounds j true).getD k true = false →
          (∀ e ∈ ok.after, Region.binds md e = true → e.on ≠ i) → oi.apart ops ok = true := fun k ok hk hki hun hno => by
        refine hfree k ok hk hki ?_ hno
        by_cases hjk : j = k
        · subst hjk; exact hjun
        · rw [getD_set_ne true hjk] at hun; exact hun
      refine ⟨oj, hoj, u, hyj', ih (listed.setIfInBounds j true) _ (inv.set hj hjn) hfree' (ready_mono hr (Ne.symm hji)) hyi' ?_⟩
      rw [Array.setIfInBounds_comm _ _ hji, ← Act.put_comm a v u h2]
      exact H2
def wpX (P : Program) (ops : Array Oper) (s : Nat) (C0 C1 : World → Prop) (Lq : Act → Prop) : List Oper → Nat → Act → Prop
  | [], _, a => Lq a
  | o :: rest, k, a => ∃ v, YX P ops s C0 C1 k o v a ∧ wpX P ops s C0 C1 Lq rest (k + 1) (a.put o.dst v)
theorem headX_lex {n g : Nat} {Lq : Act → Prop} (hsel : Region.noSelect ops = true) (hs : Region.sinkB md ops n = true) (hc : Region.chainB md ops n = true) (hn : n < ops.size) :
    ∀ (l : List Oper) (k : Nat) (listed : Array Bool) (a : Act), (∀ j, j < l.length → l[j]? = ops[k + j]?) → k + l.length = n → HeadInv md ops n listed → (∀ j < k, listed.getD j true = true) →
    Region.lexHead md ops g l.length k listed = true → wpX P ops s C0 C1 Lq l k a →
    headX P md ops s C0 C1 n (fun listed' a' => Region.seqB md ops g n listed' = true ∧ Lq a' ∧ ∀ j < n, listed'.getD j true = true) l.length listed a
  | [], k, listed, a, _, hk, _, hall, hB, h => by
    have : k = n := by simpa using hk
    subst this
    exact ⟨by simpa [Region.lexHead] using hB, h, hall⟩
  | o :: l, k, listed, a, hl, hk, inv, hall, hB, h => by
    have h0 : ops[k]? = some o := by simpa using (hl 0 (by simp)).symm
    simp only [List.length_cons, Region.lexHead, Bool.and_eq_true] at hB
    obtain ⟨⟨hr, hf⟩, hB'⟩ := hB
    have hkn : k < n := by simp only [List.length_cons] at hk; omega
    have hr' : k ∈ Region.ready md ops listed := by simpa using hr
    obtain ⟨v, hy, hK⟩ := h
    exact headX_take h0 (Region.noSelect_spec hsel) hs hc hn hkn (fun listed' a' hL => seqB_ready hL.1) l.length listed a inv (Region.free_spec h0 hf) hr' hy
      (headX_lex hsel hs hc hn l (k + 1) _ _ (fun j hj => by have := hl (j + 1) (by simp; omega); simpa [Nat.add_assoc, Nat.add_comm 1 j] using this) (by simp only [List.length_cons] at hk; omega) (inv.set hr' hkn) (fun j hj => by
        by_cases hjk : k = j
        · subst hjk; exact getD_set_self
        · rw [getD_set_ne true hjk]; exact hall j (by omega)) hB' hK)
theorem wp_headX {id : Nat} {Q : Exit → Act → World → Prop} {a : Act} {w : World} {l : List Oper} (n s : Nat) (hsn : s < n) (hm : P.follows .mixedOrders = true) (hB : Region.lexTailB .any l.toArray n = true) (hC : C0 { w with drawn := w.drawn + 1 })
    (h : wpX P l.toArray s C0 C1 (fun a' => ∀ w', C1 w' → wpList P l.toArray Q (l.drop n) a' w') (l.take n) 0 a) : (Code.region id l.toArray true).wp P Q a w := by
  simp only [Region.lexTailB, Bool.and_eq_true, decide_eq_true_eq] at hB
  obtain ⟨⟨⟨⟨hsel, hn⟩, hs⟩, hc⟩, hlex⟩ := hB
  have hn' : n < l.length := by simpa using hn
  have htl : (l.take n).length = n := by simp; omega
  have hdl : (l.drop n).length = l.toArray.size - n := by simp
  have inv0 : HeadInv .any l.toArray n (Array.replicate l.toArray.size false) :=
    ⟨by simp, fun j oj _ hl => (by rw [getD_replicate_false] at hl; cases hl), fun t _ ht => getD_in (by simpa using ht) (getD_replicate_false _ _)⟩
  have H := headX_lex (md := .any) (g := l.toArray.size - n) (s := s) (C0 := C0) (C1 := C1) hsel hs hc hn (l.take n) 0 _ a (fun j hj => by
    have hj' : j < n := by rw [htl] at hj; exact hj
    simp [hj']) (by simpa using htl) inv0 (fun j hj => absurd hj (by omega)) (by rw [htl]; exact hlex) h
  refine wp_region_any hm ?_
  have := any_of_headX (Q' := Q) (g := l.toArray.size - n) (fun listed a' w' hw' hL => by
    unfold Ph at hw'
    rw [hL.2.2 s hsn, if_pos rfl] at hw'
    have := wpAny_of_seq (md := .any) (Q' := Q) (l.drop n) n listed a' w' (fun j => by simp [List.getElem?_drop]) (by rw [hdl]; exact hL.1) (hL.2.1 w' hw')
    rwa [hdl] at this) _ _ _ _ (by
      unfold Ph
      rw [getD_in (i := s) (by simp; omega) (getD_replicate_false _ _), if_neg (by decide)]
      exact hC) H
  rw [htl, show n + (l.toArray.size - n) = l.toArray.size from by omega] at this
  exact this
end

/-- In the head of a region whose operation number s makes a block: 'rest' are those that are quiet, 'os' that one (the head's last), 'tail' what comes behind. -/
def WS (P : Program) (Q : Exit → Act → World → Prop) (n : Nat) (ds : List Deferred) (ops : Array Oper) (sx : Nat) (os : Oper) (tail rest : List Oper) (k : Nat) (L : TL) (W0 : World) (G : List SL) : Prop :=
  k + rest.length = sx ∧ ∀ a, Fr n ds L a → ∀ h0, ∃ C1 : World → Prop, (∀ w, C1 w → Sat W0 G w) ∧ wpX P ops sx (fun w => Sat W0 G w ∧ w.heap.size = h0) C1 (fun a' => ∀ w', C1 w' → wpList P ops Q tail a' w') (rest ++ [os]) k a
section
variable {P : Program} (T : Tab P) {Q : Exit → Act → World → Prop} {n : Nat} {ds : List Deferred} {L : TL} {W0 : World} {G : List SL} {ops : Array Oper} {rest tail : List Oper} {sx k : Nat} {os : Oper}
  {d : Option Nat} {op : Op} {ty : TypeId} {pos : String} {af : Array Edge}
theorem CS.drawS (s : Nat) {id : Nat} {l hd tl : List Oper} (hm : P.follows .mixedOrders = true) (hB : Region.lexTailB .any l.toArray (s + 1) = true) (hsp : splitV s l = some (hd, os :: tl)) (h : WS P Q n ds l.toArray s os tl hd 0 L W0 G) :
    CS P Q n ds (.region id l.toArray true) L W0 G := fun a w hf hs => by
  obtain ⟨h1, h2⟩ := splitV_eq hsp
  obtain ⟨C1, hC1, hX⟩ := h.2 a hf w.heap.size
  have ht : l.take (s + 1) = hd ++ [os] := by
    rw [List.take_add_one, h1]
    have : l[s]? = some os := by
      have := congrArg (·[0]?) h2
      simpa [List.getElem?_drop] using this
    rw [this]; rfl
  have hdr : l.drop (s + 1) = tl := by
    have := congrArg (List.drop 1) h2
    rw [List.drop_drop] at this
    simpa using this
  refine wp_headX (C0 := fun w' => Sat W0 G w' ∧ w'.heap.size = w.heap.size) (C1 := C1) (s + 1) s (Nat.lt_succ_self s) hm hB ⟨hs.same rfl ⟨rfl, rfl, rfl⟩, rfl⟩ ?_
  rw [ht, hdr]
  exact hX
theorem isWS (h : WS P Q n ds ops sx os tail rest k L W0 G) : WS P Q n ds ops sx os tail rest k L W0 G := h
theorem WS.s {v : Value} {d : Nat} (h1 : Op1 P n ds L W0 G op ty v) (hd : Nat.blt d n = true) (h : WS P Q n ds ops sx os tail rest (k + 1) ((d, v) :: L) W0 G) :
    WS P Q n ds ops sx os tail (⟨some d, op, ty, pos, af, none⟩ :: rest) k L W0 G := by
  refine ⟨by have := h.1; simp only [List.length_cons]; omega, fun a hf h0 => ?_⟩
  obtain ⟨C1, hC1, hX⟩ := h.2 _ (hf.put (d := some d) (v := v) hd) h0
  refine ⟨C1, hC1, v, .inl ⟨rfl, ?_⟩, hX⟩
  have hks : k ≠ sx := by have := h.1; omega
  unfold quietX
  rw [if_neg hks]
  exact ⟨fun w hw => by unfold Oper.quietAt; rw [h1 a w hf hw.1]; exact ⟨rfl, rfl⟩, fun w hw => by unfold Oper.quietAt; rw [h1 a w hf (hC1 w hw)]; exact ⟨rfl, rfl⟩⟩
theorem WS.idx {α : Type} {E : EncK α} {d t e k2 c : Nat} {A : Option Addr} {xs : List α} {x : α} {sl ix : Operand} {kd : IntKind} {i : Int} {z b1 c1 : _} {te : TE} (hR : Rd W0 G E A xs) (hs : evL L sl = some (.slice A k2 c)) (hi : evL L ix = some (.int kd i))
    (hk : k2 = xs.length) (h0 : 0 ≤ i) (hx : xs[i.toNat]? = some x) (hl : lk T.tab t = some ⟨.slice e, z, b1, c1⟩) (he : lk T.tab e = some te) (hsz : te.size = E.sz) (hd : Nat.blt d n = true) (hw : ∃ w, Sat W0 G w)
    (h : ∀ b o, At W0 G E b o x → WS P Q n ds ops sx os tail rest (k + 1) ((d, .pointer (some ⟨b, o, none⟩)) :: L) W0 G) :
    WS P Q n ds ops sx os tail (⟨some d, .indexAddr t sl ix, ty, pos, af, none⟩ :: rest) k L W0 G := by
  obtain ⟨w0, hw0⟩ := hw
  obtain ⟨b, o, hrun, hA, hle, hc⟩ := run_indexAt T (xs := xs) (x := x) (c := c) (kd := kd) w0 hl he hsz hk (hR w0 hw0) h0 hx
  have hne : ∀ w2, Sat W0 G w2 → ∀ j u, (flat E xs)[j]? = some u → w2.cell? ⟨b, o - i.toNat * E.sz + j, none⟩ = some u := fun w2 hs2 j u hj => by
    rcases hR w2 hs2 with h3 | ⟨b', o', hA', hc'⟩
    · rw [h3] at hj; simp at hj
    · rw [hA] at hA'
      injection hA' with hA'
      injection hA' with e1 e2 _
      subst e1
      rw [e2]; exact hc' _ u hj
  refine WS.s (fun a w hf hs' d pos af g => ?_) hd (h b o fun w2 hs2 j u hj => ?_)
  · obtain ⟨b', o', hrun', hA', hle', _⟩ := run_indexAt T (xs := xs) (x := x) (c := c) (kd := kd) w hl he hsz hk (hR w hs') h0 hx
    have eb : b' = b ∧ o' = o := by
      rw [hA] at hA'
      injection hA' with hA'
      injection hA' with e1 e2 _
      exact ⟨e1.symm, by omega⟩
    obtain ⟨rfl, rfl⟩ := eb
    simp only [execOp, hf.ev hs, hf.ev hi, Sem.run_bind, hrun', Result.andThen_ok, Sem.run_pure]
  · have := hne w2 hs2 _ u (flat_get E xs i.toNat j x u hx hj)
    rwa [show o - i.toNat * E.sz + (i.toNat * E.sz + j) = o + j from by omega] at this
/-- The block is made: a slice's literal. -/
theorem WS.buildSlice {d t e len : Nat} {parts : Array (Nat × Operand)} {te : TE} {vs : List (Nat × Value)} {zs cs : List Value} {z b1 c1 : _} (hl : lk T.tab t = some ⟨.slice e, z, b1, c1⟩) (he : lk T.tab e = some te) (hz : cellsO te.zero = some zs)
    (hzl : Nat.beq zs.length te.size = true) (hsmall : Nat.ble (len * te.size) 1000 = true) (hp : evP L parts.toList = some vs) (hc : fillV (fun i => some (i * te.size, te.size)) (zsN len zs) vs = some cs) (hd : Nat.blt d n = true) (hks : k = sx)
    (h : ∀ b, WL P Q n ds ops tail ((d, .slice (some ⟨b, 0, none⟩) len len) :: L) W0 (row b e cs :: G)) :
    WS P Q n ds ops sx ⟨some d, .buildSlice t len parts, ty, pos, af, none⟩ tail [] k L W0 G := by
  subst hks
  refine ⟨rfl, fun a hf h0 => ⟨fun w => Sat W0 (row h0 e cs :: G) w, fun w hw => hw.drop, .slice (some ⟨h0, 0, none⟩) len len, .inl ⟨rfl, ?_⟩, fun w' hw' => h h0 _ _ (hf.put (d := some d) hd) hw'⟩⟩
  unfold quietX
  rw [if_pos rfl]
  rintro w ⟨hs, rfl⟩
  exact ⟨_, run_buildSlice T (w := w) (d := d) (ty := ty) (pos := pos) (af := af) hf hl he hz hzl hsmall hp hc, hs.alloc _⟩
end
end Go.Proofs.YtfolmcpfdcgliaaGreat.B
