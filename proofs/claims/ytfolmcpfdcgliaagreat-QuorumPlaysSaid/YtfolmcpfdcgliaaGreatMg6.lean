import Derived.Test.YtfolmcpfdcgliaaGreatMg5
import Derived.StillTail
set_option linter.unusedVariables false
set_option linter.unusedSimpArgs false
set_option maxRecDepth 8000
namespace Go.Proofs.YtfolmcpfdcgliaaGreat.B
open Go
section
variable {P : Program} {ops : Array Oper} {md : Region.Mode} {C : World → Prop}
def headAny (P : Program) (md : Region.Mode) (ops : Array Oper) (C : World → Prop) (n : Nat) (K : Array Bool → Act → Prop) : Nat → Array Bool → Act → Prop
  | 0, listed, a => K listed a
  | f + 1, listed, a => Region.ready md ops listed ≠ [] ∧ ∀ i ∈ Region.ready md ops listed, i < n ∧ qOp P ops C i (headAny P md ops C n K f (listed.setIfInBounds i true)) a
theorem any_of_headAny {n g : Nat} {K : Array Bool → Act → Prop} {Q' : Exit → Act → World → Prop} (hK : ∀ listed a w, C w → K listed a → wpAny P md ops Q' g listed a w) :
    ∀ (f : Nat) (listed : Array Bool) (a : Act) (w : World), C w → headAny P md ops C n K f listed a → wpAny P md ops Q' (f + g) listed a w
  | 0, listed, a, w, hw, h => by rw [Nat.zero_add]; exact hK _ _ _ hw h
  | f + 1, listed, a, w, hw, h => by
    rw [show f + 1 + g = (f + g) + 1 from by omega]
    exact ⟨fun h0 => absurd h0 h.1, fun i hi => wpOp_of_qOp hw (fun a' w' hw' h' => any_of_headAny hK f _ a' w' hw' h') (h.2 i hi).2⟩
theorem headAny_take {n i : Nat} {oi : Oper} {v : Value} {K : Array Bool → Act → Prop} (hi : ops[i]? = some oi) (hsel : ∀ (j : Nat) (o : Oper) cs b, ops[j]? = some o → o.op ≠ .select cs b)
    (hs : Region.sinkB md ops n = true) (hc : Region.chainB md ops n = true) (hn : n < ops.size) (hin : i < n) (hdone : ∀ listed a, K listed a → ∀ j ∈ Region.ready md ops listed, n ≤ j) :
    ∀ (f : Nat) (listed : Array Bool) (a : Act), HeadInv md ops n listed →
      (∀ j oj, ops[j]? = some oj → j ≠ i → listed.getD j true = false → (∀ e ∈ oj.after, Region.binds md e = true → e.on ≠ i) → oi.apart ops oj = true) →
      i ∈ Region.ready md ops listed → YieldsIn P ops C oi v a →
      headAny P md ops C n K f (listed.setIfInBounds i true) (a.put oi.dst v) → headAny P md ops C n K (f + 1) listed a := by
  intro f
  induction f with
  | zero =>
    intro listed a inv _ hr hy H
    refine ⟨fun h => (by rw [h] at hr; cases hr), fun j hj => ?_⟩
    have hjn : j < n := by
      rcases Nat.lt_or_ge j n with h | h
      · exact h
      · exact absurd hj (tail_waits hs hc hn inv _ i rfl hin (mem_ready.1 hr).1 j h)
    refine ⟨hjn, ?_⟩
    by_cases hji : j = i
    · subst hji; exact hy.qOp hi H
    · have := hdone _ _ H j (ready_mono hj hji)
      omega
  | succ f ih =>
    intro listed a inv hfree hr hy H
    have hun := (mem_ready.1 hr).1
    refine ⟨fun h => (by rw [h] at hr; cases hr), fun j hj => ?_⟩
    have hjn : j < n := by
      rcases Nat.lt_or_ge j n with h | h
      · exact h
      · exact absurd hj (tail_waits hs hc hn inv _ i rfl hin hun j h)
    refine ⟨hjn, ?_⟩
    by_cases hji : j = i
    · subst hji; exact hy.qOp hi H
    · have h1 := (H.2 j (ready_mono hj hji)).2
      obtain ⟨hjun, oj, hoj, hall⟩ := mem_ready.1 hj
      have hnot : ∀ e ∈ oj.after, Region.binds md e = true → e.on ≠ i := fun e he hb heq => by
        have h1 := hall e he hb
        rw [heq, getD_both hun] at h1
        cases h1
      have h2 := qOp_put hoj (hfree j oj hoj hji hjun hnot) (fun cs b => hsel i oi cs b hi) (fun cs b => hsel j oj cs b hoj) hy h1
      have hfree' : ∀ k ok, ops[k]? = some ok → k ≠ i → (listed.setIfInBounds j true).getD k true = false →
          (∀ e ∈ ok.after, Region.binds md e = true → e.on ≠ i) → oi.apart ops ok = true := fun k ok hk hki hun hno => by
        refine hfree k ok hk hki ?_ hno
        by_cases hjk : j = k
        · subst hjk; exact hjun
        · rw [getD_set_ne true hjk] at hun; exact hun
      refine qOp_mono (fun a' h3 => ih (listed.setIfInBounds j true) a' (inv.set hj hjn) hfree' (ready_mono hr (Ne.symm hji)) h3.1 ?_) h2
      rw [Array.setIfInBounds_comm _ _ hji]
      exact h3.2
theorem headAny_lex {n g : Nat} {Lq : Act → Prop} (hsel : Region.noSelect ops = true) (hs : Region.sinkB md ops n = true) (hc : Region.chainB md ops n = true) (hn : n < ops.size) :
    ∀ (l : List Oper) (k : Nat) (listed : Array Bool) (a : Act), (∀ j, j < l.length → l[j]? = ops[k + j]?) → k + l.length = n → HeadInv md ops n listed →
    Region.lexHead md ops g l.length k listed = true → wpQuiet P ops C Lq l a →
    headAny P md ops C n (fun listed' a' => Region.seqB md ops g n listed' = true ∧ Lq a') l.length listed a
  | [], k, listed, a, _, hk, _, hB, h => by
    have : k = n := by simpa using hk
    subst this
    exact ⟨by simpa [Region.lexHead] using hB, h⟩
  | o :: l, k, listed, a, hl, hk, inv, hB, h => by
    have h0 : ops[k]? = some o := by simpa using (hl 0 (by simp)).symm
    simp only [List.length_cons, Region.lexHead, Bool.and_eq_true] at hB
    obtain ⟨⟨hr, hf⟩, hB'⟩ := hB
    have hkn : k < n := by simp only [List.length_cons] at hk; omega
    have hr' : k ∈ Region.ready md ops listed := by simpa using hr
    have hst : qOp P ops C k (wpQuiet P ops C Lq l) a := by unfold qOp; simp only [h0]; exact h
    obtain ⟨v, hy, hK⟩ := yieldsIn_of_qOp h0 hst
    exact headAny_take h0 (Region.noSelect_spec hsel) hs hc hn hkn (fun listed' a' hL => seqB_ready hL.1) l.length listed a inv (Region.free_spec h0 hf) hr' hy
      (headAny_lex hsel hs hc hn l (k + 1) _ _ (fun j hj => by have := hl (j + 1) (by simp; omega); simpa [Nat.add_assoc, Nat.add_comm 1 j] using this) (by simp only [List.length_cons] at hk; omega) (inv.set hr' hkn) hB' hK)
theorem wp_head_tail {id : Nat} {Q : Exit → Act → World → Prop} {a : Act} {w : World} {l : List Oper} (n : Nat) (hm : P.follows .mixedOrders = true) (hB : Region.lexTailB .any l.toArray n = true) (hC : C { w with drawn := w.drawn + 1 })
    (h : wpQuiet P l.toArray C (fun a' => ∀ w', C w' → wpList P l.toArray Q (l.drop n) a' w') (l.take n) a) : (Code.region id l.toArray true).wp P Q a w := by
  simp only [Region.lexTailB, Bool.and_eq_true, decide_eq_true_eq] at hB
  obtain ⟨⟨⟨⟨hsel, hn⟩, hs⟩, hc⟩, hlex⟩ := hB
  have hn' : n < l.length := by simpa using hn
  have htl : (l.take n).length = n := by simp; omega
  have hdl : (l.drop n).length = l.toArray.size - n := by simp
  have inv0 : HeadInv .any l.toArray n (Array.replicate l.toArray.size false) :=
    ⟨by simp, fun j oj _ hl => (by rw [getD_replicate_false] at hl; cases hl), fun t _ ht => getD_in (by simpa using ht) (getD_replicate_false _ _)⟩
  have H := headAny_lex (md := .any) (g := l.toArray.size - n) hsel hs hc hn (l.take n) 0 _ a (fun j hj => by
    have hj' : j < n := by rw [htl] at hj; exact hj
    simp [hj']) (by simpa using htl) inv0 (by rw [htl]; exact hlex) h
  refine wp_region_any hm ?_
  have := any_of_headAny (Q' := Q) (g := l.toArray.size - n) (fun listed a' w' hw' hL => by
    have := wpAny_of_seq (md := .any) (Q' := Q) (l.drop n) n listed a' w' (fun j => by simp [List.getElem?_drop]) (by rw [hdl]; exact hL.1) (hL.2 w' hw')
    rwa [hdl] at this) _ _ _ _ hC H
  rw [htl, show n + (l.toArray.size - n) = l.toArray.size from by omega] at this
  exact this
end
def WH (P : Program) (Q : Exit → Act → World → Prop) (n : Nat) (ds : List Deferred) (ops : Array Oper) (tail rest : List Oper) (L : TL) (W0 : World) (G : List SL) : Prop :=
  ∀ a, Fr n ds L a → wpQuiet P ops (Sat W0 G) (fun a' => ∀ w', Sat W0 G w' → wpList P ops Q tail a' w') rest a
def splitV {α : Type} : Nat → List α → Option (List α × List α)
  | 0, l => some ([], l)
  | k + 1, a :: l => match splitV k l with | some (x, y) => some (a :: x, y) | none => none
  | _ + 1, [] => none
theorem splitV_eq {α : Type} : ∀ {k : Nat} {l x y : List α}, splitV k l = some (x, y) → l.take k = x ∧ l.drop k = y
  | 0, l, x, y, h => by simp only [splitV, Option.some.injEq, Prod.mk.injEq] at h; simp [h.1.symm, h.2]
  | k + 1, [], x, y, h => by cases h
  | k + 1, a :: l, x, y, h => by
    simp only [splitV] at h
    split at h
    · rename_i x' y' h'
      simp only [Option.some.injEq, Prod.mk.injEq] at h
      have := splitV_eq h'
      simp [this.1, this.2, h.1, h.2]
    · cases h
def preV {α : Type} : List α → Nat
  | [] => 0
  | [_] => 0
  | _ :: r => preV r + 1
def quietOp : Op → Bool
  | .store .. | .mapUpdate .. | .insert .. | .entryStore .. | .alloc _ | .box .. | .buildSlice .. | .makeMap .. | .makeSlice .. | .range .. | .next .. | .defer _ | .go _ | .panic _ => false
  | .call ⟨.builtin .append, _, _⟩ | .call ⟨.builtin .copy, _, _⟩ | .call ⟨.builtin .delete, _, _⟩ | .call ⟨.builtin .clear, _, _⟩ => false
  | _ => true
def quietAll : List Oper → Bool
  | [] => true
  | o :: r => match quietOp o.op with | true => quietAll r | false => false
section
variable {P : Program} {Q : Exit → Act → World → Prop} {n : Nat} {ds : List Deferred} {L : TL} {W0 : World} {G : List SL} {ops : Array Oper} {rest tail : List Oper}
  {d : Option Nat} {op : Op} {ty : TypeId} {pos : String} {af : Array Edge}
theorem CS.drawT (k : Nat) {id : Nat} {l hd tl : List Oper} (hm : P.follows .mixedOrders = true) (hB : Region.lexTailB .any l.toArray k = true) (hsp : splitV k l = some (hd, tl)) (h : WH P Q n ds l.toArray tl hd L W0 G) :
    CS P Q n ds (.region id l.toArray true) L W0 G := fun a w hf hs => by
  obtain ⟨h1, h2⟩ := splitV_eq hsp
  subst h1; subst h2
  exact wp_head_tail (C := Sat W0 G) k hm hB (hs.same rfl ⟨rfl, rfl, rfl⟩) (h a hf)
theorem CS.drawQ {id : Nat} {l : List Oper} (hq : quietAll l = true) (hm : P.follows .mixedOrders = true) (hB : Region.lexB .any l.toArray = true) (h : WQ P Q n ds l.toArray l L W0 G) :
    CS P Q n ds (.region id l.toArray true) L W0 G := CS.draw hm hB h
theorem CS.drawW {id : Nat} {l hd tl : List Oper} (hsp : splitV (preV l) l = some (hd, tl)) (hq : quietAll hd = true) (hm : P.follows .mixedOrders = true) (hB : Region.lexTailB .any l.toArray (preV l) = true) (h : WH P Q n ds l.toArray tl hd L W0 G) :
    CS P Q n ds (.region id l.toArray true) L W0 G := CS.drawT (preV l) hm hB hsp h
theorem isWH (h : WH P Q n ds ops tail rest L W0 G) : WH P Q n ds ops tail rest L W0 G := h
theorem WH.nil (h : WL P Q n ds ops tail L W0 G) : WH P Q n ds ops tail [] L W0 G := fun a hf w' hs => h a w' hf hs
theorem WH.s {v : Value} {d : Nat} (h1 : Op1 P n ds L W0 G op ty v) (hd : Nat.blt d n = true) (h : WH P Q n ds ops tail rest ((d, v) :: L) W0 G) :
    WH P Q n ds ops tail (⟨some d, op, ty, pos, af, none⟩ :: rest) L W0 G := fun a hf => by
  unfold wpQuiet
  rw [if_pos (by rfl)]
  exact ⟨v, fun w hs => by unfold Oper.quietAt; rw [h1 a w hf hs]; exact ⟨rfl, rfl⟩, h _ (hf.put (d := some d) hd)⟩
theorem WH.guardT {j : Nat} {want : Bool} {t : Nat} (ho : (ops[j]?).bind (·.dst) = some t) (hv : lk L t = some (.bool want))
    (h : WH P Q n ds ops tail (⟨d, op, ty, pos, af, none⟩ :: rest) L W0 G) : WH P Q n ds ops tail (⟨d, op, ty, pos, af, some (j, want)⟩ :: rest) L W0 G := fun a hf => by
  have hy : Region.wanted ⟨d, op, ty, pos, af, some (j, want)⟩ (yielded ops a.tmps) = true := by
    simp [Region.wanted, yielded, ho, hf.get _ _ hv]
  have := h a hf
  unfold wpQuiet at this ⊢
  rw [if_pos hy]
  rw [if_pos (by rfl)] at this
  exact this
theorem WH.guardF {j : Nat} {want : Bool} {t : Nat} (ho : (ops[j]?).bind (·.dst) = some t) (hv : notB (lk L t) want = true) (hd : dOk n d = true)
    (h : WH P Q n ds ops tail rest (putL L d undef) W0 G) : WH P Q n ds ops tail (⟨d, op, ty, pos, af, some (j, want)⟩ :: rest) L W0 G := fun a hf => by
  have hy : Region.wanted ⟨d, op, ty, pos, af, some (j, want)⟩ (yielded ops a.tmps) = false := by
    obtain ⟨v, hv1, hv2⟩ := notB_spec hv
    simp only [Region.wanted, yielded, ho, Option.bind_some, hf.get _ _ hv1]
    exact hv2
  unfold wpQuiet
  rw [if_neg (by rw [hy]; simp)]
  exact h _ (hf.put hd)
theorem WH.parts (t : Nat) {b : Bool} (hv : lk L t = some (.bool b)) (hT : b = true → WH P Q n ds ops tail rest ((t, .bool true) :: L) W0 G)
    (hF : b = false → WH P Q n ds ops tail rest ((t, .bool false) :: L) W0 G) : WH P Q n ds ops tail rest L W0 G := fun a hf => by
  have key : ∀ c, b = c → Fr n ds ((t, .bool c) :: L) a := fun c hc => ⟨hf.size, hf.defers, fun i v hi => by
    simp only [lk] at hi
    cases hb : Nat.beq t i with
    | true =>
      rw [hb] at hi
      simp only [cond_true, Option.some.injEq] at hi
      have e := Nat.eq_of_beq_eq_true hb
      subst e
      rw [← hi, ← hc]
      exact hf.get _ _ hv
    | false => rw [hb] at hi; exact hf.get i v hi⟩
  cases hb : b with
  | true => exact hT hb a (key true hb)
  | false => exact hF hb a (key false hb)
theorem WH.guardS {j : Nat} {want : Bool} {t : Nat} {b : Bool} (ho : (ops[j]?).bind (·.dst) = some t) (hv : lk L t = some (.bool b))
    (hT : b = true → WH P Q n ds ops tail (⟨d, op, ty, pos, af, some (j, want)⟩ :: rest) ((t, .bool true) :: L) W0 G)
    (hF : b = false → WH P Q n ds ops tail (⟨d, op, ty, pos, af, some (j, want)⟩ :: rest) ((t, .bool false) :: L) W0 G) : WH P Q n ds ops tail (⟨d, op, ty, pos, af, some (j, want)⟩ :: rest) L W0 G :=
  WH.parts t hv hT hF
theorem WH.call {d : Nat} {f : Operand} {args : Array Operand} {tys : Array TypeId} {K : Nat} {fst cap vs all : List Value} {v : Value}
    (hK : Callable P K) (hx : evL L f = some (.func (.func K) fst.toArray cap.toArray)) (ha : evLs L args.toList = some vs) (hall : fst ++ vs ++ cap = all) (hd : Nat.blt d n = true)
    (spec : Fn P K all W0 G (Ret fun u G' => u = v ∧ G' = G)) (h : WH P Q n ds ops tail rest ((d, v) :: L) W0 G) :
    WH P Q n ds ops tail (⟨some d, .call ⟨.value f, args, tys⟩, ty, pos, af, none⟩ :: rest) L W0 G := fun a hf => by
  unfold wpQuiet
  rw [if_pos (by rfl)]
  refine ⟨v, fun w hs => ?_, h _ (hf.put (d := some d) hd)⟩
  unfold Oper.quietAt
  rw [run_callOp hf hK hx ha]
  refine ⟨rfl, ?_⟩
  rw [hall]
  refine (spec w hs).mono fun e w' ⟨G', hR, hs'⟩ => ?_
  cases e with
  | returned u => obtain ⟨rfl, rfl⟩ := hR; exact ⟨rfl, hs'⟩
  | panicked ch => exact hR.elim
  | outgrown => exact hR.elim
theorem WH.idx {α : Type} {E : EncK α} (T : Tab P) {d t e k c : Nat} {A : Option Addr} {xs : List α} {x : α} {s ix : Operand} {kd : IntKind} {i : Int} {z b1 c1 : _} {te : TE} (hR : Rd W0 G E A xs) (hs : evL L s = some (.slice A k c)) (hi : evL L ix = some (.int kd i))
    (hk : k = xs.length) (h0 : 0 ≤ i) (hx : xs[i.toNat]? = some x) (hl : lk T.tab t = some ⟨.slice e, z, b1, c1⟩) (he : lk T.tab e = some te) (hsz : te.size = E.sz) (hd : Nat.blt d n = true) (hw : ∃ w, Sat W0 G w)
    (h : ∀ b o, At W0 G E b o x → WH P Q n ds ops tail rest ((d, .pointer (some ⟨b, o, none⟩)) :: L) W0 G) :
    WH P Q n ds ops tail (⟨some d, .indexAddr t s ix, ty, pos, af, none⟩ :: rest) L W0 G := by
  obtain ⟨w0, hw0⟩ := hw
  obtain ⟨b, o, hrun, hA, hle, hc⟩ := run_indexAt T (xs := xs) (x := x) (c := c) (kd := kd) w0 hl he hsz hk (hR w0 hw0) h0 hx
  have hne : ∀ w2, Sat W0 G w2 → ∀ j u, (flat E xs)[j]? = some u → w2.cell? ⟨b, o - i.toNat * E.sz + j, none⟩ = some u := fun w2 hs2 j u hj => by
    rcases hR w2 hs2 with h3 | ⟨b', o', hA', hc'⟩
    · rw [h3] at hj; simp at hj
    · rw [hA] at hA'
      injection hA' with hA'
      injection hA' with e1 e2 _
      subst e1
      rw [e2]; exact hc' _ u hj
  refine WH.s (fun a w hf hs' d pos af g => ?_) hd (h b o fun w2 hs2 j u hj => ?_)
  · obtain ⟨b', o', hrun', hA', hle', _⟩ := run_indexAt T (xs := xs) (x := x) (c := c) (kd := kd) w hl he hsz hk (hR w hs') h0 hx
    have eb : b' = b ∧ o' = o := by
      rw [hA] at hA'
      injection hA' with hA'
      injection hA' with e1 e2 _
      exact ⟨e1.symm, by omega⟩
    obtain ⟨rfl, rfl⟩ := eb
    simp only [execOp, hf.ev hs, hf.ev hi, Sem.run_bind, hrun', Result.andThen_ok, Sem.run_pure]
  · have := hne w2 hs2 _ u (flat_get E xs i.toNat j x u hx hj)
    rwa [show o - i.toNat * E.sz + (i.toNat * E.sz + j) = o + j from by omega] at this
end
theorem CS.world {P : Program} {Q : Exit → Act → World → Prop} {n : Nat} {ds : List Deferred} {L : TL} {W0 : World} {G : List SL} {c : Code} (h : (∃ w, Sat W0 G w) → CS P Q n ds c L W0 G) : CS P Q n ds c L W0 G :=
  fun a w hf hs => h ⟨w, hs⟩ a w hf hs
end Go.Proofs.YtfolmcpfdcgliaaGreat.B

namespace Go.Proofs.YtfolmcpfdcgliaaGreat.B
open Go
section
variable {P : Program} {ops : Array Oper} {md : Region.Mode} {C0 C1 : World → Prop} {s : Nat}
def quietX (P : Program) (s : Nat) (C0 C1 : World → Prop) (i : Nat) (o : Oper) (a : Act) (v : Value) : Prop :=
  if i = s then (∀ w, C0 w → ∃ w', (execOp a.eval o).run P w = .ok (.value v) w' ∧ C1 w')
  else (∀ w, C0 w → o.quietAt P a C0 w v) ∧ (∀ w, C1 w → o.quietAt P a C1 w v)
theorem quietX_same {i : Nat} {o : Oper} {a a' : Act} {v : Value} (he : execOp a'.eval o = execOp a.eval o) (h : quietX P s C0 C1 i o a v) : quietX P s C0 C1 i o a' v := by
  unfold quietX Oper.quietAt at *; rw [he]; exact h
def YX (P : Program) (ops : Array Oper) (s : Nat) (C0 C1 : World → Prop) (i : Nat) (o : Oper) (v : Value) (a : Act) : Prop :=
  (Region.wanted o (yielded ops a.tmps) = true ∧ quietX P s C0 C1 i o a v) ∨ (i ≠ s ∧ Region.wanted o (yielded ops a.tmps) = false ∧ v = undef)
theorem YX.of_same {i : Nat} {o : Oper} {v : Value} {a a' : Act} (hy : YX P ops s C0 C1 i o v a) (he : execOp a'.eval o = execOp a.eval o)
    (hw : Region.wanted o (yielded ops a'.tmps) = Region.wanted o (yielded ops a.tmps)) : YX P ops s C0 C1 i o v a' := by
  unfold YX
  rw [hw]
  rcases hy with ⟨h1, h2⟩ | h
  · exact .inl ⟨h1, quietX_same he h2⟩
  · exact .inr h
def headX (P : Program) (md : Region.Mode) (ops : Array Oper) (s : Nat) (C0 C1 : World → Prop) (n : Nat) (K : Array Bool → Act → Prop) : Nat → Array Bool → Act → Prop
  | 0, listed, a => K listed a
  | f + 1, listed, a => Region.ready md ops listed ≠ [] ∧ ∀ i ∈ Region.ready md ops listed, i < n ∧ ∃ o, ops[i]? = some o ∧ ∃ v, YX P ops s C0 C1 i o v a ∧ headX P md ops s C0 C1 n K f (listed.setIfInBounds i true) (a.put o.dst v)
def Ph (s : Nat) (C0 C1 : World → Prop) (listed : Array Bool) (w : World) : Prop := if listed.getD s true = true then C1 w else C0 w
theorem getD_set_self {listed : Array Bool} {i : Nat} : (listed.setIfInBounds i true).getD i true = true := by
  rcases Nat.lt_or_ge i listed.size with h | h
  · simp [h]
  · simp [h]
def wpX (P : Program) (ops : Array Oper) (s : Nat) (C0 C1 : World → Prop) (Lq : Act → Prop) : List Oper → Nat → Act → Prop
  | [], _, a => Lq a
  | o :: rest, k, a => ∃ v, YX P ops s C0 C1 k o v a ∧ wpX P ops s C0 C1 Lq rest (k + 1) (a.put o.dst v)
end
def WS (P : Program) (Q : Exit → Act → World → Prop) (n : Nat) (ds : List Deferred) (ops : Array Oper) (sx : Nat) (os : Oper) (tail rest : List Oper) (k : Nat) (L : TL) (W0 : World) (G : List SL) : Prop :=
  k + rest.length = sx ∧ ∀ a, Fr n ds L a → ∀ h0, ∃ C1 : World → Prop, (∀ w, C1 w → Sat W0 G w) ∧ wpX P ops sx (fun w => Sat W0 G w ∧ w.heap.size = h0) C1 (fun a' => ∀ w', C1 w' → wpList P ops Q tail a' w') (rest ++ [os]) k a
section
variable {P : Program} (T : Tab P) {Q : Exit → Act → World → Prop} {n : Nat} {ds : List Deferred} {L : TL} {W0 : World} {G : List SL} {ops : Array Oper} {rest tail : List Oper} {sx k : Nat} {os : Oper}
  {d : Option Nat} {op : Op} {ty : TypeId} {pos : String} {af : Array Edge}
theorem WS.s {v : Value} {d : Nat} (h1 : Op1 P n ds L W0 G op ty v) (hd : Nat.blt d n = true) (h : WS P Q n ds ops sx os tail rest (k + 1) ((d, v) :: L) W0 G) :
    WS P Q n ds ops sx os tail (⟨some d, op, ty, pos, af, none⟩ :: rest) k L W0 G := by
  refine ⟨by have := h.1; simp only [List.length_cons]; omega, fun a hf h0 => ?_⟩
  obtain ⟨C1, hC1, hX⟩ := h.2 _ (hf.put (d := some d) (v := v) hd) h0
  refine ⟨C1, hC1, v, .inl ⟨rfl, ?_⟩, hX⟩
  have hks : k ≠ sx := by have := h.1; omega
  unfold quietX
  rw [if_neg hks]
  exact ⟨fun w hw => by unfold Oper.quietAt; rw [h1 a w hf hw.1]; exact ⟨rfl, rfl⟩, fun w hw => by unfold Oper.quietAt; rw [h1 a w hf (hC1 w hw)]; exact ⟨rfl, rfl⟩⟩
theorem WS.idx {α : Type} {E : EncK α} {d t e k2 c : Nat} {A : Option Addr} {xs : List α} {x : α} {sl ix : Operand} {kd : IntKind} {i : Int} {z b1 c1 : _} {te : TE} (hR : Rd W0 G E A xs) (hs : evL L sl = some (.slice A k2 c)) (hi : evL L ix = some (.int kd i))
    (hk : k2 = xs.length) (h0 : 0 ≤ i) (hx : xs[i.toNat]? = some x) (hl : lk T.tab t = some ⟨.slice e, z, b1, c1⟩) (he : lk T.tab e = some te) (hsz : te.size = E.sz) (hd : Nat.blt d n = true) (hw : ∃ w, Sat W0 G w)
    (h : ∀ b o, At W0 G E b o x → WS P Q n ds ops sx os tail rest (k + 1) ((d, .pointer (some ⟨b, o, none⟩)) :: L) W0 G) :
    WS P Q n ds ops sx os tail (⟨some d, .indexAddr t sl ix, ty, pos, af, none⟩ :: rest) k L W0 G := by
  obtain ⟨w0, hw0⟩ := hw
  obtain ⟨b, o, hrun, hA, hle, hc⟩ := run_indexAt T (xs := xs) (x := x) (c := c) (kd := kd) w0 hl he hsz hk (hR w0 hw0) h0 hx
  have hne : ∀ w2, Sat W0 G w2 → ∀ j u, (flat E xs)[j]? = some u → w2.cell? ⟨b, o - i.toNat * E.sz + j, none⟩ = some u := fun w2 hs2 j u hj => by
    rcases hR w2 hs2 with h3 | ⟨b', o', hA', hc'⟩
    · rw [h3] at hj; simp at hj
    · rw [hA] at hA'
      injection hA' with hA'
      injection hA' with e1 e2 _
      subst e1
      rw [e2]; exact hc' _ u hj
  refine WS.s (fun a w hf hs' d pos af g => ?_) hd (h b o fun w2 hs2 j u hj => ?_)
  · obtain ⟨b', o', hrun', hA', hle', _⟩ := run_indexAt T (xs := xs) (x := x) (c := c) (kd := kd) w hl he hsz hk (hR w hs') h0 hx
    have eb : b' = b ∧ o' = o := by
      rw [hA] at hA'
      injection hA' with hA'
      injection hA' with e1 e2 _
      exact ⟨e1.symm, by omega⟩
    obtain ⟨rfl, rfl⟩ := eb
    simp only [execOp, hf.ev hs, hf.ev hi, Sem.run_bind, hrun', Result.andThen_ok, Sem.run_pure]
  · have := hne w2 hs2 _ u (flat_get E xs i.toNat j x u hx hj)
    rwa [show o - i.toNat * E.sz + (i.toNat * E.sz + j) = o + j from by omega] at this
theorem WS.buildSlice {d t e len : Nat} {parts : Array (Nat × Operand)} {te : TE} {vs : List (Nat × Value)} {zs cs : List Value} {z b1 c1 : _} (hl : lk T.tab t = some ⟨.slice e, z, b1, c1⟩) (he : lk T.tab e = some te) (hz : cellsO te.zero = some zs)
    (hzl : Nat.beq zs.length te.size = true) (hsmall : Nat.ble (len * te.size) 1000 = true) (hp : evP L parts.toList = some vs) (hc : fillV (fun i => some (i * te.size, te.size)) (zsN len zs) vs = some cs) (hd : Nat.blt d n = true) (hks : k = sx)
    (h : ∀ b, WL P Q n ds ops tail ((d, .slice (some ⟨b, 0, none⟩) len len) :: L) W0 (row b e cs :: G)) :
    WS P Q n ds ops sx ⟨some d, .buildSlice t len parts, ty, pos, af, none⟩ tail [] k L W0 G := by
  subst hks
  refine ⟨rfl, fun a hf h0 => ⟨fun w => Sat W0 (row h0 e cs :: G) w, fun w hw => hw.drop, .slice (some ⟨h0, 0, none⟩) len len, .inl ⟨rfl, ?_⟩, fun w' hw' => h h0 _ _ (hf.put (d := some d) hd) hw'⟩⟩
  unfold quietX
  rw [if_pos rfl]
  rintro w ⟨hs, rfl⟩
  exact ⟨_, run_buildSlice T (w := w) (d := d) (ty := ty) (pos := pos) (af := af) hf hl he hz hzl hsmall hp hc, hs.alloc _⟩
end
end Go.Proofs.YtfolmcpfdcgliaaGreat.B
