import Derived.Test.YtfolmcpfdcgliaaGreatMg11
set_option linter.unusedVariables false
set_option linter.unusedSimpArgs false
set_option maxRecDepth 8000
namespace Go.Proofs.YtfolmcpfdcgliaaGreat.B
open Go
section
variable {P : Program} {ops : Array Oper} {W0 : World} {Gq : List SL} {Q : Exit → Act → World → Prop}
def runsR (P : Program) (N : List PanicEntry → World → Prop) (K : Value → World → Prop) : Result Next → Prop
  | .ok (.value v) w' => K v w'
  | .ok .skip w' => K undef w'
  | .ok (.enter f args) w' => Calls P f args w' fun e w'' => (∃ v, e = .returned v ∧ K v w'') ∨ ∃ ch, e = .panicked ch ∧ N ch w''
  | _ => False
def runs (P : Program) (N : List PanicEntry → World → Prop) (o : Oper) (a : Act) (w : World) (K : Value → World → Prop) : Prop := runsR P N K ((execOp a.eval o).run P w)
theorem runs_mono {N N' : List PanicEntry → World → Prop} {o : Oper} {a : Act} {w : World} {K K' : Value → World → Prop} (hN : ∀ ch w', N ch w' → N' ch w') (h : ∀ v w', K v w' → K' v w') (hh : runs P N o a w K) : runs P N' o a w K' := by
  unfold runs at *
  generalize (execOp a.eval o).run P w = r at *
  cases r with
  | ok n w' =>
    cases n <;> simp only [runsR] at hh ⊢ <;>
      first
        | exact h _ _ hh
        | exact hh.mono (fun e w'' hk => hk.elim (fun ⟨v, he, hk⟩ => .inl ⟨v, he, h _ _ hk⟩) (fun ⟨ch, he, hk⟩ => .inr ⟨ch, he, hN _ _ hk⟩))
  | halt x w' => exact hh
theorem runs_same {N : List PanicEntry → World → Prop} {o : Oper} {a a' : Act} {w : World} {K : Value → World → Prop} (he : execOp a'.eval o = execOp a.eval o) (h : runs P N o a w K) : runs P N o a' w K := by
  unfold runs at *; rw [he]; exact h
theorem runs_wp {o : Oper} {a : Act} {w : World} {K : Act → World → Prop} (h : runs P (fun ch w' => Q (.panic ch) a w') o a w fun v w' => K (a.put o.dst v) w') : o.wp P a w K Q := by
  unfold runs at h
  unfold Oper.wp
  generalize (execOp a.eval o).run P w = r at *
  cases r with
  | ok n w' =>
    cases n <;> simp only [runsR] at h <;> simp only [Oper.upon]
    case enter f args =>
      refine h.mono (fun e w'' hk => ?_)
      rcases hk with ⟨v, he, hk⟩ | ⟨ch, he, hk⟩
      · subst he; exact hk
      · subst he; exact hk
    all_goals exact h
  | halt x w' => exact h.elim
def Akin (a a' : Act) : Prop := a'.tmps.size = a.tmps.size ∧ a'.defers = a.defers
theorem Akin.put {a a' : Act} {d : Option Nat} {v : Value} (h : Akin a a') : Akin (a.put d v) a' := by
  cases d <;> simpa [Akin, Act.put] using h
def YI (P : Program) (ops : Array Oper) (W0 : World) (Gq : List SL) (o : Oper) (v : Value) (a : Act) : Prop :=
  (Region.wanted o (yielded ops a.tmps) = true ∧ ∀ G', (∀ w, Sat W0 G' w → Sat W0 Gq w) → ∀ w, Sat W0 G' w → o.quietAt P a (Sat W0 G') w v) ∨ (Region.wanted o (yielded ops a.tmps) = false ∧ v = undef)
theorem YI.of_same {o : Oper} {v : Value} {a a' : Act} (hy : YI P ops W0 Gq o v a) (he : execOp a'.eval o = execOp a.eval o)
    (hw : Region.wanted o (yielded ops a'.tmps) = Region.wanted o (yielded ops a.tmps)) : YI P ops W0 Gq o v a' := by
  unfold YI Oper.quietAt at *
  rw [hw, he]
  exact hy
def headG (P : Program) (ops : Array Oper) (W0 : World) (Gq : List SL) (Q : Exit → Act → World → Prop) (z gz : Nat) : Nat → Array Bool → Act → List SL → Prop
  | 0, listed, a, G => (∀ j ∈ Region.ready .any ops listed, j = z) ∧ ∀ w, Sat W0 G w → wpAny P .any ops Q gz listed a w
  | f + 1, listed, a, G => Region.ready .any ops listed ≠ [] ∧ ∀ i ∈ Region.ready .any ops listed, ∃ o, ops[i]? = some o ∧
    ((∃ v, YI P ops W0 Gq o v a ∧ headG P ops W0 Gq Q z gz f (listed.setIfInBounds i true) (a.put o.dst v) G) ∨
     (Region.wanted o (yielded ops a.tmps) = true ∧ ∀ w, Sat W0 G w → runs P (fun ch w' => ∀ a', Akin a a' → Q (.panic ch) a' w') o a w fun v w' => ∃ G', (∀ w, Sat W0 G' w → Sat W0 Gq w) ∧ Sat W0 G' w' ∧ headG P ops W0 Gq Q z gz f (listed.setIfInBounds i true) (a.put o.dst v) G'))
theorem any_of_headG {z gz : Nat} : ∀ (f : Nat) (listed : Array Bool) (a : Act) (G : List SL) (w : World), (∀ w, Sat W0 G w → Sat W0 Gq w) → Sat W0 G w → headG P ops W0 Gq Q z gz f listed a G → wpAny P .any ops Q (f + gz) listed a w
  | 0, listed, a, G, w, _, hs, h => by rw [Nat.zero_add]; exact h.2 w hs
  | f + 1, listed, a, G, w, hG, hs, h => by
    rw [show f + 1 + gz = (f + gz) + 1 from by omega]
    refine ⟨fun h0 => absurd h0 h.1, fun i hi => ?_⟩
    obtain ⟨o, ho, hy⟩ := h.2 i hi
    unfold wpOp
    simp only [ho]
    rcases hy with ⟨v, ⟨h1, h2⟩ | ⟨h1, rfl⟩, hn⟩ | ⟨h1, h2⟩
    · simp only [h1, if_true]
      exact .inl (Oper.wp_of_quiet (C := Sat W0 G) (K := fun a' => headG P ops W0 Gq Q z gz f (listed.setIfInBounds i true) a' G) hs (fun a' w' hw' h' => any_of_headG f _ _ _ _ hG hw' h') ⟨v, h2 G hG, hn⟩)
    · simp only [h1, Bool.false_eq_true, if_false]
      exact any_of_headG f _ _ _ _ hG hs hn
    · simp only [h1, if_true]
      exact .inl (runs_wp (runs_mono (fun ch w' hk => hk a ⟨rfl, rfl⟩) (fun v w' ⟨G', h3, h4, h5⟩ => any_of_headG f _ _ _ _ h3 h4 h5) (h2 w hs)))
def Closed (ops : Array Oper) (listed : Array Bool) : Prop := ∀ (j : Nat) oj, ops[j]? = some oj → listed.getD j false = true → ∀ e ∈ oj.after, Region.binds .any e = true → listed.getD e.on false = true
theorem Closed.next {listed : Array Bool} {j : Nat} (h : Closed ops listed) (hj : j ∈ Region.ready .any ops listed) : Closed ops (listed.setIfInBounds j true) := fun k ok hok hk e he hb => by
  obtain ⟨hun, oj, hoj, hall⟩ := mem_ready.1 hj
  by_cases hjk : j = k
  · subst hjk
    rw [hoj] at hok
    obtain rfl := Option.some.inj hok
    exact getD_set_true (hall e he hb)
  · rw [getD_set_ne false hjk] at hk
    exact getD_set_true (h k ok hok hk e he hb)
def reachB (ops : Array Oper) : Nat → Nat → Nat → Bool
  | 0, _, _ => false
  | f + 1, z, i => match ops[z]? with
    | some o => o.after.toList.any fun e => Region.binds .any e && (Nat.beq e.on i || reachB ops f e.on i)
    | none => false
theorem reach_listed {listed : Array Bool} (hc : Closed ops listed) {i : Nat} : ∀ (f z : Nat) (oz : Oper), ops[z]? = some oz → (∀ e ∈ oz.after, Region.binds .any e = true → listed.getD e.on false = true) → reachB ops f z i = true → listed.getD i false = true
  | 0, _, _, _, _, h => by cases h
  | f + 1, z, oz, hz, hall, h => by
    rw [reachB, hz] at h
    simp only [List.any_eq_true, Bool.and_eq_true, Bool.or_eq_true] at h
    obtain ⟨e, he, hb, hr⟩ := h
    have he' : e ∈ oz.after := by simpa using he
    have hl := hall e he' hb
    rcases hr with hr | hr
    · rw [← Nat.eq_of_beq_eq_true hr]; exact hl
    · cases ho : ops[e.on]? with
      | none =>
        cases f with
        | zero => cases hr
        | succ f => rw [reachB, ho] at hr; cases hr
      | some o => exact reach_listed hc f e.on o ho (fun e2 h2 hb2 => hc e.on o ho hl e2 h2 hb2) hr
theorem takeG {z gz fz i : Nat} {oi : Oper} {v : Value} (hi : ops[i]? = some oi) (hsel : ∀ (j : Nat) (o : Oper) cs b, ops[j]? = some o → o.op ≠ .select cs b) :
    ∀ (f : Nat) (listed : Array Bool) (a : Act) (G : List SL),
      (∀ j oj, ops[j]? = some oj → j ≠ i → listed.getD j true = false → (∀ e ∈ oj.after, Region.binds .any e = true → e.on ≠ i) → oi.apart ops oj = true) →
      Closed ops listed → ((ops[z]?).isSome = true → reachB ops fz z i = true) → i ∈ Region.ready .any ops listed → YI P ops W0 Gq oi v a →
      headG P ops W0 Gq Q z gz f (listed.setIfInBounds i true) (a.put oi.dst v) G → headG P ops W0 Gq Q z gz (f + 1) listed a G := by
  intro f
  induction f with
  | zero =>
    intro listed a G _ hcl hzr hr hy H
    refine ⟨fun h => (by rw [h] at hr; cases hr), fun j hj => ?_⟩
    by_cases hji : j = i
    · subst hji; exact ⟨oi, hi, .inl ⟨v, hy, H⟩⟩
    · have h2 := H.1 j (ready_mono hj hji)
      subst h2
      obtain ⟨hjun, oj, hoj, hall⟩ := mem_ready.1 hj
      have h3 := reach_listed hcl fz j oj hoj hall (hzr (by rw [hoj]; rfl))
      rw [getD_both (mem_ready.1 hr).1] at h3
      cases h3
  | succ f ih =>
    intro listed a G hfree hcl hzr hr hy H
    have hun := (mem_ready.1 hr).1
    refine ⟨fun h => (by rw [h] at hr; cases hr), fun j hj => ?_⟩
    by_cases hji : j = i
    · subst hji; exact ⟨oi, hi, .inl ⟨v, hy, H⟩⟩
    · obtain ⟨oj, hoj, hcase⟩ := H.2 j (ready_mono hj hji)
      obtain ⟨hjun, oj', hoj', hall⟩ := mem_ready.1 hj
      rw [hoj] at hoj'
      obtain rfl := Option.some.inj hoj'
      have hnot : ∀ e ∈ oj.after, Region.binds .any e = true → e.on ≠ i := fun e he hb heq => by
        have h1 := hall e he hb
        rw [heq, getD_both hun] at h1
        cases h1
      have hap := hfree j oj hoj hji hjun hnot
      obtain ⟨h1, h2, h3⟩ := Oper.apart_spec hap
      have ej := execOp_put oj (fun cs b => hsel j oj cs b hoj) a oi.dst v h1
      have wj := wanted_put oj a oi.dst v h1
      have hfree' : ∀ k ok, ops[k]? = some ok → k ≠ i → (listed.setIfInBounds j true).getD k true = false →
          (∀ e ∈ ok.after, Region.binds .any e = true → e.on ≠ i) → oi.apart ops ok = true := fun k ok hk hki hun hno => by
        refine hfree k ok hk hki ?_ hno
        by_cases hjk : j = k
        · subst hjk; exact hjun
        · rw [getD_set_ne true hjk] at hun; exact hun
      have hri := ready_mono hr (Ne.symm hji)
      have hyi : ∀ u, YI P ops W0 Gq oi v (a.put oj.dst u) := fun u => hy.of_same (execOp_put oi (fun cs b => hsel i oi cs b hi) a oj.dst u h3) (wanted_put oi a oj.dst u h3)
      refine ⟨oj, hoj, ?_⟩
      rcases hcase with ⟨u, hyj, H2⟩ | ⟨hwj, H2⟩
      · refine .inl ⟨u, hyj.of_same ej.symm wj.symm, ih _ _ _ hfree' (hcl.next hj) hzr hri (hyi u) ?_⟩
        rw [Array.setIfInBounds_comm _ _ hji, ← Act.put_comm a v u h2]
        exact H2
      · refine .inr ⟨by rw [← wj]; exact hwj, fun w hs => runs_mono (fun ch w' hk a' ha => hk a' ha.put) (fun u w' ⟨G', g1, g2, g3⟩ => ⟨G', g1, g2, ih _ _ _ hfree' (hcl.next hj) hzr hri (hyi u) ?_⟩) (runs_same ej.symm (H2 w hs))⟩
        rw [Array.setIfInBounds_comm _ _ hji, ← Act.put_comm a v u h2]
        exact g3
end
def listedOf (n : Nat) : List Nat → Array Bool
  | [] => Array.replicate n false
  | i :: r => (listedOf n r).setIfInBounds i true
def doneB (done : List Nat) (j : Nat) : Bool := done.any fun i => Nat.beq i j
theorem doneB_iff {done : List Nat} {j : Nat} : doneB done j = true ↔ j ∈ done := by
  simp [doneB]
theorem listed_get : ∀ {done : List Nat} {n j : Nat}, (∀ i ∈ done, i < n) → ((listedOf n done).getD j true = false ↔ j < n ∧ doneB done j = false) ∧ ((listedOf n done).getD j false = true ↔ doneB done j = true)
  | [], n, j, _ => by
    constructor
    · by_cases h : j < n
      · simp [listedOf, doneB, h]
      · simp [listedOf, doneB, h]
    · simp only [listedOf, getD_replicate_false, doneB]; simp
  | i :: r, n, j, hn => by
    have ih := listed_get (done := r) (n := n) (j := j) (fun k hk => hn k (List.mem_cons_of_mem _ hk))
    have hin := hn i (List.mem_cons_self ..)
    have hsz : (listedOf n r).size = n := by
      clear ih hn hin
      induction r with
      | nil => simp [listedOf]
      | cons k r ih => simp [listedOf, ih]
    have hd : doneB (i :: r) j = (Nat.beq i j || doneB r j) := rfl
    by_cases hij : i = j
    · subst hij
      rw [hd, show Nat.beq i i = true from Nat.beq_refl i, Bool.true_or]
      refine ⟨⟨fun h => ?_, fun h => absurd h.2 (by decide)⟩, ⟨fun _ => rfl, fun _ => ?_⟩⟩
      · rw [listedOf, getD_set_self] at h; cases h
      · rw [listedOf]; simp [hsz, hin]
    · have hb : Nat.beq i j = false := by
        cases hc : Nat.beq i j with
        | false => rfl
        | true => exact absurd (Nat.eq_of_beq_eq_true hc) hij
      rw [hd, hb, Bool.false_or, listedOf, getD_set_ne _ hij, getD_set_ne _ hij]
      exact ih
def readyB (l : List Oper) (done : List Nat) (i : Nat) : Bool := !doneB done i && match l[i]? with | some o => o.after.toList.all (fun e => !Region.binds .any e || doneB done e.on) | none => false
theorem readyB_iff {l : List Oper} {done : List Nat} (hn : ∀ i ∈ done, i < l.length) {i : Nat} : i ∈ Region.ready .any l.toArray (listedOf l.length done) ↔ readyB l done i = true := by
  rw [mem_ready, (listed_get hn).1]
  unfold readyB
  constructor
  · rintro ⟨⟨h1, h2⟩, o, ho, hall⟩
    have ho' : l[i]? = some o := by simpa using ho
    rw [h2, ho']
    simp only [Bool.not_false, Bool.true_and, List.all_eq_true, Bool.or_eq_true, Bool.not_eq_true']
    intro e he
    cases hb : Region.binds .any e with
    | false => exact .inl rfl
    | true => exact .inr ((listed_get hn).2.1 (hall e (by simpa using he) hb))
  · intro h
    simp only [Bool.and_eq_true, Bool.not_eq_true'] at h
    obtain ⟨h1, h2⟩ := h
    cases ho : l[i]? with
    | none => rw [ho] at h2; cases h2
    | some o =>
      rw [ho] at h2
      simp only [List.all_eq_true, Bool.or_eq_true, Bool.not_eq_true'] at h2
      refine ⟨⟨(List.getElem?_eq_some_iff.1 ho).1, h1⟩, o, by simpa using ho, fun e he hb => ?_⟩
      rcases h2 e (by simpa using he) with h | h
      · rw [hb] at h; cases h
      · exact (listed_get hn).2.2 h
def nextR (l : List Oper) (done : List Nat) : Option Nat := (List.range l.length).find? (readyB l done)
theorem nextR_spec {l : List Oper} {done : List Nat} {i : Nat} (h : nextR l done = some i) : readyB l done i = true := List.find?_some h
def closedB (l : List Oper) (done : List Nat) : Bool := (List.range l.length).all fun j => !doneB done j || match l[j]? with | some o => o.after.toList.all (fun e => !Region.binds .any e || doneB done e.on) | none => true
theorem closedB_spec {l : List Oper} {done : List Nat} (hn : ∀ i ∈ done, i < l.length) (h : closedB l done = true) : Closed l.toArray (listedOf l.length done) := fun j oj hoj hj e he hb => by
  have hoj' : l[j]? = some oj := by simpa using hoj
  simp only [closedB, List.all_eq_true, List.mem_range] at h
  have h1 := h j (List.getElem?_eq_some_iff.1 hoj').1
  rw [(listed_get hn).2.1 hj, hoj'] at h1
  simp only [Bool.not_true, Bool.false_or, List.all_eq_true, Bool.or_eq_true, Bool.not_eq_true'] at h1
  rcases h1 e (by simpa using he) with h2 | h2
  · rw [hb] at h2; cases h2
  · exact (listed_get hn).2.2 h2
def freeB (l : List Oper) (z : Nat) (done : List Nat) (i : Nat) : Bool := closedB l done && (!(l.toArray[z]?).isSome || reachB l.toArray l.length z i) &&
  match l[i]? with
  | none => false
  | some oi => (List.range l.length).all fun j => Nat.beq j i || doneB done j || match l[j]? with
    | some oj => oj.after.toList.any (fun e => Region.binds .any e && Nat.beq e.on i) || oi.apart l.toArray oj
    | none => true
theorem freeB_more {l : List Oper} {z : Nat} {done : List Nat} (hn : ∀ i ∈ done, i < l.length) {i : Nat} (h : freeB l z done i = true) : Closed l.toArray (listedOf l.length done) ∧ ((l.toArray[z]?).isSome = true → reachB l.toArray l.length z i = true) := by
  simp only [freeB, Bool.and_eq_true, Bool.or_eq_true] at h
  refine ⟨closedB_spec hn h.1.1, fun hz => ?_⟩
  rcases h.1.2 with h2 | h2
  · rw [hz] at h2; cases h2
  · exact h2
theorem freeB_spec {l : List Oper} {z : Nat} {done : List Nat} (hn : ∀ i ∈ done, i < l.length) {i : Nat} {oi : Oper} (hi : l[i]? = some oi) (h : freeB l z done i = true) (j : Nat) (oj : Oper)
    (hj : l.toArray[j]? = some oj) (hne : j ≠ i) (hun : (listedOf l.length done).getD j true = false) (hno : ∀ e ∈ oj.after, Region.binds .any e = true → e.on ≠ i) : oi.apart l.toArray oj = true := by
  have hj' : l[j]? = some oj := by simpa using hj
  simp only [freeB, hi, Bool.and_eq_true, List.all_eq_true, List.mem_range] at h
  replace h := h.2
  have h1 := h j (List.getElem?_eq_some_iff.1 hj').1
  rw [hj'] at h1
  simp only [Bool.or_eq_true] at h1
  rcases h1 with (h1 | h1) | h1 | h1
  · exact absurd (Nat.eq_of_beq_eq_true h1) hne
  · have := ((listed_get hn).1.1 hun).2
    rw [this] at h1; cases h1
  · simp only [List.any_eq_true, Bool.and_eq_true] at h1
    obtain ⟨e, he, hb, hon⟩ := h1
    exact absurd (Nat.eq_of_beq_eq_true hon) (hno e (by simpa using he) hb)
  · exact h1
def onlyB (l : List Oper) (done is : List Nat) : Bool := (List.range l.length).all fun j => !readyB l done j || doneB is j
theorem onlyB_spec {l : List Oper} {done is : List Nat} (hn : ∀ i ∈ done, i < l.length) (h : onlyB l done is = true) : ∀ j ∈ Region.ready .any l.toArray (listedOf l.length done), j ∈ is := fun j hj => by
  have hr := (readyB_iff hn).1 hj
  have hlt : j < l.length := by
    have := (mem_ready.1 hj).1
    exact ((listed_get hn).1.1 this).1
  simp only [onlyB, List.all_eq_true, List.mem_range] at h
  have := h j hlt
  rw [hr] at this
  simpa using doneB_iff.1 (by simpa using this)
def WA (P : Program) (Q : Exit → Act → World → Prop) (n : Nat) (ds : List Deferred) (l : List Oper) (Gq : List SL) (z gz f : Nat) (done : List Nat) (L : TL) (W0 : World) (G : List SL) : Prop :=
  (∀ i ∈ done, i < l.length) ∧ Region.noSelect l.toArray = true → ∀ a, Fr n ds L a → headG P l.toArray W0 Gq Q z gz f (listedOf l.length done) a G
def wantB (l : List Oper) (L : TL) : Option (Nat × Bool) → Bool
  | none => true
  | some (j, want) => match (l[j]?).bind (·.dst) with
    | some t => (match lk L t with | some (.bool b) => b == want | _ => false)
    | none => false
def EffC (P : Program) (n : Nat) (ds : List Deferred) (L : TL) (W0 : World) (G : List SL) (o : Oper) (R : Value → List SL → Prop) : Prop :=
  ∀ a w, Fr n ds L a → Sat W0 G w → runs P (fun _ _ => False) o a w fun v w' => ∃ G', R v G' ∧ Sat W0 G' w'
section
variable {P : Program} {Q : Exit → Act → World → Prop} {n : Nat} {ds : List Deferred} {L : TL} {W0 : World} {Gq G : List SL} {l : List Oper} {z gz f : Nat} {done : List Nat}
  {d : Option Nat} {op : Op} {ty : TypeId} {pos : String} {af : Array Edge} {g : Option (Nat × Bool)} {i : Nat}
theorem wantB_spec {a : Act} {o : Oper} (hf : Fr n ds L a) (h : wantB l L o.guard = true) : Region.wanted o (yielded l.toArray a.tmps) = true := by
  unfold Region.wanted
  cases hg : o.guard with
  | none => rfl
  | some p =>
    obtain ⟨j, want⟩ := p
    rw [hg] at h
    simp only [wantB] at h
    cases ho : (l[j]?).bind (·.dst) with
    | none => rw [ho] at h; cases h
    | some t =>
      rw [ho] at h
      simp only at h
      have ho' : (l.toArray[j]?).bind (·.dst) = some t := by simpa using ho
      split at h
      · rename_i b hb
        have : b = want := by simpa using h
        subst this
        have := hf.get _ _ hb
        simp only [yielded, ho', Option.bind_some, this]
        simp
      · cases h
theorem CS.drawA (Gq : List SL) {id : Nat} (hG : ∀ w, Sat W0 G w → Sat W0 Gq w) (hm : P.follows .mixedOrders = true) (hns : Region.noSelect l.toArray = true) (hf : l.length = f) (h : WA P Q n ds l Gq l.length 0 f [] L W0 G) :
    CS P Q n ds (.region id l.toArray true) L W0 G := fun a w hfr hs => by
  refine wp_region_any hm ?_
  have := any_of_headG f _ a G { w with drawn := w.drawn + 1 } hG (hs.same rfl ⟨rfl, rfl, rfl⟩) (h ⟨fun i hi => (by cases hi), hns⟩ a hfr)
  have hsz : l.toArray.size = f := by simpa using hf
  rw [hsz]
  have he : listedOf l.length [] = Array.replicate f false := by rw [listedOf, hf]
  rw [he] at this
  exact this
theorem CS.drawE (Gq : List SL) (z : Nat) {id : Nat} (hG : ∀ w, Sat W0 G w → Sat W0 Gq w) (hm : P.follows .mixedOrders = true) (hns : Region.noSelect l.toArray = true) (hf : l.length = f + 1) (h : WA P Q n ds l Gq z 1 f [] L W0 G) :
    CS P Q n ds (.region id l.toArray true) L W0 G := fun a w hfr hs => by
  refine wp_region_any hm ?_
  have := any_of_headG f _ a G { w with drawn := w.drawn + 1 } hG (hs.same rfl ⟨rfl, rfl, rfl⟩) (h ⟨fun i hi => (by cases hi), hns⟩ a hfr)
  have hsz : l.toArray.size = f + 1 := by simpa using hf
  rw [hsz]
  have he : listedOf l.length [] = Array.replicate (f + 1) false := by rw [listedOf, hf]
  rw [he] at this
  exact this
theorem WA.at (i : Nat) {d : Nat} {v : Value} (hr : readyB l done i = true) (ho : l[i]? = some ⟨some d, op, ty, pos, af, g⟩) (hfr : freeB l z done i = true) (hg : wantB l L g = true) (h1 : Op1 P n ds L W0 Gq op ty v) (hd : Nat.blt d n = true)
    (h : WA P Q n ds l Gq z gz f (i :: done) ((d, v) :: L) W0 G) : WA P Q n ds l Gq z gz (f + 1) done L W0 G := fun hn a hf => by
  have hil := (List.getElem?_eq_some_iff.1 ho).1
  refine takeG (i := i) (v := v) (oi := ⟨some d, op, ty, pos, af, g⟩) (by simpa using ho) (fun j o cs b hj => Region.noSelect_spec hn.2 j o cs b hj) f _ a G (freeB_spec hn.1 ho hfr) (freeB_more hn.1 hfr).1 (freeB_more hn.1 hfr).2 ((readyB_iff hn.1).2 hr) (.inl ⟨wantB_spec hf hg, fun G' hG' w hs => ?_⟩) ?_
  · unfold Oper.quietAt; rw [h1 a w hf (hG' w hs)]; exact ⟨rfl, rfl⟩
  · exact h ⟨fun k hk => (List.mem_cons.1 hk).elim (fun e => e ▸ hil) (hn.1 k), hn.2⟩ _ (hf.put (d := some d) hd)
theorem WA.s {d : Nat} {v : Value} (hi : nextR l done = some i) (ho : l[i]? = some ⟨some d, op, ty, pos, af, g⟩) (hfr : freeB l z done i = true) (hg : wantB l L g = true) (h1 : Op1 P n ds L W0 Gq op ty v) (hd : Nat.blt d n = true)
    (h : WA P Q n ds l Gq z gz f (i :: done) ((d, v) :: L) W0 G) : WA P Q n ds l Gq z gz (f + 1) done L W0 G := WA.at i (nextR_spec hi) ho hfr hg h1 hd h
theorem WA.callAt (i : Nat) {fo : Operand} {args : Array Operand} {tys : Array TypeId} {K : Nat} {fst cap vs all : List Value} {v : Value} (hr : readyB l done i = true) (ho : l[i]? = some ⟨d, .call ⟨.value fo, args, tys⟩, ty, pos, af, g⟩) (hfr : freeB l z done i = true) (hg : wantB l L g = true)
    (hK : Callable P K) (hx : evL L fo = some (.func (.func K) fst.toArray cap.toArray)) (ha : evLs L args.toList = some vs) (hall : fst ++ vs ++ cap = all) (hd : dOk n d = true)
    (spec : ∀ G', (∀ w, Sat W0 G' w → Sat W0 Gq w) → Fn P K all W0 G' (Ret fun u G'' => u = v ∧ G'' = G')) (h : WA P Q n ds l Gq z gz f (i :: done) (putL L d v) W0 G) : WA P Q n ds l Gq z gz (f + 1) done L W0 G := fun hn a hf => by
  have hil := (List.getElem?_eq_some_iff.1 ho).1
  refine takeG (i := i) (v := v) (oi := ⟨d, .call ⟨.value fo, args, tys⟩, ty, pos, af, g⟩) (by simpa using ho) (fun j o cs b hj => Region.noSelect_spec hn.2 j o cs b hj) f _ a G (freeB_spec hn.1 ho hfr) (freeB_more hn.1 hfr).1 (freeB_more hn.1 hfr).2 ((readyB_iff hn.1).2 hr) (.inl ⟨wantB_spec hf hg, fun G' hG' w hs => ?_⟩) ?_
  · unfold Oper.quietAt
    rw [run_callOp hf hK hx ha]
    refine ⟨rfl, ?_⟩
    rw [hall]
    refine (spec G' hG' w hs).mono fun e w' ⟨G'', hR, hs'⟩ => ?_
    cases e with
    | returned u => obtain ⟨rfl, rfl⟩ := hR; exact ⟨rfl, hs'⟩
    | panicked ch => exact hR.elim
    | outgrown => exact hR.elim
  · exact h ⟨fun k hk => (List.mem_cons.1 hk).elim (fun e => e ▸ hil) (hn.1 k), hn.2⟩ _ (hf.put hd)
theorem WA.call {fo : Operand} {args : Array Operand} {tys : Array TypeId} {K : Nat} {fst cap vs all : List Value} {v : Value} (hi : nextR l done = some i) (ho : l[i]? = some ⟨d, .call ⟨.value fo, args, tys⟩, ty, pos, af, g⟩) (hfr : freeB l z done i = true) (hg : wantB l L g = true)
    (hK : Callable P K) (hx : evL L fo = some (.func (.func K) fst.toArray cap.toArray)) (ha : evLs L args.toList = some vs) (hall : fst ++ vs ++ cap = all) (hd : dOk n d = true)
    (spec : ∀ G', (∀ w, Sat W0 G' w → Sat W0 Gq w) → Fn P K all W0 G' (Ret fun u G'' => u = v ∧ G'' = G')) (h : WA P Q n ds l Gq z gz f (i :: done) (putL L d v) W0 G) : WA P Q n ds l Gq z gz (f + 1) done L W0 G := WA.callAt i (nextR_spec hi) ho hfr hg hK hx ha hall hd spec h
theorem WA.off {j t : Nat} {want : Bool} (hi : nextR l done = some i) (ho : l[i]? = some ⟨d, op, ty, pos, af, some (j, want)⟩) (hfr : freeB l z done i = true) (ht : (l[j]?).bind (·.dst) = some t) (hv : notB (lk L t) want = true) (hd : dOk n d = true)
    (h : WA P Q n ds l Gq z gz f (i :: done) (putL L d undef) W0 G) : WA P Q n ds l Gq z gz (f + 1) done L W0 G := fun hn a hf => by
  have hil := (List.getElem?_eq_some_iff.1 ho).1
  refine takeG (i := i) (v := undef) (oi := ⟨d, op, ty, pos, af, some (j, want)⟩) (by simpa using ho) (fun j o cs b hj => Region.noSelect_spec hn.2 j o cs b hj) f _ a G (freeB_spec hn.1 ho hfr) (freeB_more hn.1 hfr).1 (freeB_more hn.1 hfr).2 ((readyB_iff hn.1).2 (nextR_spec hi)) (.inr ⟨?_, rfl⟩) ?_
  · obtain ⟨v, hv1, hv2⟩ := notB_spec hv
    have ht' : (l.toArray[j]?).bind (·.dst) = some t := by simpa using ht
    simp only [Region.wanted, yielded, ht', Option.bind_some, hf.get _ _ hv1]
    exact hv2
  · exact h ⟨fun k hk => (List.mem_cons.1 hk).elim (fun e => e ▸ hil) (hn.1 k), hn.2⟩ _ (hf.put hd)
theorem WA.parts (t : Nat) {b : Bool} (hv : lk L t = some (.bool b)) (hT : b = true → WA P Q n ds l Gq z gz f done ((t, .bool true) :: L) W0 G)
    (hF : b = false → WA P Q n ds l Gq z gz f done ((t, .bool false) :: L) W0 G) : WA P Q n ds l Gq z gz f done L W0 G := fun hn a hf => by
  have key : ∀ c, b = c → Fr n ds ((t, .bool c) :: L) a := fun c hc => ⟨hf.size, hf.defers, fun i v hi => by
    simp only [lk] at hi
    cases hb : Nat.beq t i with
    | true =>
      rw [hb] at hi
      simp only [cond_true, Option.some.injEq] at hi
      have e := Nat.eq_of_beq_eq_true hb
      subst e
      rw [← hi, ← hc]
      exact hf.get _ _ hv
    | false => rw [hb] at hi; exact hf.get i v hi⟩
  cases hb : b with
  | true => exact hT hb hn a (key _ hb)
  | false => exact hF hb hn a (key _ hb)
theorem WA.guardS {j t : Nat} {want b : Bool} (hi : nextR l done = some i) (ho : l[i]? = some ⟨d, op, ty, pos, af, some (j, want)⟩) (ht : (l[j]?).bind (·.dst) = some t) (hv : lk L t = some (.bool b))
    (hT : b = true → WA P Q n ds l Gq z gz f done ((t, .bool true) :: L) W0 G) (hF : b = false → WA P Q n ds l Gq z gz f done ((t, .bool false) :: L) W0 G) : WA P Q n ds l Gq z gz f done L W0 G := WA.parts t hv hT hF
theorem WA.fin (hr : onlyB l done [] = true) (h : QS Q n ds .normal L W0 G) : WA P Q n ds l Gq z 0 0 done L W0 G := fun hn a hf =>
  ⟨fun j hj => (by cases onlyB_spec hn.1 hr j hj), fun w hs => ⟨List.eq_nil_iff_forall_not_mem.2 fun j hj => (by cases onlyB_spec hn.1 hr j hj), h a w hf hs⟩⟩
theorem WA.last {o : Oper} {R : Value → List SL → Prop} (hr : onlyB l done [z] = true) (hi : readyB l done z = true) (hr2 : onlyB l (z :: done) [] = true) (ho : l[z]? = some o) (hg : wantB l L o.guard = true) (e : EffC P n ds L W0 G o R) (hd : dOk n o.dst = true)
    (h : ∀ v G', R v G' → QS Q n ds .normal (putL L o.dst v) W0 G') : WA P Q n ds l Gq z 1 0 done L W0 G := fun hn a hf => by
  have hil := (List.getElem?_eq_some_iff.1 ho).1
  have hin := (readyB_iff hn.1).2 hi
  have hall : ∀ j ∈ Region.ready .any l.toArray (listedOf l.length done), j = z := fun j hj => by simpa using onlyB_spec hn.1 hr j hj
  refine ⟨hall, fun w hs => ⟨fun h0 => (by rw [h0] at hin; cases hin), fun j hj => ?_⟩⟩
  obtain rfl := hall j hj
  unfold wpOp
  have ho' : l.toArray[j]? = some o := by simpa using ho
  simp only [ho', wantB_spec hf hg, if_true]
  refine .inl (runs_wp (runs_mono (fun _ _ h => h.elim) (fun v w' ⟨G', h1, h2⟩ => ?_) (e a w hf hs)))
  have hn2 : ∀ k ∈ j :: done, k < l.length := fun k hk => (List.mem_cons.1 hk).elim (fun e => e ▸ hil) (hn.1 k)
  exact ⟨List.eq_nil_iff_forall_not_mem.2 fun k hk => (by cases onlyB_spec hn2 hr2 k hk), h v G' h1 _ _ (hf.put hd) h2⟩
theorem WA.e1 {o : Oper} {R : Value → List SL → Prop} (i : Nat) (hr : onlyB l done [i] = true) (hi : readyB l done i = true) (ho : l[i]? = some o) (hg : wantB l L o.guard = true) (e : EffC P n ds L W0 G o R) (hd : dOk n o.dst = true)
    (h : ∀ v G', R v G' → (∀ w, Sat W0 G' w → Sat W0 Gq w) ∧ WA P Q n ds l Gq z gz f (i :: done) (putL L o.dst v) W0 G') : WA P Q n ds l Gq z gz (f + 1) done L W0 G := fun hn a hf => by
  have hil := (List.getElem?_eq_some_iff.1 ho).1
  have hin := (readyB_iff hn.1).2 hi
  refine ⟨fun h0 => (by rw [h0] at hin; cases hin), fun j hj => ?_⟩
  have hji : j = i := by simpa using onlyB_spec hn.1 hr j hj
  subst hji
  refine ⟨o, by simpa using ho, .inr ⟨wantB_spec hf hg, fun w hs => runs_mono (fun _ _ h => h.elim) (fun v w' ⟨G', h1, h2⟩ => ?_) (e a w hf hs)⟩⟩
  obtain ⟨h3, h4⟩ := h v G' h1
  exact ⟨G', h3, h2, h4 ⟨fun k hk => (List.mem_cons.1 hk).elim (fun e => e ▸ hil) (hn.1 k), hn.2⟩ _ (hf.put hd)⟩
theorem WA.e2 {o1 o2 : Oper} {R1 R2 : Value → List SL → Prop} (i j : Nat) (hr : onlyB l done [i, j] = true) (hi : readyB l done i = true) (ho1 : l[i]? = some o1) (ho2 : l[j]? = some o2) (hg1 : wantB l L o1.guard = true) (hg2 : wantB l L o2.guard = true)
    (e1 : EffC P n ds L W0 G o1 R1) (e2 : EffC P n ds L W0 G o2 R2) (hd1 : dOk n o1.dst = true) (hd2 : dOk n o2.dst = true)
    (h1 : ∀ v G', R1 v G' → (∀ w, Sat W0 G' w → Sat W0 Gq w) ∧ WA P Q n ds l Gq z gz f (i :: done) (putL L o1.dst v) W0 G')
    (h2 : ∀ v G', R2 v G' → (∀ w, Sat W0 G' w → Sat W0 Gq w) ∧ WA P Q n ds l Gq z gz f (j :: done) (putL L o2.dst v) W0 G') : WA P Q n ds l Gq z gz (f + 1) done L W0 G := fun hn a hf => by
  have hil := (List.getElem?_eq_some_iff.1 ho1).1
  have hjl := (List.getElem?_eq_some_iff.1 ho2).1
  have hin := (readyB_iff hn.1).2 hi
  refine ⟨fun h0 => (by rw [h0] at hin; cases hin), fun k hk => ?_⟩
  have hkk := onlyB_spec hn.1 hr k hk
  simp only [List.mem_cons, List.not_mem_nil, or_false] at hkk
  rcases hkk with rfl | rfl
  · refine ⟨o1, by simpa using ho1, .inr ⟨wantB_spec hf hg1, fun w hs => runs_mono (fun _ _ h => h.elim) (fun v w' ⟨G', h3, h4⟩ => ?_) (e1 a w hf hs)⟩⟩
    obtain ⟨h5, h6⟩ := h1 v G' h3
    exact ⟨G', h5, h4, h6 ⟨fun m hm => (List.mem_cons.1 hm).elim (fun e => e ▸ hil) (hn.1 m), hn.2⟩ _ (hf.put hd1)⟩
  · refine ⟨o2, by simpa using ho2, .inr ⟨wantB_spec hf hg2, fun w hs => runs_mono (fun _ _ h => h.elim) (fun v w' ⟨G', h3, h4⟩ => ?_) (e2 a w hf hs)⟩⟩
    obtain ⟨h5, h6⟩ := h2 v G' h3
    exact ⟨G', h5, h4, h6 ⟨fun m hm => (List.mem_cons.1 hm).elim (fun e => e ▸ hjl) (hn.1 m), hn.2⟩ _ (hf.put hd2)⟩
theorem op1_ixE (T : Tab P) {α : Type} {E : EncK α} {t e k c : Nat} {A : Option Addr} {xs : List α} {x : α} {s ix : Operand} {kd : IntKind} {i : Int} {z b1 c1 : _} {te : TE} (hR : Rd W0 G E A xs) (hs : evL L s = some (.slice A k c)) (hi : evL L ix = some (.int kd i))
    (hk : k = xs.length) (h0 : 0 ≤ i) (hx : xs[i.toNat]? = some x) (hl : lk T.tab t = some ⟨.slice e, z, b1, c1⟩) (he : lk T.tab e = some te) (hsz : te.size = E.sz) (hw : ∃ w, Sat W0 G w) :
    ∃ b o, At W0 G E b o x ∧ Op1 P n ds L W0 G (.indexAddr t s ix) ty (.pointer (some ⟨b, o, none⟩)) := by
  obtain ⟨w0, hw0⟩ := hw
  obtain ⟨b, o, hrun, hA, hle, hc⟩ := run_indexAt T (xs := xs) (x := x) (c := c) (kd := kd) w0 hl he hsz hk (hR w0 hw0) h0 hx
  have hne : ∀ w2, Sat W0 G w2 → ∀ j u, (flat E xs)[j]? = some u → w2.cell? ⟨b, o - i.toNat * E.sz + j, none⟩ = some u := fun w2 hs2 j u hj => by
    rcases hR w2 hs2 with h3 | ⟨b', o', hA', hc'⟩
    · rw [h3] at hj; simp at hj
    · rw [hA] at hA'
      injection hA' with hA'
      injection hA' with e1 e2 _
      subst e1
      rw [e2]; exact hc' _ u hj
  refine ⟨b, o, fun w2 hs2 j u hj => ?_, fun a w hf hs' d pos af g => ?_⟩
  · have := hne w2 hs2 _ u (flat_get E xs i.toNat j x u hx hj)
    rwa [show o - i.toNat * E.sz + (i.toNat * E.sz + j) = o + j from by omega] at this
  · obtain ⟨b', o', hrun', hA', hle', _⟩ := run_indexAt T (xs := xs) (x := x) (c := c) (kd := kd) w hl he hsz hk (hR w hs') h0 hx
    have eb : b' = b ∧ o' = o := by
      rw [hA] at hA'
      injection hA' with hA'
      injection hA' with e1 e2 _
      exact ⟨e1.symm, by omega⟩
    obtain ⟨rfl, rfl⟩ := eb
    simp only [execOp, hf.ev hs, hf.ev hi, Sem.run_bind, hrun', Result.andThen_ok, Sem.run_pure]
theorem WA.idx (T : Tab P) {α : Type} {E : EncK α} {d t e k c : Nat} {A : Option Addr} {xs : List α} {x : α} {s ix : Operand} {kd : IntKind} {iv : Int} {zz b1 c1 : _} {te : TE} (hw : ∃ w, Sat W0 Gq w) (hR : Rd W0 Gq E A xs)
    (hi : nextR l done = some i) (ho : l[i]? = some ⟨some d, .indexAddr t s ix, ty, pos, af, g⟩) (hfr : freeB l z done i = true) (hg : wantB l L g = true) (hs : evL L s = some (.slice A k c)) (hix : evL L ix = some (.int kd iv))
    (hk : k = xs.length) (h0 : 0 ≤ iv) (hx : xs[iv.toNat]? = some x) (hl : lk T.tab t = some ⟨.slice e, zz, b1, c1⟩) (he : lk T.tab e = some te) (hsz : te.size = E.sz) (hd : Nat.blt d n = true)
    (h : ∀ b o, At W0 Gq E b o x → WA P Q n ds l Gq z gz f (i :: done) ((d, .pointer (some ⟨b, o, none⟩)) :: L) W0 G) : WA P Q n ds l Gq z gz (f + 1) done L W0 G := by
  obtain ⟨b, o, hA, hop⟩ := op1_ixE (n := n) (ds := ds) (ty := ty) T hR hs hix hk h0 hx hl he hsz hw
  exact WA.s hi ho hfr hg hop hd (h b o hA)
theorem EffC.of {o : Oper} {R : Value → List SL → Prop} (h : Eff P n ds L W0 G o R) : EffC P n ds L W0 G o R := fun a w hf hs => by
  obtain ⟨v, w', G', h1, h2, h3⟩ := h a w hf hs
  unfold runs
  rw [h1]
  exact ⟨G', h2, h3⟩
theorem EffC.call {fo : Operand} {args : Array Operand} {tys : Array TypeId} {K : Nat} {fst cap vs all : List Value} {R : Value → List SL → Prop}
    (hK : Callable P K) (hx : evL L fo = some (.func (.func K) fst.toArray cap.toArray)) (ha : evLs L args.toList = some vs) (hall : fst ++ vs ++ cap = all) (spec : Fn P K all W0 G (Ret R)) :
    EffC P n ds L W0 G ⟨d, .call ⟨.value fo, args, tys⟩, ty, pos, af, g⟩ R := fun a w hf hs => by
  unfold runs
  rw [run_callOp hf hK hx ha, hall]
  refine (spec w hs).mono fun e w' ⟨G', hR, hs'⟩ => ?_
  cases e with
  | returned v => exact .inl ⟨v, rfl, G', hR, hs'⟩
  | panicked ch => exact hR.elim
  | outgrown => exact hR.elim
theorem WA.callP {fo : Operand} {args : Array Operand} {tys : Array TypeId} {K : Nat} {fst cap vs all : List Value} {R : Ending → List SL → Prop} (i : Nat) (hr : onlyB l done [i] = true) (hi : readyB l done i = true) (ho : l[i]? = some ⟨d, .call ⟨.value fo, args, tys⟩, ty, pos, af, g⟩) (hg : wantB l L g = true)
    (hK : Callable P K) (hx : evL L fo = some (.func (.func K) fst.toArray cap.toArray)) (ha : evLs L args.toList = some vs) (hall : fst ++ vs ++ cap = all) (hd : dOk n d = true) (spec : Fn P K all W0 G R) (hout : ∀ G', ¬ R .outgrown G')
    (h : ∀ v G', R (.returned v) G' → (∀ w, Sat W0 G' w → Sat W0 Gq w) ∧ WA P Q n ds l Gq z gz f (i :: done) (putL L d v) W0 G') (hp : ∀ ch G', R (.panicked ch) G' → QS Q n ds (.panic ch) [] W0 G') : WA P Q n ds l Gq z gz (f + 1) done L W0 G := fun hn a hf => by
  have hil := (List.getElem?_eq_some_iff.1 ho).1
  have hin := (readyB_iff hn.1).2 hi
  refine ⟨fun h0 => (by rw [h0] at hin; cases hin), fun j hj => ?_⟩
  have hji : j = i := by simpa using onlyB_spec hn.1 hr j hj
  subst hji
  refine ⟨_, by simpa using ho, .inr ⟨wantB_spec hf hg, fun w hs => ?_⟩⟩
  unfold runs
  rw [run_callOp hf hK hx ha, hall]
  refine (spec w hs).mono fun e w' ⟨G', hR, hs'⟩ => ?_
  cases e with
  | returned v =>
    obtain ⟨h3, h4⟩ := h v G' hR
    exact .inl ⟨v, rfl, G', h3, hs', h4 ⟨fun k hk => (List.mem_cons.1 hk).elim (fun e => e ▸ hil) (hn.1 k), hn.2⟩ _ (hf.put hd)⟩
  | panicked ch => exact .inr ⟨ch, rfl, fun a' ha' => hp ch G' hR a' w' ⟨by rw [ha'.1, hf.size], by rw [ha'.2, hf.defers], fun i v h => by cases h⟩ hs'⟩
  | outgrown => exact (hout G' hR).elim
end
end Go.Proofs.YtfolmcpfdcgliaaGreat.B
