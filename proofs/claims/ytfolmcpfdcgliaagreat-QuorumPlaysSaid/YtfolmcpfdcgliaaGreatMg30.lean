import Derived.Test.YtfolmcpfdcgliaaGreatMg29
set_option linter.unusedVariables false
set_option linter.unusedSimpArgs false
set_option maxRecDepth 8000
namespace Go.Proofs.YtfolmcpfdcgliaaGreat.B.Q2
open Go Go.Proofs
abbrev pNew : ByteArray := jProm ++ dotNew
abbrev lNew : ByteArray := jLog ++ dotNew
theorem four_ne : pNew ≠ jProm ∧ lNew ≠ jLog ∧ jProm ≠ jLog ∧ pNew ≠ jLog ∧ lNew ≠ jProm ∧ pNew ≠ lNew := by decide
structure JBase (J : Jn) (D : Disk) : Prop where
  ok : JnOk J
  ep : J.e ≤ J.p
  zero : J.e = 0 → J.xs = []
  disk : DiskOk D
  room : D.room = 2000000
  prom : aget D.files jProm = if J.p = 0 then none else some (pFile J.p)
  few : ∀ k, k ≠ jProm → k ≠ jLog → k ≠ pNew → k ≠ lNew → aget D.files k = none
  pn : ∀ f, aget D.files pNew = some f → f.data.size ≤ 24
  ln : ∀ f, aget D.files lNew = some f → f.data.size ≤ 187900
def logIs (J : Jn) (D : Disk) : Prop := aget D.files jLog = if J.e = 0 then none else some (lFile J.e J.xs)
structure Keep (J : Jn) (D : Disk) : Prop extends JBase J D where
  log : logIs J D
structure TornX (J : Jn) (D : Disk) (o : Option Ent) : Prop extends JBase J D where
  log : logIs J D ∨ ∃ x : Ent, o = some x ∧ J.e ≠ 0 ∧ logOk J.e (J.xs ++ [x]) = true ∧ aget D.files jLog = some ⟨mk (logB J.e J.xs) ++ mk (partB x.n (bs x.s)), (mk (logB J.e J.xs)).size⟩
theorem Keep.torn {J : Jn} {D : Disk} (h : Keep J D) : TornX J D none := ⟨h.toJBase, .inl h.log⟩
theorem Keep.light {J : Jn} {D : Disk} (h : Keep J D) {n : Int} (hn : n ≤ 9223372036854775807) : Keep J (D.light n) :=
  ⟨⟨h.ok, h.ep, h.zero, light_ok h.disk hn, h.room, h.prom, h.few, h.pn, h.ln⟩, h.log⟩
theorem prom_keep {J : Jn} {D : Disk} (h : Keep J D) (hd : D.down = false) {ep : Int} (he : J.p < ep ∧ ep ≤ 9007199254740991) :
    ((promJ J D ep).1 = 0 ∧ (promJ J D ep).2.1 = { J with p := ep } ∧ (promJ J D ep).2.2.down = false ∧ Keep { J with p := ep } (promJ J D ep).2.2) ∨ ((promJ J D ep).1 ≠ 0 ∧ (promJ J D ep).2.1 = J ∧ Keep J (promJ J D ep).2.2) := by
  have h0 := h.ok.p0
  have hI : I64 ep := by unfold I64; omega
  have hsz := seal_num hI
  have hok := (prom_jok h.ok h.disk (ep := ep) ⟨by omega, he.2⟩).2
  obtain ⟨n1, n2, n3, n4, n5, n6⟩ := four_ne
  have hp := place_eff (name := jProm) (text := mk (sealB (numB ep))) h.disk hd n1
  have e0 : (promJ J D ep).1 = (place1 D pNew jProm (mk (sealB (numB ep)))).1 := rfl
  have e2 : (promJ J D ep).2.2 = (place1 D pNew jProm (mk (sealB (numB ep)))).2 := rfl
  have e1 : (promJ J D ep).2.1 = if (promJ J D ep).1 = 0 then { J with p := ep } else J := rfl
  rw [← e0, ← e2] at hp
  rcases hp with ⟨a1, a2⟩ | ⟨a1, a2⟩
  · rw [if_pos a1] at e1
    refine .inl ⟨a1, e1, a2.down, ⟨⟨by simp only; omega, he.2, h.ok.log⟩, by have := h.ep; simp only; omega, h.zero, hok, by rw [a2.room, h.room], ?_, ?_, ?_, ?_⟩, ?_⟩
    · simp only; rw [if_neg (by omega), a2.file]; rfl
    · intro k k1 k2 k3 k4; rw [a2.same k k3 k1]; exact h.few k k1 k2 k3 k4
    · intro f hf; rw [a2.new] at hf; cases hf
    · intro f hf; rw [a2.same _ (fun e => n6 e.symm) n5] at hf; exact h.ln f hf
    · unfold logIs; simp only; rw [a2.same _ (fun e => n4 e.symm) (fun e => n3 e.symm)]; exact h.log
  · rw [if_neg a1] at e1
    refine .inr ⟨a1, e1, ⟨h.ok, h.ep, h.zero, hok, by rw [a2.room, h.room], ?_, ?_, ?_, ?_⟩, ?_⟩
    · rw [a2.same _ (fun e => n1 e.symm)]; exact h.prom
    · intro k k1 k2 k3 k4; rw [a2.same k k3]; exact h.few k k1 k2 k3 k4
    · intro f hf
      rcases a2.new f hf with h' | h'
      · omega
      · exact h.pn f h'
    · intro f hf; rw [a2.same _ (fun e => n6 e.symm)] at hf; exact h.ln f hf
    · unfold logIs; rw [a2.same _ (fun e => n4 e.symm)]; exact h.log
theorem store_base {J : Jn} {D : Disk} (h : JBase J D) (hd : D.down = false) {ep : Int} {xs : List Ent} (hl : logOk ep xs = true) (he : 1 ≤ ep ∧ ep ≤ J.p) :
    ((storeM D ep xs jLog).1 = 0 ∧ (storeM D ep xs jLog).2.down = false ∧ Keep { J with e := ep, xs := xs } (storeM D ep xs jLog).2) ∨ ((storeM D ep xs jLog).1 ≠ 0 ∧ JBase J (storeM D ep xs jLog).2 ∧ aget (storeM D ep xs jLog).2.files jLog = aget D.files jLog) := by
  have hsm := logB_small hl
  have hok := storeM_ok h.disk ep xs jLog
  obtain ⟨n1, n2, n3, n4, n5, n6⟩ := four_ne
  have hp := place_eff (name := jLog) (text := mk (logB ep xs)) h.disk hd n2
  have e0 : storeM D ep xs jLog = place1 D lNew jLog (mk (logB ep xs)) := by
    unfold storeM
    rw [if_neg (by simp only [hl, Bool.true_eq_false, false_or, not_or]; exact ⟨name_ne (by decide), by decide⟩)]
  rw [e0] at hok ⊢
  rcases hp with ⟨a1, a2⟩ | ⟨a1, a2⟩
  · refine .inl ⟨a1, a2.down, ⟨⟨h.ok.p0, h.ok.p1, hl⟩, he.2, fun h0 => by simp only at h0; omega, hok, by rw [a2.room, h.room], ?_, ?_, ?_, ?_⟩, ?_⟩
    · rw [a2.same _ (fun e => n5 e.symm) n3]; exact h.prom
    · intro k k1 k2 k3 k4; rw [a2.same k k4 k2]; exact h.few k k1 k2 k3 k4
    · intro f hf; rw [a2.same _ n6 n4] at hf; exact h.pn f hf
    · intro f hf; rw [a2.new] at hf; cases hf
    · unfold logIs; simp only; rw [if_neg (by omega), a2.file]; rfl
  · refine .inr ⟨a1, ⟨h.ok, h.ep, h.zero, hok, by rw [a2.room, h.room], ?_, ?_, ?_, ?_⟩, ?_⟩
    · rw [a2.same _ (fun e => n5 e.symm)]; exact h.prom
    · intro k k1 k2 k3 k4; rw [a2.same k k4]; exact h.few k k1 k2 k3 k4
    · intro f hf; rw [a2.same _ n6] at hf; exact h.pn f hf
    · intro f hf
      rcases a2.new f hf with h' | h'
      · have := mk_size (logB ep xs); omega
      · exact h.ln f h'
    · rw [a2.same _ (fun e => n2 e.symm)]
theorem add_keep {J : Jn} {D : Disk} (h : Keep J D) (hd : D.down = false) {x : Ent} (he : J.e ≠ 0) (hx : x.n = (J.xs.length : Int) + 1) (hx2 : x.n ≤ 300) (hs : x.s.size ≤ 600) :
    ((addM D x.n x.s jLog).1 = 0 ∧ (addM D x.n x.s jLog).2.down = false ∧ Keep { J with xs := J.xs ++ [x] } (addM D x.n x.s jLog).2) ∨ ((addM D x.n x.s jLog).1 ≠ 0 ∧ TornX J (addM D x.n x.s jLog).2 (some x)) := by
  obtain ⟨n1, n2, n3, n4, n5, n6⟩ := four_ne
  have hok := addM_ok h.disk x.n x.s jLog
  have hg : aget D.files jLog = some (lFile J.e J.xs) := by have := h.log; unfold logIs at this; rwa [if_neg he] at this
  have hat : D.at jLog = lFile J.e J.xs := by simp [Disk.at, hg]
  have hlog : logOk J.e (J.xs ++ [x]) = true := by
    obtain ⟨⟨l1, l2, l3⟩, l4⟩ := logOk_iff.1 h.ok.log
    refine logOk_iff.2 ⟨⟨l1, l2, by simp only [List.length_append, List.length_cons, List.length_nil]; omega⟩, ?_⟩
    rw [entsOk_snoc, l4, decide_eq_true ⟨by omega, hs⟩]; rfl
  have e0 : addM D x.n x.s jLog = if ¬ (D.append jLog (mk (partB x.n (bs x.s)))).1 = 0 then D.append jLog (mk (partB x.n (bs x.s))) else (D.append jLog (mk (partB x.n (bs x.s)))).2.sync jLog := by
    unfold addM
    rw [if_neg (by simp only [not_or]; exact ⟨by omega, by omega, by omega, name_ne (by decide), by decide⟩), read_of hd hg, if_neg (by simp)]
  rw [e0] at hok ⊢
  have base : ∀ D' : Disk, DiskOk D' → D'.room = D.room → (∀ k, k ≠ jLog → aget D'.files k = aget D.files k) → JBase J D' := fun D' k0 k1 k2 =>
    ⟨h.ok, h.ep, h.zero, k0, by rw [k1, h.room], by rw [k2 _ n3]; exact h.prom, fun k a b c d => by rw [k2 k b]; exact h.few k a b c d, fun f hf => h.pn f (by rwa [k2 _ n4] at hf), fun f hf => h.ln f (by rwa [k2 _ n2] at hf)⟩
  rcases append_eff D jLog (mk (partB x.n (bs x.s))) with ⟨a1, a2, a3, a4⟩ | ⟨a1, a3, a4⟩
  · rw [if_neg (by simpa using a1)] at hok ⊢
    rw [hat] at a3
    have g1 : ∀ k, aget (D.append jLog (mk (partB x.n (bs x.s)))).2.files k = if jLog = k then some ⟨mk (logB J.e J.xs) ++ mk (partB x.n (bs x.s)), (mk (logB J.e J.xs)).size⟩ else aget D.files k := fun k => by rw [a3, aget_aput]; rfl
    have at1 : (D.append jLog (mk (partB x.n (bs x.s)))).2.at jLog = ⟨mk (logB J.e J.xs) ++ mk (partB x.n (bs x.s)), (mk (logB J.e J.xs)).size⟩ := by simp [Disk.at, g1]
    rcases sync_eff (D.append jLog (mk (partB x.n (bs x.s)))).2 jLog with ⟨b1, b2, b3, b4⟩ | ⟨b1, b3, b4⟩
    · rw [at1] at b3
      have g2 : ∀ k, aget ((D.append jLog (mk (partB x.n (bs x.s)))).2.sync jLog).2.files k = if jLog = k then some (lFile J.e (J.xs ++ [x])) else aget D.files k := fun k => by
        rw [b3, aget_aput, g1]
        split
        · simp only [lFile, logB_put, mk_cat]
        · rfl
      have hb := base _ hok (by rw [b4, a4]) (fun k hk => by rw [g2, if_neg (fun e => hk e.symm)])
      exact .inl ⟨b1, b2, ⟨⟨hb.ok.p0, hb.ok.p1, hlog⟩, hb.ep, fun h0 => absurd h0 he, hb.disk, hb.room, hb.prom, hb.few, hb.pn, hb.ln⟩, by unfold logIs; simp only; rw [if_neg he, g2, if_pos rfl]⟩
    · exact .inr ⟨b1, base _ hok (by rw [b4, a4]) (fun k hk => by rw [b3, g1, if_neg (fun e => hk e.symm)]), .inr ⟨x, rfl, he, hlog, by rw [b3, g1, if_pos rfl]⟩⟩
  · rw [if_pos (by simpa using a1)] at hok ⊢
    exact .inr ⟨a1, base _ hok a4 (fun k _ => by rw [a3]), .inl (by unfold logIs; rw [a3]; exact h.log)⟩
inductive Nx (J : Jn) (q : Rq) : Jn → Prop
  | same : Nx J q J
  | prom : q.kind ≠ kW → J.p < q.epoch → Nx J q { J with p := q.epoch }
  | acc : q.kind = kA → J.p ≤ q.epoch → J.e < q.epoch → Nx J q ⟨q.epoch, q.epoch, q.xs, J.dead⟩
  | add (x : Ent) : q.kind = kW → q.xs = [x] → J.p = q.epoch → J.e = q.epoch → x.n = (J.xs.length : Int) + 1 → Nx J q { J with xs := J.xs ++ [x] }
structure Ack (J : Jn) (q : Rq) (K : Jn) : Prop where
  p : q.kind = kP → J.p < q.epoch ∧ K = { J with p := q.epoch }
  np : q.kind ≠ kP → J.p ≤ q.epoch
  a : q.kind = kA → K.e = q.epoch ∧ begB q.xs K.xs = true
  w : q.kind = kW → ∃ x, q.xs = [x] ∧ K.e = q.epoch ∧ 1 ≤ x.n ∧ K.xs[(x.n - 1).toNat]? = some x
theorem hand_q {J : Jn} {D : Disk} (h : Keep J D) (ha : J.dead = false) (hd : D.down = false) {s : List UInt8} {q : Rq} (hq : readQ s = some q) :
    ((handJ J D s).2.1.dead = false ∧ (handJ J D s).2.2.down = false ∧ Keep (handJ J D s).2.1 (handJ J D s).2.2 ∧ Nx J q (handJ J D s).2.1 ∧
      (((handJ J D s).1 = (if q.kind = kP then toldB (handJ J D s).2.1.e (handJ J D s).2.1.xs else saidB 0) ∧ Ack J q (handJ J D s).2.1) ∨ ∃ e : Int, (e = 10 ∨ e = 11) ∧ (handJ J D s).1 = saidB e)) ∨
    ((handJ J D s).2.1.dead = true ∧ (handJ J D s).1 = saidB 12 ∧ ∃ K o, K.dead = false ∧ TornX K (handJ J D s).2.2 o ∧ Nx J q K ∧ ∀ x, o = some x → Nx J q { K with xs := K.xs ++ [x] }) := by
  have hal : ¬ J.dead = true := by rw [ha]; decide
  rw [hand_some hal hq]
  have hqo := readQ_ok hq
  have hq0 := hqo.e0
  have hq1 := hqo.e1
  have hep := h.ep
  have hje := h.ok.e0
  have good : ∀ (K : Jn) (E : Disk), K.dead = false → E.down = false → Keep K E → Nx J q K → Ack J q K →
      ((ansJ q (0, K, E)).2.1.dead = false ∧ (ansJ q (0, K, E)).2.2.down = false ∧ Keep (ansJ q (0, K, E)).2.1 (ansJ q (0, K, E)).2.2 ∧ Nx J q (ansJ q (0, K, E)).2.1 ∧
      (((ansJ q (0, K, E)).1 = (if q.kind = kP then toldB (ansJ q (0, K, E)).2.1.e (ansJ q (0, K, E)).2.1.xs else saidB 0) ∧ Ack J q (ansJ q (0, K, E)).2.1) ∨ ∃ e : Int, (e = 10 ∨ e = 11) ∧ (ansJ q (0, K, E)).1 = saidB e)) := fun K E k1 k2 k3 k4 k5 => by
    rw [ans_well (J := J) (.inl rfl)]; exact ⟨k1, k2, k3, k4, .inl ⟨by rw [if_pos rfl], k5⟩⟩
  have calm : ∀ e : Int, (e = 10 ∨ e = 11) → ((ansJ q (e, J, D)).2.1.dead = false ∧ (ansJ q (e, J, D)).2.2.down = false ∧ Keep (ansJ q (e, J, D)).2.1 (ansJ q (e, J, D)).2.2 ∧ Nx J q (ansJ q (e, J, D)).2.1 ∧
      (((ansJ q (e, J, D)).1 = (if q.kind = kP then toldB (ansJ q (e, J, D)).2.1.e (ansJ q (e, J, D)).2.1.xs else saidB 0) ∧ Ack J q (ansJ q (e, J, D)).2.1) ∨ ∃ e' : Int, (e' = 10 ∨ e' = 11) ∧ (ansJ q (e, J, D)).1 = saidB e')) := fun e he => by
    rw [ans_well (J := J) (.inr he)]; exact ⟨ha, hd, h, .same, .inr ⟨e, he, by rw [if_neg (by omega)]⟩⟩
  have bad : ∀ (r : Int × Jn × Disk), r.1 ≠ 0 → r.1 ≠ 10 → r.1 ≠ 11 → (∃ K o, K.dead = false ∧ TornX K r.2.2 o ∧ Nx J q K ∧ ∀ x, o = some x → Nx J q { K with xs := K.xs ++ [x] }) →
      ((ansJ q r).2.1.dead = true ∧ (ansJ q r).1 = saidB 12 ∧ ∃ K o, K.dead = false ∧ TornX K (ansJ q r).2.2 o ∧ Nx J q K ∧ ∀ x, o = some x → Nx J q { K with xs := K.xs ++ [x] }) := fun r r0 r1 r2 hk => by
    unfold ansJ
    rw [if_neg (fun h => h.elim r1 r2), if_pos r0]
    exact ⟨rfl, rfl, hk⟩
  have nn : ∀ (K : Jn) (x : Ent), (none : Option Ent) = some x → Nx J q { K with xs := K.xs ++ [x] } := fun _ _ h => by cases h
  by_cases h1 : q.kind = kP
  · have hA : ¬ q.kind = kA := fun h => by rw [h] at h1; exact kAP h1
    have hW : ¬ q.kind = kW := fun h => by rw [h] at h1; exact kWP h1
    by_cases h2 : q.epoch ≤ J.p
    · rw [doJ, if_pos h1, if_pos h2]; exact .inl (calm 10 (.inl rfl))
    · rw [doJ, if_pos h1, if_neg h2]
      have hc := place_code D (jProm ++ dotNew) jProm (mk (sealB (numB q.epoch)))
      rcases prom_keep h hd ⟨by omega, hq1⟩ with ⟨a1, a2, a3, a4⟩ | ⟨a1, a2, a4⟩
      · have e : promJ J D q.epoch = (0, { J with p := q.epoch }, (promJ J D q.epoch).2.2) := by rw [← a2, ← a1]
        rw [e]
        exact .inl (good _ _ ha a3 a4 (.prom hW (by omega)) ⟨fun _ => ⟨by omega, rfl⟩, fun hh => absurd h1 hh, fun hh => absurd hh hA, fun hh => absurd hh hW⟩)
      · exact .inr (bad _ a1 hc.1 hc.2 ⟨J, none, ha, a4.torn, .same, nn J⟩)
  · by_cases h2 : q.epoch < J.p ∨ (q.kind = kW ∧ (q.epoch ≠ J.p ∨ q.epoch ≠ J.e))
    · rw [doJ, if_neg h1, if_pos h2]; exact .inl (calm 10 (.inl rfl))
    · have hge : ¬ q.epoch < J.p := fun h => h2 (.inl h)
      by_cases h3 : q.kind = kW
      · have hA : ¬ q.kind = kA := fun h => by rw [h] at h3; exact kAW h3
        rw [doJ, if_neg h1, if_neg h2, if_pos h3]
        obtain ⟨x, hx, x1, x2, x3⟩ : ∃ x : Ent, q.xs = [x] ∧ 1 ≤ x.n ∧ x.n ≤ 300 ∧ x.s.size ≤ 600 := by
          rcases hqo.kind with ⟨h, _⟩ | ⟨h, _⟩ | ⟨_, h⟩
          · exact absurd h h1
          · exact absurd h hA
          · exact h
        have hne : q.epoch = J.e := Decidable.byContradiction fun h => h2 (.inr ⟨h3, .inr h⟩)
        have hnp : q.epoch = J.p := Decidable.byContradiction fun h => h2 (.inr ⟨h3, .inl h⟩)
        have ack : ∀ K : Jn, K.e = J.e → K.xs[(x.n - 1).toNat]? = some x → Ack J q K := fun K k1 k2 => ⟨fun hh => absurd hh h1, fun _ => by omega, fun hh => absurd hh hA, fun _ => ⟨x, hx, by omega, x1, k2⟩⟩
        rw [hx]
        simp only [List.headD_cons]
        by_cases h4 : (J.xs.length : Int) + 1 < x.n ∨ (x.n ≤ (J.xs.length : Int) ∧ J.xs[(x.n - 1).toNat]? ≠ some x)
        · rw [addJ, if_pos h4]; exact .inl (calm 11 (.inr rfl))
        · by_cases h5 : x.n ≤ (J.xs.length : Int)
          · rw [addJ, if_neg h4, if_pos h5]
            exact .inl (good _ _ ha hd h .same (ack J rfl (Decidable.byContradiction fun hh => h4 (.inr ⟨h5, hh⟩))))
          · have h6 : x.n = (J.xs.length : Int) + 1 := by
              rcases Int.lt_or_le ((J.xs.length : Int) + 1) x.n with h | h
              · exact absurd (.inl h) h4
              · omega
            rw [addJ, if_neg h4, if_neg h5]
            have hc := addM_code D x.n x.s jLog
            have nx : Nx J q { J with xs := J.xs ++ [x] } := .add x h3 hx hnp.symm hne.symm h6
            rcases add_keep h hd (by omega) h6 x2 x3 with ⟨a1, a2, a3⟩ | ⟨a1, a3⟩
            · rw [a1]; simp only [if_true]
              exact .inl (good _ _ ha a2 a3 nx (ack _ rfl (by rw [show (x.n - 1).toNat = J.xs.length from by omega]; simp)))
            · rw [if_neg a1]
              exact .inr (bad _ a1 hc.1 hc.2 ⟨J, some x, ha, a3, .same, fun y hy => by obtain rfl := Option.some.inj hy; exact nx⟩)
      · have hA : q.kind = kA := by
          rcases hqo.kind with ⟨h, _⟩ | ⟨h, _⟩ | ⟨h, _⟩
          · exact absurd h h1
          · exact h
          · exact absurd h h3
        have hlog : logOk q.epoch q.xs = true := by
          rcases hqo.kind with ⟨h, _⟩ | ⟨_, h⟩ | ⟨h, _⟩
          · exact absurd h h1
          · obtain ⟨⟨_, _, l3⟩, l4⟩ := logOk_iff.1 h
            exact logOk_iff.2 ⟨⟨by omega, by omega, l3⟩, l4⟩
          · exact absurd h h3
        by_cases h4 : q.epoch = J.e
        · rw [doJ, if_neg h1, if_neg h2, if_neg h3, if_pos h4]
          by_cases hb : begB q.xs J.xs = true
          · rw [if_pos hb]
            exact .inl (good _ _ ha hd h .same ⟨fun hh => absurd hh h1, fun _ => by omega, fun _ => ⟨h4.symm, hb⟩, fun hh => absurd hh h3⟩)
          · rw [if_neg hb]
            exact .inl (calm 11 (.inr rfl))
        · rw [doJ, if_neg h1, if_neg h2, if_neg h3, if_neg h4]
          have nx : Nx J q ⟨q.epoch, q.epoch, q.xs, J.dead⟩ := .acc hA (by omega) (by omega)
          have hst : ∀ (K : Jn) (E : Disk), K.dead = J.dead → E.down = false → Keep K E → K.p = q.epoch → Nx J q K →
              ((ansJ q (storeJ K E q.epoch q.xs)).2.1.dead = false ∧ (ansJ q (storeJ K E q.epoch q.xs)).2.2.down = false ∧ Keep (ansJ q (storeJ K E q.epoch q.xs)).2.1 (ansJ q (storeJ K E q.epoch q.xs)).2.2 ∧ Nx J q (ansJ q (storeJ K E q.epoch q.xs)).2.1 ∧
                (((ansJ q (storeJ K E q.epoch q.xs)).1 = (if q.kind = kP then toldB (ansJ q (storeJ K E q.epoch q.xs)).2.1.e (ansJ q (storeJ K E q.epoch q.xs)).2.1.xs else saidB 0) ∧ Ack J q (ansJ q (storeJ K E q.epoch q.xs)).2.1) ∨ ∃ e : Int, (e = 10 ∨ e = 11) ∧ (ansJ q (storeJ K E q.epoch q.xs)).1 = saidB e)) ∨
              ((ansJ q (storeJ K E q.epoch q.xs)).2.1.dead = true ∧ (ansJ q (storeJ K E q.epoch q.xs)).1 = saidB 12 ∧ ∃ L o, L.dead = false ∧ TornX L (ansJ q (storeJ K E q.epoch q.xs)).2.2 o ∧ Nx J q L ∧ ∀ x, o = some x → Nx J q { L with xs := L.xs ++ [x] }) := fun K E k1 k2 k3 k4 k5 => by
            have hc := store_code E q.epoch q.xs jLog
            rcases store_base k3.toJBase k2 hlog ⟨hq0, by omega⟩ with ⟨a1, a2, a3⟩ | ⟨a1, a3, a4⟩
            · have e : storeJ K E q.epoch q.xs = (0, ⟨q.epoch, q.epoch, q.xs, J.dead⟩, (storeM E q.epoch q.xs jLog).2) := by unfold storeJ; rw [a1]; simp [k1, k4]
              have e2 : ({ K with e := q.epoch, xs := q.xs } : Jn) = ⟨q.epoch, q.epoch, q.xs, J.dead⟩ := by simp [k1, k4]
              rw [e2] at a3
              rw [e]
              exact .inl (good _ _ ha a2 a3 nx ⟨fun hh => absurd hh h1, fun _ => by omega, fun _ => ⟨rfl, beg_refl _⟩, fun hh => absurd hh h3⟩)
            · exact .inr (bad _ a1 hc.1 hc.2 ⟨K, none, by rw [k1, ha], ⟨a3, .inl (by have hl := k3.log; unfold logIs at hl ⊢; show aget (storeM E q.epoch q.xs jLog).2.files jLog = _; rw [a4]; exact hl)⟩, k5, nn K⟩)
          rw [accJ]
          by_cases h5 : J.p < q.epoch
          · rw [if_pos h5]
            have hc := place_code D (jProm ++ dotNew) jProm (mk (sealB (numB q.epoch)))
            rcases prom_keep h hd ⟨h5, hq1⟩ with ⟨a1, a2, a3, a4⟩ | ⟨a1, a2, a4⟩
            · rw [if_pos a1, a2]
              exact hst _ _ rfl a3 a4 rfl (.prom h3 h5)
            · rw [if_neg a1]
              exact .inr (bad _ a1 hc.1 hc.2 ⟨J, none, ha, a4.torn, .same, nn J⟩)
          · rw [if_neg h5]
            exact hst J D rfl hd h (by omega) .same
theorem part_cut {n : Int} (hn : I64 n) {s : List UInt8} (h : (numB n ++ s).length ≤ 4000) {m : Nat} (hm : m < (partB n s).length) : openP ((partB n s).take m) = none := by
  cases hp : openP ((partB n s).take m) with
  | none => rfl
  | some p =>
    obtain ⟨n', x, r⟩ := p
    obtain ⟨h1, h2, h3⟩ := openP_some hp
    have e := openP_part hn h []
    have e2 := openP_part h1 h3 (r ++ (partB n s).drop m)
    rw [← List.append_assoc, ← h2, List.take_append_drop, ← List.append_nil (partB n s), e] at e2
    simp only [Option.some.injEq, Prod.mk.injEq] at e2
    have := congrArg List.length e2.2.2
    simp at this
    omega
theorem load_log {e : Int} {xs : List Ent} (h : logOk e xs = true) : loadM (logB e xs) 0 = (e, xs, true, 0) := by
  rw [loadM, if_pos rfl, parse_log h]; simp
theorem load_torn {e : Int} {xs : List Ent} {x : Ent} (h : logOk e (xs ++ [x]) = true) {m : Nat} (hm : m < (partB x.n (bs x.s)).length) :
    loadM (logB e xs ++ (partB x.n (bs x.s)).take m) 0 = (e, xs, decide ((partB x.n (bs x.s)).take m = []), 0) := by
  obtain ⟨⟨h1, h2, h3⟩, h4⟩ := logOk_iff.1 h
  have h5 : entsOk 0 xs = true := by rw [entsOk_snoc, Bool.and_eq_true] at h4; exact h4.1
  have hx := entsOk_get (i := xs.length) (x := x) h4 (by simp)
  simp only [List.length_append, List.length_cons, List.length_nil] at h3
  have ok : logOk e xs = true := logOk_iff.2 ⟨⟨h1, h2, by omega⟩, h5⟩
  have hI : I64 x.n := by unfold I64; have := hx.1; constructor <;> omega
  have hn := num_len hI
  have hb := bs_len x.s
  have hl : (numB x.n ++ bs x.s).length ≤ 4000 := by rw [List.length_append]; omega
  have hc := part_cut hI hl hm
  rw [loadM, if_pos rfl, parseP_log ok _ (.inr (by rw [takeEnt, hc]))]
theorem logOk_init {e : Int} {xs : List Ent} {x : Ent} (h : logOk e (xs ++ [x]) = true) : logOk e xs = true ∧ (partB x.n (bs x.s)).length ≤ 624 := by
  obtain ⟨⟨h1, h2, h3⟩, h4⟩ := logOk_iff.1 h
  have h5 : entsOk 0 xs = true := by rw [entsOk_snoc, Bool.and_eq_true] at h4; exact h4.1
  have hx := entsOk_get (i := xs.length) (x := x) h4 (by simp)
  simp only [List.length_append, List.length_cons, List.length_nil] at h3
  exact ⟨logOk_iff.2 ⟨⟨h1, h2, by omega⟩, h5⟩, partB_short (by unfold I64; have := hx.1; constructor <;> omega) (by rw [bs_len]; exact hx.2)⟩
theorem crash_less {D : Disk} (h : DiskOk D) (keeps : List Int) {nm : ByteArray} {f : File} (hf : aget (D.crash keeps).files nm = some f) : ∃ g, aget D.files nm = some g ∧ f.data.size ≤ g.data.size := by
  cases hg : aget D.files nm with
  | none =>
    rw [crash_none h keeps (by simp [Disk.has, hg])] at hf
    cases hf
  | some g =>
    obtain ⟨c, hc, e⟩ := crash_some h keeps (nm := nm) (by simp [Disk.has, hg])
    rw [e, show D.at nm = g from by simp [Disk.at, hg]] at hf
    exact ⟨g, rfl, (crashF_some (h.fileOk _ (aget_mem hg)) hc hf).2.2.1⟩
theorem crash_gone {D : Disk} (h : DiskOk D) (keeps : List Int) {nm : ByteArray} (hg : aget D.files nm = none) : aget (D.crash keeps).files nm = none := crash_none h keeps (by simp [Disk.has, hg])
theorem seal_pos (p : Int) (hI : I64 p) : (mk (sealB (numB p))).size ≠ 0 := by
  have h1 := num_len hI
  have := (sealB_len (s := numB p) (by omega)).2
  rw [mk_size]; omega
theorem logB_size {e : Int} {xs : List Ent} (h : logOk e xs = true) : (mk (logB e xs)).size ≠ 0 := by
  rw [mk_size]; exact fun h0 => logB_pos h (List.eq_nil_of_length_eq_zero h0)
theorem crash_base {J : Jn} {D : Disk} (h : JBase J D) (keeps : List Int) : JBase J (D.crash keeps) := by
  have hI : I64 J.p := by have := h.ok.p0; have := h.ok.p1; unfold I64; omega
  refine ⟨h.ok, h.ep, h.zero, crash_ok h.disk keeps, h.room, ?_, fun k a b c d => crash_gone h.disk keeps (h.few k a b c d), fun f hf => ?_, fun f hf => ?_⟩
  · by_cases hp : J.p = 0
    · rw [if_pos hp]; exact crash_gone h.disk keeps (by rw [h.prom, if_pos hp])
    · rw [if_neg hp]
      have := crash_full h.disk keeps (nm := jProm) (d := mk (sealB (numB J.p))) (by rw [h.prom, if_neg hp]; rfl)
      rwa [if_neg (seal_pos _ hI)] at this
  · obtain ⟨g, g1, g2⟩ := crash_less h.disk keeps hf
    have := h.pn g g1; omega
  · obtain ⟨g, g1, g2⟩ := crash_less h.disk keeps hf
    have := h.ln g g1; omega
theorem crash_log {J : Jn} {D : Disk} {o : Option Ent} (h : TornX J D o) (keeps : List Int) : logIs J (D.crash keeps) ∨ ∃ (x : Ent) (m : Nat), o = some x ∧ J.e ≠ 0 ∧ logOk J.e (J.xs ++ [x]) = true ∧ m ≤ (partB x.n (bs x.s)).length ∧
    aget (D.crash keeps).files jLog = some ⟨mk (logB J.e J.xs ++ (partB x.n (bs x.s)).take m), (mk (logB J.e J.xs ++ (partB x.n (bs x.s)).take m)).size⟩ := by
  rcases h.log with hl | ⟨x, ho, he, hlog, hg⟩
  · refine .inl ?_
    unfold logIs at hl ⊢
    by_cases he : J.e = 0
    · rw [if_pos he] at hl ⊢; exact crash_gone h.disk keeps hl
    · rw [if_neg he] at hl ⊢
      have := crash_full h.disk keeps (nm := jLog) (d := mk (logB J.e J.xs)) hl
      rwa [if_neg (logB_size h.ok.log)] at this
  · refine .inr ?_
    have hpos := logB_size (logOk_init hlog).1
    obtain ⟨c, hc, e⟩ := crash_some h.disk keeps (nm := jLog) (by simp [Disk.has, hg])
    rw [show D.at jLog = ⟨mk (logB J.e J.xs) ++ mk (partB x.n (bs x.s)), (mk (logB J.e J.xs)).size⟩ from by simp [Disk.at, hg]] at e
    have hfo := h.disk.fileOk _ (aget_mem hg)
    obtain ⟨c1, c2⟩ := crashN_ok hfo hc
    simp only at c1 c2
    have hsz : (mk (logB J.e J.xs) ++ mk (partB x.n (bs x.s))).size = (mk (logB J.e J.xs)).size + (mk (partB x.n (bs x.s))).size := ByteArray.size_append
    have hps := mk_size (partB x.n (bs x.s))
    generalize hN : crashN ⟨mk (logB J.e J.xs) ++ mk (partB x.n (bs x.s)), (mk (logB J.e J.xs)).size⟩ c = N at c1 c2
    obtain ⟨m, hm⟩ : ∃ m : Nat, N = ((mk (logB J.e J.xs)).size : Int) + m := ⟨(N - (mk (logB J.e J.xs)).size).toNat, by omega⟩
    have hmle : m ≤ (partB x.n (bs x.s)).length := by omega
    refine ⟨x, m, ho, he, hlog, hmle, ?_⟩
    rw [e]
    unfold crashF
    rw [hN, if_neg (by simp only; omega)]
    have e1 : (mk (logB J.e J.xs) ++ mk (partB x.n (bs x.s))).extract 0 N.toNat = mk (logB J.e J.xs ++ (partB x.n (bs x.s)).take m) := by
      rw [hm, show (((mk (logB J.e J.xs)).size : Int) + (m : Int)).toNat = (mk (logB J.e J.xs)).size + m from by omega, app_extract, ext_mk, bs_mk, List.drop_zero, Nat.sub_zero, mk_cat]
    rw [e1]
    have e2 : N = ((mk (logB J.e J.xs ++ (partB x.n (bs x.s)).take m)).size : Int) := by
      rw [mk_size, List.length_append, List.length_take, Nat.min_eq_left hmle, hm, mk_size]; omega
    rw [← e2]
theorem prom_read {p : Int} (h : 1 ≤ p ∧ p ≤ 9007199254740991) : promP (mk (sealB (numB p))) = some p := by
  have hI : I64 p := by unfold I64; omega
  have hn := num_len hI
  have hs := openB_seal (s := numB p) (by omega) []
  rw [List.append_nil] at hs
  rw [promP, bs_mk, hs]
  simp only [and_self, if_true]
  rw [numP_num hI]
  simp only
  rw [if_pos h]
theorem open_two {J : Jn} {D : Disk} (h : JBase J D) (hd : D.down = false) : openJ D = open2 J.p D := by
  have h0 := h.ok.p0
  have h1 := h.ok.p1
  have hp := h.prom
  by_cases hz : J.p = 0
  · rw [if_pos hz] at hp
    rw [openJ, read_no hd hp, if_pos rfl, hz]
  · rw [if_neg hz] at hp
    rw [openJ, read_of hd hp]
    simp only [pFile]
    rw [if_neg (by decide), if_true, prom_read ⟨by omega, h1⟩]
theorem open2_of {p : Int} {D : Disk} {d : ByteArray} {er0 e er : Int} {xs : List Ent} {w : Bool} (h1 : D.read jLog = (d, er0)) (h2 : loadM (bs d) er0 = (e, xs, w, er)) :
    open2 p D = if er = 5 then (0, ⟨p, 0, [], false⟩, D) else if er ≠ 0 then (er, ⟨p, 0, [], false⟩, D) else if w = true then (0, ⟨p, e, xs, false⟩, D) else ((storeM D e xs jLog).1, ⟨p, e, xs, false⟩, (storeM D e xs jLog).2) := by
  simp only [open2, h1, h2]
theorem open_keep {J : Jn} {D : Disk} {o : Option Ent} (h : TornX J D o) (ha : J.dead = false) (keeps : List Int) :
    (openJ (D.crash keeps)).1 = 0 ∧ (openJ (D.crash keeps)).2.1.dead = false ∧ (openJ (D.crash keeps)).2.2.down = false ∧ Keep (openJ (D.crash keeps)).2.1 (openJ (D.crash keeps)).2.2 ∧ ((openJ (D.crash keeps)).2.1 = J ∨ ∃ x, o = some x ∧ (openJ (D.crash keeps)).2.1 = { J with xs := J.xs ++ [x] }) := by
  have hb := crash_base h.toJBase keeps
  have hl := crash_log h keeps
  have hd : (D.crash keeps).down = false := rfl
  have hf : (D.crash keeps).fuse = 0 := rfl
  generalize D.crash keeps = E at hb hl hd hf
  rw [open_two hb hd]
  have mk_ok : ∀ ys, logOk J.e ys = true → JnOk ⟨J.p, J.e, ys, false⟩ := fun ys hy => ⟨hb.ok.p0, hb.ok.p1, hy⟩
  have base : ∀ ys, J.e ≠ 0 → logOk J.e ys = true → JBase ⟨J.p, J.e, ys, false⟩ E := fun ys he hy => ⟨mk_ok ys hy, hb.ep, fun h0 => absurd h0 he, hb.disk, hb.room, hb.prom, hb.few, hb.pn, hb.ln⟩
  by_cases he : J.e = 0
  · have hg : aget E.files jLog = none := by
      rcases hl with hl | ⟨x, m, _, h1, _⟩
      · unfold logIs at hl; rwa [if_pos he] at hl
      · exact absurd he h1
    rw [open2_of (read_no hd hg) (show loadM (bs noStr) 5 = (0, [], false, 5) from by rw [loadM, if_neg (by decide)]), if_pos rfl]
    have hxs := hb.zero he
    refine ⟨rfl, rfl, hd, ⟨⟨⟨hb.ok.p0, hb.ok.p1, by simp only; decide⟩, hb.ok.p0, fun _ => rfl, hb.disk, hb.room, hb.prom, hb.few, hb.pn, hb.ln⟩, ?_⟩, .inl (by obtain ⟨p, e, ys, dd⟩ := J; simp only at he hxs ha ⊢; subst he hxs ha; rfl)⟩
    unfold logIs; simp [hg]
  · have whole : ∀ ys, logOk J.e ys = true → aget E.files jLog = some (lFile J.e ys) → (ys = J.xs ∨ ∃ x, o = some x ∧ ys = J.xs ++ [x]) → open2 J.p E = (0, ⟨J.p, J.e, ys, false⟩, E) ∧ Keep ⟨J.p, J.e, ys, false⟩ E ∧ ((⟨J.p, J.e, ys, false⟩ : Jn) = J ∨ ∃ x, o = some x ∧ (⟨J.p, J.e, ys, false⟩ : Jn) = { J with xs := J.xs ++ [x] }) := fun ys hy hg hbg => by
      refine ⟨?_, ⟨base ys he hy, by unfold logIs; simp only; rw [if_neg he]; exact hg⟩, by rcases hbg with rfl | ⟨x, hx, rfl⟩; exact .inl (by rw [← ha]); exact .inr ⟨x, hx, by rw [← ha]⟩⟩
      rw [open2_of (read_of hd hg) (show loadM (bs (lFile J.e ys).data) 0 = (J.e, ys, true, 0) from load_log hy)]
      simp
    have fin : ∀ ys, logOk J.e ys = true → aget E.files jLog = some (lFile J.e ys) → (ys = J.xs ∨ ∃ x, o = some x ∧ ys = J.xs ++ [x]) → (open2 J.p E).1 = 0 ∧ (open2 J.p E).2.1.dead = false ∧ (open2 J.p E).2.2.down = false ∧ Keep (open2 J.p E).2.1 (open2 J.p E).2.2 ∧ ((open2 J.p E).2.1 = J ∨ ∃ x, o = some x ∧ (open2 J.p E).2.1 = { J with xs := J.xs ++ [x] }) := fun ys hy hg hbg => by
      obtain ⟨w1, w2, w3⟩ := whole ys hy hg hbg
      rw [w1]; exact ⟨rfl, rfl, hd, w2, w3⟩
    show (open2 J.p E).1 = 0 ∧ (open2 J.p E).2.1.dead = false ∧ (open2 J.p E).2.2.down = false ∧ Keep (open2 J.p E).2.1 (open2 J.p E).2.2 ∧ ((open2 J.p E).2.1 = J ∨ ∃ x, o = some x ∧ (open2 J.p E).2.1 = { J with xs := J.xs ++ [x] })
    rcases hl with hl | ⟨x, m, ho, _, hlog, hm, hg⟩
    · unfold logIs at hl
      rw [if_neg he] at hl
      exact fin J.xs hb.ok.log hl (.inl rfl)
    · obtain ⟨hx1, hx2⟩ := logOk_init hlog
      by_cases hmf : m = (partB x.n (bs x.s)).length
      · rw [hmf, List.take_length] at hg
        exact fin (J.xs ++ [x]) hlog (by rw [hg, lFile, logB_put]) (.inr ⟨x, ho, rfl⟩)
      by_cases hm0 : (partB x.n (bs x.s)).take m = []
      · rw [hm0, List.append_nil] at hg
        exact fin J.xs hx1 hg (.inl rfl)
      · have hsm := logB_small hx1
        have hps : ((partB x.n (bs x.s)).take m).length ≤ 624 := by rw [List.length_take]; omega
        rw [open2_of (read_of hd hg) (show loadM (bs (mk (logB J.e J.xs ++ (partB x.n (bs x.s)).take m))) 0 = (J.e, J.xs, false, 0) from by
          rw [bs_mk, load_torn hlog (by omega), decide_eq_false hm0])]
        rw [if_neg (by decide), if_neg (by decide), if_neg (by decide)]
        have hz : (storeM E J.e J.xs jLog).1 = 0 := by
          obtain ⟨n1, n2, n3, n4, n5, n6⟩ := four_ne
          have hI : I64 J.p := by have := hb.ok.p0; have := hb.ok.p1; unfold I64; omega
          obtain ⟨t1, t2⟩ := four_names hb.disk.nodup (a := jLog ++ dotNew) (b := jProm) (c := jLog) (d := pNew) (fun k a b c d => hb.few k b c d a)
          have z1 : szOf (aget E.files jProm) ≤ 24 := by
            rw [hb.prom]; split
            · simp [szOf]
            · have := seal_num hI; simp only [szOf, pFile]; omega
          have z2 : szOf (aget E.files jLog) ≤ 187900 + 624 := by
            rw [hg]; simp only [szOf]; rw [mk_size, List.length_append]; omega
          have z3 : szOf (aget E.files pNew) ≤ 24 := by
            cases hpn : aget E.files pNew with
            | none => simp [szOf]
            | some f => have := hb.pn f hpn; simp only [szOf]; omega
          unfold storeM
          rw [if_neg (by simp only [hx1, Bool.true_eq_false, false_or, not_or]; exact ⟨name_ne (by decide), by decide⟩)]
          refine place_done hb.disk hd hf (cat_dot_ne.2.1) (by decide) (name_ne (by decide)) (by decide) n2 (by rw [mk_size]; omega) (by omega) ?_
          have hu := hb.disk.used
          rw [hb.room, mk_size, hu]
          omega
        rcases store_base (base J.xs he hx1) hd hx1 ⟨by have := hb.ok.e0; omega, hb.ep⟩ with ⟨s1, s2, s3⟩ | ⟨s1, _⟩
        · exact ⟨hz, rfl, s2, s3, .inl (by rw [← ha])⟩
        · exact absurd hz s1
end Go.Proofs.YtfolmcpfdcgliaaGreat.B.Q2
