import Derived.Test.YtfolmcpfdcgliaaGreatMg9
import Derived.Recover
import Derived.Laws.Cover3
set_option linter.unusedVariables false
set_option linter.unusedSimpArgs false
set_option maxRecDepth 8000
namespace Go.Proofs.YtfolmcpfdcgliaaGreat.B
open Go
section
variable {P : Program} (T : Tab P) {Q : Exit → Act → World → Prop} {n : Nat} {ds : List Deferred} {L : TL} {W0 : World} {G : List SL}
  {ops : Array Oper} {rest : List Oper} {ty : TypeId} {pos : String} {af : Array Edge}
theorem WL.panic {x : Operand} {t : Nat} {v : Value} {d : Option Nat} (hx : evL L x = some (.iface t v)) (h : QS Q n ds (.panic [{ v := .iface t v, recovered := false }]) L W0 G) :
    WL P Q n ds ops (⟨d, .panic x, ty, pos, af, none⟩ :: rest) L W0 G := fun a w hf hs =>
  wpList_plain rfl fun K hK => by
    unfold Oper.wp
    have hrun : (execOp a.eval ⟨d, .panic x, ty, pos, af, none⟩).run P w = .halt (.panic (.iface t v)) w := by
      simp only [execOp, hf.ev hx]; rfl
    rw [hrun, Oper.upon_panic]
    exact h _ _ hf hs
theorem WL.defer {f : Operand} {K : Nat} {cap : Array Value} (hx : evL L f = some (.func (.func K) #[] cap)) (h : WL P Q n ({ target := .fn (.func K) cap, args := #[] } :: ds) ops rest L W0 G) :
    WL P Q n ds ops (⟨none, .defer ⟨.value f, #[], #[]⟩, ty, pos, af, none⟩ :: rest) L W0 G := fun a w hf hs =>
  wpList_plain rfl fun K' hK => by
    unfold Oper.wp
    have hrun : (execOp a.eval ⟨none, .defer ⟨.value f, #[], #[]⟩, ty, pos, af, none⟩).run P w = .ok (.defer { target := .fn (.func K) cap, args := #[] }) w := by
      simp only [execOp, resolve, hf.ev hx, Deferred.ofValue, Sem.run_bind, Sem.run_pure, Result.andThen_ok, Array.map_empty, Array.append_empty]
    rw [hrun, Oper.upon_defer]
    exact hK _ _ (h _ _ ⟨hf.size, by rw [hf.defers.symm]; rfl, hf.get⟩ hs)
theorem op1_iface {x : Operand} {t : Nat} {v : Value} {te : TE} {fs : List (Nat × Nat)} (hx : evL L x = some v) (hl : lk T.tab t = some te) (htd : te.td = .struct fs) : Op1 P n ds L W0 G (.makeInterface t x) ty (.iface t v) := by
  intro a w hf hs dd pos af g
  obtain ⟨d1, hd1, e1, ht⟩ := T.und (w := w) hl
  rw [htd] at e1
  obtain ⟨fields, rfl, _⟩ := tdOf_struct e1
  simp only [execOp, hf.ev hx, Instr.makeInterface, Sem.run_bind, hd1, Result.andThen_ok, Sem.run_pure]
theorem op1_assertOk {x : Operand} {t xt : Nat} {v : Value} {te : TE} {fs : List (Nat × Nat)} (hx : evL L x = some (.iface t v)) (hl : lk T.tab t = some te) (htd : te.td = .struct fs) : Op1 P n ds L W0 G (.typeAssert x xt t true) ty (.tuple #[v, .bool true]) := by
  intro a w hf hs dd pos af g
  obtain ⟨d1, hd1, e1, ht⟩ := T.und (w := w) hl
  rw [htd] at e1
  obtain ⟨fields, rfl, _⟩ := tdOf_struct e1
  simp only [execOp, hf.ev hx, Instr.typeAssert, Sem.run_bind, hd1, Result.andThen_ok, Sem.run_pure, if_true]
theorem op1_nilIface {x : Operand} {t : Nat} {z b1 c1 : _} (hx : evL L x = some .nilIface) (hl : lk T.tab t = some ⟨.iface, z, b1, c1⟩) : Op1 P n ds L W0 G (.binOp .neq t x (.const .nilIface) t) ty (.bool false) := by
  intro a w hf hs dd pos af g
  obtain ⟨d1, hd1, e1, ht⟩ := T.und (w := w) hl
  cases d1 <;> simp only [tdOf] at e1 <;> first | cases e1 | skip
  have h2 : ∀ d, (Op.equalIn (d + 1) t .nilIface .nilIface).run P w = .ok true w := fun d => by simp [Op.equalIn, hd1]
  have hc : a.eval (.const .nilIface) = .nilIface := rfl
  simp [execOp, hf.ev hx, hc, eqGuard, Go.binOp, Op.equal, Op.maxDepth, h2 9999]
theorem op1_someIface {x : Operand} {t u : Nat} {v : Value} {z b1 c1 : _} (hx : evL L x = some (.iface u v)) (hl : lk T.tab t = some ⟨.iface, z, b1, c1⟩) : Op1 P n ds L W0 G (.binOp .neq t x (.const .nilIface) t) ty (.bool true) := by
  intro a w hf hs dd pos af g
  obtain ⟨d1, hd1, e1, ht⟩ := T.und (w := w) hl
  cases d1 <;> simp only [tdOf] at e1 <;> first | cases e1 | skip
  have h2 : ∀ d, (Op.equalIn (d + 1) t (.iface u v) .nilIface).run P w = .ok false w := fun d => by simp [Op.equalIn, hd1]
  have hc : a.eval (.const .nilIface) = .nilIface := rfl
  simp [execOp, hf.ev hx, hc, eqGuard, Go.binOp, Op.equal, Op.maxDepth, h2 9999]
end
section
variable {P : Program} {n : Nat} {L : TL} {W0 : World} {G : List SL}
theorem Fn.enterD {K : Nat} {fn : Func} {c : Code} {vs : List Value} {R : Ending → List SL → Prop} (hf : P.funcs[K]? = some fn) (hb : fn.body = some c) (hn : fn.ntmps = n) (hlen : Nat.ble vs.length n = true)
    (h : CS P (bodyPostD P fn (fun e w' => ∃ G', R e G' ∧ Sat W0 G' w')) n [] c (numL 0 vs) W0 G) : Fn P K vs W0 G R := fun w hs => by
  refine calls_of_wp_defers hf hb (h _ w ⟨?_, rfl, fun i v hi => ?_⟩ hs)
  · have := Nat.le_of_ble_eq_true hlen
    simp [hn]; omega
  · have := (numL_get vs 0 i v hi).2
    simp only [Nat.sub_zero] at this
    have hlt := (List.getElem?_eq_some_iff.1 this).1
    rw [Array.getElem?_append_left (by simpa using hlt)]
    simpa using this
def DefOk (P : Program) (d : Deferred) (u : FrameMode) (W0 : World) (G : List SL) : Prop := ∃ fv cap f args, d.target = .fn fv cap ∧ (∀ w, (invoke d.target d.args).run P w = .ok (.enter f args) w) ∧
  ∀ w, Sat W0 G w → CallsD P f args u w fun e u' w' => (∃ v, e = .returned v) ∧ settle u' = .returning ∧ Sat W0 G w'
theorem leaves_one {fn : Func} {d : Deferred} {tmps : Array Value} {R : Ending → World → Prop} {u : FrameMode} {w : World} {v : Value} (hu : u ≠ .run) (hd : DefOk P d u W0 G) (hs : Sat W0 G w) (hv : ∀ w, (results fn tmps).run P w = .ok v w) (hR : ∀ w, Sat W0 G w → R (.returned v) w) :
    Leaves P fn tmps R [d] u w := by
  obtain ⟨fv, cap, f, args, h1, h2, h3⟩ := hd
  refine ⟨hu, fv, cap, f, args, h1, h2 w, (h3 w hs).mono ?_⟩
  rintro e u' w' ⟨⟨r, rfl⟩, h4, h5⟩
  simp only [h4]
  exact ⟨v, hv w', hR w' h5⟩
theorem QS.retD {fn : Func} {d : Deferred} {vs : List Value} {R : Ending → List SL → Prop} {rs : List ResultVar} (hrs : fn.results = rs.toArray) (hv : resL L rs = some vs) (hd : DefOk P d .returning W0 G) (hR : R (.returned (resV vs)) G) :
    QS (bodyPostD P fn (fun e w' => ∃ G', R e G' ∧ Sat W0 G' w')) n [d] .ret L W0 G := fun a w hf hs => by
  show Leaves P fn a.tmps _ a.defers .returning w
  rw [hf.defers]
  refine leaves_one (by simp) hd hs (fun w => ?_) (fun w' hs' => ⟨G, hR, hs'⟩)
  have h := resL_run (P := P) w hf hv
  rw [results_is, hrs, Sem.run_bind, List.mapM_toArray, Sem.run_map, h, Result.andThen_ok, Result.andThen_ok, Sem.run_pure, resPack_eq]
theorem QS.panicD {fn : Func} {d : Deferred} {vs : List Value} {R : Ending → List SL → Prop} {rs : List ResultVar} {ch : List PanicEntry} (hrs : fn.results = rs.toArray) (hv : resL L rs = some vs) (hd : DefOk P d (.panicking ch) W0 G) (hR : R (.returned (resV vs)) G) :
    QS (bodyPostD P fn (fun e w' => ∃ G', R e G' ∧ Sat W0 G' w')) n [d] (.panic ch) L W0 G := fun a w hf hs => by
  show Leaves P fn a.tmps _ a.defers (.panicking ch) w
  rw [hf.defers]
  refine leaves_one (by simp) hd hs (fun w => ?_) (fun w' hs' => ⟨G, hR, hs'⟩)
  have h := resL_run (P := P) w hf hv
  rw [results_is, hrs, Sem.run_bind, List.mapM_toArray, Sem.run_map, h, Result.andThen_ok, Result.andThen_ok, Sem.run_pure, resPack_eq]
def recO (d e : Nat) (ty : TypeId) (p1 p2 : String) (a1 a2 : Array Edge) : Array Oper :=
  #[⟨some d, .call ⟨.builtin .recover, #[], #[]⟩, ty, p1, a1, none⟩, ⟨some e, .assign (.tmp d), ty, p2, a2, none⟩]
theorem recO_run {d e : Nat} {ty : TypeId} {p1 p2 : String} {a1 a2 : Array Edge} {Q : Exit → Act → List Frame → World → Prop} {a : Act} {cs cs' : List Frame} {w : World} {v : Value}
    (hd : d < a.tmps.size) (hrec : recoverD cs = some (v, cs') ∨ (recoverD cs = none ∧ v = .nilIface ∧ cs' = cs)) (h : Q .normal ((a.put (some d) v).put (some e) v) cs' w) :
    wpOpsS P (recO d e ty p1 p2 a1 a2) Q (List.range (recO d e ty p1 p2 a1 a2).size) a cs w := by
  have hr : List.range (recO d e ty p1 p2 a1 a2).size = [0, 1] := rfl
  have e0 : (recO d e ty p1 p2 a1 a2)[0]? = some ⟨some d, .call ⟨.builtin .recover, #[], #[]⟩, ty, p1, a1, none⟩ := rfl
  have e1 : (recO d e ty p1 p2 a1 a2)[1]? = some ⟨some e, .assign (.tmp d), ty, p2, a2, none⟩ := rfl
  have hev : (a.put (some d) v).eval (.tmp d) = v := by
    simp [Act.eval, Act.put, Array.getD_eq_getD_getElem?, Array.getElem?_setIfInBounds, hd]
  have hx0 : (execOp a.eval ⟨some d, .call ⟨.builtin .recover, #[], #[]⟩, ty, p1, a1, none⟩).run P w = .ok .recover w := by
    simp [execOp, resolve, invoke, builtin]
  have hx1 : (execOp (a.put (some d) v).eval ⟨some e, .assign (.tmp d), ty, p2, a2, none⟩).run P w = .ok (.value v) w := by
    simp only [execOp, hev, Sem.run_pure]
  rw [hr]
  simp only [wpOpsS, e0, e1, Region.wanted, if_true, hx0]
  rcases hrec with h1 | ⟨h1, rfl, rfl⟩
  · simp only [h1]
    rw [hx1]
    exact h
  · simp only [h1]
    rw [hx1]
    exact h
theorem QS.endS {fn : Func} {c₀ : Frame} {cs cs' : List Frame} {u' : FrameMode} {R : Ending → FrameMode → World → Prop} {e : Exit} (he : e = .normal ∨ e = .ret) (hrs : fn.results = #[]) (hcs : cs' = { c₀ with mode := u' } :: cs)
    (hR : ∀ w, Sat W0 G w → R (.returned (.tuple #[])) u' w) : QS (fun e a w => bodyPostS P fn c₀ cs R e a cs' w) n [] e L W0 G := fun a w hf hs => by
  have h : bodyPostS P fn c₀ cs R .ret a cs' w := by
    refine ⟨hf.defers, u', hcs, .tuple #[], ?_, hR w hs⟩
    have h := resL_run (P := P) w hf (rs := []) (vs := []) rfl
    rw [results_is, hrs, Sem.run_bind, show (#[] : Array ResultVar) = ([] : List ResultVar).toArray from rfl, List.mapM_toArray, Sem.run_map, h, Result.andThen_ok, Result.andThen_ok, Sem.run_pure, resPack_eq]; rfl
  rcases he with rfl | rfl <;> exact h
end
section
variable {P : Program} (T : Tab P) {n : Nat} {L : TL} {W0 : World} {G : List SL}
theorem QS.retC (i : Nat) {fn : Func} {p t tt b : Nat} {cs : List Value} {v0 : Value} {vs : List Value} {R : Ending → List SL → Prop} {rs : List ResultVar} (hrs : fn.results = (.cell p t :: rs).toArray) (hp : lk L p = some (.pointer (some ⟨b, 0, none⟩)))
    (hG : G[i]? = some (row b tt cs)) (hv0 : partV T t cs 0 = some v0) (hv : resL L rs = some vs) (hR : R (.returned (resV (v0 :: vs))) G) :
    QS (bodyPost P fn (fun e w' => ∃ G', R e G' ∧ Sat W0 G' w')) n [] .ret L W0 G := fun a w hf hs => by
  refine ⟨hf.defers, resV (v0 :: vs), ?_, G, hR, hs⟩
  have h := resL_run (P := P) w hf hv
  have hb := hs.at hG
  have h0 : (resOne a.tmps (.cell p t)).run P w = .ok v0 w := by
    have hl := run_loadVar_at T (w := w) (b := b) (o := 0) (cs := cs) (fun j u hu => by rw [cell_row hb]; exact hu) hv0
    have h3 := hf.get _ _ hp
    simp [resOne, h3, asAddr, hl]
  rw [results_is, hrs, Sem.run_bind, List.mapM_toArray, Sem.run_map, List.mapM_cons, Sem.run_bind, h0, Result.andThen_ok, Sem.run_bind, h, Result.andThen_ok, Sem.run_pure, Result.andThen_ok, Result.andThen_ok, Sem.run_pure, resPack_eq]
end
theorem CS.use {P : Program} {Q : Exit → Act → World → Prop} {n : Nat} {ds : List Deferred} {L : TL} {W0 : World} {G : List SL} {c : Code} {a : Act} {w : World} (h : CS P Q n ds c L W0 G) (hf : Fr n ds L a) (hs : Sat W0 G w) : c.wp P Q a w := h a w hf hs
theorem Callable.invoke {P : Program} {K : Nat} (h : Callable P K) (w : World) : (Go.invoke (.fn (.func K) #[]) #[]).run P w = .ok (.enter K #[]) w := by
  have := h #[] w
  simpa [Go.invoke] using this
theorem Fr.start (n : Nat) : Fr n [] [] { tmps := #[] ++ Array.replicate (n - (#[] : Array Value).size) undef, defers := [] } := ⟨by simp, rfl, fun i v h => by cases h⟩
theorem QS.turnR {P : Program} {fn : Func} {n : Nat} {ds : List Deferred} {L : TL} {W0 : World} {G G2 : List SL} {R : Ending → List SL → Prop} {e : Exit} (hG : ∀ w, Sat W0 G w → Sat W0 G2 w)
    (h : QS (bodyPost P fn (fun e w' => ∃ G', (G' = G ∧ R e G2) ∧ Sat W0 G' w')) n ds e L W0 G) : QS (bodyPost P fn (fun e w' => ∃ G', R e G' ∧ Sat W0 G' w')) n ds e L W0 G := fun a w hf hs => by
  have key : ∀ e w', (∃ G', (G' = G ∧ R e G2) ∧ Sat W0 G' w') → ∃ G', R e G' ∧ Sat W0 G' w' := fun e w' ⟨G', ⟨h1, h2⟩, h3⟩ => ⟨G2, h2, hG _ (h1 ▸ h3)⟩
  have := h a w hf hs
  cases e with
  | normal => exact ⟨this.1, by obtain ⟨v, h1, h2⟩ := this.2; exact ⟨v, h1, key _ _ h2⟩⟩
  | ret => exact ⟨this.1, by obtain ⟨v, h1, h2⟩ := this.2; exact ⟨v, h1, key _ _ h2⟩⟩
  | panic ch => exact ⟨this.1, key _ _ this.2⟩
  | exit id => exact this.elim
  | goto l => exact this.elim
  | outgrown => exact key _ _ this
section
variable {P : Program} (T : Tab P) {Q : Exit → Act → World → Prop} {n : Nat} {ds : List Deferred} {L : TL} {W0 : World} {G : List SL}
  {ops : Array Oper} {rest : List Oper} {ty : TypeId} {pos : String} {af : Array Edge}
theorem setRow_same {w : World} {b tt : Nat} {cs : List Value} (hb : w.heap[b]? = some (.cells cs.toArray tt (0, 0))) : w.setRow b cs.toArray = w := by
  have h : (w.setRow b cs.toArray).heap = w.heap := by
    apply Array.ext_getElem?
    intro k
    simp only [World.setRow, Array.getElem?_modify]
    split
    · rename_i e; subst e; simp [hb]
    · rfl
  calc w.setRow b cs.toArray = { w with heap := (w.setRow b cs.toArray).heap } := rfl
    _ = w := by rw [h]
theorem WQ.storeSame (i : Nat) {x y : Operand} {b o t tt : Nat} {e : TE} {v : Value} {cs vs : List Value} (hx : evL L x = some (.pointer (some ⟨b, o, none⟩))) (hy : evL L y = some v)
    (hc : cellsO v = some vs) (hl : lk T.tab t = some e) (hz : Nat.beq vs.length e.size = true) (h1 : allOne vs = true)
    (hG : G[i]? = some (row b tt cs)) (hs' : setN cs o vs = some cs) (h : WQ P Q n ds ops rest L W0 G) :
    WQ P Q n ds ops (⟨none, .store t x y, ty, pos, af, none⟩ :: rest) L W0 G := fun a hf => by
  unfold wpQuiet
  rw [if_pos (by rfl)]
  refine ⟨undef, fun w hs => ?_, h _ hf⟩
  have hb := hs.at hG
  obtain ⟨h2, h3⟩ := setN_eq hs'
  have hst := run_storeCells_at P b o tt vs 0 cs.toArray w hb (by simpa using h2) (allOne_eq h1)
  simp only [Nat.add_zero] at hst
  have hzz := T.sizeOf (w := w) hl
  have hcell := cellsO_eq hc
  have hsz : v.cells.size = e.size := by rw [hcell]; simpa using Nat.eq_of_beq_eq_true hz
  have hlist : v.cells.toList = vs := by rw [hcell]
  have hsame : w.setRow b (cs.toArray.toList.take o ++ vs ++ cs.toArray.toList.drop (o + vs.length)).toArray = w := by
    have : (cs.toArray.toList.take o ++ vs ++ cs.toArray.toList.drop (o + vs.length)) = cs := h3.symm
    rw [this]; exact setRow_same hb
  rw [hsame] at hst
  have hrun : (execOp a.eval ⟨none, .store t x y, ty, pos, af, none⟩).run P w = .ok .skip w := by
    simp only [execOp, hf.ev hx, hf.ev hy, Instr.storeAt, Instr.sureAddr, Sem.run_bind, Sem.run_pure, Result.andThen_ok, storeVar, hzz, hsz, ne_eq, not_true_eq_false, if_false, hlist, hst]
  unfold Oper.quietAt
  rw [hrun]
  exact ⟨rfl, rfl⟩
end
end Go.Proofs.YtfolmcpfdcgliaaGreat.B

namespace Go.Proofs.YtfolmcpfdcgliaaGreat.B
open Go Go.Proofs
section
variable {P : Program} {Q : Exit → Act → World → Prop} {n : Nat} {ds : List Deferred} {L : TL} {W0 w : World} {G : List SL} {p : Prop} {α : Type} {E : EncK α} {c t i : Nat} {A : Option Addr} {xs : List α}
theorem WL.fact {ops : Array Oper} {rest : List Oper} (hp : ∀ w, Sat W0 G w → p) (h : p → WL P Q n ds ops rest L W0 G) : WL P Q n ds ops rest L W0 G := fun a w hf hs => h (hp w hs) a w hf hs
theorem CS.fact {c : Code} (hp : ∀ w, Sat W0 G w → p) (h : p → CS P Q n ds c L W0 G) : CS P Q n ds c L W0 G := fun a w hf hs => h (hp w hs) a w hf hs
theorem Fn.fact {K : Nat} {args : List Value} {R : Ending → List SL → Prop} (hp : ∀ w, Sat W0 G w → p) (h : p → Fn P K args W0 G R) : Fn P K args W0 G R := fun w hs => h (hp w hs) w hs
theorem slc_cap (hG : G[i]? = some (slc E t A c xs)) : ∀ w, Sat W0 G w → xs.length ≤ c := fun w hs => by
  obtain ⟨hp, h, hle⟩ := (hs.pick hG).head
  rcases h with ⟨rfl, rfl, rfl⟩ | ⟨g, cur, rfl, hb, h1, h2, h3, h4⟩
  · exact Nat.le_refl _
  · exact h1
theorem slc_at (hG : G[i]? = some (slc E t A c xs)) : ∀ w, Sat W0 G w → xs.length ≤ c ∧ c ≤ maxLen ∧ ((A = none ∧ c = 0 ∧ xs = []) ∨ ∃ g, A = some ⟨g, 0, none⟩) := fun w hs => by
  obtain ⟨hp, h, hle⟩ := (hs.pick hG).head
  rcases h with ⟨rfl, rfl, rfl⟩ | ⟨g, cur, rfl, hb, h1, h2, h3, h4⟩
  · exact ⟨Nat.le_refl _, Nat.zero_le _, .inl ⟨rfl, rfl, rfl⟩⟩
  · exact ⟨h1, h2, .inr ⟨g, rfl⟩⟩
end
theorem row_slc {α : Type} {W0 w : World} {G : List SL} (E : EncK α) {b t : Nat} (hs : Sat W0 (row b t [] :: G) w) : Sat W0 (slc E t (some ⟨b, 0, none⟩) 0 ([] : List α) :: G) w :=
  hs.imp fun hp h => .inr ⟨b, #[], rfl, h, Nat.le_refl _, Nat.zero_le _, by simp, by simp [flat]⟩
theorem flat_set {α : Type} (E : EncK α) : ∀ (xs : List α) (i : Nat) (x' : α), i < xs.length → flat E (xs.set i x') = (flat E xs).take (i * E.sz) ++ E.enc x' ++ (flat E xs).drop (i * E.sz + E.sz)
  | [], i, x', h => by simp at h
  | y :: r, 0, x', h => by
    have hl := E.len y
    simp only [List.set_cons_zero, flat, List.flatMap_cons, Nat.zero_mul, List.take_zero, List.nil_append, Nat.zero_add]
    rw [List.drop_append, List.drop_of_length_le (by omega), hl, Nat.sub_self, List.drop_zero, List.nil_append]
  | y :: r, i + 1, x', h => by
    have hl := E.len y
    have ih := flat_set E r i x' (by simpa using h)
    simp only [List.set_cons_succ, flat, List.flatMap_cons] at ih ⊢
    have e1 : (E.enc y).take (i * E.sz + E.sz) = E.enc y := List.take_of_length_le (by omega)
    have e2 : (E.enc y).drop (i * E.sz + E.sz + E.sz) = [] := List.drop_of_length_le (by omega)
    rw [ih, List.take_append, List.drop_append, hl, Nat.succ_mul, e1, e2, show i * E.sz + E.sz - E.sz = i * E.sz from by omega, show i * E.sz + E.sz + E.sz - E.sz = i * E.sz + E.sz from by omega]
    simp only [List.append_assoc, List.nil_append]
section
variable {P : Program} (T : Tab P) {α : Type} {E : EncK α} {Q : Exit → Act → World → Prop} {n : Nat} {ds : List Deferred} {L : TL} {W0 : World} {G : List SL}
  {ops : Array Oper} {rest : List Oper} {ty : TypeId} {pos : String} {af : Array Edge}
include T in
theorem op1_remE {x y : Operand} {t t2 : Nat} {a b : Int} (hx : evL L x = some (.int .i64 a)) (hy : evL L y = some (.int .i64 b)) (h : 0 ≤ a ∧ 0 < b) :
    Op1 P n ds L W0 G (.binOp .rem t x y t2) ty (.int .i64 (a % b)) := by
  refine op1_pure T ?_
  simp only [pureOp, hx, hy, binV, sameK, intBin, decide_eq_false (show ¬ b = 0 from by omega), Int.tmod_eq_emod_of_nonneg h.1]
theorem op1_eqNil {t t2 e k c : Nat} {x y : Operand} {A : Option Addr} {z b1 c1 : _} (hx : evL L x = some (.slice A k c)) (hy : evL L y = some (.slice none 0 0)) (hl : lk T.tab t = some ⟨.slice e, z, b1, c1⟩) :
    Op1 P n ds L W0 G (.binOp .eql t x y t2) ty (.bool A.isNone) := by
  intro a w hf hs dd pos af g
  obtain ⟨d1, hd1, e1, hu⟩ := T.und (w := w) hl
  obtain rfl := tdOf_slice e1
  have hq : (binOp .eql t (.slice A k c) (.slice none 0 0)).run P w = .ok (.bool A.isNone) w := by
    simp only [binOp]
    simp [run_equal_slice_nil w t e A k c hu]
  simp [execOp, hf.ev hx, hf.ev hy, hq, eqGuard]
theorem op1_idxA {t e k c : Nat} {g : Nat} {x iy : Operand} {kd : IntKind} {i : Int} {z b1 c1 : _} {te : TE} (E : EncK α) (hs : evL L x = some (.slice (some ⟨g, 0, none⟩) k c)) (hi : evL L iy = some (.int kd i))
    (hb : 0 ≤ i ∧ i < k) (hl : lk T.tab t = some ⟨.slice e, z, b1, c1⟩) (he : lk T.tab e = some te) (hsz : te.size = E.sz) :
    Op1 P n ds L W0 G (.indexAddr t x iy) ty (.pointer (some ⟨g, i.toNat * E.sz, none⟩)) := by
  intro a w hf hs' dd pos af gg
  obtain ⟨d1, hd1, e1, hu⟩ := T.und (w := w) hl
  obtain rfl := tdOf_slice e1
  have hsizes : (sizeOf e).run P w = .ok E.sz w := by rw [T.sizeOf he, hsz]
  have h0 := hb.1
  have h1 := hb.2
  simp only [execOp, hf.ev hs, hf.ev hi, Sem.run_bind]
  simp [Instr.indexAt, asIntOf, hd1, h0, h1, hsizes, Addr.add]
  try exact fun h => h.symm
theorem op1_loadS (i : Nat) {e c : Nat} {g o j k t : Nat} {x : Operand} {xs : List α} {y : α} {te : TE} {cs' : List Value} {v : Value} (hG : G[i]? = some (slc E e (some ⟨g, 0, none⟩) c xs)) (hx : evL L x = some (.pointer (some ⟨g, o, none⟩))) (ho : o = j * E.sz + k)
    (hy : xs[j]? = some y) (hk : dropN k (E.enc y) = some cs') (hl : lk T.tab t = some te) (hv : partV T t cs' 0 = some v) :
    Op1 P n ds L W0 G (.load t x) ty v := op1_loadR T hx (fun w hs m u hm => by
      have h1 := dropN_eq hk
      rw [h1.2, List.getElem?_drop] at hm
      obtain ⟨hp, h, hle⟩ := (hs.pick hG).head
      rcases h with ⟨h, _⟩ | ⟨g', cur, hg, hb, h1, h2, h3, h4⟩
      · cases h
      · injection hg with hg
        injection hg with hg _ _
        subst hg
        have hb' := hle g _ hb
        have h5 := flat_get E xs j _ y u hy hm
        rw [← h4, List.getElem?_take] at h5
        split at h5
        · subst ho
          rw [Nat.add_assoc]
          unfold World.cell?
          rw [hb']
          simpa using h5
        · cases h5) hl hv
theorem WL.storeS (i : Nat) {e c : Nat} {g o j k t : Nat} {x y : Operand} {xs : List α} {z z' : α} {te : TE} {v : Value} {vs : List Value} {G' : List SL} (hG : G[i]? = some (slc E e (some ⟨g, 0, none⟩) c xs)) (hx : evL L x = some (.pointer (some ⟨g, o, none⟩))) (hy : evL L y = some v) (ho : o = j * E.sz + k)
    (hz : xs[j]? = some z) (hc : cellsO v = some vs) (hl : lk T.tab t = some te) (hzl : Nat.beq vs.length te.size = true) (h1 : allOne vs = true) (hs' : setN (E.enc z) k vs = some (E.enc z'))
    (hG' : setG G i (slc E e (some ⟨g, 0, none⟩) c (xs.set j z')) = some G') (h : WL P Q n ds ops rest L W0 G') :
    WL P Q n ds ops (⟨none, .store t x y, ty, pos, af, none⟩ :: rest) L W0 G := by
  refine WL.step (v := undef) G' (fun a w hf hs => ?_) rfl h
  subst ho
  obtain ⟨r, hr⟩ := getG_pick hG
  have s1 := hs.perm (pickG_eq hr).1.symm
  obtain ⟨hp, h, hle⟩ := s1.head
  rcases h with ⟨h, _⟩ | ⟨g', cur, hg, hb, h2, h3, h4, h5⟩
  · cases h
  injection hg with hg
  injection hg with hg _ _
  subst hg
  have hb' := hle g _ hb
  obtain ⟨h6, h7⟩ := setN_eq hs'
  have hjl := (List.getElem?_eq_some_iff.1 hz).1
  rw [E.len] at h6
  have hfl := flat_len E xs
  have hle2 : j * E.sz + E.sz ≤ xs.length * E.sz := by rw [← Nat.succ_mul]; exact Nat.mul_le_mul_right _ hjl
  have hle3 : xs.length * E.sz ≤ c * E.sz := Nat.mul_le_mul_right _ h2
  have hst := run_storeCells_at P g (j * E.sz + k) e vs 0 cur w hb' (by omega) (allOne_eq h1)
  simp only [Nat.add_zero] at hst
  have hcell := cellsO_eq hc
  have hsz : v.cells.size = te.size := by rw [hcell]; simpa using Nat.eq_of_beq_eq_true hzl
  have hlist : v.cells.toList = vs := by rw [hcell]
  have hzz := T.sizeOf (w := w) hl
  refine ⟨w.setRow g (cur.toList.take (j * E.sz + k) ++ vs ++ cur.toList.drop (j * E.sz + k + vs.length)).toArray, .inr ⟨?_, rfl⟩, ?_⟩
  · simp only [execOp, hf.ev hx, hf.ev hy, Instr.storeAt, Instr.sureAddr, Sem.run_bind, Sem.run_pure, Result.andThen_ok, storeVar, hzz, hsz, ne_eq, not_true_eq_false, if_false, hlist, hst]
  · refine Sat.perm (G := slc E e (some ⟨g, 0, none⟩) c (xs.set j z') :: r) ?_ (setG_eq hr hG')
    have hcl : cur.toList.length = c * E.sz := by rw [← h4]; simp
    have hnew : (cur.toList.take (j * E.sz + k) ++ vs ++ cur.toList.drop (j * E.sz + k + vs.length)).length = c * E.sz := by
      simp only [List.length_append, List.length_take, List.length_drop, hcl]
      omega
    have hfs : (cur.toList.take (j * E.sz + k) ++ vs ++ cur.toList.drop (j * E.sz + k + vs.length)).take (xs.length * E.sz) = flat E (xs.set j z') := by
      rw [flat_set E xs j z' hjl, h7, ← h5]
      have hze : E.enc z = (cur.toList.drop (j * E.sz)).take E.sz := by
        apply List.ext_getElem?
        intro m
        rw [List.getElem?_take, List.getElem?_drop]
        have hel := E.len z
        split
        · rename_i hm
          obtain ⟨u, hu⟩ : ∃ u, (E.enc z)[m]? = some u := ⟨(E.enc z)[m]'(by omega), List.getElem?_eq_getElem (by omega)⟩
          have h8 := flat_get E xs j m z u hz hu
          rw [← h5, List.getElem?_take] at h8
          split at h8
          · rw [hu, h8]
          · cases h8
        · exact List.getElem?_eq_none (by omega)
      rw [hze]
      apply List.ext_getElem?
      intro m
      have hcl2 : cur.toList.length = cur.size := by simp
      simp only [List.getElem?_take, List.getElem?_append, List.length_append, List.length_take, List.length_drop, List.getElem?_drop, hcl]
      generalize hJ : j * E.sz = J at *
      generalize hX : xs.length * E.sz = X at *
      generalize hC : c * E.sz = C at *
      generalize hZ : E.sz = Z at *
      generalize hV : vs.length = V at *
      have a1 : min (J + k) C = J + k := by omega
      have a2 : min J X = J := by omega
      have a3 : min J C = J := by omega
      have a4 : min X C = X := by omega
      have a5 : min Z (C - J) = Z := by omega
      have a6 : min k Z = k := by omega
      simp only [a1, a2, a3, a4, a5, a6]
      have a7 : Z - (k + V) + (k + V) = Z := by omega
      by_cases hm : m < X
      · rw [if_pos hm]
        by_cases hm1 : m < J + k
        · rw [if_pos (by omega), if_pos hm1]
          by_cases hm2 : m < J
          · rw [if_pos (by omega), if_pos (by omega), if_pos (by omega)]
            simp [hm1, hm2]
            omega
          · rw [if_pos (by omega), if_neg hm2, if_pos (by omega), if_pos (by omega), if_pos (by omega), if_pos (by omega)]
            rw [if_pos (by omega)]
            congr 1
            omega
        · by_cases hm2 : m < J + k + V
          · rw [if_pos (by omega), if_neg hm1, if_pos (by omega), if_neg (by omega), if_pos (by omega), if_neg (by omega)]
            congr 1
            omega
          · rw [if_neg (by omega)]
            by_cases hm3 : m < J + Z
            · rw [if_pos (by omega), if_neg (by omega), if_neg (by omega)]
              rw [if_pos (by omega)]
              congr 1
              omega
            · rw [if_neg (by omega)]
              rw [if_pos (by omega)]
              congr 1
              omega
      · rw [if_neg hm]
        rw [if_neg (by omega), if_neg (by omega)]
    obtain ⟨NEW, hNEW⟩ : ∃ NEW, NEW = cur.toList.take (j * E.sz + k) ++ vs ++ cur.toList.drop (j * E.sz + k + vs.length) := ⟨_, rfl⟩
    rw [← hNEW] at hnew hfs ⊢
    refine s1.turn (fun hp2 hP2 hle2' => ⟨⟨fun q => if q = g then some (.cells NEW.toArray e (0, 0)) else none, .inr ⟨g, NEW.toArray, rfl, by simp [B.blk], by simpa using h2, h3, by simpa using hnew, by simpa using hfs⟩, fun q o2 hq => ?_, fun q hq => ?_⟩, fun q hq hn => ?_⟩) ⟨rfl, rfl, rfl⟩
    · simp only at hq
      split at hq
      · rename_i e1; subst e1; injection hq with hq; subst hq
        simp only [World.setRow, Array.getElem?_modify, hb']
        simp
      · cases hq
    · simp only at hq
      split at hq
      · rename_i e1; subst e1
        left
        rcases hP2 with ⟨h, _⟩ | ⟨g', cur', hg, hb2, _⟩
        · cases h
        · injection hg with hg
          injection hg with hg _ _
          subst hg
          have : hp2 _ = some (.cells cur' e (0, 0)) := hb2
          rw [this]; simp
      · exact absurd rfl hq
    · simp only [World.setRow, Array.getElem?_modify]
      rw [if_neg (fun e1 => ?_)]
      subst e1
      rcases hP2 with ⟨h, _⟩ | ⟨g', cur', hg, hb2, _⟩
      · cases h
      · injection hg with hg
        injection hg with hg _ _
        subst hg
        have : hp2 g = some (.cells cur' e (0, 0)) := hb2
        rw [this] at hn; cases hn
end
end Go.Proofs.YtfolmcpfdcgliaaGreat.B
