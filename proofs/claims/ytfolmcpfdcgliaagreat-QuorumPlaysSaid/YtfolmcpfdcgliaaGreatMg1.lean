import Derived.Test.YtfolmcpfdcgliaaGreatMg0
set_option linter.unusedVariables false
set_option linter.unusedSimpArgs false
set_option maxRecDepth 8000
namespace Go.Proofs.YtfolmcpfdcgliaaGreat.B
open Go
inductive TD where
  | bool | int (k : IntKind) | string | ptr (e : Nat) | slice (e : Nat) | arr (n e : Nat) | map (k e : Nat) | struct (fs : List (Nat × Nat)) | iface | func | other
def tdOf : TypeDesc → TD
  | .bool => .bool | .int k => .int k | .string => .string | .pointer e => .ptr e | .slice e => .slice e | .array n e => .arr n e | .map k e => .map k e
  | .struct fs => .struct (fs.toList.map fun f => (f.type, f.offset)) | .interface _ => .iface | .func .. => .func | _ => .other
structure TE where
  td : TD
  size : Nat
  bytes : Nat
  zero : Value
def lk {α : Type} : List (Nat × α) → Nat → Option α
  | [], _ => none
  | (j, v) :: r, i => cond (Nat.beq j i) (some v) (lk r i)
theorem lk_mem {α : Type} {l : List (Nat × α)} {i : Nat} {v : α} (h : lk l i = some v) : (i, v) ∈ l := by
  induction l with
  | nil => cases h
  | cons x l ih =>
    obtain ⟨j, u⟩ := x
    simp only [lk] at h
    cases hb : Nat.beq j i with
    | true => rw [hb] at h; simp only [cond_true, Option.some.injEq] at h; subst h; rw [Nat.eq_of_beq_eq_true hb]; exact List.mem_cons_self ..
    | false => rw [hb] at h; exact List.mem_cons_of_mem _ (ih h)
structure Tab (P : Program) where
  tab : List (Nat × TE)
  td_ok : ∀ x ∈ tab, (P.underlying x.1).map tdOf = some x.2.td
  info_ok : ∀ x ∈ tab, (P.info? x.1).map (fun i => (i.zero, i.size, i.bytes)) = some (some x.2.zero, x.2.size, x.2.bytes)
section
variable {P : Program} (T : Tab P) {t : Nat} {e : TE} {w : World}
theorem Tab.td (h : lk T.tab t = some e) : ∃ d, P.underlying t = some d ∧ tdOf d = e.td := by
  have := T.td_ok _ (lk_mem h)
  exact Option.map_eq_some_iff.1 this
theorem Tab.info (h : lk T.tab t = some e) : ∃ i, P.info? t = some i ∧ i.zero = some e.zero ∧ i.size = e.size ∧ i.bytes = e.bytes := by
  have := T.info_ok _ (lk_mem h)
  obtain ⟨i, hi, h2⟩ := Option.map_eq_some_iff.1 this
  simp only [Prod.mk.injEq] at h2
  exact ⟨i, hi, h2⟩
theorem Tab.sizeOf (h : lk T.tab t = some e) : (Go.sizeOf t).run P w = .ok e.size w := by
  obtain ⟨i, hi, _, h2, _⟩ := T.info h
  simp [Go.sizeOf, typeInfo, hi, h2]
theorem Tab.zeroValue (h : lk T.tab t = some e) : (Go.zeroValue t).run P w = .ok e.zero w := by
  obtain ⟨i, hi, h2, _⟩ := T.info h
  simp [Go.zeroValue, typeInfo, hi, h2]
theorem Tab.typeInfo (h : lk T.tab t = some e) : ∃ i, (Go.typeInfo t).run P w = .ok i w ∧ i.bytes = e.bytes ∧ i.size = e.size := by
  obtain ⟨i, hi, h2, h3, h4⟩ := T.info h
  exact ⟨i, by simp [Go.typeInfo, hi], h4, h3⟩
def TD.agg : TD → Bool | .struct _ => true | .arr _ _ => true | _ => false
theorem Tab.isAgg (h : lk T.tab t = some e) : (Go.isAgg t).run P w = .ok e.td.agg w := by
  obtain ⟨d, hd, h2⟩ := T.td h
  simp only [Go.isAgg, underlying, Sem.run_bind, run_program, Result.andThen_ok, hd, Sem.run_pure]
  rw [← h2]
  cases d <;> rfl
theorem Tab.und (h : lk T.tab t = some e) : ∃ d, (underlying t).run P w = .ok d w ∧ tdOf d = e.td ∧ P.underlying t = some d := by
  obtain ⟨d, hd, h2⟩ := T.td h
  exact ⟨d, by simp [underlying, hd], h2, hd⟩
theorem tdOf_slice {d : TypeDesc} {e : Nat} (h : tdOf d = .slice e) : d = .slice e := by
  cases d <;> simp only [tdOf] at h <;> first | (cases h; rfl) | cases h
theorem tdOf_string {d : TypeDesc} (h : tdOf d = .string) : d = .string := by
  cases d <;> simp only [tdOf] at h <;> first | (cases h; rfl) | cases h
theorem tdOf_bool {d : TypeDesc} (h : tdOf d = .bool) : d = .bool := by
  cases d <;> simp only [tdOf] at h <;> first | (cases h; rfl) | cases h
theorem tdOf_int {d : TypeDesc} {k : IntKind} (h : tdOf d = .int k) : d = .int k := by
  cases d <;> simp only [tdOf] at h <;> first | (cases h; rfl) | cases h
theorem tdOf_ptr {d : TypeDesc} {e : Nat} (h : tdOf d = .ptr e) : d = .pointer e := by
  cases d <;> simp only [tdOf] at h <;> first | (cases h; rfl) | cases h
theorem tdOf_arr {d : TypeDesc} {n e : Nat} (h : tdOf d = .arr n e) : d = .array n e := by
  cases d <;> simp only [tdOf] at h <;> first | (cases h; rfl) | cases h
theorem tdOf_map {d : TypeDesc} {k e : Nat} (h : tdOf d = .map k e) : d = .map k e := by
  cases d <;> simp only [tdOf] at h <;> first | (cases h; rfl) | cases h
theorem tdOf_struct {d : TypeDesc} {fs : List (Nat × Nat)} (h : tdOf d = .struct fs) : ∃ fields, d = .struct fields ∧ fields.toList.map (fun f => (f.type, f.offset)) = fs := by
  cases d <;> simp only [tdOf] at h <;> first | (injection h with h; exact ⟨_, rfl, h⟩) | cases h
end
abbrev TL := List (Nat × Value)
structure Fr (n : Nat) (ds : List Deferred) (L : TL) (a : Act) : Prop where
  size : a.tmps.size = n
  defers : a.defers = ds
  get : ∀ i v, lk L i = some v → a.tmps[i]? = some v
def evL (L : TL) : Operand → Option Value
  | .tmp t => lk L t
  | .const v => some v
  | .global g => some (.pointer (some ⟨g, 0, none⟩))
  | .func f => some (.func (.func f) #[] #[])
def evLs (L : TL) : List Operand → Option (List Value)
  | [] => some []
  | x :: r => match evL L x, evLs L r with | some v, some vs => some (v :: vs) | _, _ => none
def notB : Option Value → Bool → Bool
  | some (.bool b), want => match b, want with | true, false => true | false, true => true | _, _ => false
  | some (.tuple _), _ => true
  | _, _ => false
theorem notB_spec {o : Option Value} {want : Bool} (h : notB o want = true) : ∃ v, o = some v ∧ ((match (some v : Option Value) with | some (.bool b) => some b | _ => none) == some want) = false := by
  unfold notB at h
  split at h
  · refine ⟨_, rfl, ?_⟩
    split at h
    · rfl
    · rfl
    · cases h
  · rename_i x
    exact ⟨.tuple x, rfl, rfl⟩
  · cases h
def dOk (n : Nat) : Option Nat → Bool | none => true | some d => Nat.blt d n
def putL (L : TL) : Option Nat → Value → TL | none, _ => L | some d, v => (d, v) :: L
section
variable {n : Nat} {ds : List Deferred} {L : TL} {a : Act}
theorem Fr.ev (h : Fr n ds L a) {x : Operand} {v : Value} (hx : evL L x = some v) : a.eval x = v := by
  cases x with
  | tmp t =>
    have := h.get t v hx
    simp [Act.eval, this]
  | const u => simpa [evL, Act.eval] using hx
  | global g => simpa [evL, Act.eval] using hx
  | func f => simpa [evL, Act.eval] using hx
theorem Fr.evs (h : Fr n ds L a) : ∀ {xs : List Operand} {vs : List Value}, evLs L xs = some vs → xs.map a.eval = vs
  | [], vs, hx => by simp only [evLs, Option.some.injEq] at hx; subst hx; rfl
  | x :: r, vs, hx => by
    simp only [evLs] at hx
    split at hx
    · rename_i v us h1 h2
      simp only [Option.some.injEq] at hx
      subst hx
      simp [h.ev h1, h.evs h2]
    · cases hx
theorem Fr.put (h : Fr n ds L a) {d : Option Nat} {v : Value} (hd : dOk n d = true) : Fr n ds (putL L d v) (a.put d v) := by
  cases d with
  | none => exact h
  | some d =>
    have hlt : d < n := by simpa [dOk, Nat.blt_eq] using hd
    refine ⟨by simp [Act.put, h.size], h.defers, fun i u hi => ?_⟩
    simp only [putL, lk] at hi
    simp only [Act.put]
    rw [Array.getElem?_setIfInBounds]
    cases hb : Nat.beq d i with
    | true =>
      have e := Nat.eq_of_beq_eq_true hb
      subst e
      rw [hb] at hi
      simp only [cond_true, Option.some.injEq] at hi
      simp [hi, h.size, hlt]
    | false =>
      have e := Nat.ne_of_beq_eq_false hb
      rw [hb] at hi
      rw [if_neg e]
      exact h.get i u hi
def SubL : TL → TL → Prop
  | [], _ => True
  | (t, v) :: r, L => lk L t = some v ∧ SubL r L
theorem SubL.get : ∀ {L' L : TL}, SubL L' L → ∀ i v, lk L' i = some v → lk L i = some v
  | [], _, _, _, _, h => by cases h
  | (t, u) :: r, L, hs, i, v, h => by
    simp only [lk] at h
    cases hb : Nat.beq t i with
    | true =>
      rw [hb] at h
      simp only [cond_true, Option.some.injEq] at h
      subst h
      have e := Nat.eq_of_beq_eq_true hb
      subst e
      exact hs.1
    | false => rw [hb] at h; exact SubL.get hs.2 i v h
theorem Fr.sub {L' : TL} (h : Fr n ds L a) (hs : SubL L' L) : Fr n ds L' a := ⟨h.size, h.defers, fun i v hi => h.get i v (hs.get i v hi)⟩
end
section
variable (P : Program) (Q : Exit → Act → World → Prop) (n : Nat) (ds : List Deferred)
def WL (ops : Array Oper) (rest : List Oper) (L : TL) (W0 : World) (G : List SL) : Prop := ∀ a w, Fr n ds L a → Sat W0 G w → wpList P ops Q rest a w
def CS (c : Code) (L : TL) (W0 : World) (G : List SL) : Prop := ∀ a w, Fr n ds L a → Sat W0 G w → c.wp P Q a w
def QS (e : Exit) (L : TL) (W0 : World) (G : List SL) : Prop := ∀ a w, Fr n ds L a → Sat W0 G w → Q e a w
def WQ (ops : Array Oper) (rest : List Oper) (L : TL) (W0 : World) (G : List SL) : Prop :=
  ∀ a, Fr n ds L a → wpQuiet P ops (Sat W0 G) (fun a' => ∀ w', Sat W0 G w' → Q .normal a' w') rest a
end
def Op1 (P : Program) (n : Nat) (ds : List Deferred) (L : TL) (W0 : World) (G : List SL) (op : Op) (ty : TypeId) (v : Value) : Prop :=
  ∀ (a : Act) w, Fr n ds L a → Sat W0 G w → ∀ d pos af g, (execOp a.eval ⟨d, op, ty, pos, af, g⟩).run P w = .ok (.value v) w
section
variable {P : Program} {Q : Exit → Act → World → Prop} {n : Nat} {ds : List Deferred} {L : TL} {W0 : World} {G : List SL} {ops : Array Oper} {rest : List Oper}
  {d : Option Nat} {op : Op} {ty : TypeId} {pos : String} {af : Array Edge}
theorem WL.nil (h : QS Q n ds .normal L W0 G) : WL P Q n ds ops [] L W0 G := fun a w hf hs => h a w hf hs
theorem WL.one {v : Value} (h1 : Op1 P n ds L W0 G op ty v) (hd : dOk n d = true) (h : WL P Q n ds ops rest (putL L d v) W0 G) :
    WL P Q n ds ops (⟨d, op, ty, pos, af, none⟩ :: rest) L W0 G := fun a w hf hs =>
  wpList_plain rfl fun K hK => by
    unfold Oper.wp
    rw [h1 a w hf hs, Oper.upon_value]
    exact hK _ _ (h _ _ (hf.put hd) hs)
theorem WL.s {v : Value} {d : Nat} (h1 : Op1 P n ds L W0 G op ty v) (hd : Nat.blt d n = true) (h : WL P Q n ds ops rest ((d, v) :: L) W0 G) :
    WL P Q n ds ops (⟨some d, op, ty, pos, af, none⟩ :: rest) L W0 G := WL.one h1 hd h
theorem WL.step {v : Value} (G' : List SL)
    (h1 : ∀ (a : Act) w, Fr n ds L a → Sat W0 G w → ∃ w', ((execOp a.eval ⟨d, op, ty, pos, af, none⟩).run P w = .ok (.value v) w' ∨ ((execOp a.eval ⟨d, op, ty, pos, af, none⟩).run P w = .ok .skip w' ∧ v = undef)) ∧ Sat W0 G' w')
    (hd : dOk n d = true) (h : WL P Q n ds ops rest (putL L d v) W0 G') : WL P Q n ds ops (⟨d, op, ty, pos, af, none⟩ :: rest) L W0 G := fun a w hf hs =>
  wpList_plain rfl fun K hK => by
    obtain ⟨w', h1, h2⟩ := h1 a w hf hs
    unfold Oper.wp
    rcases h1 with h3 | ⟨h3, rfl⟩
    · rw [h3, Oper.upon_value]
      exact hK _ _ (h _ _ (hf.put hd) h2)
    · rw [h3, Oper.upon_skip]
      exact hK _ _ (h _ _ (hf.put hd) h2)
theorem WL.guardT {j : Nat} {want : Bool} {t : Nat} (ho : (ops[j]?).bind (·.dst) = some t) (hv : lk L t = some (.bool want))
    (h : WL P Q n ds ops (⟨d, op, ty, pos, af, none⟩ :: rest) L W0 G) : WL P Q n ds ops (⟨d, op, ty, pos, af, some (j, want)⟩ :: rest) L W0 G := fun a w hf hs => by
  have hy : Region.wanted ⟨d, op, ty, pos, af, some (j, want)⟩ (yielded ops a.tmps) = true := by
    simp [Region.wanted, yielded, ho, hf.get _ _ hv]
  have := h a w hf hs
  unfold wpList at this ⊢
  rw [if_pos hy]
  rw [if_pos (by rfl)] at this
  exact this
theorem WL.guardF {j : Nat} {want : Bool} {t : Nat} (ho : (ops[j]?).bind (·.dst) = some t) (hv : notB (lk L t) want = true) (hd : dOk n d = true)
    (h : WL P Q n ds ops rest (putL L d undef) W0 G) : WL P Q n ds ops (⟨d, op, ty, pos, af, some (j, want)⟩ :: rest) L W0 G := fun a w hf hs => by
  have hy : Region.wanted ⟨d, op, ty, pos, af, some (j, want)⟩ (yielded ops a.tmps) = false := by
    obtain ⟨v, hv1, hv2⟩ := notB_spec hv
    simp only [Region.wanted, yielded, ho, Option.bind_some, hf.get _ _ hv1]
    exact hv2
  unfold wpList
  rw [if_neg (by rw [hy]; simp)]
  exact h _ _ (hf.put hd) hs
theorem WL.parts (t : Nat) {b : Bool} (hv : lk L t = some (.bool b)) (hT : b = true → WL P Q n ds ops rest ((t, .bool true) :: L) W0 G)
    (hF : b = false → WL P Q n ds ops rest ((t, .bool false) :: L) W0 G) : WL P Q n ds ops rest L W0 G := fun a w hf hs => by
  have key : ∀ c, b = c → Fr n ds ((t, .bool c) :: L) a := fun c hc => ⟨hf.size, hf.defers, fun i v hi => by
    simp only [lk] at hi
    cases hb : Nat.beq t i with
    | true =>
      rw [hb] at hi
      simp only [cond_true, Option.some.injEq] at hi
      have e := Nat.eq_of_beq_eq_true hb
      subst e
      rw [← hi, ← hc]
      exact hf.get _ _ hv
    | false => rw [hb] at hi; exact hf.get i v hi⟩
  cases hb : b with
  | true => exact hT hb a w (key true hb) hs
  | false => exact hF hb a w (key false hb) hs
theorem WL.guardS {j : Nat} {want : Bool} {t : Nat} {b : Bool} (ho : (ops[j]?).bind (·.dst) = some t) (hv : lk L t = some (.bool b))
    (hT : b = true → WL P Q n ds ops (⟨d, op, ty, pos, af, some (j, want)⟩ :: rest) ((t, .bool true) :: L) W0 G)
    (hF : b = false → WL P Q n ds ops (⟨d, op, ty, pos, af, some (j, want)⟩ :: rest) ((t, .bool false) :: L) W0 G) : WL P Q n ds ops (⟨d, op, ty, pos, af, some (j, want)⟩ :: rest) L W0 G :=
  WL.parts t hv hT hF
theorem WQ.nil (h : QS Q n ds .normal L W0 G) : WQ P Q n ds ops [] L W0 G := fun a hf w' hs => h a w' hf hs
theorem WQ.one {v : Value} (h1 : Op1 P n ds L W0 G op ty v) (hd : dOk n d = true) (h : WQ P Q n ds ops rest (putL L d v) W0 G) :
    WQ P Q n ds ops (⟨d, op, ty, pos, af, none⟩ :: rest) L W0 G := fun a hf => by
  unfold wpQuiet
  rw [if_pos (by rfl)]
  exact ⟨v, fun w hs => by unfold Oper.quietAt; rw [h1 a w hf hs]; exact ⟨rfl, rfl⟩, h _ (hf.put hd)⟩
theorem WQ.s {v : Value} {d : Nat} (h1 : Op1 P n ds L W0 G op ty v) (hd : Nat.blt d n = true) (h : WQ P Q n ds ops rest ((d, v) :: L) W0 G) :
    WQ P Q n ds ops (⟨some d, op, ty, pos, af, none⟩ :: rest) L W0 G := WQ.one h1 hd h
theorem WQ.guardT {j : Nat} {want : Bool} {t : Nat} (ho : (ops[j]?).bind (·.dst) = some t) (hv : lk L t = some (.bool want))
    (h : WQ P Q n ds ops (⟨d, op, ty, pos, af, none⟩ :: rest) L W0 G) : WQ P Q n ds ops (⟨d, op, ty, pos, af, some (j, want)⟩ :: rest) L W0 G := fun a hf => by
  have hy : Region.wanted ⟨d, op, ty, pos, af, some (j, want)⟩ (yielded ops a.tmps) = true := by
    simp [Region.wanted, yielded, ho, hf.get _ _ hv]
  have := h a hf
  unfold wpQuiet at this ⊢
  rw [if_pos hy]
  rw [if_pos (by rfl)] at this
  exact this
theorem WQ.guardF {j : Nat} {want : Bool} {t : Nat} (ho : (ops[j]?).bind (·.dst) = some t) (hv : notB (lk L t) want = true) (hd : dOk n d = true)
    (h : WQ P Q n ds ops rest (putL L d undef) W0 G) : WQ P Q n ds ops (⟨d, op, ty, pos, af, some (j, want)⟩ :: rest) L W0 G := fun a hf => by
  have hy : Region.wanted ⟨d, op, ty, pos, af, some (j, want)⟩ (yielded ops a.tmps) = false := by
    obtain ⟨v, hv1, hv2⟩ := notB_spec hv
    simp only [Region.wanted, yielded, ho, Option.bind_some, hf.get _ _ hv1]
    exact hv2
  unfold wpQuiet
  rw [if_neg (by rw [hy]; simp)]
  exact h _ (hf.put hd)
theorem WQ.parts (t : Nat) {b : Bool} (hv : lk L t = some (.bool b)) (hT : b = true → WQ P Q n ds ops rest ((t, .bool true) :: L) W0 G)
    (hF : b = false → WQ P Q n ds ops rest ((t, .bool false) :: L) W0 G) : WQ P Q n ds ops rest L W0 G := fun a hf => by
  have key : ∀ c, b = c → Fr n ds ((t, .bool c) :: L) a := fun c hc => ⟨hf.size, hf.defers, fun i v hi => by
    simp only [lk] at hi
    cases hb : Nat.beq t i with
    | true =>
      rw [hb] at hi
      simp only [cond_true, Option.some.injEq] at hi
      have e := Nat.eq_of_beq_eq_true hb
      subst e
      rw [← hi, ← hc]
      exact hf.get _ _ hv
    | false => rw [hb] at hi; exact hf.get i v hi⟩
  cases hb : b with
  | true => exact hT hb a (key true hb)
  | false => exact hF hb a (key false hb)
theorem WQ.guardS {j : Nat} {want : Bool} {t : Nat} {b : Bool} (ho : (ops[j]?).bind (·.dst) = some t) (hv : lk L t = some (.bool b))
    (hT : b = true → WQ P Q n ds ops (⟨d, op, ty, pos, af, some (j, want)⟩ :: rest) ((t, .bool true) :: L) W0 G)
    (hF : b = false → WQ P Q n ds ops (⟨d, op, ty, pos, af, some (j, want)⟩ :: rest) ((t, .bool false) :: L) W0 G) : WQ P Q n ds ops (⟨d, op, ty, pos, af, some (j, want)⟩ :: rest) L W0 G :=
  WQ.parts t hv hT hF
theorem CS.seq {x y : Code} (h : CS P (Exit.then (y.wp P Q) Q) n ds x L W0 G) : CS P Q n ds (.seq x y) L W0 G := fun a w hf hs => wp_seq (h a w hf hs)
theorem CS.skip (h : QS Q n ds .normal L W0 G) : CS P Q n ds .skip L W0 G := fun a w hf hs => wp_skip (h a w hf hs)
theorem CS.exit {id : Nat} (h : QS Q n ds (.exit id) L W0 G) : CS P Q n ds (.exit id) L W0 G := fun a w hf hs => wp_exit (h a w hf hs)
theorem CS.ret (h : QS Q n ds .ret L W0 G) : CS P Q n ds .ret L W0 G := fun a w hf hs => wp_ret (h a w hf hs)
theorem CS.region {id : Nat} {l : List Oper} (h : WL P Q n ds l.toArray l L W0 G) : CS P Q n ds (.region id l.toArray false) L W0 G := fun a w hf hs => wp_region_lit (h a w hf hs)
theorem CS.draw {id : Nat} {l : List Oper} (hm : P.follows .mixedOrders = true) (hB : Region.lexB .any l.toArray = true) (h : WQ P Q n ds l.toArray l L W0 G) :
    CS P Q n ds (.region id l.toArray true) L W0 G := fun a w hf hs =>
  wp_region_quiet (C := Sat W0 G) hm hB (hs.same rfl ⟨rfl, rfl, rfl⟩) (by simpa using h a hf)
theorem CS.cond {c : Operand} {x y : Code} {b : Bool} (hc : evL L c = some (.bool b)) (hT : b = true → CS P Q n ds x L W0 G) (hF : b = false → CS P Q n ds y L W0 G) :
    CS P Q n ds (.cond c x y) L W0 G := fun a w hf hs => wp_cond_split (hf.ev hc) (fun h => hT h a w hf hs) (fun h => hF h a w hf hs)
theorem CS.condT {c : Operand} {x y : Code} (hc : evL L c = some (.bool true)) (hT : CS P Q n ds x L W0 G) :
    CS P Q n ds (.cond c x y) L W0 G := fun a w hf hs => wp_cond_true (hf.ev hc) (hT a w hf hs)
theorem CS.condF {c : Operand} {x y : Code} (hc : evL L c = some (.bool false)) (hF : CS P Q n ds y L W0 G) :
    CS P Q n ds (.cond c x y) L W0 G := fun a w hf hs => wp_cond_false (hf.ev hc) (hF a w hf hs)
theorem CS.block {id : Nat} {c : Code} (h : CS P (Exit.inBlock id Q) n ds c L W0 G) : CS P Q n ds (.block id c) L W0 G := fun a w hf hs => wp_block (h a w hf hs)
theorem CS.loop {c : Code} {X : Type} (I : X → TL) (A : X → List SL) (p : X → Prop) (m : X → Nat) (x0 : X) (hI : SubL (I x0) L) (hA : ∀ w, Sat W0 G w → Sat W0 (A x0) w) (hp : p x0)
    (round : ∀ x, p x → CS P (Exit.then (fun a w => ∃ x', p x' ∧ m x' < m x ∧ Fr n ds (I x') a ∧ Sat W0 (A x') w) Q) n ds c (I x) W0 (A x)) : CS P Q n ds (.loop c) L W0 G := fun a w hf hs => by
  intro b k cs
  have key : ∀ N x a w, m x = N → p x → Fr n ds (I x) a → Sat W0 (A x) w →
      ∃ e a' w', Q e a' w' ∧ Arrives P (lone (b.at a (.code c :: .inLoop c :: k)) cs w) b k cs e a' w' := by
    intro N
    induction N using Nat.strongRecOn with
    | _ N ih =>
      intro x a w hN hx hf hs
      obtain ⟨e, a1, w1, hq, harr⟩ := round x hx a w hf hs b (.inLoop c :: k) cs
      cases e with
      | normal =>
        obtain ⟨x', hx', hlt, hf', hs'⟩ := hq
        obtain ⟨e2, a2, w2, hq2, harr2⟩ := ih (m x') (hN ▸ hlt) x' a1 w1 rfl hx' hf' hs'
        exact ⟨e2, a2, w2, hq2, .of_steps (Steps.trans harr (.one step_inLoop)) harr2⟩
      | exit id => exact ⟨_, a1, w1, hq, .pass (x := .inLoop c) rfl (fun _ _ => .inl (by simp)) harr⟩
      | goto l => exact ⟨_, a1, w1, hq, .pass (x := .inLoop c) rfl (fun _ _ => .inl (by simp)) harr⟩
      | ret => exact ⟨_, a1, w1, hq, .pass (x := .inLoop c) rfl (fun _ _ => .inl (by simp)) harr⟩
      | panic ch => exact ⟨_, a1, w1, hq, .pass (x := .inLoop c) rfl (fun _ _ => .inl (by simp)) harr⟩
      | outgrown => exact ⟨_, a1, w1, hq, .pass (x := .inLoop c) rfl (fun _ _ => .inl (by simp)) harr⟩
  obtain ⟨e, a', w', hq, harr⟩ := key _ x0 a w rfl hp (hf.sub hI) (hA w hs)
  exact ⟨e, a', w', hq, .of_steps (.one step_loop) harr⟩
theorem CS.cut {c : Code} {X : Type} {K : Act → World → Prop} (I : X → TL) (A : X → List SL) (p : X → Prop)
    (first : CS P (Exit.then (fun a w => ∃ x, p x ∧ Fr n ds (I x) a ∧ Sat W0 (A x) w) Q) n ds c L W0 G)
    (rest : ∀ x, p x → QS (Exit.then K Q) n ds .normal (I x) W0 (A x)) : CS P (Exit.then K Q) n ds c L W0 G := fun a w hf hs =>
  Code.wp_mono (fun e a w q => by
    cases e with
    | normal => obtain ⟨x, hp, hf, hs⟩ := q; exact rest x hp a w hf hs
    | exit id => exact q
    | goto l => exact q
    | ret => exact q
    | panic ch => exact q
    | outgrown => exact q) (first a w hf hs)
end
section
variable {P : Program} {Q : Exit → Act → World → Prop} {n : Nat} {ds : List Deferred} {L : TL} {W0 : World} {G : List SL} {ops : Array Oper} {rest : List Oper} {c : Code} {e : Exit}
theorem isWL (h : WL P Q n ds ops rest L W0 G) : WL P Q n ds ops rest L W0 G := h
theorem isWQ (h : WQ P Q n ds ops rest L W0 G) : WQ P Q n ds ops rest L W0 G := h
theorem isCS (h : CS P Q n ds c L W0 G) : CS P Q n ds c L W0 G := h
theorem isQS (h : QS Q n ds e L W0 G) : QS Q n ds e L W0 G := h
end
section
variable {P : Program} {Q : Exit → Act → World → Prop} {n : Nat} {ds : List Deferred} {L : TL} {W0 : World} {G : List SL}
theorem QS.then {y : Code} (h : CS P Q n ds y L W0 G) : QS (Exit.then (y.wp P Q) Q) n ds .normal L W0 G := h
theorem QS.thenExit {next : Act → World → Prop} {id : Nat} (h : QS Q n ds (.exit id) L W0 G) : QS (Exit.then next Q) n ds (.exit id) L W0 G := h
theorem QS.thenRet {next : Act → World → Prop} (h : QS Q n ds .ret L W0 G) : QS (Exit.then next Q) n ds .ret L W0 G := h
theorem QS.thenPanic {next : Act → World → Prop} {ch : List PanicEntry} (h : QS Q n ds (.panic ch) L W0 G) : QS (Exit.then next Q) n ds (.panic ch) L W0 G := h
theorem QS.blockHere {id : Nat} (h : QS Q n ds .normal L W0 G) : QS (Exit.inBlock id Q) n ds (.exit id) L W0 G := fun a w hf hs => by
  simp only [Exit.inBlock, if_true]; exact h a w hf hs
theorem QS.blockOther {id id' : Nat} (hne : Nat.beq id' id = false) (h : QS Q n ds (.exit id') L W0 G) : QS (Exit.inBlock id Q) n ds (.exit id') L W0 G := fun a w hf hs => by
  simp only [Exit.inBlock, if_neg (Nat.ne_of_beq_eq_false hne)]; exact h a w hf hs
theorem QS.blockNormal {id : Nat} (h : QS Q n ds .normal L W0 G) : QS (Exit.inBlock id Q) n ds .normal L W0 G := h
theorem QS.blockRet {id : Nat} (h : QS Q n ds .ret L W0 G) : QS (Exit.inBlock id Q) n ds .ret L W0 G := h
theorem QS.blockPanic {id : Nat} {ch : List PanicEntry} (h : QS Q n ds (.panic ch) L W0 G) : QS (Exit.inBlock id Q) n ds (.panic ch) L W0 G := h
end
end Go.Proofs.YtfolmcpfdcgliaaGreat.B
