import Derived.Test.YtfolmcpfdcgliaaGreatMg2
set_option linter.unusedVariables false
set_option linter.unusedSimpArgs false
set_option maxRecDepth 8000
namespace Go.Proofs.YtfolmcpfdcgliaaGreat.B
open Go
def row (b t : Nat) (cs : List Value) : SL := blk b (.cells cs.toArray t (0, 0))
def pickG {α : Type _} : List α → Nat → Option (α × List α)
  | [], _ => none
  | a :: l, 0 => some (a, l)
  | a :: l, i + 1 => match pickG l i with | some (x, r) => some (x, a :: r) | none => none
def setG {α : Type _} : List α → Nat → α → Option (List α)
  | [], _, _ => none
  | _ :: l, 0, x => some (x :: l)
  | a :: l, i + 1, x => match setG l i x with | some r => some (a :: r) | none => none
theorem pickG_eq {α : Type _} : ∀ {l r : List α} {i : Nat} {x : α}, pickG l i = some (x, r) → (x :: r).Perm l ∧ l[i]? = some x
  | [], _, _, _, h => by cases h
  | a :: l, r, 0, x, h => by simp only [pickG, Option.some.injEq, Prod.mk.injEq] at h; obtain ⟨rfl, rfl⟩ := h; exact ⟨List.Perm.refl _, rfl⟩
  | a :: l, r, i + 1, x, h => by
    simp only [pickG] at h
    split at h
    · rename_i y r' h'
      simp only [Option.some.injEq, Prod.mk.injEq] at h
      obtain ⟨rfl, rfl⟩ := h
      have := pickG_eq h'
      exact ⟨(List.Perm.swap _ _ _).trans (this.1.cons a), by simpa using this.2⟩
    · cases h
theorem setG_eq {α : Type _} : ∀ {l r l' : List α} {i : Nat} {x y : α}, pickG l i = some (x, r) → setG l i y = some l' → (y :: r).Perm l'
  | [], _, _, _, _, _, h, _ => by cases h
  | a :: l, r, l', 0, x, y, h, h' => by
    simp only [pickG, setG, Option.some.injEq, Prod.mk.injEq] at h h'
    obtain ⟨rfl, rfl⟩ := h
    subst h'
    exact List.Perm.refl _
  | a :: l, r, l', i + 1, x, y, h, h' => by
    simp only [pickG, setG] at h h'
    split at h
    · rename_i z r' hz
      simp only [Option.some.injEq, Prod.mk.injEq] at h
      obtain ⟨rfl, rfl⟩ := h
      split at h'
      · rename_i r2 hr2
        simp only [Option.some.injEq] at h'
        subst h'
        exact (List.Perm.swap _ _ _).trans ((setG_eq hz hr2).cons a)
      · cases h'
    · cases h
theorem getG_pick {α : Type _} : ∀ {l : List α} {i : Nat} {x : α}, l[i]? = some x → ∃ r, pickG l i = some (x, r)
  | [], _, _, h => by simp at h
  | a :: l, 0, x, h => by simp at h; subst h; exact ⟨l, rfl⟩
  | a :: l, i + 1, x, h => by
    obtain ⟨r, hr⟩ := getG_pick (l := l) (i := i) (x := x) (by simpa using h)
    exact ⟨a :: r, by simp [pickG, hr]⟩
theorem Sat.at {W0 w : World} {G : List SL} {i : Nat} {b : Nat} {o : Obj} (s : Sat W0 G w) (h : G[i]? = some (B.blk b o)) : w.heap[b]? = some o := (s.pick h).blk
theorem Sat.front {W0 w : World} {G r : List SL} {i : Nat} {x : SL} (hs : Sat W0 G w) (h : pickG G i = some (x, r)) : Sat W0 (x :: r) w := hs.perm (pickG_eq h).1.symm
theorem Sat.kick {W0 w : World} {G r : List SL} {i : Nat} {x : SL} (hs : Sat W0 G w) (h : pickG G i = some (x, r)) : Sat W0 r w := (hs.front h).drop
def cellsO : Value → Option (List Value)
  | .agg ⟨l⟩ => some l
  | .bool b => some [.bool b]
  | .int k n => some [.int k n]
  | .string s => some [.string s]
  | .pointer a => some [.pointer a]
  | .slice a n c => some [.slice a n c]
  | .map r => some [.map r]
  | .func f x y => some [.func f x y]
  | .nilFunc => some [.nilFunc]
  | .iface t v => some [.iface t v]
  | .nilIface => some [.nilIface]
  | .float k b => some [.float k b]
  | _ => none
theorem cellsO_eq {v : Value} {cs : List Value} (h : cellsO v = some cs) : v.cells = cs.toArray := by
  unfold cellsO at h
  split at h <;> simp only [Option.some.injEq, reduceCtorEq] at h <;> subst h <;> rfl
def oneV : Value → Bool
  | .agg _ => false
  | .tuple _ => false
  | _ => true
theorem oneV_eq (v : Value) : oneV v = v.oneCell' := by cases v <;> rfl
def allOne : List Value → Bool
  | [] => true
  | v :: r => match oneV v with | true => allOne r | false => false
theorem allOne_eq : ∀ {l : List Value}, allOne l = true → ∀ v ∈ l, v.oneCell' = true
  | [], _, v, h => by cases h
  | a :: l, h, v, hv => by
    simp only [allOne] at h
    split at h
    · rename_i ha
      rcases List.mem_cons.1 hv with rfl | hv
      · rw [← oneV_eq]; exact ha
      · exact allOne_eq h v hv
    · cases h
def setN : List Value → Nat → List Value → Option (List Value)
  | cs, 0, [] => some cs
  | _ :: cs, 0, v :: vs => match setN cs 0 vs with | some r => some (v :: r) | none => none
  | c :: cs, o + 1, vs => match setN cs o vs with | some r => some (c :: r) | none => none
  | [], _, _ => none
theorem setN_eq : ∀ {cs : List Value} {o : Nat} {vs r : List Value}, setN cs o vs = some r → o + vs.length ≤ cs.length ∧ r = cs.take o ++ vs ++ cs.drop (o + vs.length)
  | cs, 0, [], r, h => by
    have : some cs = some r := by cases cs <;> exact h
    simp only [Option.some.injEq] at this
    subst this
    simp
  | [], 0, v :: vs, r, h => by cases h
  | c :: cs, 0, v :: vs, r, h => by
    simp only [setN] at h
    split at h
    · rename_i r' h'
      simp only [Option.some.injEq] at h
      subst h
      have := setN_eq h'
      exact ⟨by simp at this ⊢; omega, by simp [this.2]⟩
    · cases h
  | [], o + 1, vs, r, h => by cases vs <;> cases h
  | c :: cs, o + 1, vs, r, h => by
    have h : (match setN cs o vs with | some r => some (c :: r) | none => none) = some r := by cases vs <;> exact h
    split at h
    · rename_i r' h'
      simp only [Option.some.injEq] at h
      subst h
      have := setN_eq h'
      refine ⟨by simp; omega, ?_⟩
      rw [this.2]
      have e : o + 1 + vs.length = (o + vs.length) + 1 := by omega
      rw [e]
      simp
    · cases h
section
variable {P : Program} (T : Tab P) {Q : Exit → Act → World → Prop} {n : Nat} {ds : List Deferred} {L : TL} {W0 : World} {G : List SL} {ops : Array Oper} {rest : List Oper}
  {d : Option Nat} {op : Op} {ty : TypeId} {pos : String} {af : Array Edge}
theorem cell_row {w : World} {b t : Nat} {cs : List Value} (h : w.heap[b]? = some (.cells cs.toArray t (0, 0))) (o : Nat) : w.cell? ⟨b, o, none⟩ = cs[o]? := by
  simp [World.cell?, h]
theorem run_loadVar_at {t b o : Nat} {cs : List Value} {v : Value} {w : World} (hc : ∀ j u, cs[j]? = some u → w.cell? ⟨b, j, none⟩ = some u) (h : partV T t cs o = some v) :
    (loadVar t ⟨b, o, none⟩).run P w = .ok v w := by
  unfold partV at h
  split at h
  · rename_i e hl
    have ha := T.isAgg (w := w) hl
    have hz := T.sizeOf (w := w) hl
    simp only [loadVar, Sem.run_bind, ha, Result.andThen_ok]
    split at h
    · rename_i hagg
      split at h
      · rename_i r hr
        simp only [Option.some.injEq] at h
        subst h
        obtain ⟨h1, h2⟩ := cutN_eq hr
        have hlen : r.length = e.size := by rw [h2]; simp; omega
        have hload := run_loadCells_list (P := P) w ⟨b, o, none⟩ r (fun j u hu => by
          rw [add_off]
          refine hc _ _ ?_
          have hj : j < e.size := by have := (List.getElem?_eq_some_iff.1 hu).1; omega
          rw [h2, List.getElem?_take, if_pos hj, List.getElem?_drop] at hu
          exact hu)
        rw [hlen] at hload
        simp [hagg, hz, hload]
      · cases h
    · rename_i hagg
      split at h
      · rename_i u hr
        simp only [Option.some.injEq] at h
        subst h
        obtain ⟨h1, h2⟩ := cutN_eq hr
        have h3 : cs[o]? = some u := by
          have := congrArg (fun l => l[0]?) h2
          simp at this
          exact this.symm
        simp [hagg, hc o u h3]
      · cases h
  · cases h
theorem op1_load (i : Nat) {x : Operand} {b o t tt : Nat} {cs : List Value} {v : Value} (hx : evL L x = some (.pointer (some ⟨b, o, none⟩))) (hG : G[i]? = some (row b tt cs))
    (hv : partV T t cs o = some v) : Op1 P n ds L W0 G (.load t x) ty v := by
  intro a w hf hs d pos af g
  have hb := hs.at hG
  simp only [execOp, hf.ev hx, Instr.loadAt, Instr.sureAddr, Sem.run_bind, Sem.run_pure, Result.andThen_ok,
    run_loadVar_at T (w := w) (fun j u hu => by rw [cell_row hb]; exact hu) hv]
theorem op1_loadR {x : Operand} {b o t : Nat} {e : TE} {cs : List Value} {v : Value} (hx : evL L x = some (.pointer (some ⟨b, o, none⟩)))
    (hG : ∀ w, Sat W0 G w → ∀ j u, cs[j]? = some u → w.cell? ⟨b, o + j, none⟩ = some u) (hl : lk T.tab t = some e) (hv : partV T t cs 0 = some v) : Op1 P n ds L W0 G (.load t x) ty v := by
  intro a w hf hs d pos af g
  have key := hG w hs
  have : (loadVar t ⟨b, o, none⟩).run P w = .ok v w := by
    unfold partV at hv
    rw [hl] at hv
    have ha := T.isAgg (w := w) hl
    have hz := T.sizeOf (w := w) hl
    simp only [loadVar, Sem.run_bind, ha, Result.andThen_ok]
    simp only at hv
    split at hv
    · rename_i hagg
      split at hv
      · rename_i r hr
        simp only [Option.some.injEq] at hv
        subst hv
        obtain ⟨h1, h2⟩ := cutN_eq hr
        have hlen : r.length = e.size := by rw [h2]; simp; omega
        have hload := run_loadCells_list (P := P) w ⟨b, o, none⟩ r (fun j u hu => by
          rw [add_off]
          refine key _ _ ?_
          have hj : j < e.size := by have := (List.getElem?_eq_some_iff.1 hu).1; omega
          rw [h2, List.getElem?_take, if_pos hj, List.getElem?_drop] at hu
          simpa using hu)
        rw [hlen] at hload
        simp [hagg, hz, hload]
      · cases hv
    · rename_i hagg
      split at hv
      · rename_i u hr
        simp only [Option.some.injEq] at hv
        subst hv
        obtain ⟨h1, h2⟩ := cutN_eq hr
        have h3 : cs[0]? = some u := by
          have := congrArg (fun l => l[0]?) h2
          simp at this
          simpa using this.symm
        have := key 0 u h3
        simp only [Nat.add_zero] at this
        simp [hagg, this]
      · cases hv
  simp only [execOp, hf.ev hx, Instr.loadAt, Instr.sureAddr, Sem.run_bind, Sem.run_pure, Result.andThen_ok, this]
theorem WL.store (i : Nat) {x y : Operand} {b o t tt : Nat} {e : TE} {v : Value} {cs vs cs' : List Value} {G' : List SL} (hx : evL L x = some (.pointer (some ⟨b, o, none⟩))) (hy : evL L y = some v)
    (hc : cellsO v = some vs) (hl : lk T.tab t = some e) (hz : Nat.beq vs.length e.size = true) (h1 : allOne vs = true)
    (hG : G[i]? = some (row b tt cs)) (hs' : setN cs o vs = some cs') (hG' : setG G i (row b tt cs') = some G') (h : WL P Q n ds ops rest L W0 G') :
    WL P Q n ds ops (⟨none, .store t x y, ty, pos, af, none⟩ :: rest) L W0 G := by
  refine WL.step (v := undef) G' (fun a w hf hs => ?_) rfl h
  have hb := hs.at hG
  obtain ⟨h2, h3⟩ := setN_eq hs'
  have hst := run_storeCells_at P b o tt vs 0 cs.toArray w hb (by simpa using h2) (allOne_eq h1)
  simp only [Nat.add_zero] at hst
  refine ⟨w.setRow b (cs.toArray.toList.take o ++ vs ++ cs.toArray.toList.drop (o + vs.length)).toArray, .inr ⟨?_, rfl⟩, ?_⟩
  · have hzz := T.sizeOf (w := w) hl
    have hcell := cellsO_eq hc
    have hsz : v.cells.size = e.size := by rw [hcell]; simpa using Nat.eq_of_beq_eq_true hz
    have hlist : v.cells.toList = vs := by rw [hcell]
    simp only [execOp, hf.ev hx, hf.ev hy, Instr.storeAt, Instr.sureAddr, Sem.run_bind, Sem.run_pure, Result.andThen_ok, storeVar, hzz, hsz, ne_eq, not_true_eq_false, if_false, hlist, hst]
  · obtain ⟨r, hr⟩ := getG_pick hG
    have s1 := hs.perm (pickG_eq hr).1.symm
    have s2 : Sat W0 (row b tt cs' :: r) (w.setRow b (cs.toArray.toList.take o ++ vs ++ cs.toArray.toList.drop (o + vs.length)).toArray) := by
      refine Sat.put (o' := .cells cs'.toArray tt (0, 0)) s1 ?_ (fun k hk => ?_) ⟨rfl, rfl, rfl⟩
      · rw [h3]
        simp only [World.setRow, Array.getElem?_modify, hb]
        simp
      · simp only [World.setRow, Array.getElem?_modify]
        rw [if_neg (fun e => hk e.symm)]
    exact s2.perm (setG_eq hr hG')
theorem WL.alloc {d : Nat} {t : Nat} {e : TE} {cs : List Value} (hl : lk T.tab t = some e) (hc : cellsO e.zero = some cs) (hd : Nat.blt d n = true)
    (h : ∀ b, WL P Q n ds ops rest ((d, .pointer (some ⟨b, 0, none⟩)) :: L) W0 (row b t cs :: G)) : WL P Q n ds ops (⟨some d, .alloc t, ty, pos, af, none⟩ :: rest) L W0 G := fun a w hf hs =>
  wpList_plain rfl fun K hK => by
    have hz := T.zeroValue (w := w) hl
    have hcell := cellsO_eq hc
    have hr : (execOp a.eval ⟨some d, .alloc t, ty, pos, af, none⟩).run P w = .ok (.value (.pointer (some ⟨w.heap.size, 0, none⟩))) (w.alloc (.cells cs.toArray t)) := by
      simp [execOp, Instr.alloc, hz, newVar, newRow, hcell]
    unfold Oper.wp
    rw [hr, Oper.upon_value]
    exact hK _ _ (h w.heap.size _ _ (hf.put (d := some d) hd) (hs.alloc _))
theorem WL.box {d : Nat} {t : Nat} {x : Operand} {v : Value} {cs : List Value} (hx : evL L x = some v) (hc : cellsO v = some cs) (hd : Nat.blt d n = true)
    (h : ∀ b, WL P Q n ds ops rest ((d, .pointer (some ⟨b, 0, none⟩)) :: L) W0 (row b t cs :: G)) : WL P Q n ds ops (⟨some d, .box t x, ty, pos, af, none⟩ :: rest) L W0 G := fun a w hf hs =>
  wpList_plain rfl fun K hK => by
    have hcell := cellsO_eq hc
    have hr : (execOp a.eval ⟨some d, .box t x, ty, pos, af, none⟩).run P w = .ok (.value (.pointer (some ⟨w.heap.size, 0, none⟩))) (w.alloc (.cells cs.toArray t)) := by
      simp [execOp, hf.ev hx, Instr.box, newVar, newRow, hcell]
    unfold Oper.wp
    rw [hr, Oper.upon_value]
    exact hK _ _ (h w.heap.size _ _ (hf.put (d := some d) hd) (hs.alloc _))
theorem w64 {m : Int} (h : -9223372036854775808 ≤ m ∧ m ≤ 9223372036854775807) : IntKind.i64.wrap m = m := by
  simp only [IntKind.wrap, IntKind.bits, IntKind.signed, Bool.true_and]
  split
  · rename_i h2; have h2 := of_decide_eq_true h2; omega
  · rename_i h2; have h2 := of_decide_eq_false (Bool.eq_false_iff.2 h2); omega
include T in
theorem op1_add {x y : Operand} {t t2 : Nat} {a b : Int} (hx : evL L x = some (.int .i64 a)) (hy : evL L y = some (.int .i64 b)) (h : -9223372036854775808 ≤ a + b ∧ a + b ≤ 9223372036854775807) :
    Op1 P n ds L W0 G (.binOp .add t x y t2) ty (.int .i64 (a + b)) := by
  have := op1_pure (P := P) T (n := n) (ds := ds) (L := L) (W0 := W0) (G := G) (op := .binOp .add t x y t2) (ty := ty) (v := .int .i64 (IntKind.i64.wrap (a + b))) (by simp only [pureOp, hx, hy]; rfl)
  rwa [w64 h] at this
include T in
theorem op1_sub {x y : Operand} {t t2 : Nat} {a b : Int} (hx : evL L x = some (.int .i64 a)) (hy : evL L y = some (.int .i64 b)) (h : -9223372036854775808 ≤ a - b ∧ a - b ≤ 9223372036854775807) :
    Op1 P n ds L W0 G (.binOp .sub t x y t2) ty (.int .i64 (a - b)) := by
  have := op1_pure (P := P) T (n := n) (ds := ds) (L := L) (W0 := W0) (G := G) (op := .binOp .sub t x y t2) (ty := ty) (v := .int .i64 (IntKind.i64.wrap (a - b))) (by simp only [pureOp, hx, hy]; rfl)
  rwa [w64 h] at this
include T in
theorem op1_mul {x y : Operand} {t t2 : Nat} {a b : Int} (hx : evL L x = some (.int .i64 a)) (hy : evL L y = some (.int .i64 b)) (h : -9223372036854775808 ≤ a * b ∧ a * b ≤ 9223372036854775807) :
    Op1 P n ds L W0 G (.binOp .mul t x y t2) ty (.int .i64 (a * b)) := by
  have := op1_pure (P := P) T (n := n) (ds := ds) (L := L) (W0 := W0) (G := G) (op := .binOp .mul t x y t2) (ty := ty) (v := .int .i64 (IntKind.i64.wrap (a * b))) (by simp only [pureOp, hx, hy]; rfl)
  rwa [w64 h] at this
include T in
theorem op1_conv {x : Operand} {s d : Nat} {k : IntKind} {a : Int} {z1 b1 c1 k1 z2 b2 c2 : _} (hs : lk T.tab s = some ⟨.int k1, z1, b1, c1⟩) (hd : lk T.tab d = some ⟨.int .i64, z2, b2, c2⟩)
    (hx : evL L x = some (.int k a)) (h : -9223372036854775808 ≤ a ∧ a ≤ 9223372036854775807) : Op1 P n ds L W0 G (.convert s d x) ty (.int .i64 a) := by
  have := op1_pure (P := P) T (n := n) (ds := ds) (L := L) (W0 := W0) (G := G) (op := .convert s d x) (ty := ty) (v := .int .i64 (IntKind.i64.wrap a)) (by simp only [pureOp, hx, convV, hs, hd])
  rwa [w64 h] at this
include T in
theorem op1_neg {x : Operand} {t : Nat} {a : Int} (hx : evL L x = some (.int .i64 a)) (h : -9223372036854775808 ≤ 0 - a ∧ 0 - a ≤ 9223372036854775807) :
    Op1 P n ds L W0 G (.unOp .neg t x) ty (.int .i64 (-a)) := by
  have := op1_pure (P := P) T (n := n) (ds := ds) (L := L) (W0 := W0) (G := G) (op := .unOp .neg t x) (ty := ty) (v := .int .i64 (IntKind.i64.wrap (0 - a))) (by simp only [pureOp, hx])
  rwa [w64 h, Int.zero_sub] at this
theorem op1_index {t : Nat} {x y : Operand} {s : ByteArray} {k : IntKind} {i : Int} {z b c : _} (hl : lk T.tab t = some ⟨.string, z, b, c⟩) (hx : evL L x = some (.string s)) (hy : evL L y = some (.int k i))
    (h0 : 0 ≤ i) (h1 : i < s.size) : Op1 P n ds L W0 G (.index t x y) ty (.int .u8 ((s[i.toNat]'(by omega)).toNat : Int)) := by
  intro a w hf hs d pos af g
  obtain ⟨d1, hd1, e1, _⟩ := T.und (w := w) hl
  obtain rfl := tdOf_string e1
  have hi : i.toNat < s.size := by omega
  simp [execOp, hf.ev hx, hf.ev hy, Instr.index, asIntOf, hd1, h0, getElem?_pos s i.toNat hi]
def bndV (L : TL) (dflt : Int) : Option Operand → Option Int
  | none => some dflt
  | some x => match evL L x with | some (.int _ i) => some i | _ => none
theorem op1_slice {t : Nat} {x : Operand} {lo hi : Option Operand} {s : ByteArray} {l r : Int} {z b c : _} (hl : lk T.tab t = some ⟨.string, z, b, c⟩) (hx : evL L x = some (.string s))
    (h0 : bndV L 0 lo = some l) (h1 : bndV L s.size hi = some r) (hb : 0 ≤ l ∧ l ≤ r ∧ r ≤ s.size) :
    Op1 P n ds L W0 G (.slice t x lo hi none) ty (.string (s.extract l.toNat r.toNat)) := by
  intro a w hf hs d pos af g
  obtain ⟨d1, hd1, e1, _⟩ := T.und (w := w) hl
  obtain rfl := tdOf_string e1
  obtain ⟨hb0, hb1, hb2⟩ := hb
  have hlo : ∀ m : Nat, l ≤ m → (match lo.map a.eval with | some v => Instr.sliceBound v m .sliceB | none => (Pure.pure 0 : Sem Nat)).run P w = .ok l.toNat w := fun m hm => by
    cases lo with
    | none => simp only [bndV, Option.some.injEq] at h0; subst h0; rfl
    | some o =>
      simp only [bndV] at h0
      split at h0
      · rename_i k i he
        simp only [Option.some.injEq] at h0
        subst h0
        simp [hf.ev he, Instr.sliceBound, asIntOf, hb0, hm]
      · cases h0
  have hhi : (match hi.map a.eval with | some v => Instr.sliceBound v s.size .sliceAlen | none => (Pure.pure s.size : Sem Nat)).run P w = .ok r.toNat w := by
    cases hi with
    | none => simp only [bndV, Option.some.injEq] at h1; subst h1; simp
    | some o =>
      simp only [bndV] at h1
      split at h1
      · rename_i k i he
        simp only [Option.some.injEq] at h1
        subst h1
        have : 0 ≤ i := by omega
        simp [hf.ev he, Instr.sliceBound, asIntOf, this, hb2]
      · cases h1
  have hlo' := hlo r.toNat (by omega)
  simp only [execOp, hf.ev hx, Instr.sliceAt, Sem.run_bind, hd1, Result.andThen_ok, Instr.slice, Option.map_none, Option.isSome_none, Bool.false_eq_true, if_false, Instr.sliceBounds, Sem.run_pure]
  cases lo with
  | none =>
    simp only [Option.map_none] at hlo' ⊢
    cases hi with
    | none => simp only [Option.map_none] at hhi ⊢; simp at hhi; simp at hlo'; simp [hhi, ← hlo']
    | some o => simp only [Option.map_some] at hhi ⊢; simp at hlo'; simp [hhi, ← hlo']
  | some o2 =>
    simp only [Option.map_some] at hlo' ⊢
    cases hi with
    | none => simp only [Option.map_none] at hhi ⊢; simp at hhi; simp [hhi, hlo']
    | some o => simp only [Option.map_some] at hhi ⊢; simp [hhi, hlo']
theorem op1_cat {t t2 : Nat} {x y : Operand} {s u : ByteArray} (hx : evL L x = some (.string s)) (hy : evL L y = some (.string u)) (hb : s.size + u.size ≤ 9223372036854775807) :
    Op1 P n ds L W0 G (.binOp .add t x y t2) ty (.string (s ++ u)) := by
  intro a w hf hs d pos af g
  have hm : ¬ (((s.size + u.size : Nat) : Int) > IntKind.i64.max) := by
    have : IntKind.i64.max = 9223372036854775807 := by decide
    rw [this]; omega
  simp only [execOp, hf.ev hx, hf.ev hy, eqGuard, Go.binOp, Op.stringOp, hm, if_false, Sem.run_bind]
  rfl
def Callable (P : Program) (K : Nat) : Prop := ∀ (args : Array Value) (w : World), (callFunc K args).run P w = .ok (.enter K args) w
theorem Callable.of {K : Nat} {fn : Func} {c : Code} (hf : P.funcs[K]? = some fn) (hname : (fn.name == "runtime.NumGoroutine") = false) (hb : fn.body = some c) : Callable P K := fun args w => by
  have h1 : fn.name ≠ "runtime.NumGoroutine" := by simpa using hname
  simp [callFunc, hf, h1, hb]
def Fn (P : Program) (K : Nat) (vs : List Value) (W0 : World) (G : List SL) (R : Ending → List SL → Prop) : Prop :=
  ∀ w, Sat W0 G w → Calls P K vs.toArray w (fun e w' => ∃ G', R e G' ∧ Sat W0 G' w')
def Ret (R : Value → List SL → Prop) : Ending → List SL → Prop
  | .returned v, G => R v G
  | _, _ => False
theorem Fn.mono {K : Nat} {vs : List Value} {R R' : Ending → List SL → Prop} (h : Fn P K vs W0 G R) (hr : ∀ e G, R e G → R' e G) : Fn P K vs W0 G R' :=
  fun w hs => (h w hs).mono fun e w' ⟨G', h1, h2⟩ => ⟨G', hr _ _ h1, h2⟩
theorem Fn.pre {K : Nat} {vs : List Value} {R : Ending → List SL → Prop} {G1 : List SL} (h : Fn P K vs W0 G1 R) (hG : ∀ w, Sat W0 G w → Sat W0 G1 w) : Fn P K vs W0 G R :=
  fun w hs => h w (hG w hs)
theorem run_callOp {f : Operand} {args : Array Operand} {tys : Array TypeId} {K : Nat} {fst cap vs : List Value} {a : Act} {w : World} (hf : Fr n ds L a)
    (hK : Callable P K) (hx : evL L f = some (.func (.func K) fst.toArray cap.toArray)) (ha : evLs L args.toList = some vs) (pos : String) (af : Array Edge) (g : Option (Nat × Bool)) :
    (execOp a.eval ⟨d, .call ⟨.value f, args, tys⟩, ty, pos, af, g⟩).run P w = .ok (.enter K (fst ++ vs ++ cap).toArray) w := by
  have e1 := hf.evs ha
  have e2 : args.map a.eval = vs.toArray := by rw [← e1, ← List.map_toArray, Array.toArray_toList]
  simp only [execOp, resolve, Sem.run_bind, e2, hf.ev hx, Deferred.ofValue, Sem.run_pure, Result.andThen_ok, invoke, hK _ w]
  simp
theorem WL.call {f : Operand} {args : Array Operand} {tys : Array TypeId} {K : Nat} {fst cap vs all : List Value} {R : Value → List SL → Prop}
    (hK : Callable P K) (hx : evL L f = some (.func (.func K) fst.toArray cap.toArray)) (ha : evLs L args.toList = some vs) (hall : fst ++ vs ++ cap = all) (hd : dOk n d = true)
    (spec : Fn P K all W0 G (Ret R)) (h : ∀ v G', R v G' → WL P Q n ds ops rest (putL L d v) W0 G') :
    WL P Q n ds ops (⟨d, .call ⟨.value f, args, tys⟩, ty, pos, af, none⟩ :: rest) L W0 G := fun a w hf hs =>
  wpList_plain rfl fun K' hK' => by
    unfold Oper.wp
    rw [run_callOp hf hK hx ha, Oper.upon_enter, hall]
    refine (spec w hs).mono fun e w' ⟨G', hR, hs'⟩ => ?_
    cases e with
    | returned v => exact hK' _ _ (h v G' hR _ _ (hf.put hd) hs')
    | panicked ch => exact hR.elim
    | outgrown => exact hR.elim
theorem WL.callP {f : Operand} {args : Array Operand} {tys : Array TypeId} {K : Nat} {fst cap vs all : List Value} {R : Ending → List SL → Prop}
    (hK : Callable P K) (hx : evL L f = some (.func (.func K) fst.toArray cap.toArray)) (ha : evLs L args.toList = some vs) (hall : fst ++ vs ++ cap = all) (hd : dOk n d = true)
    (spec : Fn P K all W0 G R) (hout : ∀ G', ¬ R .outgrown G') (h : ∀ v G', R (.returned v) G' → WL P Q n ds ops rest (putL L d v) W0 G')
    (hp : ∀ ch G', R (.panicked ch) G' → QS Q n ds (.panic ch) L W0 G') :
    WL P Q n ds ops (⟨d, .call ⟨.value f, args, tys⟩, ty, pos, af, none⟩ :: rest) L W0 G := fun a w hf hs =>
  wpList_plain rfl fun K' hK' => by
    unfold Oper.wp
    rw [run_callOp hf hK hx ha, Oper.upon_enter, hall]
    refine (spec w hs).mono fun e w' ⟨G', hR, hs'⟩ => ?_
    cases e with
    | returned v => exact hK' _ _ (h v G' hR _ _ (hf.put hd) hs')
    | panicked ch => exact hp ch G' hR a w' hf hs'
    | outgrown => exact (hout _ hR).elim
theorem WQ.call {f : Operand} {args : Array Operand} {tys : Array TypeId} {K : Nat} {fst cap vs all : List Value} {v : Value}
    (hK : Callable P K) (hx : evL L f = some (.func (.func K) fst.toArray cap.toArray)) (ha : evLs L args.toList = some vs) (hall : fst ++ vs ++ cap = all) (hd : dOk n d = true)
    (spec : Fn P K all W0 G (Ret fun u G' => u = v ∧ G' = G)) (h : WQ P Q n ds ops rest (putL L d v) W0 G) :
    WQ P Q n ds ops (⟨d, .call ⟨.value f, args, tys⟩, ty, pos, af, none⟩ :: rest) L W0 G := fun a hf => by
  unfold wpQuiet
  rw [if_pos (by rfl)]
  refine ⟨v, fun w hs => ?_, h _ (hf.put hd)⟩
  unfold Oper.quietAt
  rw [run_callOp hf hK hx ha]
  refine ⟨rfl, ?_⟩
  rw [hall]
  refine (spec w hs).mono fun e w' ⟨G', hR, hs'⟩ => ?_
  cases e with
  | returned u => obtain ⟨rfl, rfl⟩ := hR; exact ⟨rfl, hs'⟩
  | panicked ch => exact hR.elim
  | outgrown => exact hR.elim
def numL : Nat → List Value → TL
  | _, [] => []
  | i, v :: r => (i, v) :: numL (i + 1) r
theorem numL_get : ∀ (vs : List Value) (k i : Nat) (v : Value), lk (numL k vs) i = some v → k ≤ i ∧ vs[i - k]? = some v
  | [], _, _, _, h => by cases h
  | u :: r, k, i, v, h => by
    simp only [numL, lk] at h
    cases hb : Nat.beq k i with
    | true =>
      rw [hb] at h
      simp only [cond_true, Option.some.injEq] at h
      have e := Nat.eq_of_beq_eq_true hb
      subst e; subst h
      simp
    | false =>
      rw [hb] at h
      have := numL_get r (k + 1) i v h
      have e : i - k = (i - (k + 1)) + 1 := by omega
      exact ⟨by omega, by rw [e]; simpa using this.2⟩
theorem Fn.enter {K : Nat} {fn : Func} {c : Code} {vs : List Value} {R : Ending → List SL → Prop} (hf : P.funcs[K]? = some fn) (hb : fn.body = some c) (hn : fn.ntmps = n) (hlen : Nat.ble vs.length n = true)
    (h : CS P (bodyPost P fn (fun e w' => ∃ G', R e G' ∧ Sat W0 G' w')) n [] c (numL 0 vs) W0 G) : Fn P K vs W0 G R := fun w hs => by
  refine calls_of_wp hf hb (h _ w ⟨?_, rfl, fun i v hi => ?_⟩ hs)
  · have := Nat.le_of_ble_eq_true hlen
    simp [hn]; omega
  · have := (numL_get vs 0 i v hi).2
    simp only [Nat.sub_zero] at this
    have hlt := (List.getElem?_eq_some_iff.1 this).1
    have h2 := (List.getElem?_eq_some_iff.1 this).2
    simp [Array.getElem?_append, hlt, h2]
def resL (L : TL) : List ResultVar → Option (List Value)
  | [] => some []
  | .tmp t :: r => match lk L t, resL L r with | some v, some vs => some (v :: vs) | _, _ => none
  | .cell _ _ :: _ => none
def resV : List Value → Value
  | [v] => v
  | vs => .tuple vs.toArray
def resOne (tmps : Array Value) : ResultVar → Sem Value
  | .tmp t => Pure.pure (tmps.getD t undef)
  | .cell a t => do loadVar t (← asAddr (tmps.getD a undef))
def resPack (vs : Array Value) : Value := if h : vs.size = 1 then vs[0] else .tuple vs
theorem results_is (fn : Func) (tmps : Array Value) : results fn tmps = (do let vs ← fn.results.mapM (resOne tmps); Pure.pure (resPack vs)) := rfl
theorem resPack_eq (vs : List Value) : resPack vs.toArray = resV vs := by
  match vs with
  | [] => rfl
  | [v] => rfl
  | u :: v :: r => simp [resV, resPack]
theorem resL_run (w : World) {a : Act} (hf : Fr n ds L a) : ∀ {rs : List ResultVar} {vs : List Value}, resL L rs = some vs →
    (rs.mapM (resOne a.tmps)).run P w = Result.ok vs w
  | [], vs, h => by simp only [resL, Option.some.injEq] at h; subst h; rfl
  | .tmp t :: r, vs, h => by
    simp only [resL] at h
    split at h
    · rename_i v us h1 h2
      simp only [Option.some.injEq] at h
      subst h
      have h3 := resL_run w hf h2
      have h4 : (resOne a.tmps (.tmp t)).run P w = .ok v w := by simp [resOne, hf.get _ _ h1]
      rw [List.mapM_cons, Sem.run_bind, h4, Result.andThen_ok, Sem.run_bind, h3, Result.andThen_ok, Sem.run_pure]
    · cases h
  | .cell _ _ :: r, vs, h => by cases h
theorem QS.retV {fn : Func} {vs : List Value} {R : Ending → List SL → Prop} {rs : List ResultVar} (hrs : fn.results = rs.toArray) (hv : resL L rs = some vs) (hR : R (.returned (resV vs)) G) :
    QS (bodyPost P fn (fun e w' => ∃ G', R e G' ∧ Sat W0 G' w')) n [] .ret L W0 G := fun a w hf hs => by
  refine ⟨hf.defers, resV vs, ?_, G, hR, hs⟩
  have h := resL_run (P := P) w hf hv
  rw [results_is, hrs, Sem.run_bind, List.mapM_toArray, Sem.run_map, h, Result.andThen_ok, Result.andThen_ok, Sem.run_pure, resPack_eq]
theorem QS.endV {fn : Func} {vs : List Value} {R : Ending → List SL → Prop} {rs : List ResultVar} (hrs : fn.results = rs.toArray) (hv : resL L rs = some vs) (hR : R (.returned (resV vs)) G) :
    QS (bodyPost P fn (fun e w' => ∃ G', R e G' ∧ Sat W0 G' w')) n [] .normal L W0 G := QS.retV hrs hv hR
theorem QS.panicV {fn : Func} {ch : List PanicEntry} {R : Ending → List SL → Prop} (hR : R (.panicked ch) G) :
    QS (bodyPost P fn (fun e w' => ∃ G', R e G' ∧ Sat W0 G' w')) n [] (.panic ch) L W0 G := fun a w hf hs => ⟨hf.defers, G, hR, hs⟩
end
theorem CS.turn {P : Program} {Q : Exit → Act → World → Prop} {n : Nat} {ds : List Deferred} {L : TL} {W0 : World} {G G' : List SL} {c : Code} (hG : ∀ w, Sat W0 G w → Sat W0 G' w) (h : CS P Q n ds c L W0 G') : CS P Q n ds c L W0 G :=
  fun a w hf hs => h a w hf (hG w hs)
theorem WL.turn {P : Program} {Q : Exit → Act → World → Prop} {n : Nat} {ds : List Deferred} {L : TL} {W0 : World} {G G' : List SL} {ops : Array Oper} {rest : List Oper} (hG : ∀ w, Sat W0 G w → Sat W0 G' w) (h : WL P Q n ds ops rest L W0 G') : WL P Q n ds ops rest L W0 G :=
  fun a w hf hs => h a w hf (hG w hs)
theorem QS.turn {Q : Exit → Act → World → Prop} {n : Nat} {ds : List Deferred} {L : TL} {W0 : World} {G G' : List SL} {e : Exit} (hG : ∀ w, Sat W0 G w → Sat W0 G' w) (h : QS Q n ds e L W0 G') : QS Q n ds e L W0 G :=
  fun a w hf hs => h a w hf (hG w hs)
theorem CS.ex {P : Program} {Q : Exit → Act → World → Prop} {n : Nat} {ds : List Deferred} {L : TL} {W0 : World} {G : List SL} {c : Code} {X : Type} {A : X → List SL} (hG : ∀ w, Sat W0 G w → ∃ x, Sat W0 (A x) w) (h : ∀ x, CS P Q n ds c L W0 (A x)) : CS P Q n ds c L W0 G :=
  fun a w hf hs => let ⟨x, hx⟩ := hG w hs; h x a w hf hx
theorem WL.ex {P : Program} {Q : Exit → Act → World → Prop} {n : Nat} {ds : List Deferred} {L : TL} {W0 : World} {G : List SL} {ops : Array Oper} {rest : List Oper} {X : Type} {A : X → List SL} (hG : ∀ w, Sat W0 G w → ∃ x, Sat W0 (A x) w) (h : ∀ x, WL P Q n ds ops rest L W0 (A x)) : WL P Q n ds ops rest L W0 G :=
  fun a w hf hs => let ⟨x, hx⟩ := hG w hs; h x a w hf hx
theorem Fn.ex {P : Program} {K : Nat} {vs : List Value} {W0 : World} {G : List SL} {R : Ending → List SL → Prop} {X : Type} {A : X → List SL} (hG : ∀ w, Sat W0 G w → ∃ x, Sat W0 (A x) w) (h : ∀ x, Fn P K vs W0 (A x) R) : Fn P K vs W0 G R :=
  fun w hs => let ⟨x, hx⟩ := hG w hs; h x w hx
end Go.Proofs.YtfolmcpfdcgliaaGreat.B
