import Derived.Test.YtgebdehpoalfbaaMg15
import Derived.Test.YtgebdehpoalfbaaMg12
import Derived.ArgAppend
import Derived.Test.YtgebdehpoalfbaaMg10
import Derived.Test.YtgebdehpoalfbaaMg13
set_option linter.unusedVariables false
set_option linter.unusedSimpArgs false
set_option linter.unusedSectionVars false
set_option maxRecDepth 8000
/-! More operations that write, in a drawn region. -/
namespace Go.Proofs.Ytgebdehpoalfbaa.B
open Go Go.Proofs
section
variable {P : Program} (T : Tab P) {n : Nat} {ds : List Deferred} {L : TL} {W0 : World} {G : List SL} {ty : TypeId} {pos : String} {af : Array Edge} {g : Option (Nat × Bool)}
include T in
theorem EffC.alloc {d : Nat} {t : Nat} {e : TE} {cs : List Value} (hl : lk T.tab t = some e) (hc : cellsO e.zero = some cs) :
    EffC P n ds L W0 G ⟨some d, .alloc t, ty, pos, af, g⟩ (fun v G' => ∃ b, v = .pointer (some ⟨b, 0, none⟩) ∧ G' = row b t cs :: G) := fun a w hf hs => by
  have hz := T.zeroValue (w := w) hl
  have hcell := cellsO_eq hc
  have hr : (execOp a.eval ⟨some d, .alloc t, ty, pos, af, g⟩).run P w = .ok (.value (.pointer (some ⟨w.heap.size, 0, none⟩))) (w.alloc (.cells cs.toArray t)) := by
    simp [execOp, Instr.alloc, hz, newVar, newRow, hcell]
  unfold runs
  rw [hr]
  exact ⟨_, ⟨_, rfl, rfl⟩, hs.alloc _⟩
include T in
theorem EffC.box {d : Nat} {t : Nat} {x : Operand} {v : Value} {cs : List Value} (hx : evL L x = some v) (hc : cellsO v = some cs) :
    EffC P n ds L W0 G ⟨some d, .box t x, ty, pos, af, g⟩ (fun v G' => ∃ b, v = .pointer (some ⟨b, 0, none⟩) ∧ G' = row b t cs :: G) := fun a w hf hs => by
  have hcell := cellsO_eq hc
  have hr : (execOp a.eval ⟨some d, .box t x, ty, pos, af, g⟩).run P w = .ok (.value (.pointer (some ⟨w.heap.size, 0, none⟩))) (w.alloc (.cells cs.toArray t)) := by
    simp [execOp, hf.ev hx, Instr.box, newVar, newRow, hcell]
  unfold runs
  rw [hr]
  exact ⟨_, ⟨_, rfl, rfl⟩, hs.alloc _⟩
include T in
theorem EffC.store (i : Nat) {x y : Operand} {b o t tt : Nat} {e : TE} {v : Value} {cs vs cs' : List Value} {G' : List SL} (hx : evL L x = some (.pointer (some ⟨b, o, none⟩))) (hy : evL L y = some v)
    (hc : cellsO v = some vs) (hl : lk T.tab t = some e) (hz : Nat.beq vs.length e.size = true) (h1 : allOne vs = true)
    (hG : G[i]? = some (row b tt cs)) (hs' : setN cs o vs = some cs') (hG' : setG G i (row b tt cs') = some G') :
    EffC P n ds L W0 G ⟨none, .store t x y, ty, pos, af, g⟩ (fun v G2 => v = undef ∧ G2 = G') := fun a w hf hs => by
  have hb := hs.at hG
  obtain ⟨h2, h3⟩ := setN_eq hs'
  have hst := run_storeCells_at P b o tt vs 0 cs.toArray w hb (by simpa using h2) (allOne_eq h1)
  simp only [Nat.add_zero] at hst
  have hr : (execOp a.eval ⟨none, .store t x y, ty, pos, af, g⟩).run P w = .ok .skip (w.setRow b (cs.toArray.toList.take o ++ vs ++ cs.toArray.toList.drop (o + vs.length)).toArray) := by
    have hzz := T.sizeOf (w := w) hl
    have hcell := cellsO_eq hc
    have hsz : v.cells.size = e.size := by rw [hcell]; simpa using Nat.eq_of_beq_eq_true hz
    have hlist : v.cells.toList = vs := by rw [hcell]
    simp only [execOp, hf.ev hx, hf.ev hy, Instr.storeAt, Instr.sureAddr, Sem.run_bind, Sem.run_pure, Result.andThen_ok, storeVar, hzz, hsz, ne_eq, not_true_eq_false, if_false, hlist, hst]
  unfold runs
  rw [hr]
  refine ⟨_, ⟨rfl, rfl⟩, ?_⟩
  obtain ⟨r, hr⟩ := getG_pick hG
  have s1 := hs.perm (pickG_eq hr).1.symm
  have s2 : Sat W0 (row b tt cs' :: r) (w.setRow b (cs.toArray.toList.take o ++ vs ++ cs.toArray.toList.drop (o + vs.length)).toArray) := by
    refine Sat.put (o' := .cells cs'.toArray tt (0, 0)) s1 ?_ (fun k hk => ?_) ⟨rfl, rfl, rfl⟩
    · rw [h3]
      simp only [World.setRow, Array.getElem?_modify, hb]
      simp
    · simp only [World.setRow, Array.getElem?_modify]
      rw [if_neg (fun e => hk e.symm)]
  exact s2.perm (setG_eq hr hG')
end
end Go.Proofs.Ytgebdehpoalfbaa.B

set_option linter.unusedVariables false
set_option linter.unusedSimpArgs false
set_option linter.unusedSectionVars false
set_option maxRecDepth 8000
/-! Append onto what is full. -/
namespace Go.Proofs.Ytgebdehpoalfbaa.B
open Go Go.Proofs
section
variable {P : Program} (T : Tab P) {n : Nat} {ds : List Deferred} {L : TL} {W0 : World} {G : List SL} {ty : TypeId} {pos : String} {af : Array Edge} {g : Option (Nat × Bool)}
theorem Base.drew {W0 w : World} (h : Base W0 w) : Base W0 w.drew := ⟨h.os, h.tape, h.output⟩
include T in
/-- append(s, ys...), s full: a new row; s is only read. -/
theorem Eff.appendFull {α : Type} {E : EncK α} {d k m t e c2 : Nat} {A Bd : Option Addr} {xs ys : List α} {s x : Operand} {te : TE} {zs : List Value} {z b1 c1 : _}
    (hs : evL L s = some (.slice A k k)) (hk : k = xs.length) (hx : evL L x = some (.slice Bd m c2)) (hm : m = ys.length) (hys : ys ≠ []) (hRx : Rd W0 G E A xs) (hR : Rd W0 G E Bd ys)
    (hl : lk T.tab t = some ⟨.slice e, z, b1, c1⟩) (he : lk T.tab e = some te) (hsz : te.size = E.sz) (hzz : cellsO te.zero = some zs) (hzl : zs.length = E.sz) (hby : 0 < te.bytes) (hb : (xs.length + ys.length) * te.bytes ≤ 140737488355328) :
    Eff P n ds L W0 G ⟨some d, .call ⟨.builtin .append, #[s, x], #[t, t]⟩, ty, pos, af, none⟩ (fun v G2 => ∃ A' c', v = .slice A' (xs ++ ys).length c' ∧ G2 = slc E e A' c' (xs ++ ys) :: G) := fun a w hf hs' => by
  subst hk; subst hm
  obtain ⟨d1, hd1, e1, hu⟩ := T.und (w := w) hl
  obtain rfl := tdOf_slice e1
  obtain ⟨i0, hi, hz0, hz1, hz2⟩ := T.info he
  have hzc : te.zero.cells.size = E.sz := by rw [cellsO_eq hzz]; simpa using hzl
  have hyl : 0 < ys.length := List.length_pos_iff.2 hys
  have hn63 : xs.length + ys.length ≤ maxLen := by
    have : xs.length + ys.length ≤ (xs.length + ys.length) * te.bytes := Nat.le_mul_of_pos_right _ hby
    simp only [maxLen]; omega
  have hsmall : xs.length + ys.length ≤ 9223372036854775807 := by simp only [maxLen] at hn63; omega
  have hr0 : ∀ l : List α, RdC w none (flat E l) → l = [] := fun l h => by
    rcases h with h | ⟨b, o, h, _⟩
    · have h1 := congrArg List.length h
      rw [flat_len] at h1
      have := E.pos
      rcases Nat.mul_eq_zero.1 (by simpa using h1) with h2 | h2
      · exact List.eq_nil_of_length_eq_zero h2
      · omega
    · cases h
  have hcell : ∀ (B : Option Addr) (l : List α), l ≠ [] → RdC w B (flat E l) → ∃ b o, B = some ⟨b, o, none⟩ ∧ ∀ j u, (flat E l)[j]? = some u → w.cell? ((⟨b, o, none⟩ : Addr).add j) = some u := fun B l hne h => by
    rcases h with h | ⟨b, o, h1, h2⟩
    · exfalso
      have h1 := congrArg List.length h
      rw [flat_len] at h1
      have := E.pos
      rcases Nat.mul_eq_zero.1 (by simpa using h1) with h3 | h3
      · exact hne (List.eq_nil_of_length_eq_zero h3)
      · omega
    · exact ⟨b, o, h1, fun j u hj => by rw [add_off]; exact h2 j u hj⟩
  obtain ⟨b2, o2, rfl, hc2⟩ := hcell Bd ys hys (hR w hs')
  have key : ∃ cap zc, xs.length + ys.length ≤ cap ∧ cap ≤ maxLen ∧ zc.size = (cap - (xs.length + ys.length)) * E.sz ∧ (Builtin.append_ #[t, t] ty #[.slice A xs.length xs.length, .slice (some ⟨b2, o2, none⟩) ys.length c2]).run P w =
      .ok (.slice (some ⟨w.heap.size, 0, none⟩) (xs ++ ys).length cap) (w.drew.alloc (.cells ((flat E (xs ++ ys)).toArray ++ zc) e)) := by
    cases A with
    | none =>
      obtain rfl := hr0 xs (hRx w hs')
      have hr := run_append_nil (P := P) w t ty e i0 te.zero hu hi hz0 ⟨b2, o2, none⟩ ys.length c2 (flat E ys) (by rw [flat_len, hz1, hsz]) hc2 hyl (by simp at hsmall; omega) (by rw [hz2]; simp at hb; omega)
      refine ⟨grownCap w ys.length 0 e, Builtin.zeroCells te.zero.cells (grownCap w ys.length 0 e - ys.length), ?_, ?_, ?_, ?_⟩
      · simpa using grownCap_ge w ys.length 0 e
      · exact grownCap_le_maxLen w ys.length 0 e (by simpa using hn63)
      · rw [size_zeroCells, hzc]; simp
      · simpa using hr
    | some ad =>
      have hox : ∀ j v, (flat E xs)[j]? = some v → w.cell? (ad.add j) = some v := by
        by_cases hxs : xs = []
        · subst hxs; intro j v hj; simp [flat] at hj
        · obtain ⟨b, o, h1, h2⟩ := hcell (some ad) xs hxs (hRx w hs')
          injection h1 with h1
          subst h1; exact h2
      have hr := run_append_grow (P := P) w t ty e i0 te.zero hu hi hz0 ad xs.length xs.length (flat E xs) (by rw [flat_len, hz1, hsz]) hox ⟨b2, o2, none⟩ ys.length c2 (flat E ys) (by rw [flat_len, hz1, hsz]) hc2 (by omega) (by omega) (growslice_fits (by omega) (by rw [hz2]; exact hb))
      refine ⟨grownCap w (xs.length + ys.length) xs.length e, Builtin.zeroCells te.zero.cells (grownCap w (xs.length + ys.length) xs.length e - (xs.length + ys.length)), grownCap_ge w (xs.length + ys.length) xs.length e, grownCap_le_maxLen w (xs.length + ys.length) xs.length e hn63, by rw [size_zeroCells, hzc], ?_⟩
      rw [hr, List.length_append, flat_append]
      simp
  obtain ⟨cap, zc, h1, h2, h3, hrun⟩ := key
  refine ⟨.slice (some ⟨w.heap.size, 0, none⟩) (xs ++ ys).length cap, w.drew.alloc (.cells ((flat E (xs ++ ys)).toArray ++ zc) e), slc E e (some ⟨w.heap.size, 0, none⟩) cap (xs ++ ys) :: G, ?_, ⟨_, _, rfl, rfl⟩, ?_⟩
  · simp only [execOp, resolve, invoke, builtin, List.map_toArray, List.map_cons, List.map_nil, hf.ev hs, hf.ev hx, Sem.run_bind, Sem.run_pure, Result.andThen_ok, hrun]
  · have s1 : Sat W0 G w.drew := hs'.same rfl ⟨rfl, rfl, rfl⟩
    refine (s1.alloc (.cells ((flat E (xs ++ ys)).toArray ++ zc) e)).imp fun hp hb => ?_
    refine .inr ⟨w.heap.size, _, rfl, hb, by rw [List.length_append]; exact h1, h2, ?_, ?_⟩
    · rw [Array.size_append, List.size_toArray, flat_len, h3, List.length_append, ← Nat.add_mul]
      congr 1; omega
    · rw [Array.toList_append, ← flat_len E (xs ++ ys)]
      exact List.take_left
include T in
theorem WL.appendFull {Q : Exit → Act → World → Prop} {ops : Array Oper} {rest : List Oper} {α : Type} {E : EncK α} {d k m t e c2 : Nat} {A Bd : Option Addr} {xs ys : List α} {s x : Operand} {te : TE} {zs : List Value} {z b1 c1 : _}
    (hs : evL L s = some (.slice A k k)) (hk : k = xs.length) (hx : evL L x = some (.slice Bd m c2)) (hm : m = ys.length) (hys : ys ≠ []) (hRx : Rd W0 G E A xs) (hR : Rd W0 G E Bd ys)
    (hl : lk T.tab t = some ⟨.slice e, z, b1, c1⟩) (he : lk T.tab e = some te) (hsz : te.size = E.sz) (hzz : cellsO te.zero = some zs) (hzl : zs.length = E.sz) (hby : 0 < te.bytes) (hb : (xs.length + ys.length) * te.bytes ≤ 140737488355328) (hd : Nat.blt d n = true)
    (h : ∀ A' c', WL P Q n ds ops rest ((d, .slice A' (xs ++ ys).length c') :: L) W0 (slc E e A' c' (xs ++ ys) :: G)) :
    WL P Q n ds ops (⟨some d, .call ⟨.builtin .append, #[s, x], #[t, t]⟩, ty, pos, af, none⟩ :: rest) L W0 G := fun a w hf hs' =>
  wpList_plain rfl fun K hK => by
    obtain ⟨v, w', G', h1, ⟨A', c', rfl, rfl⟩, h3⟩ := Eff.appendFull T (E := E) (d := d) (n := n) (ds := ds) (ty := ty) (pos := pos) (af := af) hs hk hx hm hys hRx hR hl he hsz hzz hzl hby hb a w hf hs'
    unfold Oper.wp
    rw [h1, Oper.upon_value]
    exact hK _ _ (h A' c' _ _ (hf.put (d := some d) hd) h3)
include T in
/-- s[:i:i] -/
theorem op1_clip {t e k c : Nat} {x hi mx : Operand} {A : Option Addr} {r : Nat} {kd kd2 : IntKind} {z1 b1 c1 : _} {te : TE} (hl : lk T.tab t = some ⟨.slice e, z1, b1, c1⟩) (he : lk T.tab e = some te)
    (hx : evL L x = some (.slice A k c)) (h0 : evL L hi = some (.int kd (r : Int))) (h1 : evL L mx = some (.int kd2 (r : Int))) (hkc : r ≤ c) :
    Op1 P n ds L W0 G (.slice t x none (some hi) (some mx)) ty (.slice A r r) := by
  intro a w hf hs' dd pos af g
  obtain ⟨d1, hd1, e1, h2⟩ := T.und (w := w) hl
  obtain rfl := tdOf_slice e1
  have hz := T.sizeOf (w := w) he
  have h3 : (0 : Int) ≤ (r : Int) := by omega
  simp [execOp, hf.ev hx, hf.ev h0, hf.ev h1, Instr.sliceAt, Sem.run_bind, hd1, Result.andThen_ok, Instr.slice, Instr.sliceBounds, Instr.sliceBound, asIntOf, Sem.run_pure, hz, hkc]
  cases A <;> simp [Addr.add]
end
/-- A block of elements is an own slice. -/
theorem row_own {α : Type} {W0 w : World} {G : List SL} (E : EncK α) {b t : Nat} {cs : List Value} (xs : List α) (hcs : flat E xs = cs) (hl : xs.length ≤ maxLen) (hs : Sat W0 (row b t cs :: G) w) : Sat W0 (slc E t (some ⟨b, 0, none⟩) xs.length xs :: G) w :=
  hs.imp fun hp h => .inr ⟨b, _, rfl, h, Nat.le_refl _, hl, by simp [← hcs, flat_len], by simp [← hcs, ← flat_len]⟩
end Go.Proofs.Ytgebdehpoalfbaa.B

set_option linter.unusedVariables false
/-! Steps that take themselves, in regions that draw their order. -/
namespace Go.Proofs.Ytgebdehpoalfbaa.B
open Go Go.Proofs
theorem bkz {A B : Prop} (a : A) (f : PLift A → B := by
  first | (intro k; apply WZ.s; (focus (first|exact op1_pure1 TT rfl|exact op1_load TT 0 rfl rfl rfl|exact op1_load TT 1 rfl rfl rfl|exact op1_load TT 2 rfl rfl rfl|exact op1_load TT 3 rfl rfl rfl|exact op1_load TT 4 rfl rfl rfl|exact op1_load TT 5 rfl rfl rfl|exact op1_load TT 6 rfl rfl rfl|exact op1_load TT 7 rfl rfl rfl|exact op1_load TT 8 rfl rfl rfl|exact op1_add TT rfl rfl (by omega)|exact op1_sub TT rfl rfl (by omega)|exact op1_mul TT rfl rfl (by omega)|exact op1_conv TT rfl rfl rfl (by omega)|exact op1_neg TT rfl (by omega)|exact op1_cat rfl rfl (by omega)|exact op1_pure TT rfl|exact op1_build TT rfl rfl rfl rfl rfl rfl|exact op1_buildA TT rfl rfl rfl rfl rfl|exact op1_lenM TT 0 rfl rfl rfl|exact op1_lenM TT 1 rfl rfl rfl|exact op1_lenM TT 2 rfl rfl rfl|exact op1_lenM TT 3 rfl rfl rfl)); exact rfl; exact rfl; exact k.down) | fail) : B := f ⟨a⟩
theorem bka {A B : Prop} (a : A) (f : PLift A → B := by
  intro k
  first | (first|(apply WA.s rfl rfl (by kernel_rfl) rfl;(focus (first|exact op1_pure1 TT rfl|exact op1_load TT 0 rfl rfl rfl|exact op1_load TT 1 rfl rfl rfl|exact op1_load TT 2 rfl rfl rfl|exact op1_load TT 3 rfl rfl rfl|exact op1_load TT 4 rfl rfl rfl|exact op1_load TT 5 rfl rfl rfl|exact op1_load TT 6 rfl rfl rfl|exact op1_load TT 7 rfl rfl rfl|exact op1_load TT 8 rfl rfl rfl|exact op1_add TT rfl rfl (by omega)|exact op1_sub TT rfl rfl (by omega)|exact op1_mul TT rfl rfl (by omega)|exact op1_conv TT rfl rfl rfl (by omega)|exact op1_neg TT rfl (by omega)|exact op1_cat rfl rfl (by omega)|exact op1_pure TT rfl|exact op1_build TT rfl rfl rfl rfl rfl rfl|exact op1_buildA TT rfl rfl rfl rfl rfl|exact op1_lenM TT 0 rfl rfl rfl|exact op1_lenM TT 1 rfl rfl rfl|exact op1_lenM TT 2 rfl rfl rfl|exact op1_lenM TT 3 rfl rfl rfl));exact rfl)|refine WA.off rfl rfl (by kernel_rfl) rfl rfl rfl ?_) | fail
  repeat (first | (first|(apply WA.s rfl rfl (by kernel_rfl) rfl;(focus (first|exact op1_pure1 TT rfl|exact op1_load TT 0 rfl rfl rfl|exact op1_load TT 1 rfl rfl rfl|exact op1_load TT 2 rfl rfl rfl|exact op1_load TT 3 rfl rfl rfl|exact op1_load TT 4 rfl rfl rfl|exact op1_load TT 5 rfl rfl rfl|exact op1_load TT 6 rfl rfl rfl|exact op1_load TT 7 rfl rfl rfl|exact op1_load TT 8 rfl rfl rfl|exact op1_add TT rfl rfl (by omega)|exact op1_sub TT rfl rfl (by omega)|exact op1_mul TT rfl rfl (by omega)|exact op1_conv TT rfl rfl rfl (by omega)|exact op1_neg TT rfl (by omega)|exact op1_cat rfl rfl (by omega)|exact op1_pure TT rfl|exact op1_build TT rfl rfl rfl rfl rfl rfl|exact op1_buildA TT rfl rfl rfl rfl rfl|exact op1_lenM TT 0 rfl rfl rfl|exact op1_lenM TT 1 rfl rfl rfl|exact op1_lenM TT 2 rfl rfl rfl|exact op1_lenM TT 3 rfl rfl rfl));exact rfl)|refine WA.off rfl rfl (by kernel_rfl) rfl rfl rfl ?_) | fail)
  exact k.down) : B := f ⟨a⟩
theorem bk2a {A C B : Prop} (a : A) (c : C) (f : PLift A → PLift C → B := by
  first | (intro k l; refine WA.guardS rfl rfl rfl rfl k.down l.down) | fail) : B := f ⟨a⟩ ⟨c⟩
end Go.Proofs.Ytgebdehpoalfbaa.B

set_option linter.unusedVariables false
set_option linter.unusedSimpArgs false
set_option maxRecDepth 8000
/-! The blocks' map as blocks of the heap. -/
namespace Go.Proofs.Ytgebdehpoalfbaa.B
open Go Go.Proofs
attribute [local irreducible] WL CS QS WQ WH WS Fn Op1 row Sat
def blkV (b : Blk) : Value := .agg #[.int .i64 b.id, .int .i64 b.gen, .int .i64 b.len]
def nodeV (p : Nat × NM) : Value := .map (some p.1)
abbrev KV := List (Int × (Nat × NM))
def inners : KV → SL
  | [] => fun _ => True
  | p :: r => star (mapb intK blkV p.2.1 p.2.2) (inners r)
def flatK (kv : KV) : BM := kv.map fun p => (p.1, p.2.2)
def bmA (b : Nat) (M : BM) : SL := fun h => ∃ p : Nat × KV, flatK p.2 = M ∧ star (row b 61 [.map (some p.1)]) (star (mapb intK nodeV p.1 p.2) (inners p.2)) h
theorem flatK_get (kv : KV) (n : Int) : aget (flatK kv) n = (aget kv n).map (·.2) := by
  induction kv with
  | nil => rfl
  | cons p r ih =>
    unfold flatK at ih ⊢
    simp only [List.map_cons, aget]
    split
    · rfl
    · exact ih
theorem flatK_put (kv : KV) (n : Int) (x : Nat × NM) : flatK (aput kv n x) = aput (flatK kv) n x.2 := by
  induction kv with
  | nil => rfl
  | cons p r ih =>
    unfold flatK at ih ⊢
    simp only [List.map_cons, aput]
    split
    · rfl
    · rw [List.map_cons, ih]
theorem flatK_del (kv : KV) (n : Int) : flatK (adel kv n) = adel (flatK kv) n := by
  induction kv with
  | nil => rfl
  | cons p r ih =>
    unfold flatK at ih ⊢
    simp only [List.map_cons, adel]
    split
    · rfl
    · rw [List.map_cons, ih]
theorem flatK_keys (kv : KV) : (flatK kv).map (·.1) = kv.map (·.1) := by simp [flatK, List.map_map, Function.comp_def]
theorem flatK_len (kv : KV) : (flatK kv).length = kv.length := by simp [flatK]
section
variable {W0 : World} {F : List SL} {b : Nat} {M : BM}
theorem bmA_open : ∀ w, Sat W0 (bmA b M :: F) w → ∃ x : { p : Nat × KV // flatK p.2 = M }, Sat W0 (row b 61 [.map (some x.1.1)] :: mapb intK nodeV x.1.1 x.1.2 :: inners x.1.2 :: F) w := fun w hs => by
  obtain ⟨p, hp⟩ := Sat.ex (R := fun p : Nat × KV => fun h => flatK p.2 = M ∧ star (row b 61 [.map (some p.1)]) (star (mapb intK nodeV p.1 p.2) (inners p.2)) h) hs
  obtain ⟨h1, h2⟩ := hp.pure
  have h3 := (h2.split).perm (List.Perm.swap ..)
  exact ⟨⟨p, h1⟩, (h3.split).perm (by
    refine (List.perm_append_comm (l₁ := [mapb intK nodeV p.1 p.2, inners p.2]) (l₂ := row b 61 [.map (some p.1)] :: F)).trans ?_
    exact List.Perm.cons _ (List.perm_append_comm (l₁ := F) (l₂ := [mapb intK nodeV p.1 p.2, inners p.2])))⟩
theorem bmA_shut {m : Nat} {kv : KV} (h : flatK kv = M) : ∀ w, Sat W0 (row b 61 [.map (some m)] :: mapb intK nodeV m kv :: inners kv :: F) w → Sat W0 (bmA b M :: F) w := fun w hs => by
  have h1 : Sat W0 (mapb intK nodeV m kv :: inners kv :: row b 61 [.map (some m)] :: F) w := hs.perm (by
    refine (List.Perm.swap ..).trans (List.Perm.cons _ (List.Perm.swap ..)))
  exact ((h1.join).perm (List.Perm.swap ..)).join.imp fun hp hh => ⟨(m, kv), h, hh⟩
theorem inners_open {w : World} {n : Int} {x : Nat × NM} : ∀ {kv : KV} {F : List SL}, aget kv n = some x → Sat W0 (inners kv :: F) w → Sat W0 (mapb intK blkV x.1 x.2 :: inners (adel kv n) :: F) w
  | [], F, h, _ => by cases h
  | (k, y) :: r, F, h, hs => by
    have h1 := hs.split
    simp only [aget] at h
    simp only [adel]
    split at h
    · rename_i e
      rw [if_pos e]
      injection h with h
      subst h
      exact h1
    · rename_i e
      rw [if_neg e]
      have h2 := inners_open h (h1.perm (List.Perm.swap ..))
      have h3 : Sat W0 (mapb intK blkV y.1 y.2 :: inners (adel r n) :: mapb intK blkV x.1 x.2 :: F) w := h2.perm (by
        refine (List.Perm.cons _ (List.Perm.swap ..)).trans ((List.Perm.swap ..).trans (List.Perm.cons _ (List.Perm.swap ..))))
      exact (h3.join).perm (List.Perm.swap ..)
theorem inners_put {w : World} {n : Int} {x : Nat × NM} : ∀ {kv : KV} {F : List SL}, Sat W0 (mapb intK blkV x.1 x.2 :: inners (adel kv n) :: F) w → Sat W0 (inners (aput kv n x) :: F) w
  | [], F, hs => hs.join
  | (k, y) :: r, F, hs => by
    simp only [adel] at hs
    simp only [aput]
    by_cases e : k = n
    · rw [if_pos e] at hs ⊢
      exact hs.join
    · rw [if_neg e] at hs ⊢
      have h1 := (hs.perm (List.Perm.swap ..)).split
      have h2 : Sat W0 (mapb intK blkV x.1 x.2 :: inners (adel r n) :: mapb intK blkV y.1 y.2 :: F) w := h1.perm (by
        refine (List.Perm.cons _ (List.Perm.swap ..)).trans ((List.Perm.swap ..).trans (List.Perm.cons _ (List.Perm.swap ..))))
      exact ((inners_put h2).perm (List.Perm.swap ..)).join
theorem inners_del {w : World} {n : Int} : ∀ {kv : KV} {F : List SL}, Sat W0 (inners kv :: F) w → Sat W0 (inners (adel kv n) :: F) w
  | [], F, hs => hs
  | (k, y) :: r, F, hs => by
    have h1 := hs.split
    simp only [adel]
    by_cases e : k = n
    · rw [if_pos e]; exact h1.drop
    · rw [if_neg e]
      exact ((inners_del (h1.perm (List.Perm.swap ..))).perm (List.Perm.swap ..)).join
theorem aput_same : ∀ {kv : KV} {n : Int} {x : Nat × NM}, aget kv n = some x → aput kv n x = kv
  | [], _, _, h => by cases h
  | (k, y) :: r, n, x, h => by
    simp only [aget] at h
    simp only [aput]
    split at h
    · rename_i e
      rw [if_pos e]
      injection h with h
      rw [h, e]
    · rename_i e
      rw [if_neg e, aput_same h]
theorem inners_shut {w : World} {n : Int} {x : Nat × NM} {kv : KV} (h : aget kv n = some x) (hs : Sat W0 (mapb intK blkV x.1 x.2 :: inners (adel kv n) :: F) w) : Sat W0 (inners kv :: F) w := by
  have := inners_put hs
  rwa [aput_same h] at this
end
attribute [local irreducible] slc mapb bmA inners

theorem blocks_New (W0 : World) (F : List SL) :
    Fn Try.prog 9 [] W0 F (Ret fun v G' => ∃ b, v = .pointer (some ⟨b, 0, none⟩) ∧ G' = bmA b [] :: F) := by
  refine Fn.enter Try.func9 rfl Try.ntmps9 rfl ?_
  repeat' (first|refine bk ?_|refine bkc ?_|refine bks ?_|refine bkd ?_|refine bkq (fun q => ?_)|(refine bk2 ?_ ?_<;>(first|exact bkn|(refine bkk ?_;intro h))))
  refine WL.makeMap Int (Nat × NM) intK nodeV rfl (fun m => ?_)
  repeat' (first|refine bk ?_|refine bkc ?_|refine bks ?_|refine bkd ?_|refine bkq (fun q => ?_)|(refine bk2 ?_ ?_<;>(first|exact bkn|(refine bkk ?_;intro h))))
  refine QS.turn (G' := bmA q [] :: F) (fun w hs => bmA_shut (m := m) (kv := []) rfl w ?_) (QS.retV Try.results9 rfl ⟨q, rfl, rfl⟩)
  have h1 : Sat W0 (inners [] :: row q 61 [.map (some m)] :: mapb intK nodeV m [] :: F) w := hs.triv.imp fun _ _ => by unfold inners; trivial
  exact h1.perm ((List.Perm.swap ..).trans (List.Perm.cons _ (List.Perm.swap ..)))
theorem blocks_Lost (b : Nat) (M : BM) (n : Int) (W0 : World) (F : List SL) :
    Fn Try.prog 16 [.pointer (some ⟨b, 0, none⟩), .int .i64 n] W0 (bmA b M :: F) (Ret fun v G' => v = .tuple #[] ∧ G' = bmA b (M.lost n) :: F) := by
  refine Fn.ex (fun w hs => bmA_open w hs) ?_
  rintro ⟨⟨m, kv⟩, hkv⟩
  simp only at hkv ⊢
  refine Fn.enter Try.func16 rfl Try.ntmps16 rfl ?_
  repeat' (first|refine bk ?_|refine bkc ?_|refine bks ?_|refine bkd ?_|refine bkq (fun q => ?_)|(refine bk2 ?_ ?_<;>(first|exact bkn|(refine bkk ?_;intro h))))
  refine WL.delete TT 1 (kk := intK) (k := n) rfl rfl rfl rfl rfl rfl rfl rfl ?_
  repeat' (first|refine bk ?_|refine bkc ?_|refine bks ?_|refine bkd ?_|refine bkq (fun q => ?_)|(refine bk2 ?_ ?_<;>(first|exact bkn|(refine bkk ?_;intro h))))
  refine QS.turn (G' := bmA b (M.lost n) :: F) (fun w hs => bmA_shut (m := m) (kv := adel kv n) (by rw [flatK_del, hkv]; rfl) w ?_) (QS.endV Try.results16 rfl ⟨rfl, rfl⟩)
  have h1 := inners_del (n := n) (hs.front (i := 2) rfl)
  exact h1.perm ((List.Perm.swap ..).trans (List.Perm.cons _ (List.Perm.swap ..)))
set_option maxHeartbeats 1000000 in
theorem blocks_Report (b : Nat) (M : BM) (n : Int) (A : Option Addr) (c : Nat) (l : List Rep) (hl : l.length ≤ 4000000000000000000) (W0 : World) (F : List SL) (hR : Rd W0 F repE A l) :
    Fn Try.prog 10 [.pointer (some ⟨b, 0, none⟩), .int .i64 n, .slice A l.length c] W0 (bmA b M :: F)
      (Ret fun v G' => v = .int .i64 (if 0 ≤ n ∧ n < 4 then 0 else 1) ∧ G' = bmA b (M.report n l) :: F) := by
  refine Fn.ex (fun w hs => bmA_open w hs) ?_
  rintro ⟨⟨m, kv⟩, hkv⟩
  simp only at hkv ⊢
  refine Fn.enter Try.func10 rfl Try.ntmps10 rfl ?_
  by_cases hn : 0 ≤ n ∧ n < 4
  · rw [if_pos hn]
    repeat' (first|refine bk ?_|refine bkc ?_|refine bks ?_|refine bkd ?_|refine bkq (fun q => ?_)|(refine bk2 ?_ ?_<;>(first|exact bkn|(refine bkk ?_;intro h))))
    refine WL.makeMap Int Blk intK blkV rfl (fun mh => ?_)
    repeat' (first|refine bk ?_|refine bkc ?_|refine bks ?_|refine bkd ?_|refine bkq (fun q => ?_)|(refine bk2 ?_ ?_<;>(first|exact bkn|(refine bkk ?_;intro h))))
    refine CS.loop (X := Nat) (fun i => [(0, .pointer (some ⟨b, 0, none⟩)), (1, .int .i64 n), (7, .map (some mh)), (19, .slice A l.length c), (20, .int .i64 (l.length : Int)), (21, .int .i64 (i : Int))])
      (fun i => mapb intK blkV mh ((l.take i).foldl insB []) :: row b 61 [.map (some m)] :: mapb intK nodeV m kv :: inners kv :: F) (fun i => i ≤ l.length) (fun i => l.length - i) 0 ⟨rfl, rfl, rfl, rfl, rfl, rfl, trivial⟩ (fun w hs => hs) (Nat.zero_le _) ?_
    intro i hi
    repeat' (first|refine bk ?_|refine bkc ?_|refine bks ?_|refine bkd ?_|refine bkq (fun q => ?_)|(refine bk2 ?_ ?_<;>(first|exact bkn|(refine bkk ?_;intro h))))
    · obtain ⟨r, hr⟩ : ∃ x, l[i]? = some x := ⟨l[i]'(by omega), List.getElem?_eq_getElem (by omega)⟩
      refine WL.idx TT hR.cons.cons.cons.cons rfl rfl rfl (by omega) (by rw [Int.toNat_natCast]; exact hr) rfl rfl rfl rfl (fun bb o hA => ?_)
      refine WL.s (op1_at TT hA rfl rfl rfl rfl) rfl ?_
      have hfs : (l.take (i + 1)).foldl insB [] = insB ((l.take i).foldl insB []) r := by rw [List.take_add_one, hr, Option.toList_some, List.foldl_append]; rfl
      generalize (l.take i).foldl insB [] = I at hfs ⊢
      repeat' (first|refine bk ?_|refine bkc ?_|refine bks ?_|refine bkd ?_|refine bkq (fun q => ?_)|(refine bk2 ?_ ?_<;>(first|exact bkn|(refine bkk ?_;intro h))))
      refine WL.lookupD TT (kk := intK) (ev := blkV) (u0 := ⟨0, 0, 0⟩) (k := r.id) 1 ((aget I r.id).getD ⟨0, 0, 0⟩) (aget I r.id).isSome rfl rfl rfl rfl rfl rfl rfl rfl rfl rfl ?_
      cases hg : (aget I r.id).isSome with
      | true =>
        repeat' (first|refine bk ?_|refine bkc ?_|refine bks ?_|refine bkd ?_|refine bkq (fun q => ?_)|(refine bk2 ?_ ?_<;>(first|exact bkn|(refine bkk ?_;intro h))))
        refine QS.again (i + 1) (by show i + 1 ≤ l.length; omega) (by show l.length - (i + 1) < l.length - i; omega) ⟨rfl, rfl, rfl, rfl, rfl, rfl, trivial⟩ (fun w hs => ?_)
        have e : insB I r = I := by unfold insB; rw [if_pos hg]
        simp only [hfs, e]
        exact hs.drop.drop
      | false =>
        repeat' (first|refine bk ?_|refine bkc ?_|refine bks ?_|refine bkd ?_|refine bkq (fun q => ?_)|(refine bk2 ?_ ?_<;>(first|exact bkn|(refine bkk ?_;intro h))))
        refine WL.mapUpdate TT 2 (kk := intK) (ev := blkV) (k := r.id) (u := r.blk) rfl rfl rfl rfl rfl rfl rfl rfl ?_
        repeat' (first|refine bk ?_|refine bkc ?_|refine bks ?_|refine bkd ?_|refine bkq (fun q => ?_)|(refine bk2 ?_ ?_<;>(first|exact bkn|(refine bkk ?_;intro h))))
        refine QS.again (i + 1) (by show i + 1 ≤ l.length; omega) (by show l.length - (i + 1) < l.length - i; omega) ⟨rfl, rfl, rfl, rfl, rfl, rfl, trivial⟩ (fun w hs => ?_)
        have e : insB I r = aput I r.id r.blk := by unfold insB; rw [if_neg (by rw [hg]; decide)]
        simp only [hfs, e]
        exact hs.drop.drop
    · have e0 : (l.take i).foldl insB [] = nmOf l := by rw [List.take_of_length_le (by omega)]; rfl
      rw [e0]
      refine WL.mapUpdate TT 2 (kk := intK) (ev := nodeV) (k := n) (u := (mh, nmOf l)) rfl rfl rfl rfl rfl rfl rfl rfl ?_
      repeat' (first|refine bk ?_|refine bkc ?_|refine bks ?_|refine bkd ?_|refine bkq (fun q => ?_)|(refine bk2 ?_ ?_<;>(first|exact bkn|(refine bkk ?_;intro h))))
      refine QS.turn (G' := bmA b (M.report n l) :: F) (fun w hs => bmA_shut (m := m) (kv := aput kv n (mh, nmOf l)) (by rw [flatK_put, hkv]; unfold BM.report; rw [if_pos hn]) w ?_) (QS.retV Try.results10 rfl ⟨rfl, rfl⟩)
      have h1 : Sat W0 (inners kv :: mapb intK blkV mh (nmOf l) :: row b 61 [.map (some m)] :: mapb intK nodeV m (aput kv n (mh, nmOf l)) :: F) w := hs.front (i := 3) rfl
      have h2 := inners_put (x := (mh, nmOf l)) ((inners_del (n := n) h1).perm (List.Perm.swap ..))
      exact h2.perm ((List.Perm.swap ..).trans (List.Perm.cons _ (List.Perm.swap ..)))
  · rw [if_neg hn]
    have e : M.report n l = M := by unfold BM.report; rw [if_neg hn]
    rw [e]
    repeat' (first|refine bk ?_|refine bkc ?_|refine bks ?_|refine bkd ?_|refine bkq (fun q => ?_)|(refine bk2 ?_ ?_<;>(first|exact bkn|(refine bkk ?_;intro h))))
    all_goals first
      | exact QS.turn (G' := bmA b M :: F) (fun w hs => bmA_shut (m := m) hkv w hs) (QS.retV Try.results10 rfl ⟨rfl, rfl⟩)
      | (exfalso; omega)
end Go.Proofs.Ytgebdehpoalfbaa.B
