import Derived.Test.YtfolmcpfdcgliaaGreatMg12
import Derived.Test.YtfolmcpfdcgliaaGreatMg10
import Derived.ArgAppend
import Derived.Test.YtfolmcpfdcgliaaGreatMg8
import Derived.Test.YtfolmcpfdcgliaaGreatMg9
set_option linter.unusedVariables false
set_option linter.unusedSimpArgs false
set_option linter.unusedSectionVars false
set_option maxRecDepth 8000
namespace Go.Proofs.YtfolmcpfdcgliaaGreat.B
open Go Go.Proofs
section
variable {P : Program} (T : Tab P) {n : Nat} {ds : List Deferred} {L : TL} {W0 : World} {G : List SL} {ty : TypeId} {pos : String} {af : Array Edge} {g : Option (Nat × Bool)}
include T in
theorem EffC.alloc {d : Nat} {t : Nat} {e : TE} {cs : List Value} (hl : lk T.tab t = some e) (hc : cellsO e.zero = some cs) :
    EffC P n ds L W0 G ⟨some d, .alloc t, ty, pos, af, g⟩ (fun v G' => ∃ b, v = .pointer (some ⟨b, 0, none⟩) ∧ G' = row b t cs :: G) := fun a w hf hs => by
  have hz := T.zeroValue (w := w) hl
  have hcell := cellsO_eq hc
  have hr : (execOp a.eval ⟨some d, .alloc t, ty, pos, af, g⟩).run P w = .ok (.value (.pointer (some ⟨w.heap.size, 0, none⟩))) (w.alloc (.cells cs.toArray t)) := by
    simp [execOp, Instr.alloc, hz, newVar, newRow, hcell]
  unfold runs
  rw [hr]
  exact ⟨_, ⟨_, rfl, rfl⟩, hs.alloc _⟩
include T in
theorem EffC.box {d : Nat} {t : Nat} {x : Operand} {v : Value} {cs : List Value} (hx : evL L x = some v) (hc : cellsO v = some cs) :
    EffC P n ds L W0 G ⟨some d, .box t x, ty, pos, af, g⟩ (fun v G' => ∃ b, v = .pointer (some ⟨b, 0, none⟩) ∧ G' = row b t cs :: G) := fun a w hf hs => by
  have hcell := cellsO_eq hc
  have hr : (execOp a.eval ⟨some d, .box t x, ty, pos, af, g⟩).run P w = .ok (.value (.pointer (some ⟨w.heap.size, 0, none⟩))) (w.alloc (.cells cs.toArray t)) := by
    simp [execOp, hf.ev hx, Instr.box, newVar, newRow, hcell]
  unfold runs
  rw [hr]
  exact ⟨_, ⟨_, rfl, rfl⟩, hs.alloc _⟩
include T in
theorem EffC.store (i : Nat) {x y : Operand} {b o t tt : Nat} {e : TE} {v : Value} {cs vs cs' : List Value} {G' : List SL} (hx : evL L x = some (.pointer (some ⟨b, o, none⟩))) (hy : evL L y = some v)
    (hc : cellsO v = some vs) (hl : lk T.tab t = some e) (hz : Nat.beq vs.length e.size = true) (h1 : allOne vs = true)
    (hG : G[i]? = some (row b tt cs)) (hs' : setN cs o vs = some cs') (hG' : setG G i (row b tt cs') = some G') :
    EffC P n ds L W0 G ⟨none, .store t x y, ty, pos, af, g⟩ (fun v G2 => v = undef ∧ G2 = G') := fun a w hf hs => by
  have hb := hs.at hG
  obtain ⟨h2, h3⟩ := setN_eq hs'
  have hst := run_storeCells_at P b o tt vs 0 cs.toArray w hb (by simpa using h2) (allOne_eq h1)
  simp only [Nat.add_zero] at hst
  have hr : (execOp a.eval ⟨none, .store t x y, ty, pos, af, g⟩).run P w = .ok .skip (w.setRow b (cs.toArray.toList.take o ++ vs ++ cs.toArray.toList.drop (o + vs.length)).toArray) := by
    have hzz := T.sizeOf (w := w) hl
    have hcell := cellsO_eq hc
    have hsz : v.cells.size = e.size := by rw [hcell]; simpa using Nat.eq_of_beq_eq_true hz
    have hlist : v.cells.toList = vs := by rw [hcell]
    simp only [execOp, hf.ev hx, hf.ev hy, Instr.storeAt, Instr.sureAddr, Sem.run_bind, Sem.run_pure, Result.andThen_ok, storeVar, hzz, hsz, ne_eq, not_true_eq_false, if_false, hlist, hst]
  unfold runs
  rw [hr]
  refine ⟨_, ⟨rfl, rfl⟩, ?_⟩
  obtain ⟨r, hr⟩ := getG_pick hG
  have s1 := hs.perm (pickG_eq hr).1.symm
  have s2 : Sat W0 (row b tt cs' :: r) (w.setRow b (cs.toArray.toList.take o ++ vs ++ cs.toArray.toList.drop (o + vs.length)).toArray) := by
    refine Sat.put (o' := .cells cs'.toArray tt (0, 0)) s1 ?_ (fun k hk => ?_) ⟨rfl, rfl, rfl⟩
    · rw [h3]
      simp only [World.setRow, Array.getElem?_modify, hb]
      simp
    · simp only [World.setRow, Array.getElem?_modify]
      rw [if_neg (fun e => hk e.symm)]
  exact s2.perm (setG_eq hr hG')
end
end Go.Proofs.YtfolmcpfdcgliaaGreat.B

namespace Go.Proofs.YtfolmcpfdcgliaaGreat.B
open Go Go.Proofs
section
variable {P : Program} (T : Tab P) {n : Nat} {ds : List Deferred} {L : TL} {W0 : World} {G : List SL} {ty : TypeId} {pos : String} {af : Array Edge} {g : Option (Nat × Bool)}
theorem Base.drew {W0 w : World} (h : Base W0 w) : Base W0 w.drew := ⟨h.os, h.tape, h.output⟩
include T in
theorem Eff.appendFull {α : Type} {E : EncK α} {d k m t e c2 : Nat} {A Bd : Option Addr} {xs ys : List α} {s x : Operand} {te : TE} {zs : List Value} {z b1 c1 : _}
    (hs : evL L s = some (.slice A k k)) (hk : k = xs.length) (hx : evL L x = some (.slice Bd m c2)) (hm : m = ys.length) (hys : ys ≠ []) (hRx : Rd W0 G E A xs) (hR : Rd W0 G E Bd ys)
    (hl : lk T.tab t = some ⟨.slice e, z, b1, c1⟩) (he : lk T.tab e = some te) (hsz : te.size = E.sz) (hzz : cellsO te.zero = some zs) (hzl : zs.length = E.sz) (hby : 0 < te.bytes) (hb : (xs.length + ys.length) * te.bytes ≤ 140737488355328) :
    Eff P n ds L W0 G ⟨some d, .call ⟨.builtin .append, #[s, x], #[t, t]⟩, ty, pos, af, none⟩ (fun v G2 => ∃ A' c', v = .slice A' (xs ++ ys).length c' ∧ G2 = slc E e A' c' (xs ++ ys) :: G) := fun a w hf hs' => by
  subst hk; subst hm
  obtain ⟨d1, hd1, e1, hu⟩ := T.und (w := w) hl
  obtain rfl := tdOf_slice e1
  obtain ⟨i0, hi, hz0, hz1, hz2⟩ := T.info he
  have hzc : te.zero.cells.size = E.sz := by rw [cellsO_eq hzz]; simpa using hzl
  have hyl : 0 < ys.length := List.length_pos_iff.2 hys
  have hn63 : xs.length + ys.length ≤ maxLen := by
    have : xs.length + ys.length ≤ (xs.length + ys.length) * te.bytes := Nat.le_mul_of_pos_right _ hby
    simp only [maxLen]; omega
  have hsmall : xs.length + ys.length ≤ 9223372036854775807 := by simp only [maxLen] at hn63; omega
  have hr0 : ∀ l : List α, RdC w none (flat E l) → l = [] := fun l h => by
    rcases h with h | ⟨b, o, h, _⟩
    · have h1 := congrArg List.length h
      rw [flat_len] at h1
      have := E.pos
      rcases Nat.mul_eq_zero.1 (by simpa using h1) with h2 | h2
      · exact List.eq_nil_of_length_eq_zero h2
      · omega
    · cases h
  have hcell : ∀ (B : Option Addr) (l : List α), l ≠ [] → RdC w B (flat E l) → ∃ b o, B = some ⟨b, o, none⟩ ∧ ∀ j u, (flat E l)[j]? = some u → w.cell? ((⟨b, o, none⟩ : Addr).add j) = some u := fun B l hne h => by
    rcases h with h | ⟨b, o, h1, h2⟩
    · exfalso
      have h1 := congrArg List.length h
      rw [flat_len] at h1
      have := E.pos
      rcases Nat.mul_eq_zero.1 (by simpa using h1) with h3 | h3
      · exact hne (List.eq_nil_of_length_eq_zero h3)
      · omega
    · exact ⟨b, o, h1, fun j u hj => by rw [add_off]; exact h2 j u hj⟩
  obtain ⟨b2, o2, rfl, hc2⟩ := hcell Bd ys hys (hR w hs')
  have key : ∃ cap zc, xs.length + ys.length ≤ cap ∧ cap ≤ maxLen ∧ zc.size = (cap - (xs.length + ys.length)) * E.sz ∧ (Builtin.append_ #[t, t] ty #[.slice A xs.length xs.length, .slice (some ⟨b2, o2, none⟩) ys.length c2]).run P w =
      .ok (.slice (some ⟨w.heap.size, 0, none⟩) (xs ++ ys).length cap) (w.drew.alloc (.cells ((flat E (xs ++ ys)).toArray ++ zc) e)) := by
    cases A with
    | none =>
      obtain rfl := hr0 xs (hRx w hs')
      have hr := run_append_nil (P := P) w t ty e i0 te.zero hu hi hz0 ⟨b2, o2, none⟩ ys.length c2 (flat E ys) (by rw [flat_len, hz1, hsz]) hc2 hyl (by simp at hsmall; omega) (by rw [hz2]; simp at hb; omega)
      refine ⟨grownCap w ys.length 0 e, Builtin.zeroCells te.zero.cells (grownCap w ys.length 0 e - ys.length), ?_, ?_, ?_, ?_⟩
      · simpa using grownCap_ge w ys.length 0 e
      · exact grownCap_le_maxLen w ys.length 0 e (by simpa using hn63)
      · rw [size_zeroCells, hzc]; simp
      · simpa using hr
    | some ad =>
      have hox : ∀ j v, (flat E xs)[j]? = some v → w.cell? (ad.add j) = some v := by
        by_cases hxs : xs = []
        · subst hxs; intro j v hj; simp [flat] at hj
        · obtain ⟨b, o, h1, h2⟩ := hcell (some ad) xs hxs (hRx w hs')
          injection h1 with h1
          subst h1; exact h2
      have hr := run_append_grow (P := P) w t ty e i0 te.zero hu hi hz0 ad xs.length xs.length (flat E xs) (by rw [flat_len, hz1, hsz]) hox ⟨b2, o2, none⟩ ys.length c2 (flat E ys) (by rw [flat_len, hz1, hsz]) hc2 (by omega) (by omega) (growslice_fits (by omega) (by rw [hz2]; exact hb))
      refine ⟨grownCap w (xs.length + ys.length) xs.length e, Builtin.zeroCells te.zero.cells (grownCap w (xs.length + ys.length) xs.length e - (xs.length + ys.length)), grownCap_ge w (xs.length + ys.length) xs.length e, grownCap_le_maxLen w (xs.length + ys.length) xs.length e hn63, by rw [size_zeroCells, hzc], ?_⟩
      rw [hr, List.length_append, flat_append]
      simp
  obtain ⟨cap, zc, h1, h2, h3, hrun⟩ := key
  refine ⟨.slice (some ⟨w.heap.size, 0, none⟩) (xs ++ ys).length cap, w.drew.alloc (.cells ((flat E (xs ++ ys)).toArray ++ zc) e), slc E e (some ⟨w.heap.size, 0, none⟩) cap (xs ++ ys) :: G, ?_, ⟨_, _, rfl, rfl⟩, ?_⟩
  · simp only [execOp, resolve, invoke, builtin, List.map_toArray, List.map_cons, List.map_nil, hf.ev hs, hf.ev hx, Sem.run_bind, Sem.run_pure, Result.andThen_ok, hrun]
  · have s1 : Sat W0 G w.drew := hs'.same rfl ⟨rfl, rfl, rfl⟩
    refine (s1.alloc (.cells ((flat E (xs ++ ys)).toArray ++ zc) e)).imp fun hp hb => ?_
    refine .inr ⟨w.heap.size, _, rfl, hb, by rw [List.length_append]; exact h1, h2, ?_, ?_⟩
    · rw [Array.size_append, List.size_toArray, flat_len, h3, List.length_append, ← Nat.add_mul]
      congr 1; omega
    · rw [Array.toList_append, ← flat_len E (xs ++ ys)]
      exact List.take_left
include T in
theorem WL.appendFull {Q : Exit → Act → World → Prop} {ops : Array Oper} {rest : List Oper} {α : Type} {E : EncK α} {d k m t e c2 : Nat} {A Bd : Option Addr} {xs ys : List α} {s x : Operand} {te : TE} {zs : List Value} {z b1 c1 : _}
    (hs : evL L s = some (.slice A k k)) (hk : k = xs.length) (hx : evL L x = some (.slice Bd m c2)) (hm : m = ys.length) (hys : ys ≠ []) (hRx : Rd W0 G E A xs) (hR : Rd W0 G E Bd ys)
    (hl : lk T.tab t = some ⟨.slice e, z, b1, c1⟩) (he : lk T.tab e = some te) (hsz : te.size = E.sz) (hzz : cellsO te.zero = some zs) (hzl : zs.length = E.sz) (hby : 0 < te.bytes) (hb : (xs.length + ys.length) * te.bytes ≤ 140737488355328) (hd : Nat.blt d n = true)
    (h : ∀ A' c', WL P Q n ds ops rest ((d, .slice A' (xs ++ ys).length c') :: L) W0 (slc E e A' c' (xs ++ ys) :: G)) :
    WL P Q n ds ops (⟨some d, .call ⟨.builtin .append, #[s, x], #[t, t]⟩, ty, pos, af, none⟩ :: rest) L W0 G := fun a w hf hs' =>
  wpList_plain rfl fun K hK => by
    obtain ⟨v, w', G', h1, ⟨A', c', rfl, rfl⟩, h3⟩ := Eff.appendFull T (E := E) (d := d) (n := n) (ds := ds) (ty := ty) (pos := pos) (af := af) hs hk hx hm hys hRx hR hl he hsz hzz hzl hby hb a w hf hs'
    unfold Oper.wp
    rw [h1, Oper.upon_value]
    exact hK _ _ (h A' c' _ _ (hf.put (d := some d) hd) h3)
include T in
theorem op1_clip {t e k c : Nat} {x hi mx : Operand} {A : Option Addr} {r : Nat} {kd kd2 : IntKind} {z1 b1 c1 : _} {te : TE} (hl : lk T.tab t = some ⟨.slice e, z1, b1, c1⟩) (he : lk T.tab e = some te)
    (hx : evL L x = some (.slice A k c)) (h0 : evL L hi = some (.int kd (r : Int))) (h1 : evL L mx = some (.int kd2 (r : Int))) (hkc : r ≤ c) :
    Op1 P n ds L W0 G (.slice t x none (some hi) (some mx)) ty (.slice A r r) := by
  intro a w hf hs' dd pos af g
  obtain ⟨d1, hd1, e1, h2⟩ := T.und (w := w) hl
  obtain rfl := tdOf_slice e1
  have hz := T.sizeOf (w := w) he
  have h3 : (0 : Int) ≤ (r : Int) := by omega
  simp [execOp, hf.ev hx, hf.ev h0, hf.ev h1, Instr.sliceAt, Sem.run_bind, hd1, Result.andThen_ok, Instr.slice, Instr.sliceBounds, Instr.sliceBound, asIntOf, Sem.run_pure, hz, hkc]
  cases A <;> simp [Addr.add]
end
theorem row_own {α : Type} {W0 w : World} {G : List SL} (E : EncK α) {b t : Nat} {cs : List Value} (xs : List α) (hcs : flat E xs = cs) (hl : xs.length ≤ maxLen) (hs : Sat W0 (row b t cs :: G) w) : Sat W0 (slc E t (some ⟨b, 0, none⟩) xs.length xs :: G) w :=
  hs.imp fun hp h => .inr ⟨b, _, rfl, h, Nat.le_refl _, hl, by simp [← hcs, flat_len], by simp [← hcs, ← flat_len]⟩
end Go.Proofs.YtfolmcpfdcgliaaGreat.B

namespace Go.Proofs.YtfolmcpfdcgliaaGreat.B
open Go Go.Proofs
theorem bkz {A B : Prop} (a : A) (f : PLift A → B := by
  first | (intro k; apply WZ.s; (focus (first|exact op1_pure1 TT rfl|exact op1_load TT 0 rfl rfl rfl|exact op1_load TT 1 rfl rfl rfl|exact op1_load TT 2 rfl rfl rfl|exact op1_load TT 3 rfl rfl rfl|exact op1_load TT 4 rfl rfl rfl|exact op1_load TT 5 rfl rfl rfl|exact op1_load TT 6 rfl rfl rfl|exact op1_load TT 7 rfl rfl rfl|exact op1_load TT 8 rfl rfl rfl|exact op1_add TT rfl rfl (by omega)|exact op1_sub TT rfl rfl (by omega)|exact op1_mul TT rfl rfl (by omega)|exact op1_conv TT rfl rfl rfl (by omega)|exact op1_neg TT rfl (by omega)|exact op1_cat rfl rfl (by omega)|exact op1_pure TT rfl|exact op1_build TT rfl rfl rfl rfl rfl rfl|exact op1_buildA TT rfl rfl rfl rfl rfl|exact op1_lenM TT 0 rfl rfl rfl|exact op1_lenM TT 1 rfl rfl rfl|exact op1_lenM TT 2 rfl rfl rfl|exact op1_lenM TT 3 rfl rfl rfl)); exact rfl; exact rfl; exact k.down) | fail) : B := f ⟨a⟩
theorem bka {A B : Prop} (a : A) (f : PLift A → B := by
  intro k
  first | (first|(apply WA.s rfl rfl (by kernel_rfl) rfl;(focus (first|exact op1_pure1 TT rfl|exact op1_load TT 0 rfl rfl rfl|exact op1_load TT 1 rfl rfl rfl|exact op1_load TT 2 rfl rfl rfl|exact op1_load TT 3 rfl rfl rfl|exact op1_load TT 4 rfl rfl rfl|exact op1_load TT 5 rfl rfl rfl|exact op1_load TT 6 rfl rfl rfl|exact op1_load TT 7 rfl rfl rfl|exact op1_load TT 8 rfl rfl rfl|exact op1_add TT rfl rfl (by omega)|exact op1_sub TT rfl rfl (by omega)|exact op1_mul TT rfl rfl (by omega)|exact op1_conv TT rfl rfl rfl (by omega)|exact op1_neg TT rfl (by omega)|exact op1_cat rfl rfl (by omega)|exact op1_pure TT rfl|exact op1_build TT rfl rfl rfl rfl rfl rfl|exact op1_buildA TT rfl rfl rfl rfl rfl|exact op1_lenM TT 0 rfl rfl rfl|exact op1_lenM TT 1 rfl rfl rfl|exact op1_lenM TT 2 rfl rfl rfl|exact op1_lenM TT 3 rfl rfl rfl));exact rfl)|refine WA.off rfl rfl (by kernel_rfl) rfl rfl rfl ?_) | fail
  repeat (first | (first|(apply WA.s rfl rfl (by kernel_rfl) rfl;(focus (first|exact op1_pure1 TT rfl|exact op1_load TT 0 rfl rfl rfl|exact op1_load TT 1 rfl rfl rfl|exact op1_load TT 2 rfl rfl rfl|exact op1_load TT 3 rfl rfl rfl|exact op1_load TT 4 rfl rfl rfl|exact op1_load TT 5 rfl rfl rfl|exact op1_load TT 6 rfl rfl rfl|exact op1_load TT 7 rfl rfl rfl|exact op1_load TT 8 rfl rfl rfl|exact op1_add TT rfl rfl (by omega)|exact op1_sub TT rfl rfl (by omega)|exact op1_mul TT rfl rfl (by omega)|exact op1_conv TT rfl rfl rfl (by omega)|exact op1_neg TT rfl (by omega)|exact op1_cat rfl rfl (by omega)|exact op1_pure TT rfl|exact op1_build TT rfl rfl rfl rfl rfl rfl|exact op1_buildA TT rfl rfl rfl rfl rfl|exact op1_lenM TT 0 rfl rfl rfl|exact op1_lenM TT 1 rfl rfl rfl|exact op1_lenM TT 2 rfl rfl rfl|exact op1_lenM TT 3 rfl rfl rfl));exact rfl)|refine WA.off rfl rfl (by kernel_rfl) rfl rfl rfl ?_) | fail)
  exact k.down) : B := f ⟨a⟩
theorem bk2a {A C B : Prop} (a : A) (c : C) (f : PLift A → PLift C → B := by
  first | (intro k l; refine WA.guardS rfl rfl rfl rfl k.down l.down) | fail) : B := f ⟨a⟩ ⟨c⟩
end Go.Proofs.YtfolmcpfdcgliaaGreat.B

namespace Go.Proofs.YtfolmcpfdcgliaaGreat.B
open Go Go.Proofs
attribute [local irreducible] WL CS QS WQ WH WS Fn Op1 row Sat
def bldA (b : Nat) (l : List UInt8) : SL := fun h => ∃ p A c, (p = none ∨ p = some ⟨b, 0, none⟩) ∧ star (row b 230 [.pointer p, .slice A l.length c]) (slc byteE 5 A c l) h
theorem bldA_open {W0 : World} {F : List SL} {b : Nat} {l : List UInt8} : ∀ w, Sat W0 (bldA b l :: F) w → ∃ x : Bool × Option Addr × Nat, Sat W0 (row b 230 [.pointer (if x.1 then some ⟨b, 0, none⟩ else none), .slice x.2.1 l.length x.2.2] :: slc byteE 5 x.2.1 x.2.2 l :: F) w := fun w hs => by
  obtain ⟨p, hp⟩ := Sat.ex hs
  obtain ⟨A, hA⟩ := Sat.ex hp
  obtain ⟨c, hc⟩ := Sat.ex hA
  obtain ⟨hpp, hc2⟩ := Sat.pure hc
  rcases hpp with rfl | rfl
  · exact ⟨(false, A, c), hc2.split⟩
  · exact ⟨(true, A, c), hc2.split⟩
theorem bldA_shut {W0 : World} {F : List SL} {b : Nat} {l : List UInt8} {p A : Option Addr} {c : Nat} (hp : p = none ∨ p = some ⟨b, 0, none⟩) : ∀ w, Sat W0 (row b 230 [.pointer p, .slice A l.length c] :: slc byteE 5 A c l :: F) w → Sat W0 (bldA b l :: F) w := fun w hs =>
  hs.join.imp fun hh h => ⟨p, A, c, hp, h⟩
theorem unsafe_und : Tryz.prog.underlying 271 = some .unsafePointer := by kernel_rfl
theorem copyCheck (b : Nat) (f : Bool) (sl : Value) (W0 : World) (G : List SL) :
    Fn Tryz.prog 176 [.pointer (some ⟨b, 0, none⟩)] W0 (row b 230 [.pointer (if f then some ⟨b, 0, none⟩ else none), sl] :: G) (Ret fun v G' => v = .tuple #[] ∧ G' = row b 230 [.pointer (some ⟨b, 0, none⟩), sl] :: G) := by
  refine Fn.enter Tryz.func176 rfl Tryz.ntmps176 rfl ?_
  cases f
  all_goals simp only [Bool.false_eq_true, if_true, if_false]
  all_goals repeat' (first|refine bA ?_|refine bkq fun q=>?_|(refine bk2 ?_ ?_<;>(first|exact bkn|(refine bkk ?_;intro h))))
  · refine WL.s (op1_toU TT 0 rfl (by simp) rfl rfl rfl rfl unsafe_und) rfl ?_
    refine WL.extern (v := .pointer (some ⟨b, 0, none⟩)) (fun w => ?_) rfl rfl rfl ?_
    · rw [run_callFunc_extern Tryz.func193 (by kernel_rfl) (by kernel_rfl) (by kernel_rfl) (e := Extern.AbiNoEscape.same) (by kernel_rfl)]; rfl
    refine WL.s (op1_fromU TT 0 rfl rfl rfl rfl unsafe_und (by kernel_rfl)) rfl ?_
    repeat' (first|refine bA ?_|refine bkq fun q=>?_|(refine bk2 ?_ ?_<;>(first|exact bkn|(refine bkk ?_;intro h))))
    exact QS.endV Tryz.results176 rfl ⟨rfl, rfl⟩
  · refine WL.s (op1_neqSame TT rfl rfl rfl rfl) rfl ?_
    repeat' (first|refine bA ?_|refine bkq fun q=>?_|(refine bk2 ?_ ?_<;>(first|exact bkn|(refine bkk ?_;intro h))))
    exact QS.endV Tryz.results176 rfl ⟨rfl, rfl⟩
theorem bld_WriteString (b : Nat) (l : List UInt8) (s : ByteArray) (hb : l.length + s.size ≤ 140737488355328) (W0 : World) (G : List SL) :
    Fn Tryz.prog 139 [.pointer (some ⟨b, 0, none⟩), .string s] W0 (bldA b l :: G) (Ret fun v G' => v = .tuple #[.int .i64 (s.size : Int), .nilIface] ∧ G' = bldA b (l ++ bs s) :: G) := by
  refine Fn.ex (fun w hs => bldA_open w hs) ?_
  rintro ⟨f, A, c⟩
  refine Fn.enter Tryz.func139 rfl Tryz.ntmps139 rfl ?_
  repeat' (first|refine bA ?_|refine bkq fun q=>?_|(refine bk2 ?_ ?_<;>(first|exact bkn|(refine bkk ?_;intro h))))
  refine WL.call c176 rfl rfl rfl rfl (copyCheck b f _ W0 _) ?_
  rintro _ _ ⟨rfl, rfl⟩
  repeat' (first|refine bA ?_|refine bkq fun q=>?_|(refine bk2 ?_ ?_<;>(first|exact bkn|(refine bkk ?_;intro h))))
  refine WL.appendS TT 1 rfl rfl rfl rfl rfl rfl rfl (by omega) (fun _ _ => rfl) rfl (fun A' c' => ?_)
  repeat' (first|refine bA ?_|refine bkq fun q=>?_|(refine bk2 ?_ ?_<;>(first|exact bkn|(refine bkk ?_;intro h))))
  exact QS.turn (G' := bldA b (l ++ bs s) :: G) (bldA_shut (.inr rfl)) (QS.retV Tryz.results139 rfl ⟨rfl, rfl⟩)
theorem bld_String (b : Nat) (l : List UInt8) (h0 : l ≠ []) (W0 : World) (G : List SL) :
    Fn Tryz.prog 141 [.pointer (some ⟨b, 0, none⟩)] W0 (bldA b l :: G) (Ret fun v G' => v = .string (mk l) ∧ G' = G) := by
  refine Fn.ex (fun w hs => bldA_open w hs) ?_
  rintro ⟨f, A, c⟩
  refine Fn.world fun ⟨w, hs⟩ => ?_
  simp only at hs ⊢
  obtain ⟨g, rfl, hc⟩ : ∃ g, A = some ⟨g, 0, none⟩ ∧ c ≠ 0 := by
    obtain ⟨hp, hP, _⟩ := hs.drop.head
    rcases hP with ⟨_, _, h1⟩ | ⟨g, cur, h1, _, h2, _⟩
    · exact absurd h1 h0
    · have := List.length_pos_iff.2 h0
      exact ⟨g, h1, by omega⟩
  refine Fn.enter Tryz.func141 rfl Tryz.ntmps141 rfl ?_
  refine CS.seq ?_
  refine CS.region ?_
  repeat' (first|refine bk ?_|refine bkh ?_|refine bkw ?_|refine bkq (fun q => ?_)|((first|refine bk2 ?_ ?_|refine bk2h ?_ ?_)<;>(first|exact bkn|(refine bkk ?_;intro h))))
  refine QS.then ?_
  refine CS.seq ?_
  refine CS.drawT 10 mixed (by kernel_rfl) rfl ?_
  repeat' (first|refine bk ?_|refine bkh ?_|refine bkw ?_|refine bkq (fun q => ?_)|((first|refine bk2 ?_ ?_|refine bk2h ?_ ?_)<;>(first|exact bkn|(refine bkk ?_;intro h))))
  refine WH.s (op1_sliceData rfl hc) rfl ?_
  repeat' (first|refine bk ?_|refine bkh ?_|refine bkw ?_|refine bkq (fun q => ?_)|((first|refine bk2 ?_ ?_|refine bk2h ?_ ?_)<;>(first|exact bkn|(refine bkk ?_;intro h))))
  refine WL.unsafeString TT 1 rfl rfl rfl rfl h0 rfl (by kernel_rfl) rfl ?_
  repeat' (first|refine bA ?_|refine bkq fun q=>?_|(refine bk2 ?_ ?_<;>(first|exact bkn|(refine bkk ?_;intro h))))
  exact QS.turn (G' := G) (fun w hs => hs.drop) (QS.retV Tryz.results141 rfl ⟨rfl, rfl⟩)
theorem bldA_new {W0 : World} {F : List SL} {b : Nat} : ∀ w, Sat W0 (row b 230 [.pointer none, .slice none 0 0] :: F) w → Sat W0 (bldA b [] :: F) w := fun w hs =>
  bldA_shut (.inl rfl) w ((hs.slcNil byteE 5).perm (List.Perm.swap ..))
end Go.Proofs.YtfolmcpfdcgliaaGreat.B

namespace Go.Proofs.YtfolmcpfdcgliaaGreat.B
open Go
def Cont (l : List UInt8) (i : Nat) : Prop := ∀ j < i, ∃ d, l[j]? = some d ∧ 128 ≤ d.toNat
theorem Cont.zero (l : List UInt8) : Cont l 0 := fun j h => absurd h (by omega)
theorem Cont.succ {l : List UInt8} {i : Nat} {c : UInt8} (h : Cont l i) (hc : l[i]? = some c) (hb : 128 ≤ c.toNat) : Cont l (i + 1) := fun j hj => by
  rcases Nat.lt_or_ge j i with h1 | h1
  · exact h j h1
  · have : j = i := by omega
    subst this; exact ⟨c, hc, hb⟩
theorem can_last : ∀ {a : List UInt8} {f : Bool}, Can f a → ∃ k c, a.length = k + 1 ∧ a[k]? = some c ∧ c.toNat < 128 ∧ Cont a k ∧ (f = true ∧ k = 0 ∨ c.toNat ≠ 0)
  | [], _, h => h.elim
  | [c], f, h => ⟨0, c, rfl, rfl, h.1, Cont.zero _, by rcases h.2 with h | h <;> simp [h]⟩
  | c :: d :: r, f, h => by
    obtain ⟨k, e, h1, h2, h3, h4, h5⟩ := can_last h.2
    refine ⟨k + 1, e, by simp at h1 ⊢; omega, by simpa using h2, h3, fun j hj => ?_, ?_⟩
    · cases j with
      | zero => exact ⟨c, rfl, h.1⟩
      | succ j => exact h4 j (by omega)
    · rcases h5 with ⟨h5, _⟩ | h5
      · cases h5
      · exact .inr h5
theorem val_append : ∀ (a b : List UInt8), val (a ++ b) = val a + 128 ^ a.length * val b
  | [], b => by simp [val]
  | c :: a, b => by
    simp only [List.cons_append, val, val_append a b, List.length_cons, Nat.pow_succ, Nat.mul_add]
    rw [Nat.mul_comm (128 ^ a.length) 128, Nat.mul_assoc, Nat.add_assoc]
theorem val_lt : ∀ (a : List UInt8), val a < 128 ^ a.length
  | [] => by simp [val]
  | c :: a => by
    have := val_lt a
    simp only [val, List.length_cons, Nat.pow_succ]
    omega
theorem val_one (c : UInt8) : val [c] = c.toNat % 128 := by simp [val]
theorem take_succ_get {l : List UInt8} {i : Nat} {c : UInt8} (h : l[i]? = some c) : l.take (i + 1) = l.take i ++ [c] := by
  rw [List.take_add_one, h]; rfl
theorem num_at {l r : List UInt8} {n : Int} (hn : I64 n) (h : l = numB n ++ r) : ∃ k c, k ≤ 9 ∧ l.length ≥ k + 1 ∧ l[k]? = some c ∧ c.toNat < 128 ∧ Cont l k ∧ (k = 0 ∨ c.toNat ≠ 0) ∧ numB n = l.take (k + 1) ∧ val (l.take (k + 1)) = zig n := by
  obtain ⟨k, c, h1, h2, h3, h4, h5⟩ := can_last (can_num n)
  have h6 := num_len hn
  have ht : numB n = l.take (k + 1) := by rw [h, List.take_append, h1, List.take_of_length_le (by omega)]; simp
  have hg : ∀ j, j < k + 1 → l[j]? = (numB n)[j]? := fun j hj => by rw [h, List.getElem?_append_left (by omega)]
  refine ⟨k, c, by omega, ?_, ?_, h3, fun j hj => ?_, ?_, ht, ?_⟩
  · rw [h, List.length_append]; omega
  · rw [hg k (by omega), h2]
  · rw [hg j (by omega)]; exact h4 j hj
  · rcases h5 with h5 | h5
    · exact .inl h5.2
    · exact .inr h5
  · rw [← ht, numB, val_leb]
theorem cont_le {l : List UInt8} {i k : Nat} {c : UInt8} (h : Cont l i) (hk : l[k]? = some c) (hc : c.toNat < 128) : i ≤ k := by
  rcases Nat.lt_or_ge k i with h1 | h1
  · obtain ⟨d, h2, h3⟩ := h k h1
    rw [hk] at h2; injection h2 with h2; subst h2; omega
  · exact h1
theorem tn_end {l : List UInt8} {i : Nat} (h : Cont l i) (hi : i = 10 ∨ l.length ≤ i) : TN l none := fun n r hn hl => by
  obtain ⟨k, c, h1, h2, h3, h4, h5, h6, h7, h8⟩ := num_at hn hl
  have := cont_le h h3 h4
  omega
theorem tn_zero {l : List UInt8} {i : Nat} {c : UInt8} (h : Cont l i) (hi : 0 < i) (hc : l[i]? = some c) (h0 : c.toNat = 0) : TN l none := fun n r hn hl => by
  obtain ⟨k, d, h1, h2, h3, h4, h5, h6, h7, h8⟩ := num_at hn hl
  have e1 := cont_le h h3 h4
  have e2 := cont_le h5 hc (by omega)
  have : k = i := by omega
  subst this
  rw [h3] at hc; injection hc with hc; subst hc
  omega
theorem tn_big {l : List UInt8} {c : UInt8} (h : Cont l 9) (hc : l[9]? = some c) (h0 : 1 < c.toNat) : TN l none := fun n r hn hl => by
  obtain ⟨k, d, h1, h2, h3, h4, h5, h6, h7, h8⟩ := num_at hn hl
  have e1 := cont_le h h3 h4
  have : k = 9 := by omega
  subst this
  rw [h3] at hc; injection hc with hc; subst hc
  rw [take_succ_get h3, val_append, val_one, List.length_take, show min 9 l.length = 9 from by omega] at h8
  have := zig_lt hn
  have e3 : d.toNat % 128 = d.toNat := by omega
  rw [e3] at h8
  have : 128 ^ 9 * 2 ≤ 128 ^ 9 * d.toNat := Nat.mul_le_mul_left _ (by omega)
  omega
theorem can_of {l : List UInt8} {i : Nat} {c : UInt8} : ∀ {f : Bool}, Cont l i → l[i]? = some c → c.toNat < 128 → (f = true ∧ i = 0 ∨ c.toNat ≠ 0) → Can f (l.take (i + 1)) := by
  induction i generalizing l with
  | zero =>
    intro f h hc hb h0
    cases l with
    | nil => simp at hc
    | cons d r =>
      simp at hc; subst hc
      exact ⟨hb, by rcases h0 with h0 | h0 <;> simp [h0]⟩
  | succ i ih =>
    intro f h hc hb h0
    cases l with
    | nil => simp at hc
    | cons d r =>
      obtain ⟨d', e1, e2⟩ := h 0 (by omega)
      simp at e1; subst e1
      have h0' : c.toNat ≠ 0 := by
        rcases h0 with h0 | h0
        · omega
        · exact h0
      have := ih (l := r) (f := false) (fun j hj => by simpa using h (j + 1) (by omega)) (by simpa using hc) hb (.inr h0')
      cases r with
      | nil => simp at hc
      | cons d2 r2 => exact ⟨e2, this⟩
theorem tn_some {l : List UInt8} {i : Nat} {c : UInt8} (h : Cont l i) (hc : l[i]? = some c) (hb : c.toNat < 128) (h0 : i = 0 ∨ c.toNat ≠ 0) (hv : val (l.take (i + 1)) < 2 ^ 64) :
    TN l (some (zag (val (l.take (i + 1))), l.drop (i + 1))) := by
  have h1 : Can true (l.take (i + 1)) := can_of h hc hb (by rcases h0 with h0 | h0 <;> simp [h0])
  refine ⟨zag_i64 hv, ?_⟩
  rw [numB, zig_zag, leb_val h1, List.take_append_drop]
theorem val_next {l : List UInt8} {i : Nat} {c : UInt8} (hc : l[i]? = some c) : val (l.take (i + 1)) = val (l.take i) + c.toNat % 128 * 128 ^ i := by
  have hi := (List.getElem?_eq_some_iff.1 hc).1
  rw [take_succ_get hc, val_append, val_one, List.length_take, show min i l.length = i from by omega, Nat.mul_comm]
theorem val_take_lt (l : List UInt8) (i : Nat) : val (l.take i) < 128 ^ i :=
  Nat.lt_of_lt_of_le (val_lt _) (Nat.pow_le_pow_right (by decide) (by rw [List.length_take]; omega))
theorem tn_ref {l : List UInt8} {i : Nat} {c : UInt8} (h : Cont l i) (hc : l[i]? = some c) (hb : c.toNat < 128) (hi : i < 10) :
    TN l (if numB (zag (val (l.take (i + 1)) % 2 ^ 64)) = l.take (i + 1) then some (zag (val (l.take (i + 1)) % 2 ^ 64), l.drop (i + 1)) else none) := by
  split
  · rename_i e
    exact ⟨zag_i64 (Nat.mod_lt _ (by decide)), by rw [e, List.take_append_drop]⟩
  · rename_i e
    intro n r hn hl
    obtain ⟨k, d, h1, h2, h3, h4, h5, h6, h7, h8⟩ := num_at hn hl
    have e1 := cont_le h h3 h4
    have e2 := cont_le h5 hc hb
    have : k = i := by omega
    subst this
    apply e
    rw [h8, Nat.mod_eq_of_lt (zig_lt hn), zag_zig, h7]
theorem xor_i64 {a b : Int} (ha : 0 ≤ a ∧ a < 2 ^ 63) (hb : b = 0 ∨ b = 1) : bitop .xor .i64 a (-b) = if b = 0 then a else -a - 1 := by
  obtain ⟨m, rfl⟩ := Int.eq_ofNat_of_zero_le ha.1
  have hm : (BitVec.ofInt IntKind.i64.bits (m : Int)).toNat = m := ofInt_nat 64 m (by omega)
  simp only [bitop, BitVec.toNat_xor, hm]
  rcases hb with rfl | rfl
  · rw [if_pos rfl, show (BitVec.ofInt IntKind.i64.bits (-0)).toNat = 0 from by decide, Nat.xor_zero]
    have h : (m : Int) ≤ 9223372036854775807 := by omega
    simp only [IntKind.wrap]
    have e : (m : Int) % 2 ^ IntKind.i64.bits = m := by show (m : Int) % 2 ^ 64 = m; omega
    simp [IntKind.signed, e]
    simp only [show IntKind.i64.bits = 64 from rfl]
    intro; omega
  · rw [if_neg (by decide), show (BitVec.ofInt IntKind.i64.bits (-1)).toNat = 2 ^ 64 - 1 from by decide, xor_ones 64 _ (by omega)]
    have e : ((2 ^ 64 - 1 - m : Nat) : Int) % 2 ^ IntKind.i64.bits = ((2 ^ 64 - 1 - m : Nat) : Int) := by show ((2 ^ 64 - 1 - m : Nat) : Int) % 2 ^ 64 = _; omega
    simp only [IntKind.wrap, e]
    simp only [show IntKind.i64.bits = 64 from rfl, show IntKind.i64.signed = true from rfl, Bool.true_and, decide_eq_true_eq]
    split <;> omega
end Go.Proofs.YtfolmcpfdcgliaaGreat.B
