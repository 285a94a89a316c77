import Derived.Test.YtpklbelejebcfaaGreatTk
import Derived.Laws.Cover3
set_option linter.unusedVariables false
set_option linter.unusedSimpArgs false
set_option maxRecDepth 8000
/-! A store into a slice of the call's own. -/
namespace Go.Proofs.YtpklbelejebcfaaGreat.B
open Go Go.Proofs

section
variable {P : Program} {Q : Exit → Act → World → Prop} {n : Nat} {ds : List Deferred} {L : TL} {W0 w : World} {G : List SL} {p : Prop} {α : Type} {E : EncK α} {c t i : Nat} {A : Option Addr} {xs : List α}
theorem WL.fact {ops : Array Oper} {rest : List Oper} (hp : ∀ w, Sat W0 G w → p) (h : p → WL P Q n ds ops rest L W0 G) : WL P Q n ds ops rest L W0 G := fun a w hf hs => h (hp w hs) a w hf hs
theorem CS.fact {c : Code} (hp : ∀ w, Sat W0 G w → p) (h : p → CS P Q n ds c L W0 G) : CS P Q n ds c L W0 G := fun a w hf hs => h (hp w hs) a w hf hs
theorem Fn.fact {K : Nat} {args : List Value} {R : Ending → List SL → Prop} (hp : ∀ w, Sat W0 G w → p) (h : p → Fn P K args W0 G R) : Fn P K args W0 G R := fun w hs => h (hp w hs) w hs
theorem slc_cap (hG : G[i]? = some (slc E t A c xs)) : ∀ w, Sat W0 G w → xs.length ≤ c := fun w hs => by
  obtain ⟨hp, h, hle⟩ := (hs.pick hG).head
  rcases h with ⟨rfl, rfl, rfl⟩ | ⟨g, cur, rfl, hb, h1, h2, h3, h4⟩
  · exact Nat.le_refl _
  · exact h1
/-- Where an own slice stands. -/
theorem slc_at (hG : G[i]? = some (slc E t A c xs)) : ∀ w, Sat W0 G w → xs.length ≤ c ∧ c ≤ maxLen ∧ ((A = none ∧ c = 0 ∧ xs = []) ∨ ∃ g, A = some ⟨g, 0, none⟩) := fun w hs => by
  obtain ⟨hp, h, hle⟩ := (hs.pick hG).head
  rcases h with ⟨rfl, rfl, rfl⟩ | ⟨g, cur, rfl, hb, h1, h2, h3, h4⟩
  · exact ⟨Nat.le_refl _, Nat.zero_le _, .inl ⟨rfl, rfl, rfl⟩⟩
  · exact ⟨h1, h2, .inr ⟨g, rfl⟩⟩
end
/-- A block of nothing is an own slice of nothing. -/
theorem row_slc {α : Type} {W0 w : World} {G : List SL} (E : EncK α) {b t : Nat} (hs : Sat W0 (row b t [] :: G) w) : Sat W0 (slc E t (some ⟨b, 0, none⟩) 0 ([] : List α) :: G) w :=
  hs.imp fun hp h => .inr ⟨b, #[], rfl, h, Nat.le_refl _, Nat.zero_le _, by simp, by simp [flat]⟩
theorem flat_set {α : Type} (E : EncK α) : ∀ (xs : List α) (i : Nat) (x' : α), i < xs.length → flat E (xs.set i x') = (flat E xs).take (i * E.sz) ++ E.enc x' ++ (flat E xs).drop (i * E.sz + E.sz)
  | [], i, x', h => by simp at h
  | y :: r, 0, x', h => by
    have hl := E.len y
    simp only [List.set_cons_zero, flat, List.flatMap_cons, Nat.zero_mul, List.take_zero, List.nil_append, Nat.zero_add]
    rw [List.drop_append, List.drop_of_length_le (by omega), hl, Nat.sub_self, List.drop_zero, List.nil_append]
  | y :: r, i + 1, x', h => by
    have hl := E.len y
    have ih := flat_set E r i x' (by simpa using h)
    simp only [List.set_cons_succ, flat, List.flatMap_cons] at ih ⊢
    have e1 : (E.enc y).take (i * E.sz + E.sz) = E.enc y := List.take_of_length_le (by omega)
    have e2 : (E.enc y).drop (i * E.sz + E.sz + E.sz) = [] := List.drop_of_length_le (by omega)
    rw [ih, List.take_append, List.drop_append, hl, Nat.succ_mul, e1, e2, show i * E.sz + E.sz - E.sz = i * E.sz from by omega, show i * E.sz + E.sz + E.sz - E.sz = i * E.sz + E.sz from by omega]
    simp only [List.append_assoc, List.nil_append]

section
variable {P : Program} (T : Tab P) {α : Type} {E : EncK α} {Q : Exit → Act → World → Prop} {n : Nat} {ds : List Deferred} {L : TL} {W0 : World} {G : List SL}
  {ops : Array Oper} {rest : List Oper} {ty : TypeId} {pos : String} {af : Array Edge}
include T in
theorem op1_quo {x y : Operand} {t t2 : Nat} {a b : Int} (hx : evL L x = some (.int .i64 a)) (hy : evL L y = some (.int .i64 b)) (h : 0 ≤ a ∧ a ≤ 9223372036854775807 ∧ 0 < b) :
    Op1 P n ds L W0 G (.binOp .quo t x y t2) ty (.int .i64 (a / b)) := by
  obtain ⟨h0, h1, h2⟩ := h
  have hq : a.tdiv b = a / b := Int.tdiv_eq_ediv_of_nonneg h0
  have hle : a / b ≤ a := Int.ediv_le_self _ h0
  have hnn : 0 ≤ a / b := Int.ediv_nonneg h0 (by omega)
  have := op1_pure (P := P) T (n := n) (ds := ds) (L := L) (W0 := W0) (G := G) (op := .binOp .quo t x y t2) (ty := ty) (v := .int .i64 (IntKind.i64.wrap (a.tdiv b))) (by simp only [pureOp, hx, hy, binV, sameK, intBin, decide_eq_false (show ¬ b = 0 from by omega)])
  rwa [w64 (by rw [hq]; omega), hq] at this
include T in
theorem op1_remE {x y : Operand} {t t2 : Nat} {a b : Int} (hx : evL L x = some (.int .i64 a)) (hy : evL L y = some (.int .i64 b)) (h : 0 ≤ a ∧ 0 < b) :
    Op1 P n ds L W0 G (.binOp .rem t x y t2) ty (.int .i64 (a % b)) := by
  refine op1_pure T ?_
  simp only [pureOp, hx, hy, binV, sameK, intBin, decide_eq_false (show ¬ b = 0 from by omega), Int.tmod_eq_emod_of_nonneg h.1]
/-- s == nil, s != nil. -/
theorem op1_eqNil {t t2 e k c : Nat} {x y : Operand} {A : Option Addr} {z b1 c1 : _} (hx : evL L x = some (.slice A k c)) (hy : evL L y = some (.slice none 0 0)) (hl : lk T.tab t = some ⟨.slice e, z, b1, c1⟩) :
    Op1 P n ds L W0 G (.binOp .eql t x y t2) ty (.bool A.isNone) := by
  intro a w hf hs dd pos af g
  obtain ⟨d1, hd1, e1, hu⟩ := T.und (w := w) hl
  obtain rfl := tdOf_slice e1
  have hq : (binOp .eql t (.slice A k c) (.slice none 0 0)).run P w = .ok (.bool A.isNone) w := by
    simp only [binOp]
    simp [run_equal_slice_nil w t e A k c hu]
  simp [execOp, hf.ev hx, hf.ev hy, hq, eqGuard]
theorem op1_neNil {t t2 e k c : Nat} {x y : Operand} {A : Option Addr} {z b1 c1 : _} (hx : evL L x = some (.slice A k c)) (hy : evL L y = some (.slice none 0 0)) (hl : lk T.tab t = some ⟨.slice e, z, b1, c1⟩) :
    Op1 P n ds L W0 G (.binOp .neq t x y t2) ty (.bool (!A.isNone)) := by
  intro a w hf hs dd pos af g
  obtain ⟨d1, hd1, e1, hu⟩ := T.und (w := w) hl
  obtain rfl := tdOf_slice e1
  have hq := run_neq_slice_nil w t e A k c hu
  simp [execOp, hf.ev hx, hf.ev hy, hq, eqGuard]
/-- &s[i] of an own slice, told where. -/
theorem op1_idxA {t e k c : Nat} {g : Nat} {x iy : Operand} {kd : IntKind} {i : Int} {z b1 c1 : _} {te : TE} (E : EncK α) (hs : evL L x = some (.slice (some ⟨g, 0, none⟩) k c)) (hi : evL L iy = some (.int kd i))
    (hb : 0 ≤ i ∧ i < k) (hl : lk T.tab t = some ⟨.slice e, z, b1, c1⟩) (he : lk T.tab e = some te) (hsz : te.size = E.sz) :
    Op1 P n ds L W0 G (.indexAddr t x iy) ty (.pointer (some ⟨g, i.toNat * E.sz, none⟩)) := by
  intro a w hf hs' dd pos af gg
  obtain ⟨d1, hd1, e1, hu⟩ := T.und (w := w) hl
  obtain rfl := tdOf_slice e1
  have hsizes : (sizeOf e).run P w = .ok E.sz w := by rw [T.sizeOf he, hsz]
  have h0 := hb.1
  have h1 := hb.2
  simp only [execOp, hf.ev hs, hf.ev hi, Sem.run_bind]
  simp [Instr.indexAt, asIntOf, hd1, h0, h1, hsizes, Addr.add]
  try exact fun h => h.symm
/-- A load from an own slice's element. -/
theorem op1_loadS (i : Nat) {e c : Nat} {g o j k t : Nat} {x : Operand} {xs : List α} {y : α} {te : TE} {cs' : List Value} {v : Value} (hG : G[i]? = some (slc E e (some ⟨g, 0, none⟩) c xs)) (hx : evL L x = some (.pointer (some ⟨g, o, none⟩))) (ho : o = j * E.sz + k)
    (hy : xs[j]? = some y) (hk : dropN k (E.enc y) = some cs') (hl : lk T.tab t = some te) (hv : partV T t cs' 0 = some v) :
    Op1 P n ds L W0 G (.load t x) ty v := op1_loadR T hx (fun w hs m u hm => by
      have h1 := dropN_eq hk
      rw [h1.2, List.getElem?_drop] at hm
      obtain ⟨hp, h, hle⟩ := (hs.pick hG).head
      rcases h with ⟨h, _⟩ | ⟨g', cur, hg, hb, h1, h2, h3, h4⟩
      · cases h
      · injection hg with hg
        injection hg with hg _ _
        subst hg
        have hb' := hle g _ hb
        have h5 := flat_get E xs j _ y u hy hm
        rw [← h4, List.getElem?_take] at h5
        split at h5
        · subst ho
          rw [Nat.add_assoc]
          unfold World.cell?
          rw [hb']
          simpa using h5
        · cases h5) hl hv
/-- A store into an own slice's element. -/
theorem WL.storeS (i : Nat) {e c : Nat} {g o j k t : Nat} {x y : Operand} {xs : List α} {z z' : α} {te : TE} {v : Value} {vs : List Value} {G' : List SL} (hG : G[i]? = some (slc E e (some ⟨g, 0, none⟩) c xs)) (hx : evL L x = some (.pointer (some ⟨g, o, none⟩))) (hy : evL L y = some v) (ho : o = j * E.sz + k)
    (hz : xs[j]? = some z) (hc : cellsO v = some vs) (hl : lk T.tab t = some te) (hzl : Nat.beq vs.length te.size = true) (h1 : allOne vs = true) (hs' : setN (E.enc z) k vs = some (E.enc z'))
    (hG' : setG G i (slc E e (some ⟨g, 0, none⟩) c (xs.set j z')) = some G') (h : WL P Q n ds ops rest L W0 G') :
    WL P Q n ds ops (⟨none, .store t x y, ty, pos, af, none⟩ :: rest) L W0 G := by
  refine WL.step (v := undef) G' (fun a w hf hs => ?_) rfl h
  subst ho
  obtain ⟨r, hr⟩ := getG_pick hG
  have s1 := hs.perm (pickG_eq hr).1.symm
  obtain ⟨hp, h, hle⟩ := s1.head
  rcases h with ⟨h, _⟩ | ⟨g', cur, hg, hb, h2, h3, h4, h5⟩
  · cases h
  injection hg with hg
  injection hg with hg _ _
  subst hg
  have hb' := hle g _ hb
  obtain ⟨h6, h7⟩ := setN_eq hs'
  have hjl := (List.getElem?_eq_some_iff.1 hz).1
  rw [E.len] at h6
  have hfl := flat_len E xs
  have hle2 : j * E.sz + E.sz ≤ xs.length * E.sz := by rw [← Nat.succ_mul]; exact Nat.mul_le_mul_right _ hjl
  have hle3 : xs.length * E.sz ≤ c * E.sz := Nat.mul_le_mul_right _ h2
  have hst := run_storeCells_at P g (j * E.sz + k) e vs 0 cur w hb' (by omega) (allOne_eq h1)
  simp only [Nat.add_zero] at hst
  have hcell := cellsO_eq hc
  have hsz : v.cells.size = te.size := by rw [hcell]; simpa using Nat.eq_of_beq_eq_true hzl
  have hlist : v.cells.toList = vs := by rw [hcell]
  have hzz := T.sizeOf (w := w) hl
  refine ⟨w.setRow g (cur.toList.take (j * E.sz + k) ++ vs ++ cur.toList.drop (j * E.sz + k + vs.length)).toArray, .inr ⟨?_, rfl⟩, ?_⟩
  · simp only [execOp, hf.ev hx, hf.ev hy, Instr.storeAt, Instr.sureAddr, Sem.run_bind, Sem.run_pure, Result.andThen_ok, storeVar, hzz, hsz, ne_eq, not_true_eq_false, if_false, hlist, hst]
  · refine Sat.perm (G := slc E e (some ⟨g, 0, none⟩) c (xs.set j z') :: r) ?_ (setG_eq hr hG')
    have hcl : cur.toList.length = c * E.sz := by rw [← h4]; simp
    have hnew : (cur.toList.take (j * E.sz + k) ++ vs ++ cur.toList.drop (j * E.sz + k + vs.length)).length = c * E.sz := by
      simp only [List.length_append, List.length_take, List.length_drop, hcl]
      omega
    have hfs : (cur.toList.take (j * E.sz + k) ++ vs ++ cur.toList.drop (j * E.sz + k + vs.length)).take (xs.length * E.sz) = flat E (xs.set j z') := by
      rw [flat_set E xs j z' hjl, h7, ← h5]
      have hze : E.enc z = (cur.toList.drop (j * E.sz)).take E.sz := by
        apply List.ext_getElem?
        intro m
        rw [List.getElem?_take, List.getElem?_drop]
        have hel := E.len z
        split
        · rename_i hm
          obtain ⟨u, hu⟩ : ∃ u, (E.enc z)[m]? = some u := ⟨(E.enc z)[m]'(by omega), List.getElem?_eq_getElem (by omega)⟩
          have h8 := flat_get E xs j m z u hz hu
          rw [← h5, List.getElem?_take] at h8
          split at h8
          · rw [hu, h8]
          · cases h8
        · exact List.getElem?_eq_none (by omega)
      rw [hze]
      apply List.ext_getElem?
      intro m
      have hcl2 : cur.toList.length = cur.size := by simp
      simp only [List.getElem?_take, List.getElem?_append, List.length_append, List.length_take, List.length_drop, List.getElem?_drop, hcl]
      generalize hJ : j * E.sz = J at *
      generalize hX : xs.length * E.sz = X at *
      generalize hC : c * E.sz = C at *
      generalize hZ : E.sz = Z at *
      generalize hV : vs.length = V at *
      have a1 : min (J + k) C = J + k := by omega
      have a2 : min J X = J := by omega
      have a3 : min J C = J := by omega
      have a4 : min X C = X := by omega
      have a5 : min Z (C - J) = Z := by omega
      have a6 : min k Z = k := by omega
      simp only [a1, a2, a3, a4, a5, a6]
      have a7 : Z - (k + V) + (k + V) = Z := by omega
      by_cases hm : m < X
      · rw [if_pos hm]
        by_cases hm1 : m < J + k
        · rw [if_pos (by omega), if_pos hm1]
          by_cases hm2 : m < J
          · rw [if_pos (by omega), if_pos (by omega), if_pos (by omega)]
            simp [hm1, hm2]
            omega
          · rw [if_pos (by omega), if_neg hm2, if_pos (by omega), if_pos (by omega), if_pos (by omega), if_pos (by omega)]
            rw [if_pos (by omega)]
            congr 1
            omega
        · by_cases hm2 : m < J + k + V
          · rw [if_pos (by omega), if_neg hm1, if_pos (by omega), if_neg (by omega), if_pos (by omega), if_neg (by omega)]
            congr 1
            omega
          · rw [if_neg (by omega)]
            by_cases hm3 : m < J + Z
            · rw [if_pos (by omega), if_neg (by omega), if_neg (by omega)]
              rw [if_pos (by omega)]
              congr 1
              omega
            · rw [if_neg (by omega)]
              rw [if_pos (by omega)]
              congr 1
              omega
      · rw [if_neg hm]
        rw [if_neg (by omega), if_neg (by omega)]
    obtain ⟨NEW, hNEW⟩ : ∃ NEW, NEW = cur.toList.take (j * E.sz + k) ++ vs ++ cur.toList.drop (j * E.sz + k + vs.length) := ⟨_, rfl⟩
    rw [← hNEW] at hnew hfs ⊢
    refine s1.turn (fun hp2 hP2 hle2' => ⟨⟨fun q => if q = g then some (.cells NEW.toArray e (0, 0)) else none, .inr ⟨g, NEW.toArray, rfl, by simp [B.blk], by simpa using h2, h3, by simpa using hnew, by simpa using hfs⟩, fun q o2 hq => ?_, fun q hq => ?_⟩, fun q hq hn => ?_⟩) ⟨rfl, rfl, rfl⟩
    · simp only at hq
      split at hq
      · rename_i e1; subst e1; injection hq with hq; subst hq
        simp only [World.setRow, Array.getElem?_modify, hb']
        simp
      · cases hq
    · simp only at hq
      split at hq
      · rename_i e1; subst e1
        left
        rcases hP2 with ⟨h, _⟩ | ⟨g', cur', hg, hb2, _⟩
        · cases h
        · injection hg with hg
          injection hg with hg _ _
          subst hg
          have : hp2 _ = some (.cells cur' e (0, 0)) := hb2
          rw [this]; simp
      · exact absurd rfl hq
    · simp only [World.setRow, Array.getElem?_modify]
      rw [if_neg (fun e1 => ?_)]
      subst e1
      rcases hP2 with ⟨h, _⟩ | ⟨g', cur', hg, hb2, _⟩
      · cases h
      · injection hg with hg
        injection hg with hg _ _
        subst hg
        have : hp2 g = some (.cells cur' e (0, 0)) := hb2
        rw [this] at hn; cases hn
end
end Go.Proofs.YtpklbelejebcfaaGreat.B
