import Derived.Test.YtpklbelejebcfaaGreatTi
import Derived.Lib.AppendStr
import Derived.Lib.UnsafeStr
import Derived.Lib.Builder
import Derived.Laws.Externs
set_option linter.unusedVariables false
set_option linter.unusedSimpArgs false
/-! A string builder's operations. -/
namespace Go.Proofs.YtpklbelejebcfaaGreat.B
open Go
section
variable {P : Program} (T : Tab P) {Q : Exit → Act → World → Prop} {n : Nat} {ds : List Deferred} {L : TL} {W0 : World} {G : List SL}
  {ops : Array Oper} {rest : List Oper} {ty : TypeId} {pos : String} {af : Array Edge}

/-- append(b, s...), s a string -/
theorem WL.appendS (i : Nat) {d k t u e c : Nat} {A : Option Addr} {xs : List UInt8} {str : ByteArray} {s x : Operand} {z b1 c1 z2 b2 c2 : _} {G' : Option Addr → Nat → List SL}
    (hs : evL L s = some (.slice A k c)) (hk : k = xs.length) (hx : evL L x = some (.string str)) (hG : G[i]? = some (slc byteE e A c xs))
    (hl : lk T.tab t = some ⟨.slice e, z, b1, c1⟩) (hu : lk T.tab u = some ⟨.string, z2, b2, c2⟩) (he : lk T.tab e = some ⟨.int .u8, 1, 1, .int .u8 0⟩) (hb : xs.length + str.size ≤ 140737488355328)
    (hG' : ∀ A' c', setG G i (slc byteE e A' c' (xs ++ bs str)) = some (G' A' c')) (hd : Nat.blt d n = true)
    (h : ∀ A' c', WL P Q n ds ops rest ((d, .slice A' (xs ++ bs str).length c') :: L) W0 (G' A' c')) :
    WL P Q n ds ops (⟨some d, .call ⟨.builtin .append, #[s, x], #[t, u]⟩, ty, pos, af, none⟩ :: rest) L W0 G := fun a w hf hs' =>
  wpList_plain rfl fun K hK => by
    subst hk
    obtain ⟨d1, hd1, e1, ht⟩ := T.und (w := w) hl
    obtain rfl := tdOf_slice e1
    obtain ⟨d2, hd2, e2, ht2⟩ := T.und (w := w) hu
    obtain rfl := tdOf_string e2
    obtain ⟨i0, hi, hz0, hz1, hz2⟩ := T.info he
    obtain ⟨r, hr⟩ := getG_pick hG
    have s1 := hs'.perm (pickG_eq hr).1.symm
    have hown := slc_owns s1
    have hfl : flat byteE (xs ++ bs str) = flat byteE xs ++ Lib.strCells str := by
      rw [flat_append, flat_bytes (bs str)]; rfl
    have hlen : (xs ++ bs str).length = xs.length + str.size := by rw [List.length_append, bs_len]
    obtain ⟨v', w', h1, h2, h3, h4⟩ := Lib.run_append_own_string (P := P) w 0 t u ty e i0 ht ht2 hi hz0 hz1 hz2 (.slice A xs.length c) xs.length (flat byteE xs) hown str (by simp only [maxLen]; omega) hb (Nat.zero_le _)
    have h5 : v'.ownBlock = (Value.slice A xs.length c).ownBlock ∨ v'.ownBlock = some w.heap.size := by
      rcases hown.2 with ⟨hv, hn⟩ | ⟨g, cap, cur, hv, _, hg, hnc, _, hcs, _⟩
      · by_cases hm : str.size = 0
        · rw [h4.2 ⟨hv, hm⟩, hv]; exact .inl rfl
        · have hrun := run_append_nil_string (P := P) w t u ty e i0 (.int .u8 0) ht ht2 hi hz0 str (by omega) (by omega) (by rw [hz2]; show str.size * 1 ≤ _; omega)
          rw [hv] at h1
          have := h1.symm.trans hrun
          injection this with h6 _
          right; rw [h6]; rfl
      · rw [hv] at h1 ⊢
        by_cases hroom : xs.length + str.size ≤ cap
        · have hrun := Lib.run_append_room_string (P := P) w t u ty e i0 ht ht2 hi hz1 g xs.length cap cur hg str hroom (by simp [byteE] at hcs; omega)
          have := h1.symm.trans hrun
          injection this with h6 _
          left; rw [h6]; rfl
        · have hrun := Lib.run_append_grow_string (P := P) w t u ty e i0 (.int .u8 0) ht ht2 hi hz0 ⟨g, 0, none⟩ xs.length cap (flat byteE xs) (by rw [hz1, flat_len]; rfl) (by rw [hv] at hown; exact hown.cells (g := g) rfl) str (by omega) (by omega) (by rw [hz2]; exact growslice_fits (by omega) (by show (xs.length + str.size) * 1 ≤ 140737488355328; omega))
          have := h1.symm.trans hrun
          injection this with h6 _
          right; rw [h6]; rfl
    obtain ⟨A', c', rfl, s2⟩ := s1.slcTurn (ys := xs ++ bs str) (by rw [hfl, hlen]; exact h2) h3 h5
    have s3 := s2.perm (setG_eq hr (hG' A' c'))
    have hrun : (execOp a.eval ⟨some d, .call ⟨.builtin .append, #[s, x], #[t, u]⟩, ty, pos, af, none⟩).run P w = .ok (.value (.slice A' (xs ++ bs str).length c')) w' := by
      simp only [execOp, resolve, invoke, builtin, List.map_toArray, List.map_cons, List.map_nil, hf.ev hs, hf.ev hx, Sem.run_bind, Sem.run_pure, Result.andThen_ok, h1]
    unfold Oper.wp
    rw [hrun, Oper.upon_value]
    exact hK _ _ (h A' c' _ _ (hf.put (d := some d) hd) s3)

/-- p != p -/
theorem op1_neqSame {tp te : Nat} {x y : Operand} {ad : Addr} {z b1 c1 : _} {e2 : TE} (hx : evL L x = some (.pointer (some ad))) (hy : evL L y = some (.pointer (some ad))) (hl : lk T.tab tp = some ⟨.ptr te, z, b1, c1⟩) (he : lk T.tab te = some e2) :
    Op1 P n ds L W0 G (.binOp .neq tp x y tp) ty (.bool false) := by
  intro a w hf hs dd pos af g
  obtain ⟨d1, hd1, e1, ht⟩ := T.und (w := w) hl
  obtain rfl := tdOf_ptr e1
  obtain ⟨i0, hi, _⟩ := T.info he
  have := Lib.run_neq_ptr_same (P := P) w ad ht hi
  simp [execOp, hf.ev hx, hf.ev hy, this, eqGuard]
theorem row_shape {w : World} {i b t : Nat} {cs : List Value} (hG : G[i]? = some (B.row b t cs)) (hs : Sat W0 G w) : w.shape? b = some (t, cs.length) := by
  obtain ⟨hp, hb, hle⟩ := (hs.pick hG).head
  have := hle b _ hb
  simp [World.shape?, this]
/-- unsafe.Pointer(p) -/
theorem op1_toU (i : Nat) {src dst te b t : Nat} {x : Operand} {cs : List Value} {z b1 c1 : _} {e2 : TE} (hG : G[i]? = some (B.row b t cs)) (h0 : cs ≠ []) (hx : evL L x = some (.pointer (some ⟨b, 0, none⟩))) (hl : lk T.tab src = some ⟨.ptr te, z, b1, c1⟩) (he : lk T.tab te = some e2) (hz : Nat.beq e2.size 0 = false)
    (hd : P.underlying dst = some .unsafePointer) : Op1 P n ds L W0 G (.convert src dst x) ty (.pointer (some ⟨b, 0, none⟩)) := by
  intro a w hf hs dd pos af g
  obtain ⟨d1, hd1, e1, ht⟩ := T.und (w := w) hl
  obtain rfl := tdOf_ptr e1
  obtain ⟨i0, hi, _, hz1, _⟩ := T.info he
  have := Lib.run_to_unsafe (P := P) w ⟨b, 0, none⟩ ht hd hi (by rw [hz1]; exact Nat.ne_of_beq_eq_false hz) (row_shape hG hs) (List.length_pos_iff.2 h0)
  simp only [execOp, hf.ev hx, Sem.run_bind, this, Result.andThen_ok, Sem.run_pure]
/-- ..back -/
theorem op1_fromU (i : Nat) {src dst te b t : Nat} {x : Operand} {cs : List Value} {z b1 c1 : _} {e2 : TE} (hG : G[i]? = some (B.row b t cs)) (hx : evL L x = some (.pointer (some ⟨b, 0, none⟩))) (hl : lk T.tab dst = some ⟨.ptr te, z, b1, c1⟩) (he : lk T.tab te = some e2)
    (hsrc : P.underlying src = some .unsafePointer) (hlies : liesAt P P.depth t (cs.length / P.cellsOf t) 0 te 1 = true) : Op1 P n ds L W0 G (.convert src dst x) ty (.pointer (some ⟨b, 0, none⟩)) := by
  intro a w hf hs dd pos af g
  obtain ⟨d1, hd1, e1, ht⟩ := T.und (w := w) hl
  obtain rfl := tdOf_ptr e1
  obtain ⟨i0, hi, _, hz1, _⟩ := T.info he
  have := Lib.run_from_unsafe (P := P) w ⟨b, 0, none⟩ hsrc ht hi (row_shape hG hs) hlies
  simp only [execOp, hf.ev hx, Sem.run_bind, this, Result.andThen_ok, Sem.run_pure]
/-- A call of what has no body. -/
theorem WL.extern {d : Nat} {f : Operand} {args : Array Operand} {tys : Array TypeId} {K : Nat} {vs : List Value} {v : Value} (hK : ∀ w, (callFunc K vs.toArray).run P w = .ok (.value v) w) (hx : evL L f = some (.func (.func K) #[] #[])) (ha : evLs L args.toList = some vs)
    (hd : Nat.blt d n = true) (h : WL P Q n ds ops rest ((d, v) :: L) W0 G) : WL P Q n ds ops (⟨some d, .call ⟨.value f, args, tys⟩, ty, pos, af, none⟩ :: rest) L W0 G := fun a w hf hs =>
  wpList_plain rfl fun K' hK' => by
    unfold Oper.wp
    have e1 := hf.evs ha
    have e2 : args.map a.eval = vs.toArray := by rw [← e1, ← List.map_toArray, Array.toArray_toList]
    have hrun : (execOp a.eval ⟨some d, .call ⟨.value f, args, tys⟩, ty, pos, af, none⟩).run P w = .ok (.value v) w := by
      simp only [execOp, resolve, Sem.run_bind, e2, hf.ev hx, Deferred.ofValue, Sem.run_pure, Result.andThen_ok, invoke]
      simpa using hK w
    rw [hrun, Oper.upon_value]
    exact hK' _ _ (h _ _ (hf.put (d := some d) hd) hs)
/-- unsafe.SliceData of a slice with room -/
theorem op1_sliceData {x : Operand} {t : Nat} {ad : Addr} {k c : Nat} (hx : evL L x = some (.slice (some ad) k c)) (hc : c ≠ 0) : Op1 P n ds L W0 G (.call ⟨.builtin .unsafeSliceData, #[x], #[t]⟩) ty (.pointer (some ad)) := by
  intro a w hf hs dd pos af g
  have := Lib.run_unsafeSliceData_row (P := P) w #[t] ty ad k c hc
  simp only [execOp, resolve, invoke, builtin, List.map_toArray, List.map_cons, List.map_nil, hf.ev hx, Sem.run_bind, Sem.run_pure, Result.andThen_ok, this]
/-- unsafe.String of the whole of a slice of the call's own: it is the call's no more -/
theorem WL.unsafeString (i : Nat) {d pt it e c k : Nat} {A : Option Addr} {xs : List UInt8} {x y : Operand} {z b1 c1 : _} {G' : List SL} (hG : pickG G i = some (slc byteE e A c xs, G')) (hA : evL L x = some (.pointer A)) (hn : evL L y = some (.int .i64 (k : Int)))
    (hk : k = xs.length) (h0 : xs ≠ []) (hp : lk T.tab pt = some ⟨.ptr e, z, b1, c1⟩) (hc : P.cellsOf e = 1) (hd : Nat.blt d n = true) (h : WL P Q n ds ops rest ((d, .string (mk xs)) :: L) W0 G') :
    WL P Q n ds ops (⟨some d, .call ⟨.builtin .unsafeString, #[x, y], #[pt, it]⟩, ty, pos, af, none⟩ :: rest) L W0 G := fun a w hf hs' =>
  wpList_plain rfl fun K hK => by
    subst hk
    obtain ⟨d1, hd1, e1, ht⟩ := T.und (w := w) hp
    obtain rfl := tdOf_ptr e1
    have s1 := hs'.front hG
    have hR : Rd W0 (slc byteE e A c xs :: G') byteE A xs := Rd.slc (i := 0) rfl
    have hRw := hR w s1
    obtain ⟨hp', hP, hle⟩ := s1.head
    rcases hP with ⟨_, _, h1⟩ | ⟨g, cur, rfl, hb, h1, h2, h3, h4⟩
    · exact absurd h1 h0
    have hcell : ∀ j v, xs[j]? = some v → w.cell? ((⟨g, 0, none⟩ : Addr).add j) = some (.int .u8 v.toNat) := fun j v hj => by
      rcases hRw with h5 | ⟨b, o, h6, h7⟩
      · have := congrArg List.length h5
        rw [flat_len] at this
        have hl : 0 < xs.length := List.length_pos_iff.2 h0
        simp [byteE] at this
        exact absurd this h0
      · simp only [Option.some.injEq, Addr.mk.injEq] at h6
        obtain ⟨rfl, rfl, _⟩ := h6
        rw [add_off]
        refine h7 j _ ?_
        rw [flat_bytes]; simp [hj]
    have hg := hle g _ hb
    have hrun0 := Lib.run_unsafeString_row (P := P) w pt it ty e ht hc g cur.size (by simp [World.shape?, hg]) xs h0 (by rw [h3]; simp [byteE]; omega) (by have := h2; simp only [maxLen] at this; omega) hcell
    have hrun : (execOp a.eval ⟨some d, .call ⟨.builtin .unsafeString, #[x, y], #[pt, it]⟩, ty, pos, af, none⟩).run P w = .ok (.value (.string (mk xs))) (w.freeze ⟨g, 0, none⟩ xs.length) := by
      simp only [execOp, resolve, invoke, builtin, List.map_toArray, List.map_cons, List.map_nil, hf.ev hA, hf.ev hn, Sem.run_bind, Sem.run_pure, Result.andThen_ok, hrun0]
    have hl : xs.length ≠ 0 := by simpa using h0
    have hfr : (w.freeze ⟨g, 0, none⟩ xs.length).heap.size = w.heap.size ∧ ∀ k, k ≠ g → (w.freeze ⟨g, 0, none⟩ xs.length).heap[k]? = w.heap[k]? := by
      unfold World.freeze
      rw [if_neg hl]
      exact ⟨by simp, fun k hk => by simp only [Array.getElem?_modify]; rw [if_neg (fun e => hk e.symm)]⟩
    have s2 : Sat W0 ((fun _ => True) :: G') (w.freeze ⟨g, 0, none⟩ xs.length) := by
      refine s1.turn (fun hp2 hP2 hle2 => ⟨⟨fun _ => none, trivial, fun k o h => (by cases h), fun k h => absurd rfl h⟩, fun k hk hn => hfr.2 k fun e => ?_⟩) ?_
      · subst e
        rcases hP2 with ⟨h6, _⟩ | ⟨g', cur', h6, hb', _⟩
        · cases h6
        · simp only [Option.some.injEq, Addr.mk.injEq] at h6
          obtain ⟨rfl, _⟩ := h6
          have : hp2 k = some (.cells cur' e (0, 0)) := hb'
          rw [this] at hn; cases hn
      · unfold World.freeze
        rw [if_neg hl]
        exact ⟨rfl, rfl, rfl⟩
    unfold Oper.wp
    rw [hrun, Oper.upon_value]
    exact hK _ _ (h _ _ (hf.put (d := some d) hd) s2.drop)
end
theorem Fn.world {P : Program} {K : Nat} {vs : List Value} {W0 : World} {G : List SL} {R : Ending → List SL → Prop} (h : (∃ w, Sat W0 G w) → Fn P K vs W0 G R) : Fn P K vs W0 G R := fun w hs => h ⟨w, hs⟩ w hs
end Go.Proofs.YtpklbelejebcfaaGreat.B
