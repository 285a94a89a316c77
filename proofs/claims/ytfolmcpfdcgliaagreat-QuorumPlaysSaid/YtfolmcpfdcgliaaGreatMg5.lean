import Derived.Test.YtfolmcpfdcgliaaGreatMg4
import Derived.Maps.AppendAt
import Derived.Laws.StructEq
set_option linter.unusedVariables false
set_option linter.unusedSimpArgs false
set_option maxRecDepth 8000
namespace Go.Proofs.YtfolmcpfdcgliaaGreat.B
open Go
structure EncK (α : Type) where
  enc : α → List Value
  sz : Nat
  len : ∀ x, (enc x).length = sz
  pos : 0 < sz
  one : ∀ x, ∀ u ∈ enc x, u.oneCell' = true
def flat {α : Type} (E : EncK α) (xs : List α) : List Value := xs.flatMap E.enc
theorem flat_len {α : Type} (E : EncK α) : ∀ xs : List α, (flat E xs).length = xs.length * E.sz
  | [] => by simp [flat]
  | x :: r => by
    have := flat_len E r
    simp only [flat, List.flatMap_cons, List.length_append, E.len, List.length_cons] at this ⊢
    rw [this, Nat.add_mul]; omega
theorem flat_append {α : Type} (E : EncK α) (xs ys : List α) : flat E (xs ++ ys) = flat E xs ++ flat E ys := by simp [flat]
theorem flat_get {α : Type} (E : EncK α) : ∀ (xs : List α) (i j : Nat) (x : α) (u : Value), xs[i]? = some x → (E.enc x)[j]? = some u → (flat E xs)[i * E.sz + j]? = some u
  | [], i, j, x, u, h, _ => by simp at h
  | y :: r, 0, j, x, u, h, h2 => by
    simp only [List.getElem?_cons_zero, Option.some.injEq] at h
    subst h
    have hj : j < (E.enc y).length := (List.getElem?_eq_some_iff.1 h2).1
    simp only [flat, List.flatMap_cons, Nat.zero_mul, Nat.zero_add]
    rw [List.getElem?_append_left hj]; exact h2
  | y :: r, i + 1, j, x, u, h, h2 => by
    have := flat_get E r i j x u (by simpa using h) h2
    simp only [flat, List.flatMap_cons] at this ⊢
    rw [List.getElem?_append_right (by rw [E.len, Nat.add_mul]; omega), E.len]
    rw [show (i + 1) * E.sz + j - E.sz = i * E.sz + j from by rw [Nat.add_mul]; omega]
    exact this
theorem flat_one {α : Type} (E : EncK α) (xs : List α) : ∀ u ∈ flat E xs, u.oneCell' = true := by
  intro u hu
  obtain ⟨x, _, hx⟩ := List.mem_flatMap.1 hu
  exact E.one x u hx
def intE : EncK Int := ⟨fun n => [.int .i64 n], 1, fun _ => rfl, by decide, fun _ u hu => by simp only [List.mem_singleton] at hu; subst hu; rfl⟩
def strE : EncK ByteArray := ⟨fun s => [.string s], 1, fun _ => rfl, by decide, fun _ u hu => by simp only [List.mem_singleton] at hu; subst hu; rfl⟩
def byteE : EncK UInt8 := ⟨fun n => [.int .u8 (n.toNat : Int)], 1, fun _ => rfl, by decide, fun _ u hu => by simp only [List.mem_singleton] at hu; subst hu; rfl⟩
def RdC (w : World) (A : Option Addr) (cs : List Value) : Prop := cs = [] ∨ ∃ b o, A = some ⟨b, o, none⟩ ∧ ∀ j u, cs[j]? = some u → w.cell? ⟨b, o + j, none⟩ = some u
def Rd {α : Type} (W0 : World) (G : List SL) (E : EncK α) (A : Option Addr) (xs : List α) : Prop := ∀ w, Sat W0 G w → RdC w A (flat E xs)
theorem Rd.cons {α : Type} {W0 : World} {G : List SL} {E : EncK α} {A : Option Addr} {xs : List α} {P : SL} (h : Rd W0 G E A xs) : Rd W0 (P :: G) E A xs := fun w hs => h w hs.drop
theorem Rd.of {α : Type} {W0 : World} {G G' : List SL} {E : EncK α} {A : Option Addr} {xs : List α} (h : Rd W0 G E A xs) (hG : ∀ w, Sat W0 G' w → Sat W0 G w) : Rd W0 G' E A xs := fun w hs => h w (hG w hs)
theorem Rd.nil {α : Type} {W0 : World} {G : List SL} {E : EncK α} {A : Option Addr} : Rd W0 G E A ([] : List α) := fun w hs => .inl rfl
def slc {α : Type} (E : EncK α) (t : Nat) (A : Option Addr) (c : Nat) (xs : List α) : SL := fun h =>
  (A = none ∧ c = 0 ∧ xs = []) ∨ ∃ g cur, A = some ⟨g, 0, none⟩ ∧ blk g (.cells cur t (0, 0)) h ∧ xs.length ≤ c ∧ c ≤ maxLen ∧ cur.size = c * E.sz ∧ cur.toList.take (xs.length * E.sz) = flat E xs
section
variable {α : Type} {E : EncK α} {W0 w : World} {G : List SL} {A : Option Addr} {c t : Nat} {xs : List α}
theorem slc_owns (s : Sat W0 (slc E t A c xs :: G) w) : w.ownsRow 0 t E.sz (.slice A xs.length c) xs.length (flat E xs) := by
  obtain ⟨hp, h, hle⟩ := s.head
  refine ⟨flat_len E xs, ?_⟩
  rcases h with ⟨rfl, rfl, rfl⟩ | ⟨g, cur, rfl, hb, h1, h2, h3, h4⟩
  · exact .inl ⟨rfl, rfl⟩
  · exact .inr ⟨g, c, cur, rfl, Nat.zero_le _, hle g _ hb, h1, h2, h3, h4⟩
theorem Rd.slc {i : Nat} (hG : G[i]? = some (slc E t A c xs)) : Rd W0 G E A xs := fun w hs => by
  obtain ⟨hp, h, hle⟩ := (hs.pick hG).head
  rcases h with ⟨rfl, rfl, rfl⟩ | ⟨g, cur, rfl, hb, h1, h2, h3, h4⟩
  · exact .inl rfl
  · refine .inr ⟨g, 0, rfl, fun j u hj => ?_⟩
    rw [Nat.zero_add]
    have h5 := hle g _ hb
    rw [← h4, List.getElem?_take] at hj
    split at hj
    · simp only [World.cell?, h5]
      simpa using hj
    · cases hj
theorem Rd.row {i b : Nat} {cs : List Value} (hG : G[i]? = some (B.row b t cs)) (hcs : flat E xs = cs) : Rd W0 G E (some ⟨b, 0, none⟩) xs := fun w hs => by
  refine .inr ⟨b, 0, rfl, fun j u hj => ?_⟩
  rw [Nat.zero_add, cell_row (hs.at hG), ← hcs]
  exact hj
theorem Sat.slcNil (E : EncK α) (t : Nat) (s : Sat W0 G w) : Sat W0 (B.slc E t none 0 ([] : List α) :: G) w := s.triv.imp fun _ _ => .inl ⟨rfl, rfl, rfl⟩
theorem Sat.slcTurn {w' : World} {v' : Value} {ys : List α} (s : Sat W0 (B.slc E t A c xs :: G) w) (ho : w'.ownsRow 0 t E.sz v' ys.length (flat E ys)) (hg : w.grownBy w' (Value.slice A xs.length c).ownBlock)
    (hat : v'.ownBlock = (Value.slice A xs.length c).ownBlock ∨ v'.ownBlock = some w.heap.size) : ∃ A' c', v' = .slice A' ys.length c' ∧ Sat W0 (B.slc E t A' c' ys :: G) w' := by
  have hbase : Base w w' := ⟨hg.os, hg.tape, hg.output⟩
  have hkeep : ∀ hp, B.slc E t A c xs hp → Le hp w → ∀ k, k < w.heap.size → hp k = none → w'.heap[k]? = w.heap[k]? := fun hp hP hle k hk hn => by
    refine hg.block k hk fun e => ?_
    rcases hP with ⟨rfl, rfl, rfl⟩ | ⟨g, cur, rfl, hb, _⟩
    · simp [Value.ownBlock] at e
    · simp only [Value.ownBlock, Option.some.injEq] at e
      subst e
      have : hp k = some (.cells cur t (0, 0)) := hb
      rw [this] at hn; cases hn
  rcases ho.2 with ⟨rfl, hn⟩ | ⟨g, cap, cur, rfl, _, hh, h1, h2, h3, h4⟩
  · have : ys = [] := List.eq_nil_of_length_eq_zero hn
    subst this
    refine ⟨none, 0, rfl, s.turn (fun hp hP hle => ⟨⟨fun _ => none, .inl ⟨rfl, rfl, rfl⟩, fun k o h => (by cases h), fun k h => absurd rfl h⟩, hkeep hp hP hle⟩) hbase⟩
  · refine ⟨some ⟨g, 0, none⟩, cap, rfl, s.turn (fun hp hP hle => ⟨⟨fun k => if k = g then some (.cells cur t (0, 0)) else none, .inr ⟨g, cur, rfl, by simp [B.blk], h1, h2, h3, h4⟩, fun k o h => ?_, fun k h => ?_⟩, hkeep hp hP hle⟩) hbase⟩
    · simp only at h
      split at h
      · rename_i e; subst e; injection h with h; subst h; exact hh
      · cases h
    · simp only at h
      split at h
      · rename_i e; subst e
        rcases hat with hat | hat
        · left
          rcases hP with ⟨rfl, rfl, rfl⟩ | ⟨g', cur', rfl, hb, _⟩
          · simp [Value.ownBlock] at hat
          · simp only [Value.ownBlock, Option.some.injEq] at hat
            subst hat
            have : hp k = some (.cells cur' t (0, 0)) := hb
            rw [this]; simp
        · right
          simp only [Value.ownBlock, Option.some.injEq] at hat
          omega
      · exact absurd rfl h
end
section
variable {P : Program} (T : Tab P) {α : Type} {E : EncK α} {Q : Exit → Act → World → Prop} {n : Nat} {ds : List Deferred} {L : TL} {W0 : World} {G : List SL}
  {ops : Array Oper} {rest : List Oper} {ty : TypeId} {pos : String} {af : Array Edge}
theorem WL.append (i : Nat) {d k m t e c c2 : Nat} {A Bd : Option Addr} {xs ys : List α} {s x : Operand} {te : TE} {zs : List Value} {z b1 c1 : _} {G' : Option Addr → Nat → List SL}
    (hs : evL L s = some (.slice A k c)) (hk : k = xs.length) (hx : evL L x = some (.slice Bd m c2)) (hm : m = ys.length) (hG : G[i]? = some (slc E e A c xs)) (hR : Rd W0 G E Bd ys)
    (hl : lk T.tab t = some ⟨.slice e, z, b1, c1⟩) (he : lk T.tab e = some te) (hsz : te.size = E.sz) (hzz : cellsO te.zero = some zs) (hzl : zs.length = E.sz) (hby : 0 < te.bytes) (hb : (xs.length + ys.length) * te.bytes ≤ 140737488355328)
    (hG' : ∀ A' c', setG G i (slc E e A' c' (xs ++ ys)) = some (G' A' c')) (hd : Nat.blt d n = true)
    (h : ∀ A' c', WL P Q n ds ops rest ((d, .slice A' (xs ++ ys).length c') :: L) W0 (G' A' c')) :
    WL P Q n ds ops (⟨some d, .call ⟨.builtin .append, #[s, x], #[t, t]⟩, ty, pos, af, none⟩ :: rest) L W0 G := fun a w hf hs' =>
  wpList_plain rfl fun K hK => by
    subst hk; subst hm
    obtain ⟨d1, hd1, e1, hu⟩ := T.und (w := w) hl
    obtain rfl := tdOf_slice e1
    obtain ⟨i0, hi, hz0, hz1, hz2⟩ := T.info he
    obtain ⟨r, hr⟩ := getG_pick hG
    have s1 := hs'.perm (pickG_eq hr).1.symm
    have hown := slc_owns s1
    have hzc : te.zero.cells.size = E.sz := by rw [cellsO_eq hzz]; simpa using hzl
    have hn63 : xs.length + ys.length ≤ maxLen := by
      have : xs.length + ys.length ≤ (xs.length + ys.length) * te.bytes := Nat.le_mul_of_pos_right _ hby
      simp only [maxLen]; omega
    have key : ∃ v' w', (Builtin.append_ #[t, t] ty #[.slice A xs.length c, .slice Bd ys.length c2]).run P w = .ok v' w' ∧ w'.ownsRow 0 e E.sz v' (xs ++ ys).length (flat E (xs ++ ys)) ∧ w.grownBy w' (Value.slice A xs.length c).ownBlock ∧
        (v'.ownBlock = (Value.slice A xs.length c).ownBlock ∨ v'.ownBlock = some w.heap.size) := by
      have hRw := hR w hs'
      rw [flat_append, List.length_append]
      cases hys : ys with
      | nil =>
        subst hys
        cases Bd with
        | none =>
          -- nothing is read
          simp only [List.length_nil, Nat.add_zero, flat, List.flatMap_nil, List.append_nil]
          refine ⟨.slice A xs.length c, w, ?_, hown, ⟨rfl, rfl, rfl, Nat.le_refl _, fun _ _ _ => rfl⟩, .inl rfl⟩
          have hcap : xs.length ≤ c := by
            rcases hown.2 with ⟨h1, h2⟩ | ⟨g, cap, cur, h1, _, _, h2, _⟩
            · omega
            · injection h1 with _ _ h3; omega
          have hsizes : (sizeOf e).run P w = .ok E.sz w := by rw [T.sizeOf he, hsz]
          simp [Builtin.append_, hd1, hsizes, Builtin.lenOf, Builtin.firstCells, hcap, storeCells]
          cases A <;> simp [storeCells]
        | some ad =>
          obtain ⟨v', w', h1, h2, h3, _, h5⟩ := run_append_own_at (P := P) w 0 t ty e i0 te.zero E.sz te.bytes hu hi hz0 (by rw [hz1, hsz]) hz2 hzc E.pos (.slice A xs.length c) xs.length (flat E xs) hown ad 0 c2 []
            (by simp) (by simp) (by simp) (by simpa using hn63) (by simpa using hb) (Nat.zero_le _)
          exact ⟨v', w', by simpa using h1, by simpa [flat] using h2, h3, h5⟩
      | cons y0 yr =>
        rcases hRw with h0 | ⟨b, o, rfl, hcells⟩
        · exfalso
          have h1 := congrArg List.length h0
          rw [flat_len, hys] at h1
          have h2 : 0 < (y0 :: yr).length * E.sz := Nat.mul_pos (by simp) E.pos
          simp only [List.length_nil] at h1
          omega
        · rw [← hys]
          obtain ⟨v', w', h1, h2, h3, _, h5⟩ := run_append_own_at (P := P) w 0 t ty e i0 te.zero E.sz te.bytes hu hi hz0 (by rw [hz1, hsz]) hz2 hzc E.pos (.slice A xs.length c) xs.length (flat E xs) hown ⟨b, o, none⟩ ys.length c2 (flat E ys)
            (flat_len E ys) (fun j u hj => by rw [add_off]; exact hcells j u hj) (flat_one E ys) hn63 hb (Nat.zero_le _)
          exact ⟨v', w', h1, h2, h3, h5⟩
    obtain ⟨v', w', h1, h2, h3, h5⟩ := key
    obtain ⟨A', c', rfl, s2⟩ := s1.slcTurn (ys := xs ++ ys) h2 h3 h5
    have s3 := s2.perm (setG_eq hr (hG' A' c'))
    have hrun : (execOp a.eval ⟨some d, .call ⟨.builtin .append, #[s, x], #[t, t]⟩, ty, pos, af, none⟩).run P w = .ok (.value (.slice A' (xs ++ ys).length c')) w' := by
      simp only [execOp, resolve, invoke, builtin, List.map_toArray, List.map_cons, List.map_nil, hf.ev hs, hf.ev hx, Sem.run_bind, Sem.run_pure, Result.andThen_ok, h1]
    unfold Oper.wp
    rw [hrun, Oper.upon_value]
    exact hK _ _ (h A' c' _ _ (hf.put (d := some d) hd) s3)
theorem run_indexAt {t e k c : Nat} {A : Option Addr} {xs : List α} {x : α} {kd : IntKind} {i : Int} {z b1 c1 : _} {te : TE} (w : World) (hl : lk T.tab t = some ⟨.slice e, z, b1, c1⟩) (he : lk T.tab e = some te) (hsz : te.size = E.sz)
    (hk : k = xs.length) (hR : RdC w A (flat E xs)) (h0 : 0 ≤ i) (hi : xs[i.toNat]? = some x) : ∃ b o, (Instr.indexAt t (.slice A k c) (.int kd i)).run P w = .ok (.pointer (some ⟨b, o, none⟩)) w ∧
      A = some ⟨b, o - i.toNat * E.sz, none⟩ ∧ i.toNat * E.sz ≤ o ∧ (∀ j u, (flat E xs)[j]? = some u → w.cell? ⟨b, o - i.toNat * E.sz + j, none⟩ = some u) := by
  subst hk
  obtain ⟨d1, hd1, e1, hu⟩ := T.und (w := w) hl
  obtain rfl := tdOf_slice e1
  have hlt := (List.getElem?_eq_some_iff.1 hi).1
  rcases hR with h | ⟨b, o, rfl, hc⟩
  · exfalso
    have := congrArg List.length h
    rw [flat_len] at this
    have hp := E.pos
    have : 0 < xs.length * E.sz := Nat.mul_pos (by omega) hp
    simp_all
  · refine ⟨b, o + i.toNat * E.sz, ?_, by rw [Nat.add_sub_cancel], Nat.le_add_left _ _, fun j u hj => by rw [Nat.add_sub_cancel]; exact hc j u hj⟩
    have hsizes : (sizeOf e).run P w = .ok E.sz w := by rw [T.sizeOf he, hsz]
    have h1 : i < (xs.length : Int) := by omega
    simp [Instr.indexAt, asIntOf, hd1, h0, h1, hsizes, add_off]
def At {α : Type} (W0 : World) (G : List SL) (E : EncK α) (b o : Nat) (x : α) : Prop := ∀ w, Sat W0 G w → ∀ j u, (E.enc x)[j]? = some u → w.cell? ⟨b, o + j, none⟩ = some u
theorem WL.idx {d t e k c : Nat} {A : Option Addr} {xs : List α} {x : α} {s ix : Operand} {kd : IntKind} {i : Int} {z b1 c1 : _} {te : TE} (hR : Rd W0 G E A xs) (hs : evL L s = some (.slice A k c)) (hi : evL L ix = some (.int kd i))
    (hk : k = xs.length) (h0 : 0 ≤ i) (hx : xs[i.toNat]? = some x) (hl : lk T.tab t = some ⟨.slice e, z, b1, c1⟩) (he : lk T.tab e = some te) (hsz : te.size = E.sz) (hd : Nat.blt d n = true)
    (h : ∀ b o, At W0 G E b o x → WL P Q n ds ops rest ((d, .pointer (some ⟨b, o, none⟩)) :: L) W0 G) :
    WL P Q n ds ops (⟨some d, .indexAddr t s ix, ty, pos, af, none⟩ :: rest) L W0 G := fun a w hf hs' =>
  wpList_plain rfl fun K hK => by
    obtain ⟨b, o, hrun, hA, hle, hc⟩ := run_indexAt T (xs := xs) (x := x) (c := c) (kd := kd) w hl he hsz hk (hR w hs') h0 hx
    have hr : (execOp a.eval ⟨some d, .indexAddr t s ix, ty, pos, af, none⟩).run P w = .ok (.value (.pointer (some ⟨b, o, none⟩))) w := by
      simp only [execOp, hf.ev hs, hf.ev hi, Sem.run_bind, hrun, Result.andThen_ok, Sem.run_pure]
    unfold Oper.wp
    rw [hr, Oper.upon_value]
    refine hK _ _ (h b o (fun w2 hs2 j u hj => ?_) _ _ (hf.put (d := some d) hd) hs')
    rcases hR w2 hs2 with h3 | ⟨b', o', hA', hc'⟩
    · exfalso
      have hlt := (List.getElem?_eq_some_iff.1 hx).1
      have := congrArg List.length h3
      rw [flat_len] at this
      have : 0 < xs.length * E.sz := Nat.mul_pos (by omega) E.pos
      simp_all
    · rw [hA] at hA'
      injection hA' with hA'
      injection hA' with e1 e2 _
      subst e1
      have := hc' _ u (flat_get E xs i.toNat j x u hx hj)
      rw [← e2] at this
      rwa [show o - i.toNat * E.sz + (i.toNat * E.sz + j) = o + j from by omega] at this
theorem WQ.idx {d t e k c : Nat} {A : Option Addr} {xs : List α} {x : α} {s ix : Operand} {kd : IntKind} {i : Int} {z b1 c1 : _} {te : TE} (hR : Rd W0 G E A xs) (hs : evL L s = some (.slice A k c)) (hi : evL L ix = some (.int kd i))
    (hk : k = xs.length) (h0 : 0 ≤ i) (hx : xs[i.toNat]? = some x) (hl : lk T.tab t = some ⟨.slice e, z, b1, c1⟩) (he : lk T.tab e = some te) (hsz : te.size = E.sz) (hd : Nat.blt d n = true) (hw : ∃ w, Sat W0 G w)
    (h : ∀ b o, At W0 G E b o x → WQ P Q n ds ops rest ((d, .pointer (some ⟨b, o, none⟩)) :: L) W0 G) :
    WQ P Q n ds ops (⟨some d, .indexAddr t s ix, ty, pos, af, none⟩ :: rest) L W0 G := by
  obtain ⟨w0, hw0⟩ := hw
  obtain ⟨b, o, hrun, hA, hle, hc⟩ := run_indexAt T (xs := xs) (x := x) (c := c) (kd := kd) w0 hl he hsz hk (hR w0 hw0) h0 hx
  have hlt := (List.getElem?_eq_some_iff.1 hx).1
  have hne : ∀ w2, Sat W0 G w2 → ∀ j u, (flat E xs)[j]? = some u → w2.cell? ⟨b, o - i.toNat * E.sz + j, none⟩ = some u := fun w2 hs2 j u hj => by
    rcases hR w2 hs2 with h3 | ⟨b', o', hA', hc'⟩
    · rw [h3] at hj; simp at hj
    · rw [hA] at hA'
      injection hA' with hA'
      injection hA' with e1 e2 _
      subst e1
      rw [e2]; exact hc' _ u hj
  refine WQ.s (fun a w hf hs' d pos af g => ?_) hd (h b o fun w2 hs2 j u hj => ?_)
  · obtain ⟨b', o', hrun', hA', hle', _⟩ := run_indexAt T (xs := xs) (x := x) (c := c) (kd := kd) w hl he hsz hk (hR w hs') h0 hx
    have eb : b' = b ∧ o' = o := by
      rw [hA] at hA'
      injection hA' with hA'
      injection hA' with e1 e2 _
      exact ⟨e1.symm, by omega⟩
    obtain ⟨rfl, rfl⟩ := eb
    simp only [execOp, hf.ev hs, hf.ev hi, Sem.run_bind, hrun', Result.andThen_ok, Sem.run_pure]
  · have := hne w2 hs2 _ u (flat_get E xs i.toNat j x u hx hj)
    rwa [show o - i.toNat * E.sz + (i.toNat * E.sz + j) = o + j from by omega] at this
theorem WQ.world (h : ∀ w, Sat W0 G w → WQ P Q n ds ops rest L W0 G) : (∃ w, Sat W0 G w) → WQ P Q n ds ops rest L W0 G := fun ⟨w, hw⟩ => h w hw
theorem op1_at {x : Operand} {b o t : Nat} {y : α} {cs : List Value} {e : TE} {v : Value} (hA : At W0 G E b o y) (hx : evL L x = some (.pointer (some ⟨b, o, none⟩))) (hcs : E.enc y = cs) (hl : lk T.tab t = some e) (hv : partV T t cs 0 = some v) :
    Op1 P n ds L W0 G (.load t x) ty v := op1_loadR T hx (fun w hs j u hj => hA w hs j u (by rw [hcs]; exact hj)) hl hv
theorem op1_atF (k : Nat) {x : Operand} {b o t : Nat} {y : α} {cs cs' : List Value} {e : TE} {v : Value} (hA : At W0 G E b o y) (hx : evL L x = some (.pointer (some ⟨b, o + k, none⟩))) (hcs : E.enc y = cs) (hk : dropN k cs = some cs') (hl : lk T.tab t = some e) (hv : partV T t cs' 0 = some v) :
    Op1 P n ds L W0 G (.load t x) ty v := op1_loadR T hx (fun w hs j u hj => by
      have h1 := dropN_eq hk
      rw [h1.2, List.getElem?_drop] at hj
      rw [Nat.add_assoc]
      exact hA w hs _ u (by rw [hcs]; exact hj)) hl hv
def fillV (place : Nat → Option (Nat × Nat)) : List Value → List (Nat × Value) → Option (List Value)
  | cells, [] => some cells
  | cells, (i, v) :: rest =>
    match place i, cellsO v with
    | some (off, size), some vs => (match Nat.beq vs.length size with
      | true => (match setN cells off vs with | some r => fillV place r rest | none => none)
      | false => none)
    | _, _ => none
theorem foldl_set (off : Nat) : ∀ (vs : List Value) (k : Nat) (cs : Array Value), off + k + vs.length ≤ cs.size →
    (vs.zipIdx k).foldl (fun (cs : Array Value) (x : Value × Nat) => cs.setIfInBounds (off + x.2) x.1) cs = (cs.toList.take (off + k) ++ vs ++ cs.toList.drop (off + k + vs.length)).toArray
  | [], k, cs, h => by simp
  | v :: vs, k, cs, h => by
    simp only [List.zipIdx_cons, List.foldl_cons, List.length_cons] at h ⊢
    rw [foldl_set off vs (k + 1) _ (by simp; omega)]
    apply congrArg List.toArray
    obtain ⟨l⟩ := cs
    simp only [Array.size, List.setIfInBounds_toArray] at h ⊢
    apply List.ext_getElem?
    intro j
    simp only [List.getElem?_append, List.getElem?_take, List.getElem?_drop, List.length_take, List.length_append, List.length_set, List.getElem?_set, List.getElem?_cons, List.length_cons]
    have hl : off + k < l.length := by omega
    have e1 : min (off + (k + 1)) l.length = off + k + 1 := by omega
    have e2 : min (off + k) l.length = off + k := by omega
    rw [e1, e2]
    by_cases h1 : j < off + k
    · simp only [show j < off + k + 1 + vs.length from by omega, show j < off + k + (vs.length + 1) from by omega, show j < off + k + 1 from by omega, show j < off + (k + 1) from by omega, h1, if_true, show ¬ off + k = j from by omega, if_false]
    · by_cases h2 : j = off + k
      · subst h2
        simp [hl, show off + k < off + (k + 1) from by omega]
        intro h3; omega
      · by_cases h3 : j < off + k + 1 + vs.length
        · simp only [h3, if_true, show ¬ j < off + k + 1 from by omega, if_false, show j < off + k + (vs.length + 1) from by omega, h1, show ¬ j - (off + k) = 0 from by omega]
          congr 1 <;> omega
        · simp only [h3, if_false, show ¬ j < off + k + (vs.length + 1) from by omega, show ¬ off + k = off + (k + 1) + vs.length + (j - (off + k + 1 + vs.length)) from by omega]
          congr 1 <;> omega
theorem fillV_ok (place : Nat → Option (Nat × Nat)) : ∀ (parts : List (Nat × Value)) (cells r : List Value), fillV place cells parts = some r → Instr.fill place cells.toArray parts = some r.toArray
  | [], cells, r, h => by simp only [fillV, Option.some.injEq] at h; subst h; rfl
  | (i, v) :: rest, cells, r, h => by
    simp only [fillV] at h
    split at h
    · rename_i off size vs hp hv
      split at h
      · rename_i hb
        split at h
        · rename_i r' hr'
          have ih := fillV_ok place rest r' r h
          have hc := cellsO_eq hv
          have hlen := Nat.eq_of_beq_eq_true hb
          obtain ⟨h1, h2⟩ := setN_eq hr'
          have hsz : v.cells.size = size := by rw [hc]; simpa using hlen
          have hfold := foldl_set off vs 0 cells.toArray (by simpa using h1)
          simp only [Instr.fill, hp]
          rw [if_neg (by
            simp only [hsz, ne_eq, not_true_eq_false, decide_false, Bool.false_or, decide_eq_true_eq]
            simp; omega)]
          have hz : vs.toArray.zipIdx.foldl (fun (cs : Array Value) (x : Value × Nat) => cs.setIfInBounds (off + x.2) x.1) cells.toArray = vs.zipIdx.foldl (fun (cs : Array Value) (x : Value × Nat) => cs.setIfInBounds (off + x.2) x.1) cells.toArray := by
            rw [← Array.foldl_toList, Array.toList_zipIdx]
          rw [hc]
          have hz2 := hz.trans hfold
          simp only [Nat.add_zero] at hz2
          have e3 : ∀ (init : Array Value), Array.foldl (fun cs (x : Value × Nat) => match x with | (c, j) => cs.setIfInBounds (off + j) c) init vs.toArray.zipIdx = vs.toArray.zipIdx.foldl (fun (cs : Array Value) (x : Value × Nat) => cs.setIfInBounds (off + x.2) x.1) init := fun _ => rfl
          rw [e3, hz2]
          rw [← h2]
          exact ih
        · cases h
      · cases h
    · cases h
def evP (L : TL) : List (Nat × Operand) → Option (List (Nat × Value))
  | [] => some []
  | (i, x) :: r => match evL L x, evP L r with | some v, some vs => some ((i, v) :: vs) | _, _ => none
theorem Fr.evP {a : Act} (h : Fr n ds L a) : ∀ {xs : List (Nat × Operand)} {vs : List (Nat × Value)}, B.evP L xs = some vs → xs.map (fun (i, x) => (i, a.eval x)) = vs
  | [], vs, hx => by simp only [B.evP, Option.some.injEq] at hx; subst hx; rfl
  | (i, x) :: r, vs, hx => by
    simp only [B.evP] at hx
    split at hx
    · rename_i v us h1 h2
      simp only [Option.some.injEq] at hx
      subst hx
      simp [h.ev h1, Fr.evP h h2]
    · cases hx
def placesV : List (Nat × Nat) → Option (List (Nat × Nat))
  | [] => some []
  | (t, off) :: r => match lk T.tab t, placesV r with | some e, some l => some ((off, e.size) :: l) | _, _ => none
theorem placesV_run (w : World) : ∀ {fs : List Field} {l : List (Nat × Nat)}, placesV T (fs.map fun f => (f.type, f.offset)) = some l →
    (fs.mapM (fun f => (do Pure.pure (f.offset, ← sizeOf f.type) : Sem (Nat × Nat)))).run P w = .ok l w
  | [], l, h => by simp only [List.map_nil, placesV, Option.some.injEq] at h; subst h; rfl
  | f :: fs, l, h => by
    simp only [List.map_cons, placesV] at h
    split at h
    · rename_i e l' h1 h2
      simp only [Option.some.injEq] at h
      subst h
      rw [List.mapM_cons, Sem.run_bind, Sem.run_bind, T.sizeOf h1]
      simp only [Result.andThen_ok, Sem.run_pure]
      rw [Sem.run_bind, placesV_run w h2]
      simp only [Result.andThen_ok, Sem.run_pure]
    · cases h
theorem op1_build {t : Nat} {parts : Array (Nat × Operand)} {te : TE} {fs pl : List (Nat × Nat)} {vs : List (Nat × Value)} {zs cs : List Value} (hl : lk T.tab t = some te) (htd : te.td = .struct fs) (hz : cellsO te.zero = some zs) (hpl : placesV T fs = some pl)
    (hp : evP L parts.toList = some vs) (hc : fillV (pl[·]?) zs vs = some cs) : Op1 P n ds L W0 G (.build t parts) ty (.agg cs.toArray) := by
  intro a w hf hs d pos af g
  obtain ⟨d1, hd1, e1, _⟩ := T.und (w := w) hl
  rw [htd] at e1
  obtain ⟨fields, rfl, hmap⟩ := tdOf_struct e1
  have hzv := T.zeroValue (w := w) hl
  have hzc := cellsO_eq hz
  have hev := hf.evP hp
  have hparts : parts.map (fun (i, x) => (i, a.eval x)) = vs.toArray := by rw [← hev, ← List.map_toArray, Array.toArray_toList]
  rw [← hmap] at hpl
  have hpr := placesV_run (P := P) T w hpl
  have hfill := fillV_ok (pl[·]?) vs zs cs hc
  simp only [execOp, hparts, Instr.build, Sem.run_bind, hzv, Result.andThen_ok, hd1, hzc]
  have hmA : (fields.mapM (fun f => (do Pure.pure (f.offset, ← sizeOf f.type) : Sem (Nat × Nat)))).run P w = .ok pl.toArray w := by
    rw [← Array.toArray_toList (xs := fields), List.mapM_toArray, Sem.run_map, hpr]
    rfl
  rw [hmA]
  simp only [Result.andThen_ok, List.getElem?_toArray]
  rw [hfill]
  rfl
def zsN : Nat → List Value → List Value
  | 0, _ => []
  | n + 1, zs => zs ++ zsN n zs
theorem run_buildSlice {d t e len : Nat} {parts : Array (Nat × Operand)} {te : TE} {vs : List (Nat × Value)} {zs cs : List Value} {z b1 c1 : _} {a : Act} {w : World} (hf : Fr n ds L a) (hl : lk T.tab t = some ⟨.slice e, z, b1, c1⟩) (he : lk T.tab e = some te) (hz : cellsO te.zero = some zs)
    (hzl : Nat.beq zs.length te.size = true) (hsmall : Nat.ble (len * te.size) 1000 = true) (hp : evP L parts.toList = some vs) (hc : fillV (fun i => some (i * te.size, te.size)) (zsN len zs) vs = some cs) :
    (execOp a.eval ⟨some d, .buildSlice t len parts, ty, pos, af, none⟩).run P w = .ok (.value (.slice (some ⟨w.heap.size, 0, none⟩) len len)) (w.alloc (.cells cs.toArray e)) := by
  obtain ⟨d1, hd1, e1, hu⟩ := T.und (w := w) hl
  obtain rfl := tdOf_slice e1
  have hzc := cellsO_eq hz
  have hzl' := Nat.eq_of_beq_eq_true hzl
  have hsm := Nat.le_of_ble_eq_true hsmall
  have hev := hf.evP hp
  have hparts : parts.map (fun (i, x) => (i, a.eval x)) = vs.toArray := by rw [← hev, ← List.map_toArray, Array.toArray_toList]
  have hfill := fillV_ok _ vs _ cs hc
  have hzeros : ∀ zero : Array Value, (len * te.size ≠ 0 → zero = zs.toArray) → (Array.range (len * te.size)).map (fun x => zero[x % zero.size]!) = (zsN len zs).toArray := fun zero h0 => by
    rcases Nat.eq_zero_or_pos (len * te.size) with e0 | e0
    · rw [e0]
      have : zsN len zs = [] := by
        rcases Nat.mul_eq_zero.1 e0 with e | e
        · subst e; rfl
        · rw [e] at hzl'
          have : zs = [] := List.eq_nil_of_length_eq_zero hzl'
          subst this
          clear hc hsmall hsm hfill e0 h0
          induction len with
          | zero => rfl
          | succ k ih => simpa [zsN] using ih
      rw [this]; simp
    · rw [h0 (by omega)]
      have hlen : ∀ k, (zsN k zs).length = k * zs.length := fun k => by
        induction k with
        | zero => simp [zsN]
        | succ k ih => simp only [zsN, List.length_append, ih, Nat.add_mul]; omega
      have hget : ∀ k j, j < k * zs.length → (zsN k zs)[j]? = zs[j % zs.length]? := fun k => by
        induction k with
        | zero => intro j hj; omega
        | succ k ih =>
          intro j hj
          simp only [zsN]
          by_cases hj2 : j < zs.length
          · rw [List.getElem?_append_left hj2, Nat.mod_eq_of_lt hj2]
          · rw [List.getElem?_append_right (by omega), ih (j - zs.length) (by rw [Nat.add_mul] at hj; omega), Nat.mod_eq_sub_mod (show j ≥ zs.length from by omega)]
      have hpos : 0 < zs.length := by
        rw [hzl']; exact Nat.pos_of_mul_pos_left e0
      apply Array.ext
      · simp [hlen, hzl']
      · intro i h1 h2
        simp only [Array.size_map, Array.size_range] at h1
        simp only [Array.getElem_map, Array.getElem_range, List.getElem_toArray, List.size_toArray]
        have := hget len i (by rw [hzl']; exact h1)
        rw [List.getElem?_eq_getElem (by rw [hlen, hzl']; exact h1), List.getElem?_eq_getElem (Nat.mod_lt _ hpos)] at this
        simp only [Option.some.injEq] at this
        rw [this]
        have hm := Nat.mod_lt i hpos
        simp [hm]
  have hnb : ¬ (len * te.size > 2 ^ 24) := by omega
  simp only [execOp, hparts, Instr.buildSlice, Sem.run_bind, hd1, Result.andThen_ok, T.sizeOf he, hnb, if_false]
  by_cases e0 : len * te.size = 0
  · rw [if_pos e0]
    simp only [Sem.run_bind, Sem.run_pure, Result.andThen_ok]
    rw [hzeros #[] (fun h => absurd e0 h), hfill]
    simp [newRow]
  · rw [if_neg e0]
    simp only [Sem.run_bind, T.zeroValue he, Sem.run_pure, Result.andThen_ok, hzc]
    rw [hzeros zs.toArray (fun _ => rfl), hfill]
    simp [newRow]
theorem WL.buildSlice {d t e len : Nat} {parts : Array (Nat × Operand)} {te : TE} {vs : List (Nat × Value)} {zs cs : List Value} {z b1 c1 : _} (hl : lk T.tab t = some ⟨.slice e, z, b1, c1⟩) (he : lk T.tab e = some te) (hz : cellsO te.zero = some zs)
    (hzl : Nat.beq zs.length te.size = true) (hsmall : Nat.ble (len * te.size) 1000 = true) (hp : evP L parts.toList = some vs) (hc : fillV (fun i => some (i * te.size, te.size)) (zsN len zs) vs = some cs) (hd : Nat.blt d n = true)
    (h : ∀ b, WL P Q n ds ops rest ((d, .slice (some ⟨b, 0, none⟩) len len) :: L) W0 (row b e cs :: G)) :
    WL P Q n ds ops (⟨some d, .buildSlice t len parts, ty, pos, af, none⟩ :: rest) L W0 G := fun a w hf hs' =>
  wpList_plain rfl fun K hK => by
    have hr := run_buildSlice T (w := w) (d := d) (ty := ty) (pos := pos) (af := af) hf hl he hz hzl hsmall hp hc
    unfold Oper.wp
    rw [hr, Oper.upon_value]
    exact hK _ _ (h w.heap.size _ _ (hf.put (d := some d) hd) (hs'.alloc _))
def eqTD : TD → Value → Value → Option Bool
  | .int _, .int k a, .int k' b => (match sameK k k' with | true => some (decide (a = b)) | false => none)
  | .string, .string a, .string b => some (decide (a = b))
  | .bool, .bool a, .bool b => some (decide (a = b))
  | _, _, _ => none
def eqFs : List (Nat × Nat) → List Value → List Value → Option Bool
  | [], _, _ => some true
  | (t, off) :: r, xs, ys => match lk T.tab t, partV T t xs off, partV T t ys off with
    | some e, some u, some v => (match eqTD e.td u v, eqFs r xs ys with | some b, some c => some (b && c) | _, _ => none)
    | _, _, _ => none
theorem eqTD_ok {t dd : Nat} {e : TE} {u v : Value} {b : Bool} (hl : lk T.tab t = some e) (h : eqTD e.td u v = some b) (w : World) : (Op.equalIn (dd + 1) t u v).run P w = .ok b w := by
  obtain ⟨d, hd, h2, h3⟩ := T.und (w := w) hl
  unfold eqTD at h
  split at h
  · rename_i k a' k' b' htd
    have := tdOf_int (h2.trans htd)
    subst this
    split at h
    · rename_i hk
      have := sameK_eq hk
      subst this
      simp only [Option.some.injEq] at h
      subst h
      rw [run_equalIn_int w dd t _ _ _ _ h3]
      congr 1
    · cases h
  · rename_i htd
    have := tdOf_string (h2.trans htd)
    subst this
    simp only [Option.some.injEq] at h
    subst h
    rw [run_equalIn_string w dd t _ _ h3, toList_inj]
  · rename_i htd
    have := tdOf_bool (h2.trans htd)
    subst this
    simp only [Option.some.injEq] at h
    subst h
    rw [run_equalIn_bool' w dd t _ _ h3]
    congr 1
  · cases h
theorem eqFs_ok (dd : Nat) (w : World) : ∀ {fs : List Field} {xs ys : List Value} {b : Bool}, (∀ f ∈ fs, f.name ≠ "_") → eqFs T (fs.map fun f => (f.type, f.offset)) xs ys = some b → (Op.eqFields (dd + 1) xs.toArray ys.toArray fs).run P w = .ok b w
  | [], xs, ys, b, _, h => by simp only [List.map_nil, eqFs, Option.some.injEq] at h; subst h; simp [Op.eqFields]
  | f :: fs, xs, ys, b, hn, h => by
    simp only [List.map_cons, eqFs] at h
    split at h
    · rename_i e u v h1 h2 h3
      split at h
      · rename_i b1 c1 h4 h5
        simp only [Option.some.injEq] at h
        subst h
        have hne : f.name ≠ "_" := hn f (List.mem_cons_self ..)
        have ih := eqFs_ok dd w (fun g hg => hn g (List.mem_cons_of_mem _ hg)) h5
        have p2 := partV_ok (P := P) T h2 w
        have p3 := partV_ok (P := P) T h3 w
        have p4 := eqTD_ok (P := P) (dd := dd) T h1 h4 w
        cases b1 <;> simp [Op.eqFields, hne, p2, p3, p4, ih]
      · cases h
    · cases h
structure CmpT (P : Program) (t : Nat) : Prop where
  flds : P.underlying t = some (.struct (P.fieldsOf t))
  held : P.stoodInHeld t = false
  guard : P.eqGuardType P.depth t = false
  names : ∀ f ∈ (P.fieldsOf t).toList, f.name ≠ "_"
theorem cmpV {t : Nat} {te : TE} {fs : List (Nat × Nat)} {xs ys : List Value} {b : Bool} (hc : CmpT P t) (hl : lk T.tab t = some te) (htd : te.td = .struct fs) (h : eqFs T fs xs ys = some b) (w : World) :
    (Op.equalIn 10000 t (.agg xs.toArray) (.agg ys.toArray)).run P w = .ok b w := by
  obtain ⟨d1, hd1, e1, hu⟩ := T.und (w := w) hl
  rw [htd] at e1
  obtain ⟨fields, rfl, hmap⟩ := tdOf_struct e1
  have : P.fieldsOf t = fields := by
    have h1 := hc.flds
    rw [hu] at h1
    injection h1 with h1
    injection h1 with h1
    exact h1.symm
  rw [show (10000 : Nat) = 9999 + 1 from rfl, run_equalIn_struct w 9999 t xs.toArray ys.toArray hc.flds hc.held]
  rw [show (9999 : Nat) = 9998 + 1 from rfl]
  refine eqFs_ok T 9998 w hc.names ?_
  rw [this, hmap]
  exact h
theorem op1_eqS {t t2 : Nat} {te : TE} {fs : List (Nat × Nat)} {x y : Operand} {xs ys : List Value} {b : Bool} (hc : CmpT P t) (hx : evL L x = some (.agg xs.toArray)) (hy : evL L y = some (.agg ys.toArray)) (hl : lk T.tab t = some te) (htd : te.td = .struct fs) (h : eqFs T fs xs ys = some b) :
    Op1 P n ds L W0 G (.binOp .eql t x y t2) ty (.bool b) := by
  intro a w hf hs d pos af g
  have := cmpV (P := P) T hc hl htd h w
  simp only [execOp, hf.ev hx, hf.ev hy, Sem.run_bind, run_eqGuard_agg w .eql t x y _ _ hc.guard, Result.andThen_ok, run_eql_struct, this, Sem.run_pure]
theorem op1_neS {t t2 : Nat} {te : TE} {fs : List (Nat × Nat)} {x y : Operand} {xs ys : List Value} {b : Bool} (hc : CmpT P t) (hx : evL L x = some (.agg xs.toArray)) (hy : evL L y = some (.agg ys.toArray)) (hl : lk T.tab t = some te) (htd : te.td = .struct fs) (h : eqFs T fs xs ys = some b) :
    Op1 P n ds L W0 G (.binOp .neq t x y t2) ty (.bool (!b)) := by
  intro a w hf hs d pos af g
  have := cmpV (P := P) T hc hl htd h w
  simp only [execOp, hf.ev hx, hf.ev hy, Sem.run_bind, run_eqGuard_agg w .neq t x y _ _ hc.guard, Result.andThen_ok, run_neq_struct, this, Sem.run_pure]
end
end Go.Proofs.YtfolmcpfdcgliaaGreat.B
