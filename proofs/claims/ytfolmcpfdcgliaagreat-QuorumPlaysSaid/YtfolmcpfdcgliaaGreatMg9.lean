import Derived.Test.YtfolmcpfdcgliaaGreatMg6
import Derived.Test.YtfolmcpfdcgliaaGreatMg8
import Derived.Laws.BytesArg
import Derived.Lib.ConvBytes
import Derived.Lib.AppendStr
import Derived.Lib.UnsafeStr
import Derived.Lib.Builder
import Derived.Laws.Externs
set_option linter.unusedVariables false
set_option linter.unusedSimpArgs false
set_option maxRecDepth 8000
namespace Go.Proofs.YtfolmcpfdcgliaaGreat.B
open Go
def rdb {α : Type} (E : EncK α) (b : Nat) (xs : List α) : SL := fun h => ∃ cur t fr, blk b (.cells cur t fr) h ∧ cur.toList.take (xs.length * E.sz) = flat E xs
theorem Rd.rdb {α : Type} {E : EncK α} {W0 : World} {G : List SL} {i b : Nat} {xs : List α} (hG : G[i]? = some (B.rdb E b xs)) : Rd W0 G E (some ⟨b, 0, none⟩) xs := fun w hs => by
  obtain ⟨hp, ⟨cur, t, fr, hb, h4⟩, hle⟩ := (hs.pick hG).head
  refine .inr ⟨b, 0, rfl, fun j u hj => ?_⟩
  rw [Nat.zero_add]
  have h5 := hle b _ hb
  rw [← h4, List.getElem?_take] at hj
  split at hj
  · simp only [World.cell?, h5]
    simpa using hj
  · cases hj
section
variable {P : Program} (T : Tab P) {Q : Exit → Act → World → Prop} {n : Nat} {ds : List Deferred} {L : TL} {W0 : World} {G : List SL}
  {ops : Array Oper} {rest : List Oper} {ty : TypeId} {pos : String} {af : Array Edge}
theorem flat_bytes (xs : List UInt8) : flat byteE xs = xs.map fun c => .int .u8 (c.toNat : Int) := by
  induction xs with
  | nil => rfl
  | cons c r ih => simp only [flat, List.flatMap_cons] at ih ⊢; rw [ih]; rfl
theorem op1_b2s {s d e k c : Nat} {x : Operand} {A : Option Addr} {xs : List UInt8} {z1 b1 c1 z2 b2 c2 z3 b3 c3 : _} (hR : Rd W0 G byteE A xs) (hx : evL L x = some (.slice A k c)) (hk : k = xs.length) (hs : lk T.tab s = some ⟨.slice e, z1, b1, c1⟩)
    (he : lk T.tab e = some ⟨.int .u8, z2, b2, c2⟩) (hd : lk T.tab d = some ⟨.string, z3, b3, c3⟩) : Op1 P n ds L W0 G (.convert s d x) ty (.string (mk xs)) := by
  intro a w hf hs' dd pos af g
  obtain ⟨d1, _, e1, h1⟩ := T.und (w := w) hs
  obtain ⟨d2, _, e2, h2⟩ := T.und (w := w) he
  obtain ⟨d3, _, e3, h3⟩ := T.und (w := w) hd
  obtain rfl := tdOf_slice e1
  obtain rfl := tdOf_int e2
  obtain rfl := tdOf_string e3
  subst hk
  have key : (convert s d (.slice A xs.length c)).run P w = .ok (.string (mk xs)) w := by
    rcases hR w hs' with h | ⟨b, o, rfl, hc⟩
    · have hl := congrArg List.length h
      rw [flat_len] at hl
      have : xs = [] := by
        rcases Nat.mul_eq_zero.1 (by simpa using hl) with h | h
        · exact List.eq_nil_of_length_eq_zero h
        · exact absurd h (by decide)
      subst this
      cases A with
      | none => exact run_convert_bytes_nil w s e h1 h2 0 c d h3
      | some ad =>
        obtain ⟨b, o, sp⟩ := ad
        simp [convert, underlying, h1, h2, h3, Conv.bytesToString, loadCells, loadCellsFrom]
        rfl
    · have := run_convert_bytes_arg w s e h1 h2 b o xs.length c (xs.map fun c => (c.toNat : Int)) (by simp) (fun i hi => by
        refine hc i _ ?_
        rw [flat_bytes]
        simp [hi]) d h3
      rw [this]
      congr 2
      apply bs_inj
      rw [bs, strOfNums_data, bs_mk, List.map_map]
      conv => rhs; rw [← List.map_id xs]
      apply List.map_congr_left
      intro c _
      simp
  simp only [execOp, hf.ev hx, Sem.run_bind, key, Result.andThen_ok, Sem.run_pure]
theorem WL.s2b {d src dst e : Nat} {x : Operand} {s : ByteArray} {z1 b1 c1 z2 b2 c2 z3 b3 c3 : _} (hx : evL L x = some (.string s)) (hs : lk T.tab src = some ⟨.string, z1, b1, c1⟩) (hd : lk T.tab dst = some ⟨.slice e, z2, b2, c2⟩)
    (he : lk T.tab e = some ⟨.int .u8, z3, b3, c3⟩) (hdn : Nat.blt d n = true) (h : ∀ b c, WL P Q n ds ops rest ((d, .slice (some ⟨b, 0, none⟩) s.size c) :: L) W0 (rdb byteE b (bs s) :: G)) :
    WL P Q n ds ops (⟨some d, .convert src dst x, ty, pos, af, none⟩ :: rest) L W0 G := fun a w hf hs' =>
  wpList_plain rfl fun K hK => by
    obtain ⟨d1, _, e1, h1⟩ := T.und (w := w) hs
    obtain ⟨d2, _, e2, h2⟩ := T.und (w := w) hd
    obtain ⟨d3, _, e3, h3⟩ := T.und (w := w) he
    obtain rfl := tdOf_string e1
    obtain rfl := tdOf_slice e2
    obtain rfl := tdOf_int e3
    have hr := Lib.run_convert_string_bytes (P := P) w src dst e s h1 h2 h3
    have hrun : (execOp a.eval ⟨some d, .convert src dst x, ty, pos, af, none⟩).run P w = .ok (.value (.slice (some ⟨w.heap.size, 0, none⟩) s.size (grownCap w s.size 0 e))) (Lib.bytesWorld w e s) := by
      simp only [execOp, hf.ev hx, Sem.run_bind, hr, Result.andThen_ok, Sem.run_pure]
    have hsat : Sat W0 (rdb byteE w.heap.size (bs s) :: G) (Lib.bytesWorld w e s) := by
      refine hs'.triv.turn (fun hp _ _ => ⟨⟨fun k => if k = w.heap.size then some (.cells (Lib.bytesCells w e s) e ((Lib.bytesCells w e s).size, (Lib.bytesCells w e s).size + 1)) else none, ⟨Lib.bytesCells w e s, e, ((Lib.bytesCells w e s).size, (Lib.bytesCells w e s).size + 1), by simp [blk], ?_⟩, fun k o hk => ?_, fun k hk => ?_⟩, fun k hk _ => Lib.bytesWorld_at_old w e s k hk⟩) ⟨rfl, rfl, rfl⟩
      · rw [flat_bytes]
        have hl : (bs s).length * byteE.sz = (s.data.map fun b => Value.int .u8 b.toNat).toList.length := by
          simp [byteE]
        rw [Lib.bytesCells, Array.toList_append, hl, List.take_left']
        · simp
        · rfl
      · simp only at hk
        split at hk
        · rename_i e; subst e; injection hk with hk; subst hk; exact Lib.bytesWorld_at_new w e s
        · cases hk
      · simp only at hk
        split at hk
        · rename_i e; exact .inr (by omega)
        · exact absurd rfl hk
    unfold Oper.wp
    rw [hrun, Oper.upon_value]
    exact hK _ _ (h w.heap.size _ _ _ (hf.put (d := some d) hdn) hsat)
theorem op1_buildA {t len e : Nat} {parts : Array (Nat × Operand)} {te : TE} {vs : List (Nat × Value)} {z zs cs : _} {b1 c1 : _} (hl : lk T.tab t = some ⟨.arr len e, b1, c1, z⟩) (he : lk T.tab e = some te) (hz : cellsO z = some zs)
    (hp : evP L parts.toList = some vs) (hc : fillV (fun i => some (i * te.size, te.size)) zs vs = some cs) : Op1 P n ds L W0 G (.build t parts) ty (.agg cs.toArray) := by
  intro a w hf hs d pos af g
  obtain ⟨d1, hd1, e1, _⟩ := T.und (w := w) hl
  obtain rfl := tdOf_arr e1
  have hzv := T.zeroValue (w := w) hl
  have hzc := cellsO_eq hz
  have hsz := T.sizeOf (w := w) he
  have hev := hf.evP hp
  have hparts : parts.map (fun (i, x) => (i, a.eval x)) = vs.toArray := by rw [← hev, ← List.map_toArray, Array.toArray_toList]
  have hfill := fillV_ok (fun i => some (i * te.size, te.size)) vs zs cs hc
  simp only [execOp, hparts, Instr.build, Sem.run_bind, hzv, Result.andThen_ok, hd1, hzc, hsz]
  rw [hfill]
  rfl
theorem op1_sliceArr {t e len : Nat} {x : Operand} {b o : Nat} {z1 b1 c1 : _} {te : TE} (hl : lk T.tab t = some ⟨.arr len e, z1, b1, c1⟩) (he : lk T.tab e = some te) (hx : evL L x = some (.pointer (some ⟨b, o, none⟩))) :
    Op1 P n ds L W0 G (.slice t x none none none) ty (.slice (some ⟨b, o, none⟩) len len) := by
  intro a w hf hs' dd pos af g
  obtain ⟨d1, hd1, e1, h1⟩ := T.und (w := w) hl
  obtain rfl := tdOf_arr e1
  have hz := T.sizeOf (w := w) he
  simp only [execOp, hf.ev hx, Instr.sliceAt, Sem.run_bind, hd1, Result.andThen_ok, Instr.sureAddr, Sem.run_pure, Option.map_none, Instr.sliceBounds, hz]
  by_cases h0 : len = 0
  · subst h0; rfl
  · rw [if_neg h0]
    simp [add_off]
theorem op1_sliceS {α : Type} {E : EncK α} {t e k c : Nat} {x : Operand} {lo hi : Option Operand} {A : Option Addr} {xs : List α} {l r : Int} {z1 b1 c1 : _} {te : TE} (hl : lk T.tab t = some ⟨.slice e, z1, b1, c1⟩) (he : lk T.tab e = some te) (hsz : te.size = E.sz)
    (hx : evL L x = some (.slice A k c)) (hk : k = xs.length) (h0 : bndV L 0 lo = some l) (h1 : bndV L (k : Int) hi = some r) (hb : 0 ≤ l ∧ l ≤ r ∧ r ≤ k) (hkc : k ≤ c) :
    Op1 P n ds L W0 G (.slice t x lo hi none) ty (.slice (if c = l.toNat then A else A.map (·.add (l.toNat * E.sz))) (r.toNat - l.toNat) (c - l.toNat)) := by
  intro a w hf hs' dd pos af g
  obtain ⟨d1, hd1, e1, h2⟩ := T.und (w := w) hl
  obtain rfl := tdOf_slice e1
  have hz := T.sizeOf (w := w) he
  obtain ⟨hb0, hb1, hb2⟩ := hb
  obtain ⟨R, rfl⟩ := Int.eq_ofNat_of_zero_le (show 0 ≤ r by omega)
  simp only [Int.toNat_natCast] at *
  have hhi : (match hi.map a.eval with | some v => Instr.sliceBound v c .sliceAcap | none => (Pure.pure k : Sem Nat)).run P w = .ok R w := by
    cases hi with
    | none =>
      simp only [bndV, Option.some.injEq] at h1
      have : k = R := by omega
      subst this; rfl
    | some o =>
      simp only [bndV] at h1
      split at h1
      · rename_i kk i hev
        simp only [Option.some.injEq] at h1
        subst h1
        have h3 : (0 : Int) ≤ (R : Int) := by omega
        have h4 : R ≤ c := by omega
        simp [hf.ev hev, Instr.sliceBound, asIntOf, h3, h4]
      · cases h1
  have hlo : (match lo.map a.eval with | some v => Instr.sliceBound v R .sliceB | none => (Pure.pure 0 : Sem Nat)).run P w = .ok l.toNat w := by
    cases lo with
    | none => simp only [bndV, Option.some.injEq] at h0; subst h0; rfl
    | some o =>
      simp only [bndV] at h0
      split at h0
      · rename_i kk i hev
        simp only [Option.some.injEq] at h0
        subst h0
        have h4 : i ≤ (R : Int) := by omega
        simp [hf.ev hev, Instr.sliceBound, asIntOf, hb0, h4]
      · cases h0
  simp only [execOp, hf.ev hx, Instr.sliceAt, Sem.run_bind, hd1, Result.andThen_ok, Instr.slice, Option.map_none, Instr.sliceBounds, Sem.run_pure]
  cases lo with
  | none =>
    simp only [Option.map_none] at hlo ⊢
    cases hi with
    | none => simp only [Option.map_none] at hhi ⊢; simp at hhi; simp at hlo; simp [hz, hsz, hhi, ← hlo]
    | some o => simp only [Option.map_some] at hhi ⊢; simp at hlo; simp [hhi, ← hlo, hz, hsz]
  | some o2 =>
    simp only [Option.map_some] at hlo ⊢
    cases hi with
    | none => simp only [Option.map_none] at hhi ⊢; simp at hhi; simp [hhi, hlo, hz, hsz]
    | some o => simp only [Option.map_some] at hhi ⊢; simp [hhi, hlo, hz, hsz]
end
section
variable {P : Program} {Q : Exit → Act → World → Prop} {n : Nat} {ds : List Deferred} {L : TL} {W0 : World} {G : List SL}
theorem QS.again {X : Type} {I : X → TL} {A : X → List SL} {p : X → Prop} {m : X → Nat} {m0 : Nat} (x' : X) (hp : p x') (hm : m x' < m0) (hI : SubL (I x') L) (hA : ∀ w, Sat W0 G w → Sat W0 (A x') w) :
    QS (Exit.then (fun a w => ∃ x', p x' ∧ m x' < m0 ∧ Fr n ds (I x') a ∧ Sat W0 (A x') w) Q) n ds .normal L W0 G := fun a w hf hs => ⟨x', hp, hm, hf.sub hI, hA w hs⟩
theorem QS.met {X : Type} {I : X → TL} {A : X → List SL} {p : X → Prop} (x' : X) (hp : p x') (hI : SubL (I x') L) (hA : ∀ w, Sat W0 G w → Sat W0 (A x') w) :
    QS (Exit.then (fun a w => ∃ x', p x' ∧ Fr n ds (I x') a ∧ Sat W0 (A x') w) Q) n ds .normal L W0 G := fun a w hf hs => ⟨x', hp, hf.sub hI, hA w hs⟩
end
theorem SubL.cons {i : Nat} {v : Value} {L' L : TL} (h : lk L i = some v) (hs : SubL L' L) : SubL ((i, v) :: L') L := ⟨h, hs⟩
theorem Rd.part {α : Type} {E : EncK α} {W0 : World} {G : List SL} {A : Option Addr} {xs : List α} {c l r : Nat} (h : Rd W0 G E A xs) (hlr : r ≤ xs.length) (hxc : xs.length ≤ c) :
    Rd W0 G E (if c = l then A else A.map (·.add (l * E.sz))) ((xs.take r).drop l) := fun w hs => by
  have hfl : flat E ((xs.take r).drop l) = ((flat E xs).take (r * E.sz)).drop (l * E.sz) := by
    have e1 : ∀ (ys : List α) (k : Nat), flat E (ys.drop k) = (flat E ys).drop (k * E.sz) := fun ys k => by
      induction k generalizing ys with
      | zero => simp
      | succ k ih =>
        cases ys with
        | nil => simp [flat]
        | cons y ys =>
          simp only [List.drop_succ_cons, ih, flat, List.flatMap_cons]
          rw [List.drop_append, Nat.add_mul, E.len]
          have : (E.enc y).drop (k * E.sz + 1 * E.sz) = [] := List.drop_eq_nil_of_le (by rw [E.len]; omega)
          rw [this]
          rw [List.nil_append, Nat.one_mul, Nat.add_sub_cancel]
          exact ih ys
    have e2 : ∀ (ys : List α) (k : Nat), flat E (ys.take k) = (flat E ys).take (k * E.sz) := fun ys k => by
      induction k generalizing ys with
      | zero => simp [flat]
      | succ k ih =>
        cases ys with
        | nil => simp [flat]
        | cons y ys =>
          simp only [flat, List.take_succ_cons, List.flatMap_cons] at ih ⊢
          rw [ih, List.take_append, Nat.add_mul, E.len]
          have : (E.enc y).take (k * E.sz + 1 * E.sz) = E.enc y := List.take_of_length_le (by rw [E.len]; omega)
          rw [this]
          congr 2; omega
    rw [e1, e2]
  rcases h w hs with h0 | ⟨b, o, rfl, hc⟩
  · exact .inl (by rw [hfl, h0]; simp)
  · by_cases hcl : c = l
    · left
      have hll : (xs.take r).length ≤ l := by rw [List.length_take]; exact Nat.le_trans (Nat.min_le_right _ _) (hcl ▸ hxc)
      have : (xs.take r).drop l = [] := List.drop_eq_nil_of_le hll
      rw [this]; rfl
    · refine .inr ⟨b, o + l * E.sz, by rw [if_neg hcl]; simp [add_off], fun j u hj => ?_⟩
      rw [hfl, List.getElem?_drop, List.getElem?_take] at hj
      split at hj
      · have := hc _ u hj
        rwa [show o + (l * E.sz + j) = o + l * E.sz + j from by omega] at this
      · cases hj
end Go.Proofs.YtfolmcpfdcgliaaGreat.B

namespace Go.Proofs.YtfolmcpfdcgliaaGreat.B
open Go
section
variable {P : Program} (T : Tab P) {Q : Exit → Act → World → Prop} {n : Nat} {ds : List Deferred} {L : TL} {W0 : World} {G : List SL}
  {ops : Array Oper} {rest : List Oper} {ty : TypeId} {pos : String} {af : Array Edge}
theorem WL.appendS (i : Nat) {d k t u e c : Nat} {A : Option Addr} {xs : List UInt8} {str : ByteArray} {s x : Operand} {z b1 c1 z2 b2 c2 : _} {G' : Option Addr → Nat → List SL}
    (hs : evL L s = some (.slice A k c)) (hk : k = xs.length) (hx : evL L x = some (.string str)) (hG : G[i]? = some (slc byteE e A c xs))
    (hl : lk T.tab t = some ⟨.slice e, z, b1, c1⟩) (hu : lk T.tab u = some ⟨.string, z2, b2, c2⟩) (he : lk T.tab e = some ⟨.int .u8, 1, 1, .int .u8 0⟩) (hb : xs.length + str.size ≤ 140737488355328)
    (hG' : ∀ A' c', setG G i (slc byteE e A' c' (xs ++ bs str)) = some (G' A' c')) (hd : Nat.blt d n = true)
    (h : ∀ A' c', WL P Q n ds ops rest ((d, .slice A' (xs ++ bs str).length c') :: L) W0 (G' A' c')) :
    WL P Q n ds ops (⟨some d, .call ⟨.builtin .append, #[s, x], #[t, u]⟩, ty, pos, af, none⟩ :: rest) L W0 G := fun a w hf hs' =>
  wpList_plain rfl fun K hK => by
    subst hk
    obtain ⟨d1, hd1, e1, ht⟩ := T.und (w := w) hl
    obtain rfl := tdOf_slice e1
    obtain ⟨d2, hd2, e2, ht2⟩ := T.und (w := w) hu
    obtain rfl := tdOf_string e2
    obtain ⟨i0, hi, hz0, hz1, hz2⟩ := T.info he
    obtain ⟨r, hr⟩ := getG_pick hG
    have s1 := hs'.perm (pickG_eq hr).1.symm
    have hown := slc_owns s1
    have hfl : flat byteE (xs ++ bs str) = flat byteE xs ++ Lib.strCells str := by
      rw [flat_append, flat_bytes (bs str)]; rfl
    have hlen : (xs ++ bs str).length = xs.length + str.size := by rw [List.length_append, bs_len]
    obtain ⟨v', w', h1, h2, h3, h4⟩ := Lib.run_append_own_string (P := P) w 0 t u ty e i0 ht ht2 hi hz0 hz1 hz2 (.slice A xs.length c) xs.length (flat byteE xs) hown str (by simp only [maxLen]; omega) hb (Nat.zero_le _)
    have h5 : v'.ownBlock = (Value.slice A xs.length c).ownBlock ∨ v'.ownBlock = some w.heap.size := by
      rcases hown.2 with ⟨hv, hn⟩ | ⟨g, cap, cur, hv, _, hg, hnc, _, hcs, _⟩
      · by_cases hm : str.size = 0
        · rw [h4.2 ⟨hv, hm⟩, hv]; exact .inl rfl
        · have hrun := run_append_nil_string (P := P) w t u ty e i0 (.int .u8 0) ht ht2 hi hz0 str (by omega) (by omega) (by rw [hz2]; show str.size * 1 ≤ _; omega)
          rw [hv] at h1
          have := h1.symm.trans hrun
          injection this with h6 _
          right; rw [h6]; rfl
      · rw [hv] at h1 ⊢
        by_cases hroom : xs.length + str.size ≤ cap
        · have hrun := Lib.run_append_room_string (P := P) w t u ty e i0 ht ht2 hi hz1 g xs.length cap cur hg str hroom (by simp [byteE] at hcs; omega)
          have := h1.symm.trans hrun
          injection this with h6 _
          left; rw [h6]; rfl
        · have hrun := Lib.run_append_grow_string (P := P) w t u ty e i0 (.int .u8 0) ht ht2 hi hz0 ⟨g, 0, none⟩ xs.length cap (flat byteE xs) (by rw [hz1, flat_len]; rfl) (by rw [hv] at hown; exact hown.cells (g := g) rfl) str (by omega) (by omega) (by rw [hz2]; exact growslice_fits (by omega) (by show (xs.length + str.size) * 1 ≤ 140737488355328; omega))
          have := h1.symm.trans hrun
          injection this with h6 _
          right; rw [h6]; rfl
    obtain ⟨A', c', rfl, s2⟩ := s1.slcTurn (ys := xs ++ bs str) (by rw [hfl, hlen]; exact h2) h3 h5
    have s3 := s2.perm (setG_eq hr (hG' A' c'))
    have hrun : (execOp a.eval ⟨some d, .call ⟨.builtin .append, #[s, x], #[t, u]⟩, ty, pos, af, none⟩).run P w = .ok (.value (.slice A' (xs ++ bs str).length c')) w' := by
      simp only [execOp, resolve, invoke, builtin, List.map_toArray, List.map_cons, List.map_nil, hf.ev hs, hf.ev hx, Sem.run_bind, Sem.run_pure, Result.andThen_ok, h1]
    unfold Oper.wp
    rw [hrun, Oper.upon_value]
    exact hK _ _ (h A' c' _ _ (hf.put (d := some d) hd) s3)
theorem op1_neqSame {tp te : Nat} {x y : Operand} {ad : Addr} {z b1 c1 : _} {e2 : TE} (hx : evL L x = some (.pointer (some ad))) (hy : evL L y = some (.pointer (some ad))) (hl : lk T.tab tp = some ⟨.ptr te, z, b1, c1⟩) (he : lk T.tab te = some e2) :
    Op1 P n ds L W0 G (.binOp .neq tp x y tp) ty (.bool false) := by
  intro a w hf hs dd pos af g
  obtain ⟨d1, hd1, e1, ht⟩ := T.und (w := w) hl
  obtain rfl := tdOf_ptr e1
  obtain ⟨i0, hi, _⟩ := T.info he
  have := Lib.run_neq_ptr_same (P := P) w ad ht hi
  simp [execOp, hf.ev hx, hf.ev hy, this, eqGuard]
theorem row_shape {w : World} {i b t : Nat} {cs : List Value} (hG : G[i]? = some (B.row b t cs)) (hs : Sat W0 G w) : w.shape? b = some (t, cs.length) := by
  obtain ⟨hp, hb, hle⟩ := (hs.pick hG).head
  have := hle b _ hb
  simp [World.shape?, this]
theorem op1_toU (i : Nat) {src dst te b t : Nat} {x : Operand} {cs : List Value} {z b1 c1 : _} {e2 : TE} (hG : G[i]? = some (B.row b t cs)) (h0 : cs ≠ []) (hx : evL L x = some (.pointer (some ⟨b, 0, none⟩))) (hl : lk T.tab src = some ⟨.ptr te, z, b1, c1⟩) (he : lk T.tab te = some e2) (hz : Nat.beq e2.size 0 = false)
    (hd : P.underlying dst = some .unsafePointer) : Op1 P n ds L W0 G (.convert src dst x) ty (.pointer (some ⟨b, 0, none⟩)) := by
  intro a w hf hs dd pos af g
  obtain ⟨d1, hd1, e1, ht⟩ := T.und (w := w) hl
  obtain rfl := tdOf_ptr e1
  obtain ⟨i0, hi, _, hz1, _⟩ := T.info he
  have := Lib.run_to_unsafe (P := P) w ⟨b, 0, none⟩ ht hd hi (by rw [hz1]; exact Nat.ne_of_beq_eq_false hz) (row_shape hG hs) (List.length_pos_iff.2 h0)
  simp only [execOp, hf.ev hx, Sem.run_bind, this, Result.andThen_ok, Sem.run_pure]
theorem op1_fromU (i : Nat) {src dst te b t : Nat} {x : Operand} {cs : List Value} {z b1 c1 : _} {e2 : TE} (hG : G[i]? = some (B.row b t cs)) (hx : evL L x = some (.pointer (some ⟨b, 0, none⟩))) (hl : lk T.tab dst = some ⟨.ptr te, z, b1, c1⟩) (he : lk T.tab te = some e2)
    (hsrc : P.underlying src = some .unsafePointer) (hlies : liesAt P P.depth t (cs.length / P.cellsOf t) 0 te 1 = true) : Op1 P n ds L W0 G (.convert src dst x) ty (.pointer (some ⟨b, 0, none⟩)) := by
  intro a w hf hs dd pos af g
  obtain ⟨d1, hd1, e1, ht⟩ := T.und (w := w) hl
  obtain rfl := tdOf_ptr e1
  obtain ⟨i0, hi, _, hz1, _⟩ := T.info he
  have := Lib.run_from_unsafe (P := P) w ⟨b, 0, none⟩ hsrc ht hi (row_shape hG hs) hlies
  simp only [execOp, hf.ev hx, Sem.run_bind, this, Result.andThen_ok, Sem.run_pure]
theorem WL.extern {d : Nat} {f : Operand} {args : Array Operand} {tys : Array TypeId} {K : Nat} {vs : List Value} {v : Value} (hK : ∀ w, (callFunc K vs.toArray).run P w = .ok (.value v) w) (hx : evL L f = some (.func (.func K) #[] #[])) (ha : evLs L args.toList = some vs)
    (hd : Nat.blt d n = true) (h : WL P Q n ds ops rest ((d, v) :: L) W0 G) : WL P Q n ds ops (⟨some d, .call ⟨.value f, args, tys⟩, ty, pos, af, none⟩ :: rest) L W0 G := fun a w hf hs =>
  wpList_plain rfl fun K' hK' => by
    unfold Oper.wp
    have e1 := hf.evs ha
    have e2 : args.map a.eval = vs.toArray := by rw [← e1, ← List.map_toArray, Array.toArray_toList]
    have hrun : (execOp a.eval ⟨some d, .call ⟨.value f, args, tys⟩, ty, pos, af, none⟩).run P w = .ok (.value v) w := by
      simp only [execOp, resolve, Sem.run_bind, e2, hf.ev hx, Deferred.ofValue, Sem.run_pure, Result.andThen_ok, invoke]
      simpa using hK w
    rw [hrun, Oper.upon_value]
    exact hK' _ _ (h _ _ (hf.put (d := some d) hd) hs)
theorem op1_sliceData {x : Operand} {t : Nat} {ad : Addr} {k c : Nat} (hx : evL L x = some (.slice (some ad) k c)) (hc : c ≠ 0) : Op1 P n ds L W0 G (.call ⟨.builtin .unsafeSliceData, #[x], #[t]⟩) ty (.pointer (some ad)) := by
  intro a w hf hs dd pos af g
  have := Lib.run_unsafeSliceData_row (P := P) w #[t] ty ad k c hc
  simp only [execOp, resolve, invoke, builtin, List.map_toArray, List.map_cons, List.map_nil, hf.ev hx, Sem.run_bind, Sem.run_pure, Result.andThen_ok, this]
theorem WL.unsafeString (i : Nat) {d pt it e c k : Nat} {A : Option Addr} {xs : List UInt8} {x y : Operand} {z b1 c1 : _} {G' : List SL} (hG : pickG G i = some (slc byteE e A c xs, G')) (hA : evL L x = some (.pointer A)) (hn : evL L y = some (.int .i64 (k : Int)))
    (hk : k = xs.length) (h0 : xs ≠ []) (hp : lk T.tab pt = some ⟨.ptr e, z, b1, c1⟩) (hc : P.cellsOf e = 1) (hd : Nat.blt d n = true) (h : WL P Q n ds ops rest ((d, .string (mk xs)) :: L) W0 G') :
    WL P Q n ds ops (⟨some d, .call ⟨.builtin .unsafeString, #[x, y], #[pt, it]⟩, ty, pos, af, none⟩ :: rest) L W0 G := fun a w hf hs' =>
  wpList_plain rfl fun K hK => by
    subst hk
    obtain ⟨d1, hd1, e1, ht⟩ := T.und (w := w) hp
    obtain rfl := tdOf_ptr e1
    have s1 := hs'.front hG
    have hR : Rd W0 (slc byteE e A c xs :: G') byteE A xs := Rd.slc (i := 0) rfl
    have hRw := hR w s1
    obtain ⟨hp', hP, hle⟩ := s1.head
    rcases hP with ⟨_, _, h1⟩ | ⟨g, cur, rfl, hb, h1, h2, h3, h4⟩
    · exact absurd h1 h0
    have hcell : ∀ j v, xs[j]? = some v → w.cell? ((⟨g, 0, none⟩ : Addr).add j) = some (.int .u8 v.toNat) := fun j v hj => by
      rcases hRw with h5 | ⟨b, o, h6, h7⟩
      · have := congrArg List.length h5
        rw [flat_len] at this
        have hl : 0 < xs.length := List.length_pos_iff.2 h0
        simp [byteE] at this
        exact absurd this h0
      · simp only [Option.some.injEq, Addr.mk.injEq] at h6
        obtain ⟨rfl, rfl, _⟩ := h6
        rw [add_off]
        refine h7 j _ ?_
        rw [flat_bytes]; simp [hj]
    have hg := hle g _ hb
    have hrun0 := Lib.run_unsafeString_row (P := P) w pt it ty e ht hc g cur.size (by simp [World.shape?, hg]) xs h0 (by rw [h3]; simp [byteE]; omega) (by have := h2; simp only [maxLen] at this; omega) hcell
    have hrun : (execOp a.eval ⟨some d, .call ⟨.builtin .unsafeString, #[x, y], #[pt, it]⟩, ty, pos, af, none⟩).run P w = .ok (.value (.string (mk xs))) (w.freeze ⟨g, 0, none⟩ xs.length) := by
      simp only [execOp, resolve, invoke, builtin, List.map_toArray, List.map_cons, List.map_nil, hf.ev hA, hf.ev hn, Sem.run_bind, Sem.run_pure, Result.andThen_ok, hrun0]
    have hl : xs.length ≠ 0 := by simpa using h0
    have hfr : (w.freeze ⟨g, 0, none⟩ xs.length).heap.size = w.heap.size ∧ ∀ k, k ≠ g → (w.freeze ⟨g, 0, none⟩ xs.length).heap[k]? = w.heap[k]? := by
      unfold World.freeze
      rw [if_neg hl]
      exact ⟨by simp, fun k hk => by simp only [Array.getElem?_modify]; rw [if_neg (fun e => hk e.symm)]⟩
    have s2 : Sat W0 ((fun _ => True) :: G') (w.freeze ⟨g, 0, none⟩ xs.length) := by
      refine s1.turn (fun hp2 hP2 hle2 => ⟨⟨fun _ => none, trivial, fun k o h => (by cases h), fun k h => absurd rfl h⟩, fun k hk hn => hfr.2 k fun e => ?_⟩) ?_
      · subst e
        rcases hP2 with ⟨h6, _⟩ | ⟨g', cur', h6, hb', _⟩
        · cases h6
        · simp only [Option.some.injEq, Addr.mk.injEq] at h6
          obtain ⟨rfl, _⟩ := h6
          have : hp2 k = some (.cells cur' e (0, 0)) := hb'
          rw [this] at hn; cases hn
      · unfold World.freeze
        rw [if_neg hl]
        exact ⟨rfl, rfl, rfl⟩
    unfold Oper.wp
    rw [hrun, Oper.upon_value]
    exact hK _ _ (h _ _ (hf.put (d := some d) hd) s2.drop)
end
theorem Fn.world {P : Program} {K : Nat} {vs : List Value} {W0 : World} {G : List SL} {R : Ending → List SL → Prop} (h : (∃ w, Sat W0 G w) → Fn P K vs W0 G R) : Fn P K vs W0 G R := fun w hs => h ⟨w, hs⟩ w hs
end Go.Proofs.YtfolmcpfdcgliaaGreat.B
