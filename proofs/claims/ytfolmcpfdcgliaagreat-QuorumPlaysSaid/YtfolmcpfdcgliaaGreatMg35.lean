import Derived.Test.YtfolmcpfdcgliaaGreatMg34
import Derived.Test.YtfolmcpfdcgliaaGreatMg26
import Derived.Test.YtfolmcpfdcgliaaGreatMg24
import Derived.Test.YtfolmcpfdcgliaaGreatMg8
import Derived.Test.YtfolmcpfdcgliaaGreatMg9
import Derived.Test.YtfolmcpfdcgliaaGreatMg33
set_option linter.unusedVariables false
set_option linter.unusedSimpArgs false
set_option linter.unusedSectionVars false
set_option maxRecDepth 8000
namespace Go.Proofs.YtfolmcpfdcgliaaGreat.B
open Go Go.Proofs
section
variable {P : Program} (T : Tab P) {Q : Exit → Act → World → Prop} {n : Nat} {ds : List Deferred} {L : TL} {W0 : World} {G : List SL} {ops : Array Oper} {rest : List Oper} {ty : TypeId} {pos : String} {af : Array Edge} {α : Type} {E : EncK α}
theorem slc_put {e g c lo : Nat} {xs ys : List α} {r : List SL} {w : World} {news : List Value} (s1 : Sat W0 (slc E e (some ⟨g, 0, none⟩) c xs :: r) w) (hlo : lo + news.length ≤ c * E.sz) (h1 : ∀ v ∈ news, v.oneCell' = true) (hyc : ys.length ≤ c)
    (hys : ∀ cur : List Value, cur.length = c * E.sz → cur.take (xs.length * E.sz) = flat E xs → (cur.take lo ++ news ++ cur.drop (lo + news.length)).take (ys.length * E.sz) = flat E ys) :
    ∃ w', (storeCells ⟨g, lo, none⟩ news).run P w = .ok () w' ∧ Sat W0 (slc E e (some ⟨g, 0, none⟩) c ys :: r) w' := by
  obtain ⟨hp, h, hle⟩ := s1.head
  rcases h with ⟨h, _⟩ | ⟨g', cur, hg, hb, h2, h3, h4, h5⟩
  · cases h
  injection hg with hg
  injection hg with hg _ _
  subst hg
  have hb' := hle g _ hb
  have hst := run_storeCells_at P g lo e news 0 cur w hb' (by omega) h1
  simp only [Nat.add_zero] at hst
  have hcl : cur.toList.length = c * E.sz := by rw [← h4]; simp
  have hnew : (cur.toList.take lo ++ news ++ cur.toList.drop (lo + news.length)).length = c * E.sz := by
    simp only [List.length_append, List.length_take, List.length_drop, hcl]
    omega
  have hfs := hys cur.toList hcl h5
  refine ⟨_, hst, ?_⟩
  obtain ⟨NEW, hNEW⟩ : ∃ NEW, NEW = cur.toList.take lo ++ news ++ cur.toList.drop (lo + news.length) := ⟨_, rfl⟩
  rw [← hNEW] at hnew hfs ⊢
  refine s1.turn (fun hp2 hP2 hle2' => ⟨⟨fun q => if q = g then some (.cells NEW.toArray e (0, 0)) else none, .inr ⟨g, NEW.toArray, rfl, by simp [B.blk], hyc, h3, by simpa using hnew, by simpa using hfs⟩, fun q o2 hq => ?_, fun q hq => ?_⟩, fun q hq hn => ?_⟩) ⟨rfl, rfl, rfl⟩
  · simp only at hq
    split at hq
    · rename_i e1; subst e1; injection hq with hq; subst hq
      simp only [World.setRow, Array.getElem?_modify, hb']
      simp
    · cases hq
  · simp only at hq
    split at hq
    · rename_i e1; subst e1
      left
      rcases hP2 with ⟨h, _⟩ | ⟨g', cur', hg, hb2, _⟩
      · cases h
      · injection hg with hg
        injection hg with hg _ _
        subst hg
        have : hp2 _ = some (.cells cur' e (0, 0)) := hb2
        rw [this]; simp
    · exact absurd rfl hq
  · simp only [World.setRow, Array.getElem?_modify]
    rw [if_neg (fun e1 => ?_)]
    subst e1
    rcases hP2 with ⟨h, _⟩ | ⟨g', cur', hg, hb2, _⟩
    · cases h
    · injection hg with hg
      injection hg with hg _ _
      subst hg
      have : hp2 g = some (.cells cur' e (0, 0)) := hb2
      rw [this] at hn
      cases hn
theorem flat_take (xs : List α) (k : Nat) : flat E (xs.take k) = (flat E xs).take (k * E.sz) := by
  induction k generalizing xs with
  | zero => simp [flat]
  | succ k ih =>
    cases xs with
    | nil => simp [flat]
    | cons y ys =>
      have ih := ih ys
      simp only [flat, List.take_succ_cons, List.flatMap_cons] at ih ⊢
      rw [ih, List.take_append, Nat.add_mul, E.len]
      have : (E.enc y).take (k * E.sz + 1 * E.sz) = E.enc y := List.take_of_length_le (by rw [E.len]; omega)
      rw [this]
      congr 2; omega
include T in
theorem WL.appendT (i : Nat) {d k m t e g c c2 : Nat} {Bd : Option Addr} {xs ys : List α} {s x : Operand} {te : TE} {z b1 c1 : _} {G' : List SL}
    (hs : evL L s = some (.slice (some ⟨g, 0, none⟩) k c)) (hk : k ≤ xs.length) (hx : evL L x = some (.slice Bd m c2)) (hm : m = ys.length) (hG : G[i]? = some (slc E e (some ⟨g, 0, none⟩) c xs)) (hR : Rd W0 G E Bd ys)
    (hl : lk T.tab t = some ⟨.slice e, z, b1, c1⟩) (he : lk T.tab e = some te) (hsz : te.size = E.sz) (hroom : k + ys.length ≤ c)
    (hG' : setG G i (slc E e (some ⟨g, 0, none⟩) c (xs.take k ++ ys)) = some G') (hd : Nat.blt d n = true)
    (h : WL P Q n ds ops rest ((d, .slice (some ⟨g, 0, none⟩) (k + ys.length) c) :: L) W0 G') :
    WL P Q n ds ops (⟨some d, .call ⟨.builtin .append, #[s, x], #[t, t]⟩, ty, pos, af, none⟩ :: rest) L W0 G := by
  subst hm
  refine WL.step (v := .slice (some ⟨g, 0, none⟩) (k + ys.length) c) (d := some d) G' (fun a w hf hs' => ?_) hd h
  obtain ⟨d1, hd1, e1, hu⟩ := T.und (w := w) hl
  obtain rfl := tdOf_slice e1
  have hsizes : (sizeOf e).run P w = .ok E.sz w := by rw [T.sizeOf he, hsz]
  obtain ⟨r, hr⟩ := getG_pick hG
  have s1 := hs'.perm (pickG_eq hr).1.symm
  have hkl : k * E.sz + (flat E ys).length ≤ c * E.sz := by rw [flat_len, ← Nat.add_mul]; exact Nat.mul_le_mul_right _ hroom
  obtain ⟨w', hst, hs2⟩ := slc_put (P := P) (ys := xs.take k ++ ys) (lo := k * E.sz) (news := flat E ys) s1 hkl (flat_one E ys) (by rw [List.length_append, List.length_take]; omega) (fun cur hc1 hc2 => by
    rw [flat_append, flat_take, ← hc2, List.take_take, Nat.min_eq_left (Nat.mul_le_mul_right _ hk)]
    rw [List.length_append, List.length_take, Nat.min_eq_left hk, Nat.add_mul, ← flat_len E ys]
    rw [List.append_assoc, List.take_append]
    have hle : (cur.take (k * E.sz)).length = k * E.sz := by rw [List.length_take, hc1]; exact Nat.min_eq_left (by omega)
    rw [hle, List.take_of_length_le (by rw [hle]; omega), Nat.add_sub_cancel_left, List.take_left])
  refine ⟨w', .inl ?_, hs2.perm (setG_eq hr hG')⟩
  have hfc : (Builtin.firstCells E.sz ys.length (.slice Bd ys.length c2)).run P w = .ok (flat E ys).toArray w := by
    cases hBd : Bd with
    | none =>
      have h0 : flat E ys = [] := by
        rcases hR w hs' with h | ⟨b, o, h, _⟩
        · exact h
        · rw [hBd] at h; cases h
      rw [h0]; rfl
    | some ad =>
      refine run_firstCells_some (P := P) w E.sz ys.length ad ys.length c2 (flat E ys) (flat_len E ys) (fun j u hj => ?_)
      rcases hR w hs' with h | ⟨b, o, h, hc⟩
      · rw [h] at hj; simp at hj
      · rw [hBd] at h; obtain rfl := Option.some.inj h
        rw [add_off]; exact hc j u hj
  have hadd : (⟨g, 0, none⟩ : Addr).add (k * E.sz) = ⟨g, k * E.sz, none⟩ := by rw [add_off, Nat.zero_add]
  simp [execOp, resolve, invoke, builtin, hf.ev hs, hf.ev hx, Builtin.append_, hd1, hsizes, Builtin.lenOf, hroom, hfc, hadd, hst]
include T in
theorem WL.clearT (i : Nat) {e t g k c c' : Nat} {x : Operand} {A' : Option Addr} {xs : List α} {z b1 c1 : _} {te : TE} {zs : List Value} (hG : G[i]? = some (slc E e (some ⟨g, 0, none⟩) c xs)) (hx : evL L x = some (.slice A' k c'))
    (hk : xs.length + k ≤ c) (hA : k = 0 ∨ A' = some ⟨g, xs.length * E.sz, none⟩) (hl : lk T.tab t = some ⟨.slice e, z, b1, c1⟩) (he : lk T.tab e = some te) (hzz : cellsO te.zero = some zs) (hzl : zs.length = E.sz) (hz1 : ∀ v ∈ zs, v.oneCell' = true)
    (h : WL P Q n ds ops rest L W0 G) :
    WL P Q n ds ops (⟨none, .call ⟨.builtin .clear, #[x], #[t]⟩, ty, pos, af, none⟩ :: rest) L W0 G := by
  refine WL.step (v := .tuple #[]) (d := none) G (fun a w hf hs => ?_) rfl h
  obtain ⟨d1, hd1, e1, h2⟩ := T.und (w := w) hl
  obtain rfl := tdOf_slice e1
  rcases Nat.eq_zero_or_pos k with rfl | hk0
  · refine ⟨w, .inl ?_, hs⟩
    cases A' <;> simp [execOp, resolve, invoke, builtin, hf.ev hx, Builtin.clear_, hd1]
  · have hA := hA.resolve_left (by omega)
    subst hA
    obtain ⟨r, hr⟩ := getG_pick hG
    have s1 := hs.perm (pickG_eq hr).1.symm
    have hzc : te.zero.cells = zs.toArray := cellsO_eq hzz
    obtain ⟨news, hnews⟩ : ∃ news, news = (Builtin.zeroCells te.zero.cells k).toList := ⟨_, rfl⟩
    have hnl : news.length = k * E.sz := by rw [hnews, Array.length_toList, size_zeroCells, hzc]; simp [hzl]
    have hn1 : ∀ v ∈ news, v.oneCell' = true := fun v hv => by
      rw [hnews] at hv
      simp only [Builtin.zeroCells, Array.toList_map, List.mem_map] at hv
      obtain ⟨q, _, rfl⟩ := hv
      have hp := E.pos
      have hq : q % te.zero.cells.size < te.zero.cells.size := Nat.mod_lt _ (by rw [hzc]; simp [hzl]; exact hp)
      rw [getElem!_pos te.zero.cells _ hq]
      refine hz1 _ ?_
      simp [hzc]
    have hkl : xs.length * E.sz + news.length ≤ c * E.sz := by rw [hnl, ← Nat.add_mul]; exact Nat.mul_le_mul_right _ hk
    obtain ⟨w', hst, hs2⟩ := slc_put (P := P) (ys := xs) (lo := xs.length * E.sz) (news := news) s1 hkl hn1 (by omega) (fun cur hc1 hc2 => by
      have hle : (cur.take (xs.length * E.sz)).length = xs.length * E.sz := by rw [List.length_take, hc1]; exact Nat.min_eq_left (by omega)
      rw [List.append_assoc, List.take_append, hle, Nat.sub_self, List.take_zero, List.append_nil, List.take_take, Nat.min_self, hc2])
    refine ⟨w', .inl ?_, hs2.perm (pickG_eq hr).1⟩
    have hzv := T.zeroValue (w := w) he
    obtain ⟨m, rfl⟩ : ∃ m, k = m + 1 := ⟨k - 1, by omega⟩
    rw [hnews] at hst
    simp [execOp, resolve, invoke, builtin, hf.ev hx, Builtin.clear_, hd1, hzv, hst]
include T in
theorem op1_slice3 {t e k c : Nat} {x lo hi mx : Operand} {A : Option Addr} {l r m : Nat} {k1 k2 k3 : IntKind} {z1 b1 c1 : _} {te : TE} (hl : lk T.tab t = some ⟨.slice e, z1, b1, c1⟩) (he : lk T.tab e = some te)
    (hx : evL L x = some (.slice A k c)) (h0 : evL L lo = some (.int k1 (l : Int))) (h1 : evL L hi = some (.int k2 (r : Int))) (h2 : evL L mx = some (.int k3 (m : Int))) (hb : l ≤ r ∧ r ≤ m ∧ m ≤ c) :
    Op1 P n ds L W0 G (.slice t x (some lo) (some hi) (some mx)) ty (.slice (if m = l then A else A.map (·.add (l * te.size))) (r - l) (m - l)) := by
  intro a w hf hs' dd pos af g
  obtain ⟨d1, hd1, e1, h3⟩ := T.und (w := w) hl
  obtain rfl := tdOf_slice e1
  have hz := T.sizeOf (w := w) he
  have p0 : (0 : Int) ≤ (l : Int) := by omega
  have p1 : (0 : Int) ≤ (r : Int) := by omega
  have p2 : (0 : Int) ≤ (m : Int) := by omega
  have q0 : (l : Int) ≤ (r : Int) := by omega
  have q1 : (r : Int) ≤ (m : Int) := by omega
  have q2 : (m : Int) ≤ (c : Int) := by omega
  simp [execOp, hf.ev hx, hf.ev h0, hf.ev h1, hf.ev h2, Instr.sliceAt, Sem.run_bind, hd1, Result.andThen_ok, Instr.slice, Instr.sliceBounds, Instr.sliceBound, asIntOf, Sem.run_pure, hz, hb.1, hb.2.1, hb.2.2]
include T in
theorem op1_sliceC {t e k c : Nat} {x lo hi : Operand} {A : Option Addr} {l r : Nat} {k1 k2 : IntKind} {z1 b1 c1 : _} {te : TE} (hl : lk T.tab t = some ⟨.slice e, z1, b1, c1⟩) (he : lk T.tab e = some te)
    (hx : evL L x = some (.slice A k c)) (h0 : evL L lo = some (.int k1 (l : Int))) (h1 : evL L hi = some (.int k2 (r : Int))) (hb : l ≤ r ∧ r ≤ c) :
    Op1 P n ds L W0 G (.slice t x (some lo) (some hi) none) ty (.slice (if c = l then A else A.map (·.add (l * te.size))) (r - l) (c - l)) := by
  intro a w hf hs' dd pos af g
  obtain ⟨d1, hd1, e1, h3⟩ := T.und (w := w) hl
  obtain rfl := tdOf_slice e1
  have hz := T.sizeOf (w := w) he
  have p0 : (0 : Int) ≤ (l : Int) := by omega
  have p1 : (0 : Int) ≤ (r : Int) := by omega
  have q0 : (l : Int) ≤ (r : Int) := by omega
  have q1 : (r : Int) ≤ (c : Int) := by omega
  simp [execOp, hf.ev hx, hf.ev h0, hf.ev h1, Instr.sliceAt, Sem.run_bind, hd1, Result.andThen_ok, Instr.slice, Instr.sliceBounds, Instr.sliceBound, asIntOf, Sem.run_pure, hz, hb.1, hb.2]
end
attribute [local irreducible] WL CS QS WQ WH WS Fn Op1 row Sat
attribute [local irreducible] slc
set_option maxHeartbeats 2000000 in
theorem msg_Delete (A : Option Addr) (c : Nat) (m : List Msg) (i : Nat) (hi : i < m.length) (hm : m.length ≤ 50) (W0 : World) (F : List SL) :
    Fn Tryz.prog 94 [.slice A m.length c, .int .i64 (i : Int), .int .i64 ((i : Int) + 1)] W0 (slc msgE 179 A c m :: F)
      (Ret fun v G' => v = .slice A (m.eraseIdx i).length c ∧ G' = slc msgE 179 A c (m.eraseIdx i) :: F) := by
  refine Fn.fact (slc_at (i := 0) rfl) fun ⟨hc1, hc2, hAt⟩ => ?_
  obtain ⟨g, rfl⟩ : ∃ g, A = some ⟨g, 0, none⟩ := hAt.elim (fun h => by rw [h.2.2] at hi; simp at hi) (fun h => h)
  have hel : (m.eraseIdx i).length = m.length - 1 := by rw [List.length_eraseIdx, if_pos hi]
  refine Fn.enter Tryz.func94 rfl Tryz.ntmps94 rfl ?_
  repeat' (first|refine bA ?_|refine bkq fun q=>?_|(refine bk2 ?_ ?_<;>(first|exact bkn|(refine bkk ?_;intro h))))
  refine WL.s (op1_slice3 TT (m := m.length) (l := i) (r := i + 1) rfl rfl rfl rfl rfl rfl (by omega)) rfl ?_
  repeat' (first|refine bA ?_|refine bkq fun q=>?_|(refine bk2 ?_ ?_<;>(first|exact bkn|(refine bkk ?_;intro h))))
  refine CS.drawT 6 mixed (by kernel_rfl) rfl ?_
  repeat' (first|refine bk ?_|refine bkc ?_|refine bks ?_|refine bkd ?_|refine bkh ?_|refine bkq (fun q => ?_)|((first|refine bk2 ?_ ?_|refine bk2h ?_ ?_)<;>(first|exact bkn|(refine bkk ?_;intro h))))
  refine WH.s (op1_sliceS (E := msgE) (xs := m) (l := 0) (r := (i : Int)) TT (by rfl) (by rfl) rfl rfl rfl rfl rfl (by omega) hc1) rfl ?_
  rw [show (if c = (0 : Int).toNat then some ⟨g, 0, none⟩ else (some (⟨g, 0, none⟩ : Addr)).map (·.add ((0 : Int).toNat * msgE.sz))) = some ⟨g, 0, none⟩ from by split <;> simp [Addr.add]]
  simp only [Int.toNat_zero, Nat.sub_zero, Int.toNat_natCast]
  repeat' (first|refine bk ?_|refine bkc ?_|refine bks ?_|refine bkd ?_|refine bkh ?_|refine bkq (fun q => ?_)|((first|refine bk2 ?_ ?_|refine bk2h ?_ ?_)<;>(first|exact bkn|(refine bkk ?_;intro h))))
  refine WH.s (op1_sliceS (E := msgE) (xs := m) (l := (i : Int) + 1) (r := (m.length : Int)) TT (by rfl) (by rfl) rfl rfl rfl rfl rfl (by omega) hc1) rfl ?_
  repeat' (first|refine bk ?_|refine bkc ?_|refine bks ?_|refine bkd ?_|refine bkh ?_|refine bkq (fun q => ?_)|((first|refine bk2 ?_ ?_|refine bk2h ?_ ?_)<;>(first|exact bkn|(refine bkk ?_;intro h))))
  refine WL.appendT TT (E := msgE) 0 (g := g) (xs := m) (ys := m.drop (i + 1)) rfl (by omega) rfl (by rw [List.length_drop]; omega) rfl ?_ rfl rfl rfl (by rw [List.length_drop]; omega) rfl rfl ?_
  · have := (Rd.slc (i := 0) rfl : Rd W0 (slc msgE 179 (some ⟨g, 0, none⟩) c m :: F) msgE (some ⟨g, 0, none⟩) m).part (c := c) (l := i + 1) (r := m.length) (Nat.le_refl _) hc1
    rwa [List.take_length] at this
  have he1 : List.take i m ++ List.drop (i + 1) m = m.eraseIdx i := (List.eraseIdx_eq_take_drop_succ ..).symm
  have he2 : i + (List.drop (i + 1) m).length = (m.eraseIdx i).length := by rw [List.length_drop]; omega
  rw [he1, he2]
  repeat' (first|refine bA ?_|refine bkq fun q=>?_|(refine bk2 ?_ ?_<;>(first|exact bkn|(refine bkk ?_;intro h))))
  refine WL.s (op1_sliceC TT (l := (m.eraseIdx i).length) (r := m.length) rfl rfl rfl rfl rfl (by omega)) rfl ?_
  rw [if_neg (by omega)]
  refine WL.clearT TT (E := msgE) 0 (g := g) (xs := m.eraseIdx i) rfl rfl (by omega) (.inr (by simp only [Option.map_some, add_off, Nat.zero_add]; rfl)) rfl rfl rfl rfl (by decide) ?_
  repeat' (first|refine bA ?_|refine bkq fun q=>?_|(refine bk2 ?_ ?_<;>(first|exact bkn|(refine bkk ?_;intro h))))
  exact QS.retV Tryz.results94 rfl ⟨rfl, rfl⟩
set_option maxHeartbeats 2000000 in
theorem row_take (b : Nat) (m : List Msg) (i : Nat) (x : Msg) (hx : m[i]? = some x) (hm : m.length ≤ 50) (W0 : World) (F : List SL) :
    Fn Tryz.prog 51 [.pointer (some ⟨b, 0, none⟩), .int .i64 (i : Int)] W0 (mailA b m :: F) (Ret fun v G' => v = .agg #[.int .i64 x.1, .string x.2] ∧ G' = mailA b (m.eraseIdx i) :: F) := by
  have hi := (List.getElem?_eq_some_iff.1 hx).1
  refine Fn.ex (fun w hs => mailA_open w hs) ?_
  rintro ⟨A, c⟩
  simp only
  refine Fn.enter Tryz.func51 rfl Tryz.ntmps51 rfl ?_
  repeat' (first|refine bA ?_|refine bkq fun q=>?_|(refine bk2 ?_ ?_<;>(first|exact bkn|(refine bkk ?_;intro h))))
  refine WL.idx TT (E := msgE) (Rd.slc (i := 2) rfl) rfl rfl rfl (by omega) (by rw [Int.toNat_natCast]; exact hx) rfl rfl rfl rfl (fun bb o hA => ?_)
  repeat' (first|refine bA ?_|refine bkq fun q=>?_|(refine bk2 ?_ ?_<;>(first|exact bkn|(refine bkk ?_;intro h))))
  refine WL.s (op1_atF TT 0 hA rfl rfl rfl rfl rfl) rfl ?_
  repeat' (first|refine bA ?_|refine bkq fun q=>?_|(refine bk2 ?_ ?_<;>(first|exact bkn|(refine bkk ?_;intro h))))
  refine WL.call c94 rfl rfl rfl rfl ((msg_Delete A c m i hi hm W0 _).pre (fun w hs => hs.front (i := 3) rfl)) ?_
  rintro _ _ ⟨rfl, rfl⟩
  repeat' (first|refine bA ?_|refine bkq fun q=>?_|(refine bk2 ?_ ?_<;>(first|exact bkn|(refine bkk ?_;intro h))))
  exact QS.turnR (G2 := mailA b (m.eraseIdx i) :: F) (fun w hs => mailA_shut (A := A) (c := c) w (((hs.kick (i := 1) rfl).kick (i := 1) rfl).front (i := 1) rfl)) (QS.retC TT 2 Tryz.results51 rfl rfl rfl rfl ⟨rfl, rfl, rfl⟩)
theorem mail_LenA (b : Nat) (m : List Msg) (W0 : World) (F : List SL) :
    Fn Tryz.prog 50 [.pointer (some ⟨b, 0, none⟩)] W0 (mailA b m :: F) (Ret fun v G' => v = .int .i64 m.length ∧ G' = mailA b m :: F) := by
  refine Fn.ex (fun w hs => mailA_open w hs) ?_
  rintro ⟨A, c⟩
  simp only
  exact Fn.post (mail_Len b A m.length c W0 _) (Ret.post fun v G' ⟨h1, h2⟩ => ⟨mailA b m :: F, fun w hw => by rw [h2] at hw; exact mailA_shut (A := A) (c := c) w hw, h1, rfl⟩)
theorem mail_Take (b : Nat) (m : List Msg) (i : Nat) (x : Msg) (hx : m[i]? = some x) (hm : m.length ≤ 50) (W0 : World) (F : List SL) :
    Fn Tryz.prog 22 [.pointer (some ⟨b, 0, none⟩), .int .i64 (i : Int)] W0 (mailA b m :: F)
      (Ret fun v G' => v = .tuple #[.agg #[.int .i64 x.1, .string x.2], .bool true] ∧ G' = mailA b (m.eraseIdx i) :: F) := by
  have hi := (List.getElem?_eq_some_iff.1 hx).1
  refine Fn.enter Tryz.func22 rfl Tryz.ntmps22 rfl ?_
  repeat' (first|refine bA ?_|refine bkq fun q=>?_|(refine bk2 ?_ ?_<;>(first|exact bkn|(refine bkk ?_;intro h))))
  refine WL.call c50 rfl rfl rfl rfl ((mail_LenA b m W0 _).pre (fun w hs => hs.front (i := 1) rfl)) ?_
  rintro _ _ ⟨rfl, rfl⟩
  repeat' (first|refine bA ?_|refine bkq fun q=>?_|(refine bk2 ?_ ?_<;>(first|exact bkn|(refine bkk ?_;intro h))))
  refine WL.call c51 rfl rfl rfl rfl (row_take b m i x hx hm W0 _) ?_
  rintro _ _ ⟨rfl, rfl⟩
  repeat' (first|refine bA ?_|refine bkq fun q=>?_|(refine bk2 ?_ ?_<;>(first|exact bkn|(refine bkk ?_;intro h))))
  exact QS.turnR (G2 := mailA b (m.eraseIdx i) :: F) (fun w hs => hs.kick (i := 1) rfl) (QS.retC TT 1 Tryz.results22 rfl rfl rfl rfl ⟨rfl, rfl, rfl⟩)
theorem mail_TakeN (b : Nat) (m : List Msg) (i : Nat) (hi : m.length ≤ i) (hib : (i : Int) ≤ 9223372036854775807) (W0 : World) (F : List SL) :
    Fn Tryz.prog 22 [.pointer (some ⟨b, 0, none⟩), .int .i64 (i : Int)] W0 (mailA b m :: F)
      (Ret fun v G' => v = .tuple #[.agg #[.int .i64 0, .string ⟨#[]⟩], .bool false] ∧ G' = mailA b m :: F) := by
  refine Fn.enter Tryz.func22 rfl Tryz.ntmps22 rfl ?_
  repeat' (first|refine bA ?_|refine bkq fun q=>?_|(refine bk2 ?_ ?_<;>(first|exact bkn|(refine bkk ?_;intro h))))
  refine WL.call c50 rfl rfl rfl rfl ((mail_LenA b m W0 _).pre (fun w hs => hs.front (i := 1) rfl)) ?_
  rintro _ _ ⟨rfl, rfl⟩
  repeat' (first|refine bA ?_|refine bkq fun q=>?_|(refine bk2 ?_ ?_<;>(first|exact bkn|(refine bkk ?_;intro h))))
  exact QS.turnR (G2 := mailA b m :: F) (fun w hs => hs.kick (i := 1) rfl) (QS.retC TT 1 Tryz.results22 rfl rfl rfl rfl ⟨rfl, rfl, rfl⟩)
end Go.Proofs.YtfolmcpfdcgliaaGreat.B

namespace Go.Proofs.YtfolmcpfdcgliaaGreat.B
open Go Go.Proofs
attribute [local irreducible] WL CS QS WQ WH WS Fn Op1 row Sat
attribute [local irreducible] slc diskA jA
set_option maxHeartbeats 4000000 in
theorem j_Handle (b bd : Nat) (J : Jn) (hJ : JnOk J) (D : Disk) (hD : DiskOk D) (s : ByteArray) (hs : s.size ≤ 9223372036854775807) (W0 : World) (F : List SL) :
    Fn Tryz.prog 23 [.pointer (some ⟨b, 0, none⟩), .string s] W0 (jA b bd J :: diskA bd D :: F)
      (Ret fun v G' => v = .string (mk (handJ J D (bs s)).1) ∧ G' = jA b bd (handJ J D (bs s)).2.1 :: diskA bd (handJ J D (bs s)).2.2 :: F) := by
  have i12 : I64 12 := by unfold I64; decide
  refine Fn.ex (fun w hs => jA_open w hs) ?_
  rintro ⟨A1, c1⟩
  refine Fn.enter Tryz.func23 rfl Tryz.ntmps23 rfl ?_
  simp only [jCells]
  cases hd : J.dead with
  | true =>
    have hh : handJ J D (bs s) = (saidB 12, J, D) := by rw [handJ, if_pos hd]
    repeat' (first|refine bA ?_|refine bkq fun q=>?_|(refine bk2 ?_ ?_<;>(first|exact bkn|(refine bkk ?_;intro h))))
    refine WL.call c52 rfl rfl rfl rfl (j_said 12 i12 W0 _) ?_
    rintro _ G2 ⟨rfl, hG2⟩
    rw [hG2]; clear hG2 G2
    repeat' (first|refine bA ?_|refine bkq fun q=>?_|(refine bk2 ?_ ?_<;>(first|exact bkn|(refine bkk ?_;intro h))))
    refine QS.turn (G' := jA b bd J :: diskA bd D :: F) (fun w hs => jA_shut (A := A1) (c := c1) w (by rw [jCells, hd]; exact hs)) (QS.retV Tryz.results23 rfl ⟨?_, ?_⟩) <;> rw [hh] <;> rfl
  | false =>
    repeat' (first|refine bA ?_|refine bkq fun q=>?_|(refine bk2 ?_ ?_<;>(first|exact bkn|(refine bkk ?_;intro h))))
    revert q; intro q0
    refine WL.turn (G' := row q0 122 [.string ⟨#[]⟩, .int .i64 0, .slice none 0 0] :: jA b bd J :: diskA bd D :: F) (fun w hs => (jA_shut (A := A1) (c := c1) w (by rw [jCells, hd]; exact (hs.front (i := 2) rfl).front (i := 2) rfl)).front (i := 1) rfl) ?_
    refine WL.call c53 rfl rfl rfl rfl (j_read (cap := [.pointer (some ⟨q0, 0, none⟩)]) c54 s hs W0 _ (fun l => hand1R q0 l (jA b bd J :: diskA bd D :: F))
      (fun v G' => (v = .bool true ∧ ∃ q A c, readQ (bs s) = some q ∧ G' = row q0 122 [.string q.kind, .int .i64 q.epoch, .slice A q.xs.length c] :: slc entE 49 A c q.xs :: jA b bd J :: diskA bd D :: F) ∨
        (v = .bool false ∧ readQ (bs s) = none ∧ ∃ cs, G' = row q0 122 cs :: jA b bd J :: diskA bd D :: F))
      (fun l A c hl => by
        obtain ⟨h1, h2⟩ := joinOk_iff.1 (splitP_some hl).2
        exact hand1 q0 l h1 h2 A c W0 _) (fun _ _ h => h)
      (fun l v G' hl h => .inl ⟨rfl, by obtain ⟨q, A, c, h1, h2⟩ := h; exact ⟨q, A, c, by rw [readQ, hl]; exact h1, h2⟩⟩)
      (fun l ch G' hl h => ⟨h.2.1, .inr ⟨rfl, by rw [readQ, hl]; exact h.1, h.2.2⟩⟩) (fun hn => .inr ⟨rfl, by rw [readQ, hn]; rfl, _, rfl⟩)) ?_
    rintro _ G2 (⟨rfl, q, A, c, hq, rfl⟩ | ⟨rfl, hq, cs, rfl⟩)
    rotate_left 1
    · have hh : handJ J D (bs s) = (saidB 2, J, D) := by rw [handJ, if_neg (by rw [hd]; decide), hq]
      repeat' (first|refine bA ?_|refine bkq fun q=>?_|(refine bk2 ?_ ?_<;>(first|exact bkn|(refine bkk ?_;intro h))))
      refine WL.call c52 rfl rfl rfl rfl (j_said 2 (by unfold I64; decide) W0 _) ?_
      rintro _ G2 ⟨rfl, hG2⟩
      rw [hG2]; clear hG2 G2
      repeat' (first|refine bA ?_|refine bkq fun q=>?_|(refine bk2 ?_ ?_<;>(first|exact bkn|(refine bkk ?_;intro h))))
      refine QS.turn (G' := jA b bd J :: diskA bd D :: F) (fun w hs => hs.drop) (QS.retV Tryz.results23 rfl ⟨?_, ?_⟩) <;> rw [hh] <;> rfl
    have hqo : RqOk q := by
      rw [readQ] at hq
      obtain ⟨l, _, h2⟩ := Option.bind_eq_some_iff.1 hq
      exact readL_ok h2
    have hh : handJ J D (bs s) = ansJ q (doJ J D q) := by rw [handJ, if_neg (by rw [hd]; decide), hq]
    repeat' (first|refine bA ?_|refine bkq fun q=>?_|(refine bk2 ?_ ?_<;>(first|exact bkn|(refine bkk ?_;intro h))))
    refine WL.call c59 rfl rfl rfl rfl ((j_do b bd J hJ D hD q hqo A c W0 (row q0 122 [.string q.kind, .int .i64 q.epoch, .slice A q.xs.length c] :: F)).pre (fun w hs => (((hs.front (i := 0) rfl).front (i := 3) rfl).front (i := 3) rfl).front (i := 3) rfl)) ?_
    rintro _ _ ⟨rfl, rfl⟩
    clear hq
    generalize doJ J D q = r at hh ⊢
    obtain ⟨er, J1, D1⟩ := r
    rw [ansJ] at hh
    simp only at hh ⊢
    by_cases h10 : er = 10 ∨ er = 11
    · rw [if_pos h10] at hh
      rcases h10 with rfl | rfl
      all_goals
        repeat' (first|refine bA ?_|refine bkq fun q=>?_|(refine bk2 ?_ ?_<;>(first|exact bkn|(refine bkk ?_;intro h))))
        refine WL.call c52 rfl rfl rfl rfl (j_said _ (by unfold I64; decide) W0 _) ?_
        rintro _ G2 ⟨rfl, hG2⟩
        rw [hG2]; clear hG2 G2
        repeat' (first|refine bA ?_|refine bkq fun q=>?_|(refine bk2 ?_ ?_<;>(first|exact bkn|(refine bkk ?_;intro h))))
        refine QS.turn (G' := jA b bd J1 :: diskA bd D1 :: F) (fun w hs => hs.kick (i := 2) rfl) (QS.retV Tryz.results23 rfl ⟨?_, ?_⟩) <;> rw [hh] <;> rfl
    rw [if_neg h10] at hh
    simp only [not_or] at h10
    obtain ⟨h10, h11⟩ := h10
    by_cases h0 : er = 0
    rotate_left 1
    · rw [if_pos h0] at hh
      refine WL.ex (fun w hs => jA_open w hs) ?_
      rintro ⟨A2, c2⟩
      simp only [jCells]
      repeat' (first|refine bA ?_|refine bkq fun q=>?_|(refine bk2 ?_ ?_<;>(first|exact bkn|(refine bkk ?_;intro h))))
      refine WL.call c52 rfl rfl rfl rfl (j_said 12 i12 W0 _) ?_
      rintro _ G2 ⟨rfl, hG2⟩
      rw [hG2]; clear hG2 G2
      repeat' (first|refine bA ?_|refine bkq fun q=>?_|(refine bk2 ?_ ?_<;>(first|exact bkn|(refine bkk ?_;intro h))))
      refine QS.turn (G' := jA b bd { J1 with dead := true } :: diskA bd D1 :: F) (fun w hs => jA_shut (A := A2) (c := c2) w (hs.kick (i := 3) rfl)) (QS.retV Tryz.results23 rfl ⟨?_, ?_⟩) <;> rw [hh] <;> rfl
    subst h0
    rw [if_neg (by decide)] at hh
    obtain ⟨kind, ep, xs⟩ := q
    obtain ⟨_, _, hkind⟩ := hqo
    simp only at hkind hh ⊢
    rcases hkind with ⟨rfl, _⟩ | ⟨rfl, _⟩ | ⟨rfl, _⟩
    · rw [if_pos rfl] at hh
      refine WL.ex (fun w hs => jA_open w hs) ?_
      rintro ⟨A2, c2⟩
      simp only [jCells]
      repeat' (first|refine bA ?_|refine bkq fun q=>?_|(refine bk2 ?_ ?_<;>(first|exact bkn|(refine bkk ?_;intro h))))
      refine WL.call c60 rfl rfl rfl rfl (j_told J1.e A2 _ c2 J1.xs rfl W0 _ (Rd.slc (i := 1) rfl)) ?_
      rintro _ G2 ⟨rfl, hG2⟩
      rw [hG2]; clear hG2 G2
      repeat' (first|refine bA ?_|refine bkq fun q=>?_|(refine bk2 ?_ ?_<;>(first|exact bkn|(refine bkk ?_;intro h))))
      refine QS.turn (G' := jA b bd J1 :: diskA bd D1 :: F) (fun w hs => jA_shut (A := A2) (c := c2) w (hs.kick (i := 3) rfl)) (QS.retV Tryz.results23 rfl ⟨?_, ?_⟩) <;> rw [hh] <;> rfl
    · rw [if_neg kAP] at hh
      repeat' (first|refine bA ?_|refine bkq fun q=>?_|(refine bk2 ?_ ?_<;>(first|exact bkn|(refine bkk ?_;intro h))))
      refine WL.call c52 rfl rfl rfl rfl (j_said 0 (by unfold I64; decide) W0 _) ?_
      rintro _ G2 ⟨rfl, hG2⟩
      rw [hG2]; clear hG2 G2
      repeat' (first|refine bA ?_|refine bkq fun q=>?_|(refine bk2 ?_ ?_<;>(first|exact bkn|(refine bkk ?_;intro h))))
      refine QS.turn (G' := jA b bd J1 :: diskA bd D1 :: F) (fun w hs => hs.kick (i := 2) rfl) (QS.retV Tryz.results23 rfl ⟨?_, ?_⟩) <;> rw [hh] <;> rfl
    · rw [if_neg kWP] at hh
      repeat' (first|refine bA ?_|refine bkq fun q=>?_|(refine bk2 ?_ ?_<;>(first|exact bkn|(refine bkk ?_;intro h))))
      refine WL.call c52 rfl rfl rfl rfl (j_said 0 (by unfold I64; decide) W0 _) ?_
      rintro _ G2 ⟨rfl, hG2⟩
      rw [hG2]; clear hG2 G2
      repeat' (first|refine bA ?_|refine bkq fun q=>?_|(refine bk2 ?_ ?_<;>(first|exact bkn|(refine bkk ?_;intro h))))
      refine QS.turn (G' := jA b bd J1 :: diskA bd D1 :: F) (fun w hs => hs.kick (i := 2) rfl) (QS.retV Tryz.results23 rfl ⟨?_, ?_⟩) <;> rw [hh] <;> rfl
end Go.Proofs.YtfolmcpfdcgliaaGreat.B

namespace Go.Proofs.YtfolmcpfdcgliaaGreat.B
open Go Go.Proofs
theorem inter_nil : ∀ l : List (List UInt8), Lib.join l [] = l.flatten
  | [] => rfl
  | [x] => by simp [Lib.join, List.intercalate]
  | x :: y :: r => by
    have ih := inter_nil (y :: r)
    simp only [Lib.join, List.intercalate, List.intersperse] at ih ⊢
    simp only [List.flatten_cons, List.nil_append] at ih ⊢
    rw [ih]
theorem strings_Join (A : Option Addr) (k c : Nat) (xs : List ByteArray) (hk : k = xs.length) (hkc : k ≤ c) (hl : (xs.flatMap fun s => bs s).length ≤ 140737488355328) (hN : xs.length ≤ 140737488355328) (W0 : World) (G : List SL) (hR : Rd W0 G strE A xs) :
    Fn Tryz.prog 161 [.slice A k c, .string ⟨#[]⟩] W0 G (Ret fun v G' => v = .string (mk (xs.flatMap fun s => bs s)) ∧ G' = G) := fun w hs => by
  subst hk
  have hj : Lib.join (xs.map (·.data.toList)) (⟨#[]⟩ : ByteArray).data.toList = xs.flatMap fun s => bs s := by
    rw [show (⟨#[]⟩ : ByteArray).data.toList = [] from rfl, inter_nil, List.flatMap]
  cases hx : xs with
  | nil =>
    refine (sh_strings_Join_none A c ⟨#[]⟩ w).mono fun e w' h => ?_
    obtain ⟨rfl, rfl⟩ := h
    exact ⟨G, ⟨rfl, rfl⟩, hs⟩
  | cons x0 r =>
    rw [← hx]
    rcases hR w hs with h0 | ⟨b, o, rfl, hc⟩
    · exfalso
      have h1 := congrArg List.length h0
      rw [flat_len, hx] at h1
      simp [strE] at h1
    · have hfl : ∀ l : List ByteArray, flat strE l = l.map Value.string := fun l => by
        induction l with
        | nil => rfl
        | cons a l ih => simp only [flat, List.flatMap_cons, List.map_cons] at ih ⊢; rw [ih]; rfl
      have hcs : ∀ (j : Nat) x, xs[j]? = some x → w.cell? ⟨b, o + j, none⟩ = some (.string x) := fun j x hj => hc j _ (by rw [hfl, List.getElem?_map, hj]; rfl)
      have hb : b < w.heap.size := by
        have := hcs 0 x0 (by rw [hx]; rfl)
        by_cases h : b < w.heap.size
        · exact h
        · exfalso
          simp only [World.cell?] at this
          rw [Array.getElem?_eq_none (by omega)] at this
          cases this
      refine (sh_strings_Join b o c xs ⟨#[]⟩ w hcs hb hN hkc (by rw [hj]; exact hl)).mono fun e w' h => ?_
      obtain ⟨rfl, hbw⟩ := h
      exact ⟨G, ⟨by rw [hj], rfl⟩, hs.below hbw⟩
end Go.Proofs.YtfolmcpfdcgliaaGreat.B
