import Derived.Test.YtfolmcpfdcgliaaGreatMg47
import Derived.Test.YtfolmcpfdcgliaaGreatMg40
import Derived.Test.YtfolmcpfdcgliaaGreatMg36
import Derived.Test.YtfolmcpfdcgliaaGreatMg13
import Derived.Test.YtfolmcpfdcgliaaGreatMg46
import Derived.Test.YtfolmcpfdcgliaaGreatMg12
import Derived.Test.YtfolmcpfdcgliaaGreatMg45
set_option linter.unusedVariables false
set_option linter.unusedSimpArgs false
set_option linter.unusedSectionVars false
set_option maxRecDepth 8000
namespace Go.Proofs.YtfolmcpfdcgliaaGreat.B
open Go Go.Proofs
section
variable {P : Program} (T : Tab P) {n : Nat} {ds : List Deferred} {L : TL} {W0 : World} {G : List SL} {ty : TypeId} {pos : String} {af : Array Edge} {gd : Option (Nat × Bool)} {α : Type} {E : EncK α}
include T in
theorem EffC.storeS (i : Nat) {e c : Nat} {g o j k t : Nat} {x y : Operand} {xs : List α} {z z' : α} {te : TE} {v : Value} {vs : List Value} {G' : List SL} (hG : G[i]? = some (slc E e (some ⟨g, 0, none⟩) c xs)) (hx : evL L x = some (.pointer (some ⟨g, o, none⟩))) (hy : evL L y = some v) (ho : o = j * E.sz + k)
    (hz : xs[j]? = some z) (hc : cellsO v = some vs) (hl : lk T.tab t = some te) (hzl : Nat.beq vs.length te.size = true) (h1 : allOne vs = true) (hs' : setN (E.enc z) k vs = some (E.enc z'))
    (hG' : setG G i (slc E e (some ⟨g, 0, none⟩) c (xs.set j z')) = some G') :
    EffC P n ds L W0 G ⟨none, .store t x y, ty, pos, af, gd⟩ (fun v G2 => v = undef ∧ G2 = G') := fun a w hf hs => by
  subst ho
  obtain ⟨r, hr⟩ := getG_pick hG
  have s1 := hs.perm (pickG_eq hr).1.symm
  obtain ⟨hp, h, hle⟩ := s1.head
  rcases h with ⟨h, _⟩ | ⟨g', cur, hg, hb, h2, h3, h4, h5⟩
  · cases h
  injection hg with hg
  injection hg with hg _ _
  subst hg
  have hb' := hle g _ hb
  obtain ⟨h6, h7⟩ := setN_eq hs'
  have hjl := (List.getElem?_eq_some_iff.1 hz).1
  rw [E.len] at h6
  have hfl := flat_len E xs
  have hle2 : j * E.sz + E.sz ≤ xs.length * E.sz := by rw [← Nat.succ_mul]; exact Nat.mul_le_mul_right _ hjl
  have hle3 : xs.length * E.sz ≤ c * E.sz := Nat.mul_le_mul_right _ h2
  have hst := run_storeCells_at P g (j * E.sz + k) e vs 0 cur w hb' (by omega) (allOne_eq h1)
  simp only [Nat.add_zero] at hst
  have hcell := cellsO_eq hc
  have hsz : v.cells.size = te.size := by rw [hcell]; simpa using Nat.eq_of_beq_eq_true hzl
  have hlist : v.cells.toList = vs := by rw [hcell]
  have hzz := T.sizeOf (w := w) hl
  have hrun : (execOp a.eval ⟨none, .store t x y, ty, pos, af, gd⟩).run P w = .ok .skip (w.setRow g (cur.toList.take (j * E.sz + k) ++ vs ++ cur.toList.drop (j * E.sz + k + vs.length)).toArray) := by
    simp only [execOp, hf.ev hx, hf.ev hy, Instr.storeAt, Instr.sureAddr, Sem.run_bind, Sem.run_pure, Result.andThen_ok, storeVar, hzz, hsz, ne_eq, not_true_eq_false, if_false, hlist, hst]
  unfold runs
  rw [hrun]
  refine ⟨_, ⟨rfl, rfl⟩, ?_⟩
  · refine Sat.perm (G := slc E e (some ⟨g, 0, none⟩) c (xs.set j z') :: r) ?_ (setG_eq hr hG')
    have hcl : cur.toList.length = c * E.sz := by rw [← h4]; simp
    have hnew : (cur.toList.take (j * E.sz + k) ++ vs ++ cur.toList.drop (j * E.sz + k + vs.length)).length = c * E.sz := by
      simp only [List.length_append, List.length_take, List.length_drop, hcl]
      omega
    have hfs : (cur.toList.take (j * E.sz + k) ++ vs ++ cur.toList.drop (j * E.sz + k + vs.length)).take (xs.length * E.sz) = flat E (xs.set j z') := by
      rw [flat_set E xs j z' hjl, h7, ← h5]
      have hze : E.enc z = (cur.toList.drop (j * E.sz)).take E.sz := by
        apply List.ext_getElem?
        intro m
        rw [List.getElem?_take, List.getElem?_drop]
        have hel := E.len z
        split
        · rename_i hm
          obtain ⟨u, hu⟩ : ∃ u, (E.enc z)[m]? = some u := ⟨(E.enc z)[m]'(by omega), List.getElem?_eq_getElem (by omega)⟩
          have h8 := flat_get E xs j m z u hz hu
          rw [← h5, List.getElem?_take] at h8
          split at h8
          · rw [hu, h8]
          · cases h8
        · exact List.getElem?_eq_none (by omega)
      rw [hze]
      apply List.ext_getElem?
      intro m
      have hcl2 : cur.toList.length = cur.size := by simp
      simp only [List.getElem?_take, List.getElem?_append, List.length_append, List.length_take, List.length_drop, List.getElem?_drop, hcl]
      generalize hJ : j * E.sz = J at *
      generalize hX : xs.length * E.sz = X at *
      generalize hC : c * E.sz = C at *
      generalize hZ : E.sz = Z at *
      generalize hV : vs.length = V at *
      have a1 : min (J + k) C = J + k := by omega
      have a2 : min J X = J := by omega
      have a3 : min J C = J := by omega
      have a4 : min X C = X := by omega
      have a5 : min Z (C - J) = Z := by omega
      have a6 : min k Z = k := by omega
      simp only [a1, a2, a3, a4, a5, a6]
      have a7 : Z - (k + V) + (k + V) = Z := by omega
      by_cases hm : m < X
      · rw [if_pos hm]
        by_cases hm1 : m < J + k
        · rw [if_pos (by omega), if_pos hm1]
          by_cases hm2 : m < J
          · rw [if_pos (by omega), if_pos (by omega), if_pos (by omega)]
            simp [hm1, hm2]
            omega
          · rw [if_pos (by omega), if_neg hm2, if_pos (by omega), if_pos (by omega), if_pos (by omega), if_pos (by omega)]
            rw [if_pos (by omega)]
            congr 1
            omega
        · by_cases hm2 : m < J + k + V
          · rw [if_pos (by omega), if_neg hm1, if_pos (by omega), if_neg (by omega), if_pos (by omega), if_neg (by omega)]
            congr 1
            omega
          · rw [if_neg (by omega)]
            by_cases hm3 : m < J + Z
            · rw [if_pos (by omega), if_neg (by omega), if_neg (by omega)]
              rw [if_pos (by omega)]
              congr 1
              omega
            · rw [if_neg (by omega)]
              rw [if_pos (by omega)]
              congr 1
              omega
      · rw [if_neg hm]
        rw [if_neg (by omega), if_neg (by omega)]
    obtain ⟨NEW, hNEW⟩ : ∃ NEW, NEW = cur.toList.take (j * E.sz + k) ++ vs ++ cur.toList.drop (j * E.sz + k + vs.length) := ⟨_, rfl⟩
    rw [← hNEW] at hnew hfs ⊢
    refine s1.turn (fun hp2 hP2 hle2' => ⟨⟨fun q => if q = g then some (.cells NEW.toArray e (0, 0)) else none, .inr ⟨g, NEW.toArray, rfl, by simp [B.blk], by simpa using h2, h3, by simpa using hnew, by simpa using hfs⟩, fun q o2 hq => ?_, fun q hq => ?_⟩, fun q hq hn => ?_⟩) ⟨rfl, rfl, rfl⟩
    · simp only at hq
      split at hq
      · rename_i e1; subst e1; injection hq with hq; subst hq
        simp only [World.setRow, Array.getElem?_modify, hb']
        simp
      · cases hq
    · simp only at hq
      split at hq
      · rename_i e1; subst e1
        left
        rcases hP2 with ⟨h, _⟩ | ⟨g', cur', hg, hb2, _⟩
        · cases h
        · injection hg with hg
          injection hg with hg _ _
          subst hg
          have : hp2 _ = some (.cells cur' e (0, 0)) := hb2
          rw [this]; simp
      · exact absurd rfl hq
    · simp only [World.setRow, Array.getElem?_modify]
      rw [if_neg (fun e1 => ?_)]
      subst e1
      rcases hP2 with ⟨h, _⟩ | ⟨g', cur', hg, hb2, _⟩
      · cases h
      · injection hg with hg
        injection hg with hg _ _
        subst hg
        have : hp2 g = some (.cells cur' e (0, 0)) := hb2
        rw [this] at hn; cases hn
end
section
variable {W0 : World} {G : List SL} {xs : List Nd} {x : Nd} {i : Nat}
theorem nodes_put (h : xs[i]? = some x) {y : Nd} : ∀ w, Sat W0 (jA y.b y.d y.J :: diskA y.d y.D :: nodesX xs i :: G) w → Sat W0 (nodesA (xs.set i y) :: G) w := fun w s => by
  have h1 : i < (xs.map ndA).length := by rw [List.length_map]; exact (List.getElem?_eq_some_iff.1 h).1
  have := bag_set (P := ndA y) h1 s.join
  rw [nodesA, List.map_set]
  exact this
end
attribute [local irreducible] WL CS QS WQ WH WS Fn Op1 row Sat
attribute [local irreducible] slc jA diskA mailA nodesA nodesX
theorem q_Fuse {ys : List Nd} {i : Nat} {x : Nd} (hx : ys[i]? = some x) (k : Int) (W0 : World) (F : List SL) :
    Fn Tryz.prog 24 [.pointer (some ⟨x.d, 0, none⟩), .int .i64 k] W0 (nodesA ys :: F) (Ret fun v G' => v = .tuple #[] ∧ G' = nodesA (ys.set i ⟨x.b, x.d, x.J, x.D.light k⟩) :: F) :=
  Fn.post ((disk_Fuse (b := x.d) (D := x.D) k W0 (jA x.b x.d x.J :: nodesX ys i :: F)).pre (fun w hs => (nodes_open hx w hs).front (i := 1) rfl)) (Ret.post fun v G' ⟨h1, h2⟩ => ⟨_, fun w hw => by
    rw [h2] at hw
    exact nodes_put hx (y := ⟨x.b, x.d, x.J, x.D.light k⟩) w (hw.front (i := 1) rfl), h1, rfl⟩)
theorem q_Crash {ys : List Nd} {i : Nat} {x : Nd} (hx : ys[i]? = some x) (hD : DiskOk x.D) {A : Option Addr} {c : Nat} {keeps : List Int} (hk : ∀ z ∈ keeps, I64 z) (hkl : keeps.length ≤ 9223372036854775807) (W0 : World) (F : List SL) (hR : Rd W0 F intE A keeps) :
    Fn Tryz.prog 25 [.pointer (some ⟨x.d, 0, none⟩), .slice A keeps.length c] W0 (nodesA ys :: F) (Ret fun v G' => v = .tuple #[] ∧ G' = nodesA (ys.set i ⟨x.b, x.d, x.J, x.D.crash keeps⟩) :: F) :=
  Fn.post ((disk_Crash (b := x.d) hD hk hkl W0 (jA x.b x.d x.J :: nodesX ys i :: F) hR.cons.cons).pre (fun w hs => (nodes_open hx w hs).front (i := 1) rfl)) (Ret.post fun v G' ⟨h1, h2⟩ => ⟨_, fun w hw => by
    rw [h2] at hw
    exact nodes_put hx (y := ⟨x.b, x.d, x.J, x.D.crash keeps⟩) w (hw.front (i := 1) rfl), h1, rfl⟩)
theorem q_Open {ys : List Nd} {i : Nat} {x : Nd} (hx : ys[i]? = some x) (hD : DiskOk x.D) (h0 : (openJ x.D).1 = 0) (W0 : World) (F : List SL) :
    Fn Tryz.prog 26 [.pointer (some ⟨x.d, 0, none⟩)] W0 (nodesA ys :: F) (Ret fun v G' => ∃ b, v = .tuple #[.pointer (some ⟨b, 0, none⟩), .int .i64 0] ∧ G' = nodesA (ys.set i ⟨b, x.d, (openJ x.D).2.1, (openJ x.D).2.2⟩) :: F) := by
  have hc := j_Open x.d x.D hD W0 (jA x.b x.d x.J :: nodesX ys i :: F)
  unfold openO at hc
  simp only [h0, if_true] at hc
  refine Fn.post (hc.pre (fun w hs => (nodes_open hx w hs).front (i := 1) rfl)) (Ret.post fun v G' ⟨b, h1, h2⟩ => ⟨_, fun w hw => ?_, b, h1, rfl⟩)
  rw [h2] at hw
  exact nodes_put hx (y := ⟨b, x.d, (openJ x.D).2.1, (openJ x.D).2.2⟩) w (hw.kick (i := 2) rfl)
end Go.Proofs.YtfolmcpfdcgliaaGreat.B

namespace Go.Proofs.YtfolmcpfdcgliaaGreat.B
open Go Go.Proofs
attribute [local irreducible] WL CS QS WQ WH WS Fn Op1 row Sat
attribute [local irreducible] slc
set_option maxHeartbeats 4000000 in
theorem r_Told (s : ByteArray) (hs : s.size ≤ 9223372036854775807) (W0 : World) (G : List SL) :
    Fn Tryz.prog 125 [.string s] W0 G (Ret fun v G' => ∃ A c, v = .tuple #[logV (toldM (bs s)).1 A (toldM (bs s)).2.1.length c, .int .i64 (toldM (bs s)).2.2] ∧ G' = slc entE 49 A c (toldM (bs s)).2.1 :: G) := by
  refine Fn.enter Tryz.func125 rfl Tryz.ntmps125 rfl ?_
  repeat' (first|refine bA ?_|refine bkq fun q=>?_|(refine bk2 ?_ ?_<;>(first|exact bkn|(refine bkk ?_;intro h))))
  revert q; intro b
  have hsp := ref_Split s hs W0 (row b 45 [.int .i64 0, .slice none 0 0] :: G)
  obtain ⟨M, hM⟩ : ∃ M, M = toldM (bs s) := ⟨_, rfl⟩
  rw [← hM]
  rw [toldM] at hM
  cases hl : splitP (bs s) with
  | none =>
    rw [hl] at hsp hM
    simp only at hsp hM
    refine WL.call c131 rfl rfl rfl rfl hsp ?_
    rintro _ G2 ⟨rfl, hG2⟩
    rw [hG2]; clear hG2 G2
    subst hM
    repeat' (first|refine bA ?_|refine bkq fun q=>?_|(refine bk2 ?_ ?_<;>(first|exact bkn|(refine bkk ?_;intro h))))
    exact QS.turn (G' := slc entE 49 none 0 ([] : List Ent) :: row b 45 [.int .i64 0, .slice none 0 0] :: G) (fun w hs => hs.slcNil _ _) (QS.turnR (G2 := slc entE 49 none 0 ([] : List Ent) :: G) (fun w hs => hs.kick (i := 1) rfl) (QS.retC TT 1 Tryz.results125 rfl rfl rfl rfl ⟨rfl, none, 0, rfl, rfl⟩))
  | some l =>
    rw [hl] at hsp hM
    simp only at hsp
    obtain ⟨hl1, hl2⟩ := joinOk_iff.1 (splitP_some hl).2
    refine WL.call c131 rfl rfl rfl rfl hsp ?_
    rintro _ _ ⟨A, c, rfl, rfl⟩
    rcases Nat.eq_zero_or_pos l.length with h0 | h0
    · have : l = [] := List.eq_nil_of_length_eq_zero h0
      rw [this] at hM
      simp only at hM
      subst hM
      repeat' (first|refine bA ?_|refine bkq fun q=>?_|(refine bk2 ?_ ?_<;>(first|exact bkn|(refine bkk ?_;intro h))))
      exact QS.turn (G' := slc entE 49 none 0 ([] : List Ent) :: row b 45 [.int .i64 0, .slice none 0 0] :: G) (fun w hs => hs.drop.slcNil _ _) (QS.turnR (G2 := slc entE 49 none 0 ([] : List Ent) :: G) (fun w hs => hs.kick (i := 1) rfl) (QS.retC TT 1 Tryz.results125 rfl rfl rfl rfl ⟨rfl, none, 0, rfl, rfl⟩))
    · obtain ⟨hd, hh⟩ : ∃ x, l[0]? = some x := ⟨l[0]'h0, List.getElem?_eq_getElem h0⟩
      obtain ⟨t, ht⟩ : ∃ t, l = hd :: t := by
        cases l with
        | nil => simp at h0
        | cons x r => simp at hh; subst hh; exact ⟨r, rfl⟩
      have hlen : l.length = t.length + 1 := by rw [ht]; rfl
      rw [ht] at hM
      simp only at hM
      repeat' (first|refine bA ?_|refine bkq fun q=>?_|(refine bk2 ?_ ?_<;>(first|exact bkn|(refine bkk ?_;intro h))))
      refine WL.idx TT (Rd.slc (i := 0) rfl) rfl rfl rfl (by omega) (by rw [Int.toNat_zero]; exact hh) rfl rfl rfl rfl (fun bb o hA => ?_)
      refine WL.s (op1_at TT hA rfl rfl rfl rfl) rfl ?_
      have hhs := hl2 hd (List.mem_of_getElem? hh)
      refine WL.call c69 rfl rfl rfl rfl (r_number hd (by omega) W0 _) ?_
      rintro _ G2 ⟨⟨n, rfl, hn⟩, hG2⟩
      rw [hG2]; clear hG2 G2
      cases hnp : numP hd with
      | none =>
        rw [hnp] at hM
        simp only [Option.isSome_none] at hM ⊢
        subst hM
        repeat' (first|refine bA ?_|refine bkq fun q=>?_|(refine bk2 ?_ ?_<;>(first|exact bkn|(refine bkk ?_;intro h))))
        exact QS.turn (G' := slc entE 49 none 0 ([] : List Ent) :: row b 45 [.int .i64 0, .slice none 0 0] :: G) (fun w hs => hs.drop.slcNil _ _) (QS.turnR (G2 := slc entE 49 none 0 ([] : List Ent) :: G) (fun w hs => hs.kick (i := 1) rfl) (QS.retC TT 1 Tryz.results125 rfl rfl rfl rfl ⟨rfl, none, 0, rfl, rfl⟩))
      | some n' =>
        have hnn := hn n' (by first | rfl | exact hnp)
        subst hnn
        rw [hnp] at hM
        simp only [Option.isSome_some] at hM ⊢
        rcases cond14 (n := n) (t := t) with hc | hc
        · have hc2 : n < 0 ∨ 14 < n ∨ (n ≠ 0 ∧ l.length ≠ 1) := hc.imp id (fun h => h.imp id (fun h => ⟨h.1, fun h2 => h.2 (List.eq_nil_of_length_eq_zero (by omega))⟩))
          rw [if_neg (fun h' => hc.elim (fun h2 => by omega) (fun h2 => h2.elim (fun h3 => by omega) (fun h3 => h'.2.2.elim h3.1 h3.2)))] at hM
          subst hM
          clear hc
          repeat' (first|refine bA ?_|refine bkq fun q=>?_|(refine bk2 ?_ ?_<;>(first|exact bkn|(refine bkk ?_;intro h))))
          all_goals first
            | (exfalso; omega)
            | (exact QS.turn (G' := slc entE 49 none 0 ([] : List Ent) :: row b 45 [.int .i64 0, .slice none 0 0] :: G) (fun w hs => hs.drop.slcNil _ _) (QS.turnR (G2 := slc entE 49 none 0 ([] : List Ent) :: G) (fun w hs => hs.kick (i := 1) rfl) (QS.retC TT 1 Tryz.results125 rfl rfl rfl rfl ⟨rfl, none, 0, rfl, rfl⟩)))
        · rw [if_pos hc] at hM
          by_cases ht1 : t = []
          · rw [if_pos ht1] at hM
            subst hM
            have hl3 : l.length = 1 := by rw [hlen, ht1]; rfl
            repeat' (first|refine bA ?_|refine bkq fun q=>?_|(refine bk2 ?_ ?_<;>(first|exact bkn|(refine bkk ?_;intro h))))
            all_goals first
              | (exfalso; omega)
              | (exact QS.turn (G' := slc entE 49 none 0 ([] : List Ent) :: row b 45 [.int .i64 0, .slice none 0 0] :: G) (fun w hs => hs.drop.slcNil _ _) (QS.turnR (G2 := slc entE 49 none 0 ([] : List Ent) :: G) (fun w hs => hs.kick (i := 1) rfl) (QS.retC TT 1 Tryz.results125 rfl rfl rfl rfl ⟨rfl, none, 0, rfl, rfl⟩)))
          · rw [if_neg ht1] at hM
            obtain rfl : n = 0 := hc.2.2.elim id (fun h => absurd h ht1)
            have ht2 : t.length ≠ 0 := fun h => ht1 (List.eq_nil_of_length_eq_zero h)
            repeat' (first|refine bA ?_|refine bkq fun q=>?_|(refine bk2 ?_ ?_<;>(first|exact bkn|(refine bkk ?_;intro h))))
            all_goals try (exfalso; omega)
            have htm : ∀ x ∈ t, x.size ≤ 4000 := fun x hx => hl2 x (by rw [ht]; exact List.mem_cons_of_mem _ hx)
            have hfl : ∀ j, ((t.take j).flatMap fun x => bs x).length ≤ 4000000 := fun j => by
              have h1 := flat_total (l := t.take j) (fun x hx => htm x (List.mem_of_mem_take hx))
              rw [List.length_take] at h1
              omega
            refine CS.loop (X := Nat) (fun j => [(0, .string s), (2, .pointer (some ⟨b, 0, none⟩)), (4, .slice A l.length c), (8, .string (mk ((t.take j).flatMap fun x => bs x))), (9, .int .i64 ((j : Int) + 1))])
              (fun _ => slc strE 9 A c l :: row b 45 [.int .i64 0, .slice none 0 0] :: G) (fun j => j ≤ t.length) (fun j => t.length - j) 0 ⟨rfl, rfl, rfl, rfl, rfl, trivial⟩ (fun w hs => hs) (Nat.zero_le _) ?_
            intro j hj
            have hfj := hfl j
            have hfs := mk_size ((t.take j).flatMap fun x => bs x)
            repeat' (first|refine bA ?_|refine bkq fun q=>?_|(refine bk2 ?_ ?_<;>(first|exact bkn|(refine bkk ?_;intro h))))
            · obtain ⟨x, hx⟩ : ∃ x, t[j]? = some x := ⟨t[j]'(by omega), List.getElem?_eq_getElem (by omega)⟩
              have hx2 : l[j + 1]? = some x := by rw [ht]; exact hx
              have hxs := htm x (List.mem_of_getElem? hx)
              refine WL.idx TT (Rd.slc (i := 0) rfl) rfl rfl rfl (by omega) (by rw [show ((j : Int) + 1).toNat = j + 1 from by omega]; exact hx2) rfl rfl rfl rfl (fun bb o hA => ?_)
              refine WL.s (op1_at TT hA rfl rfl rfl rfl) rfl ?_
              repeat' (first|refine bA ?_|refine bkq fun q=>?_|(refine bk2 ?_ ?_<;>(first|exact bkn|(refine bkk ?_;intro h))))
              refine QS.again (j + 1) (by omega) (by omega) ⟨rfl, rfl, rfl, ?_, ?_, trivial⟩ (fun w hs => hs)
              · rw [List.take_add_one, hx]
                simp only [Option.toList_some, List.flatMap_append, List.flatMap_cons, List.flatMap_nil, List.append_nil]
                rw [← mk_cat]; rfl
              · rw [show ((j + 1 : Nat) : Int) + 1 = (j : Int) + 1 + 1 from by omega]; rfl
            · have hjt : j = t.length := by omega
              subst hjt
              rw [List.take_length] at *
              generalize (t.flatMap fun x => bs x) = FL at *
              refine WL.call c116 rfl rfl rfl rfl (ref_Parse (mk FL) (by rw [mk_size]; omega) W0 _) ?_
              rw [bs_mk, parseM]
              cases hP : parseP FL with
              | none =>
                rw [hP] at hM
                simp only at hM
                subst hM
                rintro _ _ ⟨A1, c1, rfl, rfl⟩
                repeat' (first|refine bA ?_|refine bkq fun q=>?_|(refine bk2 ?_ ?_<;>(first|exact bkn|(refine bkk ?_;intro h))))
                (exact QS.turn (G' := slc entE 49 none 0 ([] : List Ent) :: row b 45 [.int .i64 0, .slice none 0 0] :: G) (fun w hs => hs.drop.drop.drop.slcNil _ _) (QS.turnR (G2 := slc entE 49 none 0 ([] : List Ent) :: G) (fun w hs => hs.kick (i := 1) rfl) (QS.retC TT 1 Tryz.results125 rfl rfl rfl rfl ⟨rfl, none, 0, rfl, rfl⟩)))
              | some y =>
                obtain ⟨e, xs, r⟩ := y
                rw [hP] at hM
                simp only at hM
                rintro _ _ ⟨A1, c1, rfl, rfl⟩
                simp only
                by_cases hr : r = []
                · subst hr
                  simp only [decide_true]
                  repeat' (first|refine bA ?_|refine bkq fun q=>?_|(refine bk2 ?_ ?_<;>(first|exact bkn|(refine bkk ?_;intro h))))
                  refine WL.call c92 rfl rfl rfl rfl (r_told e A1 _ c1 xs rfl W0 _ (Rd.slc (i := 1) rfl)) ?_
                  rintro _ G2 ⟨rfl, hG2⟩
                  rw [hG2]; clear hG2 G2
                  by_cases htd : toldB e xs = bs s
                  · rw [if_pos ⟨rfl, htd⟩] at hM
                    subst hM
                    rw [htd, mk_bs]
                    have hd1 : decide (¬ s = s) = false := decide_eq_false (fun h => h rfl)
                    repeat' (first|refine bA ?_|refine bkq fun q=>?_|(refine bk2 ?_ ?_<;>(first|exact bkn|(refine bkk ?_;intro h))))
                    all_goals first
                      | exact absurd trivial (by assumption)
                      | (exact QS.turn (G' := slc entE 49 A1 c1 xs :: row b 45 [.int .i64 e, .slice A1 xs.length c1] :: G) (fun w hs => hs.drop.kick (i := 1) rfl) (QS.turnR (G2 := slc entE 49 A1 c1 xs :: G) (fun w hs => hs.kick (i := 1) rfl) (QS.retC TT 1 Tryz.results125 rfl rfl rfl rfl ⟨rfl, A1, c1, rfl, rfl⟩)))
                  · rw [if_neg (fun h => htd h.2)] at hM
                    subst hM
                    have hd1 : ¬ mk (toldB e xs) = s := fun h => htd (by rw [← h, bs_mk])
                    repeat' (first|refine bA ?_|refine bkq fun q=>?_|(refine bk2 ?_ ?_<;>(first|exact bkn|(refine bkk ?_;intro h))))
                    all_goals first
                      | exact absurd (by assumption) hd1
                      | (exact QS.turn (G' := slc entE 49 none 0 ([] : List Ent) :: row b 45 [.int .i64 0, .slice none 0 0] :: G) (fun w hs => hs.drop.drop.drop.slcNil _ _) (QS.turnR (G2 := slc entE 49 none 0 ([] : List Ent) :: G) (fun w hs => hs.kick (i := 1) rfl) (QS.retC TT 1 Tryz.results125 rfl rfl rfl rfl ⟨rfl, none, 0, rfl, rfl⟩)))
                · rw [if_neg (fun h => hr h.1)] at hM
                  subst hM
                  rw [decide_eq_false hr]
                  repeat' (first|refine bA ?_|refine bkq fun q=>?_|(refine bk2 ?_ ?_<;>(first|exact bkn|(refine bkk ?_;intro h))))
                  (exact QS.turn (G' := slc entE 49 none 0 ([] : List Ent) :: row b 45 [.int .i64 0, .slice none 0 0] :: G) (fun w hs => hs.drop.drop.drop.slcNil _ _) (QS.turnR (G2 := slc entE 49 none 0 ([] : List Ent) :: G) (fun w hs => hs.kick (i := 1) rfl) (QS.retC TT 1 Tryz.results125 rfl rfl rfl rfl ⟨rfl, none, 0, rfl, rfl⟩)))
end Go.Proofs.YtfolmcpfdcgliaaGreat.B

namespace Go.Proofs.YtfolmcpfdcgliaaGreat.B
open Go Go.Proofs
attribute [local irreducible] WL CS QS WQ WH WS Fn Op1 row Sat
attribute [local irreducible] slcs slc mapb
def exLs (A1 A2 A3 : Option Addr) (c1 c2 c3 : Nat) : List LogX := [⟨2, A1, c1, longT 3⟩, ⟨2, A2, c2, longT 5⟩, ⟨1, A3, c3, longT 9⟩]
end Go.Proofs.YtfolmcpfdcgliaaGreat.B

namespace Go.Proofs.YtfolmcpfdcgliaaGreat.B
open Go Go.Proofs
attribute [local irreducible] WL CS QS WQ WH WS Fn Op1 row Sat
attribute [local irreducible] slc
theorem ref_Most (n : Int) (hn : I64 n) (W0 : World) (G : List SL) :
    Fn Tryz.prog 128 [.int .i64 n] W0 G (Ret fun v G' => v = .int .i64 (if n < 1 then 0 else n / 2 + 1) ∧ G' = G) := by
  refine Fn.enter Tryz.func128 rfl Tryz.ntmps128 rfl ?_
  unfold I64 at hn
  repeat' (first|refine bA ?_|refine bkq fun q=>?_|(refine bk2 ?_ ?_<;>(first|exact bkn|(refine bkk ?_;intro h))))
  · exact QS.retV Tryz.results128 rfl ⟨by rw [if_pos (by assumption)]; rfl, rfl⟩
  · refine QS.retV Tryz.results128 rfl ⟨?_, rfl⟩
    have h2 : n.tdiv 2 = n / 2 := Int.tdiv_eq_ediv_of_nonneg (by omega)
    rw [if_neg (by assumption), w64 (show -9223372036854775808 ≤ n.tdiv 2 ∧ n.tdiv 2 ≤ 9223372036854775807 from by omega), h2]
    first
      | rfl
      | (rw [w64 (by omega)]; rfl)
theorem better_iff (a b : LogX) : better a b = true ↔ b.e < a.e ∨ (a.e = b.e ∧ b.xs.length < a.xs.length) := by simp [better]
set_option maxHeartbeats 2000000 in
theorem ref_Best (A : Option Addr) (k c : Nat) (ls : List LogX) (hk : k = ls.length) (hkb : k ≤ 9223372036854775807) (W0 : World) (G : List SL) (hR : Rd W0 G lgE A ls) :
    Fn Tryz.prog 84 [.slice A k c] W0 G (Ret fun v G' => v = .int .i64 (bestI ls) ∧ G' = G) := by
  refine Fn.enter Tryz.func84 rfl Tryz.ntmps84 rfl ?_
  repeat' (first|refine bA ?_|refine bkq fun q=>?_|(refine bk2 ?_ ?_<;>(first|exact bkn|(refine bkk ?_;intro h))))
  refine CS.loop (X := Nat) (fun i => [(0, .slice A k c), (3, .int .i64 (bestP ls i)), (4, .int .i64 (i : Int))]) (fun i => G)
    (fun i => i ≤ k) (fun i => k - i) 0 ⟨rfl, rfl, rfl, trivial⟩ (fun w hs => hs) (Nat.zero_le _) ?_
  intro i hi
  have hbr := bestP_range ls i
  obtain ⟨B, hB⟩ : ∃ B, B = bestP ls i := ⟨_, rfl⟩
  rw [← hB] at hbr
  rw [← hB]
  refine CS.world fun hw => ?_
  repeat' (first|refine bA ?_|refine bkq fun q=>?_|(refine bk2 ?_ ?_<;>(first|exact bkn|(refine bkk ?_;intro h))))
  · refine QS.again (i + 1) (by omega) (by omega) ⟨rfl, ?_, ?_, trivial⟩ (fun w hs => hs)
    · rw [bestP_lt (by omega)]; rfl
    · rw [show ((i + 1 : Nat) : Int) = (i : Int) + 1 from by omega]; rfl
  · obtain ⟨x, hx⟩ : ∃ x, ls[i]? = some x := ⟨ls[i]'(by omega), List.getElem?_eq_getElem (by omega)⟩
    obtain ⟨y, hy⟩ : ∃ y, ls[B.toNat]? = some y := ⟨ls[B.toNat]'(by omega), List.getElem?_eq_getElem (by omega)⟩
    have hst := bestP_ge (ls := ls) (i := i) (by omega) hx (by rw [← hB]; exact hy)
    rw [← hB] at hst
    have hbt := better_iff x y
    refine WQ.idx TT hR rfl rfl hk (by omega) (by rw [Int.toNat_natCast]; exact hx) rfl rfl rfl rfl hw (fun b1 o1 hA1 => ?_)
    repeat' (first|refine bA ?_|refine bkq fun q=>?_|(refine bk2 ?_ ?_<;>(first|exact bkn|(refine bkk ?_;intro h))))
    refine WQ.s (op1_atF TT 0 hA1 rfl rfl rfl rfl rfl) rfl ?_
    repeat' (first|refine bA ?_|refine bkq fun q=>?_|(refine bk2 ?_ ?_<;>(first|exact bkn|(refine bkk ?_;intro h))))
    refine WQ.idx TT hR rfl rfl hk (by omega) (hy) rfl rfl rfl rfl hw (fun b2 o2 hA2 => ?_)
    repeat' (first|refine bA ?_|refine bkq fun q=>?_|(refine bk2 ?_ ?_<;>(first|exact bkn|(refine bkk ?_;intro h))))
    refine WQ.s (op1_atF TT 0 hA2 rfl rfl rfl rfl rfl) rfl ?_
    repeat' (first|refine bA ?_|refine bkq fun q=>?_|(refine bk2 ?_ ?_<;>(first|exact bkn|(refine bkk ?_;intro h))))
    · rw [if_pos (hbt.2 (.inl (by assumption)))] at hst
      refine QS.again (i + 1) (by omega) (by omega) ⟨rfl, ?_, ?_, trivial⟩ (fun w hs => hs)
      · rw [hst]; rfl
      · rw [show ((i + 1 : Nat) : Int) = (i : Int) + 1 from by omega]; rfl
      
    refine WQ.idx TT hR rfl rfl hk (by omega) (by rw [Int.toNat_natCast]; exact hx) rfl rfl rfl rfl hw (fun b1 o1 hA1 => ?_)
    repeat' (first|refine bA ?_|refine bkq fun q=>?_|(refine bk2 ?_ ?_<;>(first|exact bkn|(refine bkk ?_;intro h))))
    refine WQ.s (op1_atF TT 0 hA1 rfl rfl rfl rfl rfl) rfl ?_
    repeat' (first|refine bA ?_|refine bkq fun q=>?_|(refine bk2 ?_ ?_<;>(first|exact bkn|(refine bkk ?_;intro h))))
    refine WQ.idx TT hR rfl rfl hk (by omega) (hy) rfl rfl rfl rfl hw (fun b2 o2 hA2 => ?_)
    repeat' (first|refine bA ?_|refine bkq fun q=>?_|(refine bk2 ?_ ?_<;>(first|exact bkn|(refine bkk ?_;intro h))))
    refine WQ.s (op1_atF TT 0 hA2 rfl rfl rfl rfl rfl) rfl ?_
    repeat' (first|refine bA ?_|refine bkq fun q=>?_|(refine bk2 ?_ ?_<;>(first|exact bkn|(refine bkk ?_;intro h))))
    rotate_right
    · rw [if_neg (fun h => (hbt.1 h).elim (fun h => absurd h (by assumption)) (fun h => absurd h.1 (by assumption)))] at hst
      refine QS.again (i + 1) (by omega) (by omega) ⟨rfl, ?_, ?_, trivial⟩ (fun w hs => hs)
      · rw [hst]; rfl
      · rw [show ((i + 1 : Nat) : Int) = (i : Int) + 1 from by omega]; rfl
      
    refine WQ.idx TT hR rfl rfl hk (by omega) (by rw [Int.toNat_natCast]; exact hx) rfl rfl rfl rfl hw (fun b1 o1 hA1 => ?_)
    repeat' (first|refine bA ?_|refine bkq fun q=>?_|(refine bk2 ?_ ?_<;>(first|exact bkn|(refine bkk ?_;intro h))))
    refine WQ.s (op1_atF TT 1 hA1 rfl rfl rfl rfl rfl) rfl ?_
    repeat' (first|refine bA ?_|refine bkq fun q=>?_|(refine bk2 ?_ ?_<;>(first|exact bkn|(refine bkk ?_;intro h))))
    refine WQ.idx TT hR rfl rfl hk (by omega) (hy) rfl rfl rfl rfl hw (fun b2 o2 hA2 => ?_)
    repeat' (first|refine bA ?_|refine bkq fun q=>?_|(refine bk2 ?_ ?_<;>(first|exact bkn|(refine bkk ?_;intro h))))
    refine WQ.s (op1_atF TT 1 hA2 rfl rfl rfl rfl rfl) rfl ?_
    repeat' (first|refine bA ?_|refine bkq fun q=>?_|(refine bk2 ?_ ?_<;>(first|exact bkn|(refine bkk ?_;intro h))))
    · rw [if_pos (hbt.2 (.inr ⟨by assumption, by omega⟩))] at hst
      refine QS.again (i + 1) (by omega) (by omega) ⟨rfl, ?_, ?_, trivial⟩ (fun w hs => hs)
      · rw [hst]; rfl
      · rw [show ((i + 1 : Nat) : Int) = (i : Int) + 1 from by omega]; rfl
      
    · rw [if_neg (fun h => (hbt.1 h).elim (fun h => absurd h (by assumption)) (fun h => by omega))] at hst
      refine QS.again (i + 1) (by omega) (by omega) ⟨rfl, ?_, ?_, trivial⟩ (fun w hs => hs)
      · rw [hst]; rfl
      · rw [show ((i + 1 : Nat) : Int) = (i : Int) + 1 from by omega]; rfl
      
  · refine QS.retV Tryz.results84 rfl ⟨?_, rfl⟩
    rw [bestI, hB, show i = ls.length from by omega]; rfl
theorem cnt_next {ls : List LogX} {i : Nat} {x : LogX} (h : ls[i]? = some x) (E : Int) (K : Nat) : cnt (ls.take (i + 1)) E K = cnt (ls.take i) E K + (if x.e = E ∧ K ≤ x.xs.length then 1 else 0) := by
  unfold cnt
  rw [List.take_add_one, h, List.countP_append]
  by_cases h1 : x.e = E <;> by_cases h2 : K ≤ x.xs.length <;> simp [h1, h2]
theorem cnt_bound (ls : List LogX) (E : Int) (K : Nat) : cnt ls E K ≤ ls.length := List.countP_le_length
set_option maxHeartbeats 2000000 in
theorem ref_many (A : Option Addr) (k c : Nat) (ls : List LogX) (hk : k = ls.length) (hkb : k ≤ 1000) (E : Int) (K : Nat) (hKb : K ≤ 9223372036854775807) (W0 : World) (G : List SL) (hR : Rd W0 G lgE A ls) :
    Fn Tryz.prog 130 [.slice A k c, .int .i64 E, .int .i64 (K : Int)] W0 G (Ret fun v G' => v = .int .i64 (cnt ls E K : Nat) ∧ G' = G) := by
  refine Fn.enter Tryz.func130 rfl Tryz.ntmps130 rfl ?_
  repeat' (first|refine bA ?_|refine bkq fun q=>?_|(refine bk2 ?_ ?_<;>(first|exact bkn|(refine bkk ?_;intro h))))
  refine CS.loop (X := Nat) (fun i => [(0, .slice A k c), (1, .int .i64 E), (2, .int .i64 (K : Int)), (7, .int .i64 (cnt (ls.take i) E K : Nat)), (8, .int .i64 (i : Int))]) (fun i => G)
    (fun i => i ≤ k) (fun i => k - i) 0 ⟨rfl, rfl, rfl, rfl, rfl, trivial⟩ (fun w hs => hs) (Nat.zero_le _) ?_
  intro i hi
  have hcb := cnt_bound (ls.take i) E K
  rw [List.length_take] at hcb
  obtain ⟨C, hC⟩ : ∃ C, C = cnt (ls.take i) E K := ⟨_, rfl⟩
  rw [← hC] at hcb ⊢
  repeat' (first|refine bA ?_|refine bkq fun q=>?_|(refine bk2 ?_ ?_<;>(first|exact bkn|(refine bkk ?_;intro h))))
  · obtain ⟨x, hx⟩ : ∃ x, ls[i]? = some x := ⟨ls[i]'(by omega), List.getElem?_eq_getElem (by omega)⟩
    have hnx := cnt_next hx E K
    rw [← hC] at hnx
    refine WL.idx TT hR rfl rfl hk (by omega) (by rw [Int.toNat_natCast]; exact hx) rfl rfl rfl rfl (fun b1 o1 hA1 => ?_)
    repeat' (first|refine bA ?_|refine bkq fun q=>?_|(refine bk2 ?_ ?_<;>(first|exact bkn|(refine bkk ?_;intro h))))
    refine WL.s (op1_atF TT 0 hA1 rfl rfl rfl rfl rfl) rfl ?_
    repeat' (first|refine bA ?_|refine bkq fun q=>?_|(refine bk2 ?_ ?_<;>(first|exact bkn|(refine bkk ?_;intro h))))
    rotate_right
    · rw [if_neg (fun h => absurd h.1 (by assumption)), Nat.add_zero] at hnx
      refine QS.again (i + 1) (by omega) (by omega) ⟨rfl, rfl, rfl, ?_, ?_, trivial⟩ (fun w hs => hs)
      · rw [hnx]; rfl
      · rw [show ((i + 1 : Nat) : Int) = (i : Int) + 1 from by omega]; rfl
    refine WL.idx TT hR rfl rfl hk (by omega) (by rw [Int.toNat_natCast]; exact hx) rfl rfl rfl rfl (fun b2 o2 hA2 => ?_)
    repeat' (first|refine bA ?_|refine bkq fun q=>?_|(refine bk2 ?_ ?_<;>(first|exact bkn|(refine bkk ?_;intro h))))
    refine WL.s (op1_atF TT 1 hA2 rfl rfl rfl rfl rfl) rfl ?_
    repeat' (first|refine bA ?_|refine bkq fun q=>?_|(refine bk2 ?_ ?_<;>(first|exact bkn|(refine bkk ?_;intro h))))
    · rw [if_pos ⟨by assumption, by omega⟩] at hnx
      refine QS.again (i + 1) (by omega) (by omega) ⟨rfl, rfl, rfl, ?_, ?_, trivial⟩ (fun w hs => hs)
      · rw [hnx, show ((C + 1 : Nat) : Int) = (C : Int) + 1 from by omega]; rfl
      · rw [show ((i + 1 : Nat) : Int) = (i : Int) + 1 from by omega]; rfl
    · rw [if_neg (fun h => by omega), Nat.add_zero] at hnx
      refine QS.again (i + 1) (by omega) (by omega) ⟨rfl, rfl, rfl, ?_, ?_, trivial⟩ (fun w hs => hs)
      · rw [hnx]; rfl
      · rw [show ((i + 1 : Nat) : Int) = (i : Int) + 1 from by omega]; rfl
  · refine QS.retV Tryz.results130 rfl ⟨?_, rfl⟩
    rw [hC, List.take_of_length_le (by omega)]; rfl
end Go.Proofs.YtfolmcpfdcgliaaGreat.B

namespace Go.Proofs.YtfolmcpfdcgliaaGreat.B
open Go Go.Proofs
attribute [local irreducible] WL CS QS WQ WH WS Fn Op1 row Sat
attribute [local irreducible] slc jA diskA mailA nodesA nodesX rjA refA rnodesA rnodesX rmailA
theorem t_fate (A : Option Addr) (k c : Nat) (fs : List Int) (hk : k = fs.length) (hI : ∀ x ∈ fs, I64 x) (i : Nat) (W0 : World) (G : List SL) (hR : Rd W0 G intE A fs) :
    Fn Tryz.prog 87 [.slice A k c, .int .i64 (i : Int)] W0 G (Ret fun v G' => v = .int .i64 (fateM fs i) ∧ G' = G) := by
  subst hk
  refine Fn.enter Tryz.func87 rfl Tryz.ntmps87 rfl ?_
  by_cases hi : i < fs.length
  · obtain ⟨x, hx⟩ : ∃ x, fs[i]? = some x := ⟨fs[i]'hi, List.getElem?_eq_getElem hi⟩
    have hxI := hI x (List.mem_of_getElem? hx)
    unfold I64 at hxI
    have hf : fateM fs i = pickM x 5 := by unfold fateM; rw [hx]
    repeat' (first|refine bA ?_|refine bkq fun q=>?_|(refine bk2 ?_ ?_<;>(first|exact bkn|(refine bkk ?_;intro h))))
    refine WL.idx TT hR rfl rfl rfl (by omega) (by rw [Int.toNat_natCast]; exact hx) rfl rfl rfl rfl (fun bb2 o hA => ?_)
    refine WL.s (op1_at TT hA rfl rfl rfl rfl) rfl ?_
    repeat' (first|refine bA ?_|refine bkq fun q=>?_|(refine bk2 ?_ ?_<;>(first|exact bkn|(refine bkk ?_;intro h))))
    all_goals
      refine QS.retV Tryz.results87 rfl ⟨?_, rfl⟩
      first
        | (rw [hf, pickM, if_pos (by assumption)]; exact congrArg (fun z => Value.int .i64 (Int.tmod z 5)) (by omega))
        | (rw [hf, pickM, if_neg (by assumption)]; rfl)
  · have hf : fateM fs i = 0 := by unfold fateM; rw [List.getElem?_eq_none (by omega)]
    repeat' (first|refine bA ?_|refine bkq fun q=>?_|(refine bk2 ?_ ?_<;>(first|exact bkn|(refine bkk ?_;intro h))))
    exact QS.retV Tryz.results87 rfl ⟨by rw [hf]; rfl, rfl⟩
theorem t_hand {xs : List Nd} {ys : List (Nat × Nat)} {i : Nat} {x : Nd} {y : Nat × Nat} (hx : xs[i]? = some x) (hy : ys[i]? = some y) (hxo : NdOk x) (s : ByteArray) (hs : s.size ≤ 9223372036854775807) (W0 : World) (F : List SL) :
    Fn Tryz.prog 46 [.pointer (some ⟨y.1, 0, none⟩), .string s] W0 (rnodesA ys xs :: F) (Ret fun v G' => v = .string (mk (x.ans (bs s))) ∧ G' = rnodesA ys (xs.set i (x.hand (bs s))) :: F) :=
  Fn.post ((r_Handle y.1 y.2 x.J hxo.J x.D hxo.D s hs W0 (rnodesX ys xs i :: F)).pre (rnodes_open hx hy)) (Ret.post fun v G' ⟨h1, h2⟩ => ⟨rnodesA ys (xs.set i (x.hand (bs s))) :: F, fun w hw => by
    rw [h2] at hw
    have := rnodes_shut hx hy (x' := x.hand (bs s)) (y' := y) w hw
    rwa [show ys.set i y = ys from by obtain ⟨h, rfl⟩ := List.getElem?_eq_some_iff.1 hy; exact List.set_getElem_self h] at this, h1, rfl⟩)
theorem t_New (Ay : Option Addr) (n cy bn : Nat) (hn : n ≤ 5) (hc : n ≤ cy) (W0 : World) (F : List SL) :
    Fn Tryz.prog 18 [.slice Ay n cy, .pointer (some ⟨bn, 0, none⟩)] W0 F
      (Ret fun v G' => ∃ bq, v = .pointer (some ⟨bq, 0, none⟩) ∧ G' = row bq 68 (wrC Ay n cy bn ⟨0, 0, false⟩) :: F) := by
  refine Fn.enter Tryz.func18 rfl Tryz.ntmps18 rfl ?_
  repeat' (first|refine bA ?_|refine bkq fun q=>?_|(refine bk2 ?_ ?_<;>(first|exact bkn|(refine bkk ?_;intro h))))
  rw [show (if (5 : Int) < (n : Int) then (5 : Int) else (n : Int)) = (n : Int) from if_neg (by omega)]
  refine WL.s (op1_sliceS (E := bpE) (xs := List.replicate n 0) (l := 0) (r := (n : Int)) TT (by rfl) (by rfl) rfl rfl (by simp) rfl rfl (by omega) hc) rfl ?_
  simp only [Int.toNat_zero, Nat.sub_zero, Int.toNat_natCast]
  have hA : (if cy = 0 then Ay else Ay.map (·.add (0 * bpE.sz))) = Ay := by
    split
    · rfl
    · cases Ay with
      | none => rfl
      | some a => simp [Addr.add]
  rw [hA]
  repeat' (first|refine bA ?_|refine bkq fun q=>?_|(refine bk2 ?_ ?_<;>(first|exact bkn|(refine bkk ?_;intro h))))
  exact QS.retV Tryz.results18 rfl ⟨_, rfl, rfl⟩
theorem t_Majority (bt : Nat) (Ay : Option Addr) (n cy bn : Nat) (w : Wr) (hn : n ≤ 5) (W0 : World) (F : List SL) :
    Fn Tryz.prog 82 [.pointer (some ⟨bt, 0, none⟩)] W0 (row bt 68 (wrC Ay n cy bn w) :: F) (Ret fun v G' => v = .int .i64 (mostM n) ∧ G' = row bt 68 (wrC Ay n cy bn w) :: F) := by
  refine Fn.enter Tryz.func82 rfl Tryz.ntmps82 rfl ?_
  repeat' (first|refine bA ?_|refine bkq fun q=>?_|(refine bk2 ?_ ?_<;>(first|exact bkn|(refine bkk ?_;intro h))))
  refine WL.call c128 rfl rfl rfl rfl (ref_Most _ (mostM_i64 hn) W0 _) ?_
  rintro _ _ ⟨rfl, rfl⟩
  repeat' (first|refine bA ?_|refine bkq fun q=>?_|(refine bk2 ?_ ?_<;>(first|exact bkn|(refine bkk ?_;intro h))))
  exact QS.retV Tryz.results82 rfl ⟨rfl, rfl⟩
theorem t_over (bt : Nat) (Ay : Option Addr) (n cy bn : Nat) (w : Wr) (fe : Bool) (W0 : World) (F : List SL) :
    Fn Tryz.prog 83 [.pointer (some ⟨bt, 0, none⟩), .bool fe] W0 (row bt 68 (wrC Ay n cy bn w) :: F) (Ret fun v G' => v = .int .i64 (if fe = true then 10 else 12) ∧ G' = row bt 68 (wrC Ay n cy bn ⟨0, 0, true⟩) :: F) := by
  refine Fn.enter Tryz.func83 rfl Tryz.ntmps83 rfl ?_
  cases fe
  all_goals
    repeat' (first|refine bA ?_|refine bkq fun q=>?_|(refine bk2 ?_ ?_<;>(first|exact bkn|(refine bkk ?_;intro h))))
    exact QS.retV Tryz.results83 rfl ⟨rfl, rfl⟩
set_option maxHeartbeats 2000000 in
theorem t_Send (b : Nat) (m : List Msg) (hm : m.length ≤ 50) (i : Int) (s : ByteArray) (W0 : World) (F : List SL) :
    Fn Tryz.prog 174 [.pointer (some ⟨b, 0, none⟩), .agg #[.int .i64 i, .string s]] W0 (rmailA b m :: F) (Ret fun v G' => (∃ e, v = .int .i64 e) ∧ G' = rmailA b (sendM m i s) :: F) := by
  refine Fn.ex (fun w hs => rmailA_open w hs) ?_
  rintro ⟨A, c, A2, c2⟩
  simp only
  obtain ⟨zs, hz⟩ : ∃ zs : List Int, zs = List.replicate m.length 0 := ⟨_, rfl⟩
  have hzl : zs.length = m.length := by rw [hz, List.length_replicate]
  rw [← hz, show (Value.slice A2 m.length c2) = Value.slice A2 zs.length c2 from by rw [hzl]]
  refine Fn.enter Tryz.func174 rfl Tryz.ntmps174 rfl ?_
  by_cases h1 : 50 ≤ m.length ∨ 4000 < s.size
  · have hs1 : sendM m i s = m := by unfold sendM; rw [if_pos h1]
    rw [hs1]
    repeat' (first|refine bA ?_|refine bkq fun q=>?_|(refine bk2 ?_ ?_<;>(first|exact bkn|(refine bkk ?_;intro h))))
    all_goals first
      | exact QS.turn (G' := rmailA b m :: F) (fun w hs => rmailA_shut (A := A) (c := c) (A2 := A2) (c2 := c2) w (by rw [← hz]; have h3 := hs.ord 4 [1, 2, 3] rfl; rw [hzl] at h3; exact h3)) (QS.retV Tryz.results174 rfl ⟨⟨_, rfl⟩, rfl⟩)
      | (exfalso; omega)
      | done
  · have hs1 : sendM m i s = m ++ [(i, s)] := by unfold sendM; rw [if_neg h1]
    rw [hs1]
    simp only [not_or] at h1
    obtain ⟨h1, h2⟩ := h1
    have hrep : zs ++ [0] = List.replicate (m ++ [(i, s)]).length (0 : Int) := by rw [hz, List.length_append]; exact List.replicate_succ'.symm
    repeat' (first|refine bN ?_|refine bkq fun q=>?_|(refine bk2 ?_ ?_<;>(first|exact bkn|(refine bkk ?_;intro h))))
    revert q; intro q3
    refine CS.drawE (row b 84 [.slice A m.length c, .slice A2 zs.length c2] :: row q3 72 [.int .i64 i, .string s] :: F) 10 (fun w hs => hs.ord 4 [1, 0] rfl) mixed (by kernel_rfl) rfl ?_
    repeat' (first|refine bka ?_|(refine bk2a ?_ ?_<;>(first|exact bkn|(refine bkk ?_;intro h))))
    refine WA.e1 6 (by kernel_rfl) (by kernel_rfl) rfl rfl (EffC.of (Eff.buildSlice TT rfl rfl rfl rfl rfl rfl rfl)) rfl ?_
    rintro _ _ ⟨q2, rfl, rfl⟩
    refine ⟨fun w hs => hs.ord 5 [2, 1] rfl, ?_⟩
    refine WA.e1 7 (by kernel_rfl) (by kernel_rfl) rfl rfl (EffC.of (Eff.append TT (E := rmsgE) (xs := m) (ys := [(i, s)]) 3 rfl rfl rfl rfl rfl (Rd.row (i := 0) rfl rfl) rfl rfl rfl rfl rfl (by decide) (by simp only [List.length_cons, List.length_nil]; omega) (fun _ _ => rfl))) rfl ?_
    rintro _ _ ⟨A6, c6, rfl, rfl⟩
    refine ⟨fun w hs => hs.ord 5 [2, 1] rfl, ?_⟩
    repeat' (first|refine bka ?_|(refine bk2a ?_ ?_<;>(first|exact bkn|(refine bkk ?_;intro h))))
    refine WA.last (by kernel_rfl) (by kernel_rfl) (by kernel_rfl) rfl rfl (EffC.store TT 2 rfl rfl rfl rfl rfl rfl rfl rfl rfl) rfl ?_
    rintro _ _ ⟨rfl, rfl⟩
    repeat' (first|refine bN ?_|refine bkq fun q=>?_|(refine bk2 ?_ ?_<;>(first|exact bkn|(refine bkk ?_;intro h))))
    refine WL.buildSlice TT rfl rfl rfl rfl rfl rfl rfl rfl (fun q5 => ?_)
    refine WL.append TT 5 (E := intE) (xs := zs) (ys := [0]) rfl rfl rfl rfl rfl (Rd.row (i := 0) rfl rfl) rfl rfl rfl rfl rfl (by decide) (by simp only [List.length_cons, List.length_nil]; omega) (fun _ _ => rfl) rfl (fun A7 c7 => ?_)
    repeat' (first|refine bA ?_|refine bkq fun q=>?_|(refine bk2 ?_ ?_<;>(first|exact bkn|(refine bkk ?_;intro h))))
    exact QS.turn (G' := rmailA b (m ++ [(i, s)]) :: F) (fun w hs => rmailA_shut (A := A6) (c := c6) (A2 := A7) (c2 := c7) w (by
      have h3 := hs.ord 6 [3, 4, 5] rfl
      rw [hrep, List.length_replicate] at h3
      exact h3)) (QS.retV Tryz.results174 rfl ⟨⟨_, rfl⟩, rfl⟩)
theorem rd_take {α : Type} {E : EncK α} {W0 : World} {G : List SL} {A : Option Addr} {xs : List α} {c r : Nat} (h : Rd W0 G E A xs) (hr : r ≤ xs.length) (hc : xs.length ≤ c) : Rd W0 G E A (xs.take r) := by
  have := h.part (c := c) (l := 0) (r := r) hr hc
  rw [List.drop_zero] at this
  refine (?_ : (if c = 0 then A else A.map (·.add (0 * E.sz))) = A) ▸ this
  split
  · rfl
  · cases A with
    | none => rfl
    | some a => simp [Addr.add]
theorem rd_drop {α : Type} {E : EncK α} {W0 : World} {G : List SL} {A : Option Addr} {xs : List α} {c l : Nat} (h : Rd W0 G E A xs) (hc : xs.length ≤ c) : Rd W0 G E (if c = l then A else A.map (·.add (l * E.sz))) (xs.drop l) := by
  have := h.part (c := c) (l := l) (r := xs.length) (Nat.le_refl _) hc
  rwa [List.take_length] at this
set_option maxHeartbeats 4000000 in
theorem t_Take (b : Nat) (m : List Msg) (i : Nat) (x : Msg) (hx : m[i]? = some x) (hm : m.length ≤ 50) (W0 : World) (F : List SL) :
    Fn Tryz.prog 45 [.pointer (some ⟨b, 0, none⟩), .int .i64 (i : Int)] W0 (rmailA b m :: F)
      (Ret fun v G' => v = .tuple #[.agg #[.int .i64 x.1, .string x.2], .bool true] ∧ G' = rmailA b (m.eraseIdx i) :: F) := by
  have hi := (List.getElem?_eq_some_iff.1 hx).1
  refine Fn.ex (fun w hs => rmailA_open w hs) ?_
  rintro ⟨A, c, A2, c2⟩
  simp only
  obtain ⟨zs, hz⟩ : ∃ zs : List Int, zs = List.replicate m.length 0 := ⟨_, rfl⟩
  have hzl : zs.length = m.length := by rw [hz, List.length_replicate]
  rw [← hz, show (Value.slice A2 m.length c2) = Value.slice A2 zs.length c2 from by rw [hzl]]
  refine Fn.fact (fun w hs => (⟨slc_cap (i := 1) rfl w hs, slc_cap (i := 2) rfl w hs⟩ : m.length ≤ c ∧ zs.length ≤ c2)) fun ⟨hc1, hc2⟩ => ?_
  refine Fn.enter Tryz.func45 rfl Tryz.ntmps45 rfl ?_
  repeat' (first|refine bA ?_|refine bkq fun q=>?_|(refine bk2 ?_ ?_<;>(first|exact bkn|(refine bkk ?_;intro h))))
  refine WL.idx TT (E := rmsgE) (Rd.slc (i := 2) rfl) rfl rfl rfl (by omega) (by rw [Int.toNat_natCast]; exact hx) rfl rfl rfl rfl (fun bb o hA => ?_)
  repeat' (first|refine bA ?_|refine bkq fun q=>?_|(refine bk2 ?_ ?_<;>(first|exact bkn|(refine bkk ?_;intro h))))
  refine WL.s (op1_at TT hA rfl rfl rfl rfl) rfl ?_
  repeat' (first|refine bA ?_|refine bkq fun q=>?_|(refine bk2 ?_ ?_<;>(first|exact bkn|(refine bkk ?_;intro h))))
  have hA0 : ∀ (z c0 : Nat) (B : Option Addr), (if c0 = (0 : Int).toNat then B else B.map (·.add ((0 : Int).toNat * z))) = B := fun z c0 B => by
    split
    · rfl
    · cases B with
      | none => rfl
      | some a => simp [Addr.add]
  refine WL.s (op1_sliceS (E := rmsgE) (xs := m) (l := 0) (r := (i : Int)) TT (by rfl) (by rfl) rfl rfl rfl rfl rfl (by omega) hc1) rfl ?_
  rw [hA0]
  simp only [Int.toNat_zero, Nat.sub_zero, Int.toNat_natCast]
  refine WL.turn (fun w hs => hs.slcNil rmsgE 72) ?_
  refine WL.append TT 0 (E := rmsgE) (xs := ([] : List Msg)) (ys := m.take i) rfl rfl rfl (by rw [List.length_take]; omega) rfl (rd_take (Rd.slc (i := 4) rfl) (by omega) hc1) rfl rfl rfl rfl rfl (by decide) (by simp only [List.length_nil, List.length_take]; omega) (fun _ _ => rfl) rfl (fun A6 c6 => ?_)
  rw [List.nil_append]
  repeat' (first|refine bA ?_|refine bkq fun q=>?_|(refine bk2 ?_ ?_<;>(first|exact bkn|(refine bkk ?_;intro h))))
  refine WL.s (op1_sliceS (E := intE) (xs := zs) (l := 0) (r := (i : Int)) TT (by rfl) (by rfl) rfl rfl rfl rfl rfl (by omega) hc2) rfl ?_
  rw [hA0]
  simp only [Int.toNat_zero, Nat.sub_zero, Int.toNat_natCast]
  refine WL.turn (fun w hs => hs.slcNil intE 3) ?_
  refine WL.append TT 0 (E := intE) (xs := ([] : List Int)) (ys := zs.take i) rfl rfl rfl (by rw [List.length_take]; omega) rfl (rd_take (Rd.slc (i := 6) rfl) (by omega) hc2) rfl rfl rfl rfl rfl (by decide) (by simp only [List.length_nil, List.length_take]; omega) (fun _ _ => rfl) rfl (fun A7 c7 => ?_)
  rw [List.nil_append]
  repeat' (first|refine bA ?_|refine bkq fun q=>?_|(refine bk2 ?_ ?_<;>(first|exact bkn|(refine bkk ?_;intro h))))
  refine WL.s (op1_sliceS (E := rmsgE) (xs := m) (l := (i : Int) + 1) (r := (m.length : Int)) TT (by rfl) (by rfl) rfl rfl rfl rfl rfl (by omega) hc1) rfl ?_
  rw [show ((i : Int) + 1).toNat = i + 1 from by omega, Int.toNat_natCast]
  refine WL.append TT 1 (E := rmsgE) (xs := m.take i) (ys := m.drop (i + 1)) rfl rfl rfl (by rw [List.length_drop]) rfl (rd_drop (Rd.slc (i := 5) rfl) hc1) rfl rfl rfl rfl rfl (by decide) (by simp only [List.length_drop, List.length_take]; omega) (fun _ _ => rfl) rfl (fun A8 c8 => ?_)
  rw [show m.take i ++ m.drop (i + 1) = m.eraseIdx i from (List.eraseIdx_eq_take_drop_succ ..).symm]
  repeat' (first|refine bA ?_|refine bkq fun q=>?_|(refine bk2 ?_ ?_<;>(first|exact bkn|(refine bkk ?_;intro h))))
  refine WL.s (op1_sliceS (E := intE) (xs := zs) (l := (i : Int) + 1) (r := (zs.length : Int)) TT (by rfl) (by rfl) rfl rfl rfl rfl rfl (by omega) hc2) rfl ?_
  rw [show ((i : Int) + 1).toNat = i + 1 from by omega, Int.toNat_natCast]
  refine WL.append TT 0 (E := intE) (xs := zs.take i) (ys := zs.drop (i + 1)) rfl rfl rfl (by rw [List.length_drop]) rfl (rd_drop (Rd.slc (i := 6) rfl) hc2) rfl rfl rfl rfl rfl (by decide) (by simp only [List.length_drop, List.length_take]; omega) (fun _ _ => rfl) rfl (fun A9 c9 => ?_)
  have hze : zs.take i ++ zs.drop (i + 1) = List.replicate (m.eraseIdx i).length (0 : Int) := by
    rw [hz, List.take_replicate, List.drop_replicate, List.replicate_append_replicate, List.length_eraseIdx, if_pos hi]
    congr 1
    omega
  rw [hze]
  repeat' (first|refine bA ?_|refine bkq fun q=>?_|(refine bk2 ?_ ?_<;>(first|exact bkn|(refine bkk ?_;intro h))))
  exact QS.turnR (G2 := rmailA b (m.eraseIdx i) :: F) (fun w hs => rmailA_shut (A := A8) (c := c8) (A2 := A9) (c2 := c9) w (by
    have h3 := hs.ord 7 [4, 1, 0] rfl
    rw [List.length_replicate] at h3
    exact h3)) (QS.retC TT 3 Tryz.results45 rfl rfl rfl rfl ⟨rfl, rfl, rfl⟩)
theorem t_TakeN (b : Nat) (m : List Msg) (i : Nat) (hi : m.length ≤ i) (hib : (i : Int) ≤ 9223372036854775807) (W0 : World) (F : List SL) :
    Fn Tryz.prog 45 [.pointer (some ⟨b, 0, none⟩), .int .i64 (i : Int)] W0 (rmailA b m :: F)
      (Ret fun v G' => v = .tuple #[.agg #[.int .i64 0, .string ⟨#[]⟩], .bool false] ∧ G' = rmailA b m :: F) := by
  refine Fn.ex (fun w hs => rmailA_open w hs) ?_
  rintro ⟨A, c, A2, c2⟩
  simp only
  refine Fn.enter Tryz.func45 rfl Tryz.ntmps45 rfl ?_
  repeat' (first|refine bA ?_|refine bkq fun q=>?_|(refine bk2 ?_ ?_<;>(first|exact bkn|(refine bkk ?_;intro h))))
  exact QS.turnR (G2 := rmailA b m :: F) (fun w hs => rmailA_shut (A := A) (c := c) (A2 := A2) (c2 := c2) w (hs.ord 4 [1, 2, 3] rfl)) (QS.retC TT 0 Tryz.results45 rfl rfl rfl rfl ⟨rfl, rfl, rfl⟩)
end Go.Proofs.YtfolmcpfdcgliaaGreat.B
