import Derived.Test.YtfolmcpfdcgliaaGreatMg47
set_option linter.unusedVariables false
set_option linter.unusedSimpArgs false
set_option maxRecDepth 8000
/-! QuorumLasts: the walk. -/
namespace Go.Proofs.YtfolmcpfdcgliaaGreat.B
open Go Go.Proofs
structure LM where
  s : Q2.St
  qb : List Nat
  Al : Option Addr
  cl : Nat
structure LOk (n : Nat) (y : LM) : Prop where
  inv : Q2.Inv n y.s
  qb : y.qb.length = 3
abbrev deedQ (u : DeedQ) : List Value := [.int .i64 u.kind, .int .i64 u.q, .int .i64 u.epoch, .string u.data, .slice u.fatesA u.fates.length u.fatesc, .int .i64 u.node, .int .i64 u.n, .slice u.keepsA u.keeps.length u.keepsc]
theorem inv_start {n : Nat} {xs : List Nd} (hN : New0 xs) (hl : xs.length = n) : Q2.Inv n ⟨xs, [], [⟨0, 0, false⟩, ⟨0, 0, false⟩, ⟨0, 0, false⟩], [], 0⟩ := by
  have hu := new0_hu hN
  refine ⟨hl, rfl, by simp, by simp, ⟨fun _ => none, fun _ => []⟩, ⟨⟨fun c l h => by simp at h⟩, fun i x hx => ?_, fun z hz => (by cases hz), fun c l hc => (by simp at hc)⟩, ⟨fun _ => rfl, Int.le_refl _, fun h => by simp at h, fun c l hc => by simp at hc⟩, fun i w hi => ?_, fun i j w w' _ hi _ hp => ?_⟩
  · obtain ⟨h1, h2⟩ := hu i x hx
    obtain ⟨e1, e2⟩ := hN x (List.mem_of_getElem? hx)
    refine ⟨h1.ok, .inl ⟨by rw [e1], by rw [e2]; rfl, ?_, .inl ⟨by rw [e1], by rw [e1]⟩⟩⟩
    rw [e1, e2]
    have hD := h1.ok.D
    rw [e2] at hD
    have hg := jFiles_get (p := 0) (e := 0) (xs := [])
    refine ⟨⟨well0.ok, Int.le_refl _, fun _ => rfl, hD, rfl, rfl, fun k _ _ _ _ => rfl, fun f hf => (by simp [jD, jFiles] at hf; cases hf), fun f hf => (by simp [jD, jFiles] at hf; cases hf)⟩, rfl⟩
  · have : w = ⟨0, 0, false⟩ := by
      have := List.mem_of_getElem? hi
      simpa using this
    subst this
    exact ⟨.inl rfl, by decide, by decide, by decide, by decide⟩
  · have : w = ⟨0, 0, false⟩ := by
      have := List.mem_of_getElem? hi
      simpa using this
    subst this
    simp at hp
attribute [local irreducible] WL CS QS WQ WH WS Fn Op1 row Sat
attribute [local irreducible] slc jA diskA mailA nodesA nodesX rjA refA rnodesA rnodesX rmailA wrsA wrsX
set_option maxHeartbeats 32000000 in
theorem law_QuorumLasts (a : Int) (ha : I64 a) (A : Option Addr) (k c : Nat) (ls : List DeedQ) (hk : k = ls.length) (hL : ∀ x ∈ ls, DeedQOk x) (W0 : World) (F : List SL) (hR : Rd W0 F dqE A ls) (hR2 : ∀ x ∈ ls, Rd W0 F intE x.fatesA x.fates) (hR3 : ∀ x ∈ ls, Rd W0 F intE x.keepsA x.keeps) :
    Fn Tryz.prog 7 [.int .i64 a, .slice A k c] W0 F (Ret fun v G' => v = .bool true ∧ G' = F) := by
  subst hk
  refine Fn.enter Tryz.func7 rfl Tryz.ntmps7 rfl ?_
  repeat' (first|refine bk ?_|refine bkc ?_|refine bks ?_|refine bkd ?_|refine bkq (fun q => ?_)|(refine bk2 ?_ ?_<;>(first|exact bkn|(refine bkk ?_;intro h))))
  refine WL.call c8 rfl rfl rfl rfl (law_examples W0 _) ?_
  rintro _ G2 ⟨rfl, hG2⟩
  rw [hG2]; clear hG2 G2
  repeat' (first|refine bk ?_|refine bkc ?_|refine bks ?_|refine bkd ?_|refine bkq (fun q => ?_)|(refine bk2 ?_ ?_<;>(first|exact bkn|(refine bkk ?_;intro h))))
  refine WL.call c9 rfl rfl rfl rfl (law_pick a 5 ha (by decide) W0 _) ?_
  rintro _ G2 ⟨rfl, hG2⟩
  rw [hG2]; clear hG2 G2
  have hp := pickM_range (n := a) (m := 5) (by decide)
  obtain ⟨n, hn, hn1⟩ : ∃ n : Nat, 1 + pickM a 5 = (n : Int) ∧ 1 ≤ n ∧ n ≤ 5 := ⟨(1 + pickM a 5).toNat, by omega, by omega, by omega⟩
  obtain ⟨hn1, hn5⟩ := hn1
  repeat' (first|refine bk ?_|refine bkc ?_|refine bks ?_|refine bkd ?_|refine bkq (fun q => ?_)|(refine bk2 ?_ ?_<;>(first|exact bkn|(refine bkk ?_;intro h))))
  rw [hn]
  refine WL.call c10 rfl rfl rfl rfl (law_begun n hn5 W0 _) ?_
  rintro _ _ ⟨br, bm, b17, bn, ⟨xs, ys, Ad, cd, Aj, cj, Ax, cx, Ay, cy⟩, hN, hl, hly, rfl, rfl⟩
  simp only at hN hl hly ⊢
  refine WL.turn (G' := row br 35 (rlC Ad Aj n cd cj bm) :: slc bpE 76 Ad cd (xs.map (·.d)) :: jsA Aj cj bm xs [] F) (fun w hs => by rw [← hl]; exact hs.ord 10 [0, 1, 2, 3, 4] rfl) ?_
  refine WL.fact (p := n ≤ cj ∧ ∃ g, Aj = some ⟨g, 0, none⟩) (fun w hs => by
    obtain ⟨h1, _, h2⟩ := slc_at (i := 2) rfl w hs
    rw [List.length_map] at h1
    refine ⟨by omega, h2.resolve_left (fun h => ?_)⟩
    have := congrArg List.length h.2.2
    rw [List.length_map] at this
    simp at this; omega) (fun hcj => ?_)
  obtain ⟨hcj, gj, hgj⟩ := hcj
  repeat' (first|refine bk ?_|refine bkc ?_|refine bks ?_|refine bkq (fun q => ?_)|(refine bk2 ?_ ?_<;>(first|exact bkn|(refine bkk ?_;intro h))))
  refine CS.loop (X := {y : List Nat × Option Addr × Nat // y.1.length ≤ 3}) (fun y => [(1, .slice A ls.length c), (5, .bool true), (6, .pointer (some ⟨br, 0, none⟩)), (9, .slice y.1.2.1 y.1.1.length y.1.2.2), (10, .int .i64 (y.1.1.length : Int))])
    (fun y => wrsA Aj n cj bm y.1.1 (List.replicate y.1.1.length ⟨0, 0, false⟩) :: slc bpE 29 y.1.2.1 y.1.2.2 y.1.1 :: row br 35 (rlC Ad Aj n cd cj bm) :: slc bpE 76 Ad cd (xs.map (·.d)) :: jsA Aj cj bm xs [] F) (fun _ => True) (fun y => 3 - y.1.1.length) ⟨([], none, 0), by decide⟩ ⟨rfl, rfl, rfl, rfl, rfl, trivial⟩ (fun w hs => wrs_none w (hs.slcNil bpE 29)) trivial ?_
  rintro ⟨⟨qb, Aq, cq⟩, hq⟩ _
  simp only at hq ⊢
  by_cases hq3 : qb.length < 3
  · repeat' (first|refine bk ?_|refine bkc ?_|refine bks ?_|refine bkq (fun q => ?_)|(refine bk2 ?_ ?_<;>(first|exact bkn|(refine bkk ?_;intro h))))
    refine CS.drawA (row br 35 (rlC Ad Aj n cd cj bm) :: F) (fun w hs => hs.ord 7 [2] rfl) mixed (by kernel_rfl) rfl ?_
    repeat' (first|refine bka ?_|(refine bk2a ?_ ?_<;>(first|exact bkn|(refine bkk ?_;intro h))))
    refine WA.e1 9 (by kernel_rfl) (by kernel_rfl) rfl rfl (EffC.call c11 rfl rfl rfl (q_New Aj n cj bm hn5 hcj W0 _)) rfl ?_
    rintro _ _ ⟨bq, rfl, rfl⟩
    refine ⟨fun w hs => hs.ord 8 [3] rfl, ?_⟩
    refine WA.e1 10 (by kernel_rfl) (by kernel_rfl) rfl rfl (EffC.of (Eff.buildSlice TT rfl rfl rfl rfl rfl rfl rfl)) rfl ?_
    rintro _ _ ⟨q2, rfl, rfl⟩
    refine ⟨fun w hs => hs.ord 9 [4] rfl, ?_⟩
    refine WA.e1 11 (by kernel_rfl) (by kernel_rfl) rfl rfl (EffC.of (Eff.append TT (E := bpE) (xs := qb) (ys := [bq]) 3 rfl rfl rfl rfl rfl (Rd.row (i := 0) rfl rfl) rfl rfl rfl rfl rfl (by decide) (by simp only [List.length_cons, List.length_nil]; omega) (fun _ _ => rfl))) rfl ?_
    rintro _ _ ⟨A5, c5, rfl, rfl⟩
    refine ⟨fun w hs => hs.ord 9 [4] rfl, ?_⟩
    repeat' (first|refine bka ?_|(refine bk2a ?_ ?_<;>(first|exact bkn|(refine bkk ?_;intro h))))
    refine WA.fin (by kernel_rfl) ?_
    repeat' (first|refine bk ?_|refine bkc ?_|refine bks ?_|refine bkd ?_|refine bkq (fun q => ?_)|(refine bk2 ?_ ?_<;>(first|exact bkn|(refine bkk ?_;intro h))))
    have hlen : (qb ++ [bq]).length = qb.length + 1 := by simp
    refine QS.again ⟨(qb ++ [bq], A5, c5), by simp only [hlen]; omega⟩ trivial (by simp only [hlen]; omega) ⟨rfl, rfl, rfl, rfl, ?_, trivial⟩ (fun w hs => ?_)
    · simp only [hlen]
      rw [show ((qb.length + 1 : Nat) : Int) = (qb.length : Int) + 1 from by omega]; rfl
    · simp only [hlen, List.replicate_succ']
      exact wrs_snoc (by simp) w (hs.ord 5 [1, 2, 3, 4] rfl)
  have hq3 : qb.length = 3 := by omega
  refine CS.fact (p := ∃ g, Aq = some ⟨g, 0, none⟩) (fun w hs => by
    obtain ⟨_, _, h2⟩ := slc_at (i := 1) rfl w hs
    exact h2.resolve_left (fun h => by rw [h.2.2] at hq3; simp at hq3)) (fun hgq => ?_)
  obtain ⟨gq, hgq⟩ := hgq
  have hrep : List.replicate 3 (⟨0, 0, false⟩ : Wr) = [⟨0, 0, false⟩, ⟨0, 0, false⟩, ⟨0, 0, false⟩] := rfl
  rw [hq3, hrep]
  repeat' (first|refine bk ?_|refine bkc ?_|refine bks ?_|refine bkq (fun q => ?_)|(refine bk2 ?_ ?_<;>(first|exact bkn|(refine bkk ?_;intro h))))
  refine CS.loop (X := LM × Nat) (fun y => [(1, .slice A ls.length c), (5, .bool true), (6, .pointer (some ⟨br, 0, none⟩)), (9, .slice Aq 3 cq), (11, .slice y.1.Al y.1.s.done.length y.1.cl), (12, .int .i64 y.1.s.last), (13, .int .i64 (y.2 : Int))]) (fun y => row br 35 (rlC Ad Aj n cd cj bm) :: wrsA Aj n cj bm y.1.qb y.1.s.ws :: slc bpE 29 Aq cq y.1.qb :: slc entE 49 y.1.Al y.1.cl y.1.s.done :: slc bpE 76 Ad cd (y.1.s.xs.map (·.d)) :: jsA Aj cj bm y.1.s.xs y.1.s.m F) (fun y => LOk n y.1 ∧ y.2 ≤ ls.length) (fun y => ls.length - y.2) (⟨⟨xs, [], [⟨0, 0, false⟩, ⟨0, 0, false⟩, ⟨0, 0, false⟩], [], 0⟩, qb, none, 0⟩, 0) ⟨rfl, rfl, rfl, rfl, rfl, rfl, rfl, trivial⟩ (fun w hs => by have h1 := hs.slcNil entE 49; simp only; exact h1.ord 8 [3, 1, 2, 0, 4, 5, 6, 7] rfl) ⟨⟨inv_start hN hl, hq3⟩, Nat.zero_le _⟩ ?_
  clear hq hq3 hN hly hl xs
  rintro ⟨⟨s, qb, Al, cl⟩, i⟩ ⟨hO, hi⟩
  simp only at hO hi ⊢
  have hInv : Q2.Inv n s := hO.inv
  have hlen := hInv.len
  have hqb : qb.length = 3 := hO.qb
  have hw3 := hInv.w3
  have hdl := hInv.dl
  have hm50 := hInv.m50
  by_cases hgo : i < ls.length ∧ i < 60
  rotate_left 1
  · repeat' (first|refine bk ?_|refine bkc ?_|refine bks ?_|refine bkd ?_|refine bkq (fun q => ?_)|(refine bk2 ?_ ?_<;>(first|exact bkn|(refine bkk ?_;intro h))))
    all_goals first
      | exact QS.turn (G' := F) (fun w hs => hs.ord 8 [] rfl) (QS.retV Tryz.results7 rfl ⟨rfl, rfl⟩)
      | (exfalso; omega)
  obtain ⟨hg1, hg2⟩ := hgo
  obtain ⟨u, hu⟩ : ∃ x, ls[i]? = some x := ⟨ls[i]'(by omega), List.getElem?_eq_getElem (by omega)⟩
  have hum := List.mem_of_getElem? hu
  have huo := hL u hum
  repeat' (first|refine bk ?_|refine bkc ?_|refine bks ?_|refine bkq (fun q => ?_)|(refine bk2 ?_ ?_<;>(first|exact bkn|(refine bkk ?_;intro h))))
  refine WL.idx TT hR.cons.cons.cons.cons.cons.cons.cons.cons rfl rfl rfl (by omega) (by rw [Int.toNat_natCast]; exact hu) rfl rfl rfl rfl (fun bb o hA => ?_)
  refine WL.s (op1_at TT hA rfl rfl rfl rfl) rfl ?_
  repeat' (first|refine bk ?_|refine bkc ?_|refine bkd ?_|refine bkq (fun q => ?_)|(refine bk2 ?_ ?_<;>(first|exact bkn|(refine bkk ?_;intro h))))
  revert q; intro q14
  refine CS.cutB (X := LM) (fun y => [(1, .slice A ls.length c), (5, .bool true), (6, .pointer (some ⟨br, 0, none⟩)), (9, .slice Aq 3 cq), (11, .slice y.Al y.s.done.length y.cl), (12, .int .i64 y.s.last), (13, .int .i64 (i : Int))]) (fun y => row q14 64 (deedQ u) :: row br 35 (rlC Ad Aj n cd cj bm) :: wrsA Aj n cj bm y.qb y.s.ws :: slc bpE 29 Aq cq y.qb :: slc entE 49 y.Al y.cl y.s.done :: slc bpE 76 Ad cd (y.s.xs.map (·.d)) :: jsA Aj cj bm y.s.xs y.s.m F) (LOk n) ?_ ?_
  rotate_left 1
  · rintro ⟨s2, qb2, Al2, cl2⟩ hO2
    simp only
    repeat' (first|refine bk ?_|refine bkc ?_|refine bks ?_|refine bkd ?_|refine bkq (fun q => ?_)|(refine bk2 ?_ ?_<;>(first|exact bkn|(refine bkk ?_;intro h))))
    exact QS.again (⟨s2, qb2, Al2, cl2⟩, i + 1) ⟨hO2, by show i + 1 ≤ ls.length; omega⟩ (by show ls.length - (i + 1) < ls.length - i; omega) ⟨rfl, rfl, rfl, rfl, rfl, rfl, rfl, trivial⟩ (fun w hs => hs.drop)
  repeat' (first|refine bk ?_|refine bkc ?_|refine bks ?_|refine bkq (fun q => ?_)|(refine bk2 ?_ ?_<;>(first|exact bkn|(refine bkk ?_;intro h))))
  refine WL.call c9 rfl rfl rfl rfl (law_pick u.q 3 huo.q (by decide) W0 _) ?_
  rintro _ G2 ⟨rfl, hG2⟩
  rw [hG2]; clear hG2 G2
  have hp3 := pickM_range (n := u.q) (m := 3) (by decide)
  obtain ⟨k, hk, hk3⟩ : ∃ k : Nat, pickM u.q 3 = (k : Int) ∧ k < 3 := ⟨(pickM u.q 3).toNat, by omega, by omega⟩
  rw [hk]
  obtain ⟨bw, hbw⟩ : ∃ b, qb[k]? = some b := ⟨qb[k]'(by omega), List.getElem?_eq_getElem (by omega)⟩
  obtain ⟨w, hwk⟩ : ∃ w, s.ws[k]? = some w := ⟨s.ws[k]'(by omega), List.getElem?_eq_getElem (by omega)⟩
  have hwb : 0 ≤ w.n ∧ w.n ≤ 300 ∧ 0 ≤ w.e ∧ w.e ≤ 9007199254740991 := by
    obtain ⟨g, _, _, h3, _⟩ := hInv.g
    exact (h3 k w hwk).2
  repeat' (first|refine bk ?_|refine bkc ?_|refine bks ?_|refine bkq (fun q => ?_)|(refine bk2 ?_ ?_<;>(first|exact bkn|(refine bkk ?_;intro h))))
  refine WL.idx TT (E := bpE) (Rd.slc (i := 3) rfl) rfl rfl hqb.symm (by omega) (x := bw) (by rw [Int.toNat_natCast]; exact hbw) rfl rfl rfl rfl (fun b9 o9 hA9 => ?_)
  refine WL.s (op1_at TT hA9 rfl rfl rfl rfl) rfl ?_
  repeat' (first|refine bk ?_|refine bkc ?_|refine bks ?_|refine bkq (fun q => ?_)|(refine bk2 ?_ ?_<;>(first|exact bkn|(refine bkk ?_;intro h))))
  refine WL.call c9 rfl rfl rfl rfl (law_pick u.kind 12 huo.kind (by decide) W0 _) ?_
  rintro _ G2 ⟨rfl, hG2⟩
  rw [hG2]; clear hG2 G2
  have hp12 := pickM_range (n := u.kind) (m := 12) (by decide)
  generalize pickM u.kind 12 = p at hp12 ⊢
  repeat' (first|refine bk ?_|refine bkc ?_|refine bkd ?_|refine bkq (fun q => ?_)|(refine bk2 ?_ ?_<;>(first|exact bkn|(refine bkk ?_;intro h))))
  have hfl : u.fates.length ≤ 9223372036854775807 := by have := huo.fates.1; unfold maxLen at this; omega
  have hopen : ∀ W, Sat W0 (row q14 64 (deedQ u) :: row br 35 (rlC Ad Aj n cd cj bm) :: wrsA Aj n cj bm qb s.ws :: slc bpE 29 Aq cq qb :: slc entE 49 Al cl s.done :: slc bpE 76 Ad cd (s.xs.map (·.d)) :: jsA Aj cj bm s.xs s.m F) W → Sat W0 (row bw 92 (wrC Aj n cj bm w) :: jsA Aj cj bm s.xs s.m (wrsX Aj n cj bm qb s.ws k :: row q14 64 (deedQ u) :: row br 35 (rlC Ad Aj n cd cj bm) :: slc bpE 29 Aq cq qb :: slc entE 49 Al cl s.done :: slc bpE 76 Ad cd (s.xs.map (·.d)) :: F)) W := fun W hs =>
    (wrs_open hbw hwk W (hs.ord 9 [2, 0, 1, 3, 4, 5, 6, 7, 8] rfl)).ord 10 [0, 7, 8, 9, 1, 2, 3, 4, 5, 6] rfl
  refine CS.seq ?_
  refine CS.cut (X := Unit) (fun _ => [(1, .slice A ls.length c), (5, .bool true), (6, .pointer (some ⟨br, 0, none⟩)), (9, .slice Aq 3 cq), (11, .slice Al s.done.length cl), (12, .int .i64 s.last), (13, .int .i64 (i : Int)), (14, .pointer (some ⟨q14, 0, none⟩)), (15, .int .i64 (k : Int)), (16, .pointer (some ⟨bw, 0, none⟩)), (78, .int .i64 p), (91, .bool (decide (p = 0 ∨ p = 1)))]) (fun _ => row q14 64 (deedQ u) :: row br 35 (rlC Ad Aj n cd cj bm) :: wrsA Aj n cj bm qb s.ws :: slc bpE 29 Aq cq qb :: slc entE 49 Al cl s.done :: slc bpE 76 Ad cd (s.xs.map (·.d)) :: jsA Aj cj bm s.xs s.m F) (fun _ => True) ?_ ?_
  · repeat' (first|refine bk ?_|refine bkc ?_|refine bks ?_|refine bkd ?_|refine bkq (fun q => ?_)|(refine bk2 ?_ ?_<;>(first|exact bkn|(refine bkk ?_;intro h))))
    · exact QS.met () trivial ⟨rfl, rfl, rfl, rfl, rfl, rfl, rfl, rfl, rfl, rfl, rfl, by simp only [h]; rfl, trivial⟩ (fun W hs => hs)
    · refine QS.met () trivial ⟨rfl, rfl, rfl, rfl, rfl, rfl, rfl, rfl, rfl, rfl, rfl, ?_, trivial⟩ (fun W hs => hs)
      simp only [h, false_or]; rfl
  rintro _ _
  by_cases h91 : p = 0 ∨ p = 1
  · -- a writer begins
    simp only [h91, decide_true]
    obtain ⟨r, hr⟩ : ∃ r, beginM w s.xs s.m u.epoch u.fates = r := ⟨_, rfl⟩
    obtain ⟨k1, k2, k3, k4, k5⟩ := begin_ok2 (w := w) hInv.oks hm50 u.epoch u.fates
    rw [hr] at k1 k2 k3 k4 k5
    have hb := hInv.begin hwk u.epoch u.fates hr k4
    repeat' (first|refine bk ?_|refine bkc ?_|refine bks ?_|refine bkq (fun q => ?_)|(refine bk2 ?_ ?_<;>(first|exact bkn|(refine bkk ?_;intro h))))
    refine WL.call c12 rfl rfl rfl rfl ((q_Begin2 (bq := bw) (Aj := Aj) (cj := cj) (bm := bm) (n := n) hr hlen hInv.oks hn5 hm50 huo.epoch (A := u.fatesA) (k := u.fates.length) (c := u.fatesc) rfl huo.fates.1.1 hfl huo.fates.2 W0 (wrsX Aj n cj bm qb s.ws k :: row q14 64 (deedQ u) :: row br 35 (rlC Ad Aj n cd cj bm) :: slc bpE 29 Aq cq qb :: slc entE 49 Al cl s.done :: slc bpE 76 Ad cd (s.xs.map (·.d)) :: F) (hR2 u hum).cons.cons.cons.cons.cons.cons).pre hopen) ?_
    rintro _ _ ⟨Al2, cl2, rfl, rfl⟩
    have hshut : ∀ W, Sat W0 (row bw 92 (wrC Aj n cj bm r.w) :: jsA Aj cj bm r.xs r.m (wrsX Aj n cj bm qb s.ws k :: row q14 64 (deedQ u) :: row br 35 (rlC Ad Aj n cd cj bm) :: slc bpE 29 Aq cq qb :: slc entE 49 Al cl s.done :: slc bpE 76 Ad cd (s.xs.map (·.d)) :: F)) W → Sat W0 (row q14 64 (deedQ u) :: row br 35 (rlC Ad Aj n cd cj bm) :: wrsA Aj n cj bm qb (s.ws.set k r.w) :: slc bpE 29 Aq cq qb :: slc entE 49 Al cl s.done :: slc bpE 76 Ad cd (r.xs.map (·.d)) :: jsA Aj cj bm r.xs r.m F) W := fun W hs => by
      rw [k5]
      exact (wrs_put hbw hwk W (hs.ord 10 [0, 4, 5, 6, 7, 8, 9, 1, 2, 3] rfl)).ord 9 [1, 2, 0, 3, 4, 5, 6, 7, 8] rfl
    rcases hb with ⟨e1, hI⟩ | ⟨e1, e2, e3, hI⟩
    · repeat' (first|refine bk ?_|refine bkc ?_|refine bks ?_|refine bkd ?_|refine bkq (fun q => ?_)|(refine bk2 ?_ ?_<;>(first|exact bkn|(refine bkk ?_;intro h))))
      exact QS.met ⟨{ s with xs := r.xs, m := r.m, ws := s.ws.set k r.w }, qb, Al, cl⟩ ⟨hI, hqb⟩ ⟨rfl, rfl, rfl, rfl, rfl, rfl, rfl, trivial⟩ (fun W hs => hshut W hs.drop)
    · have hle := e2.length_le
      refine WL.fact (p := r.l.length ≤ cl2) (slc_cap (i := 0) rfl) (fun hcl2 => ?_)
      have hrl := hI.dl
      simp only at hrl
      repeat' (first|refine bk ?_|refine bkc ?_|refine bks ?_|refine bkq (fun q => ?_)|(refine bk2 ?_ ?_<;>(first|exact bkn|(refine bkk ?_;intro h))))
      refine WL.call c21 rfl rfl rfl rfl (law_begins Al2 Al _ cl2 _ cl r.l s.done rfl hcl2 rfl (by omega) W0 _ (Rd.slc (i := 0) rfl) (Rd.slc (i := 9) rfl)) ?_
      rintro _ G2 ⟨rfl, hG2⟩
      rw [hG2, Q2.beg_of e2]; clear hG2 G2
      repeat' (first|refine bk ?_|refine bkc ?_|refine bks ?_|refine bkd ?_|refine bkq (fun q => ?_)|(refine bk2 ?_ ?_<;>(first|exact bkn|(refine bkk ?_;intro h))))
      exact QS.met ⟨⟨r.xs, r.m, s.ws.set k r.w, r.l, u.epoch⟩, qb, Al2, cl2⟩ ⟨hI, hqb⟩ ⟨rfl, rfl, rfl, rfl, rfl, rfl, rfl, trivial⟩ (fun W hs => by
        have h1 := hshut W hs.drop
        have h2 : Sat W0 (slc entE 49 Al2 cl2 r.l :: row q14 64 (deedQ u) :: row br 35 (rlC Ad Aj n cd cj bm) :: wrsA Aj n cj bm qb (s.ws.set k r.w) :: slc bpE 29 Aq cq qb :: slc entE 49 Al cl s.done :: slc bpE 76 Ad cd (r.xs.map (·.d)) :: jsA Aj cj bm r.xs r.m F) W := by
          rw [k5]
          exact (wrs_put hbw hwk W (hs.ord 11 [1, 5, 0, 6, 7, 8, 9, 10, 2, 3, 4] rfl)).ord 10 [1, 2, 3, 0, 4, 5, 6, 7, 8, 9] rfl
        exact h2.ord 10 [1, 2, 3, 4, 0, 6, 7, 8, 9] rfl)
  · simp only [h91, decide_false]
    repeat' (first|refine bk ?_|refine bkc ?_|refine bkd ?_|refine bkq (fun q => ?_)|(refine bk2 ?_ ?_<;>(first|exact bkn|(refine bkk ?_;intro h))))
    refine CS.seq ?_
    refine CS.cut (X := Unit) (fun _ => [(1, .slice A ls.length c), (5, .bool true), (6, .pointer (some ⟨br, 0, none⟩)), (9, .slice Aq 3 cq), (11, .slice Al s.done.length cl), (12, .int .i64 s.last), (13, .int .i64 (i : Int)), (14, .pointer (some ⟨q14, 0, none⟩)), (15, .int .i64 (k : Int)), (16, .pointer (some ⟨bw, 0, none⟩)), (78, .int .i64 p), (125, .bool (decide (p = 2 ∨ p = 3 ∨ p = 4 ∨ p = 5)))]) (fun _ => row q14 64 (deedQ u) :: row br 35 (rlC Ad Aj n cd cj bm) :: wrsA Aj n cj bm qb s.ws :: slc bpE 29 Aq cq qb :: slc entE 49 Al cl s.done :: slc bpE 76 Ad cd (s.xs.map (·.d)) :: jsA Aj cj bm s.xs s.m F) (fun _ => True) ?_ ?_
    · repeat' (first|refine bk ?_|refine bkc ?_|refine bks ?_|refine bkd ?_|refine bkq (fun q => ?_)|(refine bk2 ?_ ?_<;>(first|exact bkn|(refine bkk ?_;intro h))))
      all_goals
        refine QS.met () trivial ⟨rfl, rfl, rfl, rfl, rfl, rfl, rfl, rfl, rfl, rfl, rfl, ?_, trivial⟩ (fun W hs => hs)
        simp [*]; try rfl
    rintro _ _
    by_cases h125 : p = 2 ∨ p = 3 ∨ p = 4 ∨ p = 5
    · -- a writer writes
      simp only [h125, decide_true]
      obtain ⟨r, hr⟩ : ∃ r, writeM w s.xs s.m u.data u.fates = r := ⟨_, rfl⟩
      obtain ⟨k1, k2, k3, k4, k5⟩ := write_ok2 (w := w) hInv.oks hm50 u.data u.fates
      rw [hr] at k1 k2 k3 k4 k5
      have hb := hInv.write hwk u.data u.fates hr k4
      have hds : u.data.size ≤ 9223372036854775807 := huo.data
      repeat' (first|refine bk ?_|refine bkc ?_|refine bks ?_|refine bkq (fun q => ?_)|(refine bk2 ?_ ?_<;>(first|exact bkn|(refine bkk ?_;intro h))))
      refine WL.turn hopen ?_
      refine WL.call c15 rfl rfl rfl rfl (q_Epoch bw Aj n cj bm w W0 _) ?_
      rintro _ _ ⟨rfl, rfl⟩
      repeat' (first|refine bk ?_|refine bkc ?_|refine bks ?_|refine bkq (fun q => ?_)|(refine bk2 ?_ ?_<;>(first|exact bkn|(refine bkk ?_;intro h))))
      refine WL.call c14 rfl rfl rfl rfl (q_Many bw Aj n cj bm w W0 _) ?_
      rintro _ _ ⟨rfl, rfl⟩
      repeat' (first|refine bk ?_|refine bkc ?_|refine bks ?_|refine bkq (fun q => ?_)|(refine bk2 ?_ ?_<;>(first|exact bkn|(refine bkk ?_;intro h))))
      refine WL.call c13 rfl rfl rfl rfl ((q_Write2 (bq := bw) (Aj := Aj) (cj := cj) (bm := bm) (n := n) hr hlen hInv.oks hn5 hm50 ⟨by omega, by omega⟩ (by unfold I64; omega) hds (A := u.fatesA) (k := u.fates.length) (c := u.fatesc) rfl huo.fates.2 W0 (wrsX Aj n cj bm qb s.ws k :: row q14 64 (deedQ u) :: row br 35 (rlC Ad Aj n cd cj bm) :: slc bpE 29 Aq cq qb :: slc entE 49 Al cl s.done :: slc bpE 76 Ad cd (s.xs.map (·.d)) :: F) (hR2 u hum).cons.cons.cons.cons.cons.cons).pre (fun _ h => h)) ?_
      rintro _ _ ⟨rfl, rfl⟩
      have hshut : ∀ W, Sat W0 (row bw 92 (wrC Aj n cj bm r.w) :: jsA Aj cj bm r.xs r.m (wrsX Aj n cj bm qb s.ws k :: row q14 64 (deedQ u) :: row br 35 (rlC Ad Aj n cd cj bm) :: slc bpE 29 Aq cq qb :: slc entE 49 Al cl s.done :: slc bpE 76 Ad cd (s.xs.map (·.d)) :: F)) W → Sat W0 (row q14 64 (deedQ u) :: row br 35 (rlC Ad Aj n cd cj bm) :: wrsA Aj n cj bm qb (s.ws.set k r.w) :: slc bpE 29 Aq cq qb :: slc entE 49 Al cl s.done :: slc bpE 76 Ad cd (r.xs.map (·.d)) :: jsA Aj cj bm r.xs r.m F) W := fun W hs => by
        rw [k5]
        exact (wrs_put hbw hwk W (hs.ord 10 [0, 4, 5, 6, 7, 8, 9, 1, 2, 3] rfl)).ord 9 [1, 2, 0, 3, 4, 5, 6, 7, 8] rfl
      rcases hb with ⟨e1, hI⟩ | ⟨e1, e2, e3, hI⟩
      · repeat' (first|refine bk ?_|refine bkc ?_|refine bks ?_|refine bkd ?_|refine bkq (fun q => ?_)|(refine bk2 ?_ ?_<;>(first|exact bkn|(refine bkk ?_;intro h))))
        exact QS.met ⟨{ s with xs := r.xs, m := r.m, ws := s.ws.set k r.w }, qb, Al, cl⟩ ⟨hI, hqb⟩ ⟨rfl, rfl, rfl, rfl, rfl, rfl, rfl, trivial⟩ (fun W hs => hshut W hs)
      · have hdl2 := hI.dl
        repeat' (first|refine bk ?_|refine bkc ?_|refine bks ?_|refine bkq (fun q => ?_)|(refine bk2 ?_ ?_<;>(first|exact bkn|(refine bkk ?_;intro h))))
        refine CS.turn (fun W hs => hs.slcNil entE 49) ?_
        refine CS.drawA (row q14 64 (deedQ u) :: slc entE 49 Al cl s.done :: F) (fun W hs => hs.ord 11 [6, 9] rfl) mixed (by kernel_rfl) rfl ?_
        repeat' (first|refine bka ?_|(refine bk2a ?_ ?_<;>(first|exact bkn|(refine bkk ?_;intro h))))
        (apply WA.at 2 (by kernel_rfl) rfl (by kernel_rfl) rfl;(focus (first|exact op1_pure1 TT rfl|exact op1_load TT 0 rfl rfl rfl|exact op1_load TT 1 rfl rfl rfl|exact op1_load TT 2 rfl rfl rfl|exact op1_load TT 3 rfl rfl rfl|exact op1_load TT 4 rfl rfl rfl|exact op1_load TT 5 rfl rfl rfl|exact op1_load TT 6 rfl rfl rfl|exact op1_load TT 7 rfl rfl rfl|exact op1_load TT 8 rfl rfl rfl|exact op1_add TT rfl rfl (by omega)|exact op1_sub TT rfl rfl (by omega)|exact op1_mul TT rfl rfl (by omega)|exact op1_conv TT rfl rfl rfl (by omega)|exact op1_neg TT rfl (by omega)|exact op1_cat rfl rfl (by omega)|exact op1_pure TT rfl|exact op1_build TT rfl rfl rfl rfl rfl rfl|exact op1_buildA TT rfl rfl rfl rfl rfl|exact op1_lenM TT 0 rfl rfl rfl|exact op1_lenM TT 1 rfl rfl rfl|exact op1_lenM TT 2 rfl rfl rfl|exact op1_lenM TT 3 rfl rfl rfl));exact rfl)
        (apply WA.at 3 (by kernel_rfl) rfl (by kernel_rfl) rfl;(focus (first|exact op1_pure1 TT rfl|exact op1_load TT 0 rfl rfl rfl|exact op1_load TT 1 rfl rfl rfl|exact op1_load TT 2 rfl rfl rfl|exact op1_load TT 3 rfl rfl rfl|exact op1_load TT 4 rfl rfl rfl|exact op1_load TT 5 rfl rfl rfl|exact op1_load TT 6 rfl rfl rfl|exact op1_load TT 7 rfl rfl rfl|exact op1_load TT 8 rfl rfl rfl|exact op1_add TT rfl rfl (by omega)|exact op1_sub TT rfl rfl (by omega)|exact op1_mul TT rfl rfl (by omega)|exact op1_conv TT rfl rfl rfl (by omega)|exact op1_neg TT rfl (by omega)|exact op1_cat rfl rfl (by omega)|exact op1_pure TT rfl|exact op1_build TT rfl rfl rfl rfl rfl rfl|exact op1_buildA TT rfl rfl rfl rfl rfl|exact op1_lenM TT 0 rfl rfl rfl|exact op1_lenM TT 1 rfl rfl rfl|exact op1_lenM TT 2 rfl rfl rfl|exact op1_lenM TT 3 rfl rfl rfl));exact rfl)
        (apply WA.at 4 (by kernel_rfl) rfl (by kernel_rfl) rfl;(focus (first|exact op1_pure1 TT rfl|exact op1_load TT 0 rfl rfl rfl|exact op1_load TT 1 rfl rfl rfl|exact op1_load TT 2 rfl rfl rfl|exact op1_load TT 3 rfl rfl rfl|exact op1_load TT 4 rfl rfl rfl|exact op1_load TT 5 rfl rfl rfl|exact op1_load TT 6 rfl rfl rfl|exact op1_load TT 7 rfl rfl rfl|exact op1_load TT 8 rfl rfl rfl|exact op1_add TT rfl rfl (by omega)|exact op1_sub TT rfl rfl (by omega)|exact op1_mul TT rfl rfl (by omega)|exact op1_conv TT rfl rfl rfl (by omega)|exact op1_neg TT rfl (by omega)|exact op1_cat rfl rfl (by omega)|exact op1_pure TT rfl|exact op1_build TT rfl rfl rfl rfl rfl rfl|exact op1_buildA TT rfl rfl rfl rfl rfl|exact op1_lenM TT 0 rfl rfl rfl|exact op1_lenM TT 1 rfl rfl rfl|exact op1_lenM TT 2 rfl rfl rfl|exact op1_lenM TT 3 rfl rfl rfl));exact rfl)
        (apply WA.at 5 (by kernel_rfl) rfl (by kernel_rfl) rfl;(focus (first|exact op1_pure1 TT rfl|exact op1_load TT 0 rfl rfl rfl|exact op1_load TT 1 rfl rfl rfl|exact op1_load TT 2 rfl rfl rfl|exact op1_load TT 3 rfl rfl rfl|exact op1_load TT 4 rfl rfl rfl|exact op1_load TT 5 rfl rfl rfl|exact op1_load TT 6 rfl rfl rfl|exact op1_load TT 7 rfl rfl rfl|exact op1_load TT 8 rfl rfl rfl|exact op1_add TT rfl rfl (by omega)|exact op1_sub TT rfl rfl (by omega)|exact op1_mul TT rfl rfl (by omega)|exact op1_conv TT rfl rfl rfl (by omega)|exact op1_neg TT rfl (by omega)|exact op1_cat rfl rfl (by omega)|exact op1_pure TT rfl|exact op1_build TT rfl rfl rfl rfl rfl rfl|exact op1_buildA TT rfl rfl rfl rfl rfl|exact op1_lenM TT 0 rfl rfl rfl|exact op1_lenM TT 1 rfl rfl rfl|exact op1_lenM TT 2 rfl rfl rfl|exact op1_lenM TT 3 rfl rfl rfl));exact rfl)
        (apply WA.at 6 (by kernel_rfl) rfl (by kernel_rfl) rfl;(focus (first|exact op1_pure1 TT rfl|exact op1_load TT 0 rfl rfl rfl|exact op1_load TT 1 rfl rfl rfl|exact op1_load TT 2 rfl rfl rfl|exact op1_load TT 3 rfl rfl rfl|exact op1_load TT 4 rfl rfl rfl|exact op1_load TT 5 rfl rfl rfl|exact op1_load TT 6 rfl rfl rfl|exact op1_load TT 7 rfl rfl rfl|exact op1_load TT 8 rfl rfl rfl|exact op1_add TT rfl rfl (by omega)|exact op1_sub TT rfl rfl (by omega)|exact op1_mul TT rfl rfl (by omega)|exact op1_conv TT rfl rfl rfl (by omega)|exact op1_neg TT rfl (by omega)|exact op1_cat rfl rfl (by omega)|exact op1_pure TT rfl|exact op1_build TT rfl rfl rfl rfl rfl rfl|exact op1_buildA TT rfl rfl rfl rfl rfl|exact op1_lenM TT 0 rfl rfl rfl|exact op1_lenM TT 1 rfl rfl rfl|exact op1_lenM TT 2 rfl rfl rfl|exact op1_lenM TT 3 rfl rfl rfl));exact rfl)
        refine WA.e2 1 7 (by kernel_rfl) (by kernel_rfl) rfl rfl rfl rfl (EffC.of (Eff.append TT (E := entE) (xs := ([] : List Ent)) (ys := s.done) 0 rfl rfl rfl rfl rfl (Rd.slc (i := 9) rfl) rfl rfl rfl rfl rfl (by decide) (by simp only [List.length_nil]; omega) (fun _ _ => rfl))) (EffC.of (Eff.buildSlice TT rfl rfl rfl rfl rfl rfl rfl)) rfl rfl ?_ ?_
        focus
          rintro _ _ ⟨A3, c3, rfl, rfl⟩
          refine ⟨fun W hs => hs.ord 11 [6, 9] rfl, ?_⟩
          rw [List.nil_append]
          refine WA.e1 7 (by kernel_rfl) (by kernel_rfl) rfl rfl (EffC.of (Eff.buildSlice TT rfl rfl rfl rfl rfl rfl rfl)) rfl ?_
          rintro _ _ ⟨b3, rfl, rfl⟩
          refine ⟨fun W hs => hs.ord 12 [7, 10] rfl, ?_⟩
        rotate_left
        focus
          rintro _ _ ⟨b3, rfl, rfl⟩
          refine ⟨fun W hs => hs.ord 12 [7, 10] rfl, ?_⟩
          refine WA.e1 1 (by kernel_rfl) (by kernel_rfl) rfl rfl (EffC.of (Eff.append TT (E := entE) (xs := ([] : List Ent)) (ys := s.done) 1 rfl rfl rfl rfl rfl (Rd.slc (i := 10) rfl) rfl rfl rfl rfl rfl (by decide) (by simp only [List.length_nil]; omega) (fun _ _ => rfl))) rfl ?_
          rintro _ _ ⟨A3, c3, rfl, rfl⟩
          refine ⟨fun W hs => hs.ord 12 [7, 10] rfl, ?_⟩
          rw [List.nil_append]
        all_goals
          refine WA.e1 8 (by kernel_rfl) (by kernel_rfl) rfl rfl (EffC.of (Eff.append TT (E := entE) (xs := s.done) (ys := [⟨w.n + 1, u.data⟩]) 1 rfl rfl rfl rfl rfl (Rd.row (i := 0) rfl rfl) rfl rfl rfl rfl rfl (by decide) (by simp only [List.length_cons, List.length_nil]; omega) (fun _ _ => rfl))) rfl ?_
          rintro _ _ ⟨A4, c4, rfl, rfl⟩
          refine ⟨fun W hs => hs.ord 12 [7, 10] rfl, ?_⟩
          repeat' (first|refine bka ?_|(refine bk2a ?_ ?_<;>(first|exact bkn|(refine bkk ?_;intro h))))
          refine WA.fin (by kernel_rfl) ?_
          repeat' (first|refine bk ?_|refine bkc ?_|refine bks ?_|refine bkd ?_|refine bkq (fun q => ?_)|(refine bk2 ?_ ?_<;>(first|exact bkn|(refine bkk ?_;intro h))))
          exact QS.met ⟨⟨r.xs, r.m, s.ws.set k r.w, s.done ++ [⟨w.n + 1, u.data⟩], s.last⟩, qb, A4, c4⟩ ⟨hI, hqb⟩ ⟨rfl, rfl, rfl, rfl, rfl, rfl, rfl, trivial⟩ (fun W hs => by
            simp only
            rw [k5]
            exact (wrs_put hbw hwk W (hs.ord 12 [2, 6, 1, 7, 8, 9, 11, 3, 4, 5] rfl)).ord 9 [2, 3, 0, 4, 1, 5, 6, 7, 8] rfl)
    · simp only [h125, decide_false]
      by_cases h6 : p = 6
      · -- what is read
        repeat' (first|refine bk ?_|refine bkc ?_|refine bks ?_|refine bkq (fun q => ?_)|(refine bk2 ?_ ?_<;>(first|exact bkn|(refine bkk ?_;intro h))))
        have hc := q_Read bw Aj cj bm w s.xs hInv.oks (by omega) u.fatesA u.fates.length u.fatesc u.fates rfl huo.fates.2 W0 (mailA bm s.m :: wrsX Aj n cj bm qb s.ws k :: row q14 64 (deedQ u) :: row br 35 (rlC Ad Aj n cd cj bm) :: slc bpE 29 Aq cq qb :: slc entE 49 Al cl s.done :: slc bpE 76 Ad cd (s.xs.map (·.d)) :: F) (hR2 u hum).cons.cons.cons.cons.cons.cons.cons
        rw [hlen] at hc
        refine WL.call c17 rfl rfl rfl rfl (hc.pre hopen) ?_
        clear hc
        rintro _ _ ⟨out, er, Al2, cl2, hrd, rfl, rfl⟩
        refine WL.fact (p := (out.length ≤ cl2 ∧ cl2 ≤ maxLen) ∧ s.done.length ≤ cl) (fun W hs => ⟨⟨(slc_at (i := 0) rfl W hs).1, (slc_at (i := 0) rfl W hs).2.1⟩, slc_cap (i := 9) rfl W hs⟩) (fun hcaps => ?_)
        obtain ⟨⟨hcp1, hcp2⟩, hcp3⟩ := hcaps
        unfold maxLen at hcp2
        have hback : ∀ W, Sat W0 (slc entE 49 Al2 cl2 out :: row bw 92 (wrC Aj n cj bm w) :: jsA Aj cj bm s.xs s.m (wrsX Aj n cj bm qb s.ws k :: row q14 64 (deedQ u) :: row br 35 (rlC Ad Aj n cd cj bm) :: slc bpE 29 Aq cq qb :: slc entE 49 Al cl s.done :: slc bpE 76 Ad cd (s.xs.map (·.d)) :: F)) W → Sat W0 (row q14 64 (deedQ u) :: row br 35 (rlC Ad Aj n cd cj bm) :: wrsA Aj n cj bm qb s.ws :: slc bpE 29 Aq cq qb :: slc entE 49 Al cl s.done :: slc bpE 76 Ad cd (s.xs.map (·.d)) :: jsA Aj cj bm s.xs s.m F) W := fun W hs => by
          have h1 := (wrs_put hbw hwk W (hs.ord 11 [1, 5, 6, 7, 8, 9, 10, 2, 3, 4] rfl)).ord 9 [1, 2, 0, 3, 4, 5, 6, 7, 8] rfl (G' := row q14 64 (deedQ u) :: row br 35 (rlC Ad Aj n cd cj bm) :: wrsA Aj n cj bm qb (s.ws.set k w) :: slc bpE 29 Aq cq qb :: slc entE 49 Al cl s.done :: slc bpE 76 Ad cd (s.xs.map (·.d)) :: jsA Aj cj bm s.xs s.m F)
          rwa [set_same hwk] at h1
        by_cases her : er = 0
        · rw [her] at hrd
          have hcmp := hInv.read hrd
          repeat' (first|refine bk ?_|refine bkc ?_|refine bks ?_|refine bkq (fun q => ?_)|(refine bk2 ?_ ?_<;>(first|exact bkn|(refine bkk ?_;intro h))))
          refine WL.call c21 rfl rfl rfl rfl (law_begins Al Al2 _ cl _ cl2 s.done out rfl hcp3 rfl (by omega) W0 _ (Rd.slc (i := 9) rfl) (Rd.slc (i := 0) rfl)) ?_
          rintro _ G2 ⟨rfl, hG2⟩
          rw [hG2]; clear hG2 G2
          by_cases hb1 : begB out s.done = true
          · rw [hb1]
            repeat' (first|refine bk ?_|refine bkc ?_|refine bks ?_|refine bkq (fun q => ?_)|(refine bk2 ?_ ?_<;>(first|exact bkn|(refine bkk ?_;intro h))))
            exact QS.met ⟨s, qb, Al, cl⟩ hO ⟨rfl, rfl, rfl, rfl, rfl, rfl, rfl, trivial⟩ (fun W hs => hback W hs)
          · have hb2 : begB s.done out = true := by
              rcases hcmp with h | h
              · exact Q2.beg_of h
              · exact absurd (Q2.beg_of h) hb1
            rw [Bool.not_eq_true] at hb1
            rw [hb1]
            repeat' (first|refine bk ?_|refine bkc ?_|refine bks ?_|refine bkq (fun q => ?_)|(refine bk2 ?_ ?_<;>(first|exact bkn|(refine bkk ?_;intro h))))
            refine WL.call c21 rfl rfl rfl rfl (law_begins Al2 Al _ cl2 _ cl out s.done rfl hcp1 rfl (by omega) W0 _ (Rd.slc (i := 0) rfl) (Rd.slc (i := 9) rfl)) ?_
            rintro _ G2 ⟨rfl, hG2⟩
            rw [hG2, hb2]; clear hG2 G2
            repeat' (first|refine bk ?_|refine bkc ?_|refine bks ?_|refine bkq (fun q => ?_)|(refine bk2 ?_ ?_<;>(first|exact bkn|(refine bkk ?_;intro h))))
            exact QS.met ⟨s, qb, Al, cl⟩ hO ⟨rfl, rfl, rfl, rfl, rfl, rfl, rfl, trivial⟩ (fun W hs => hback W hs)
        · repeat' (first|refine bk ?_|refine bkc ?_|refine bks ?_|refine bkq (fun q => ?_)|(refine bk2 ?_ ?_<;>(first|exact bkn|(refine bkk ?_;intro h))))
          exact QS.met ⟨s, qb, Al, cl⟩ hO ⟨rfl, rfl, rfl, rfl, rfl, rfl, rfl, trivial⟩ (fun W hs => hback W hs)
      · repeat' (first|refine bk ?_|refine bkc ?_|refine bkd ?_|refine bkq (fun q => ?_)|(refine bk2 ?_ ?_<;>(first|exact bkn|(refine bkk ?_;intro h))))
        refine CS.seq ?_
        repeat' (first|refine bk ?_|refine bkc ?_|refine bkd ?_|refine bkq (fun q => ?_)|(refine bk2 ?_ ?_<;>(first|exact bkn|(refine bkk ?_;intro h))))
        refine CS.seq ?_
        refine CS.cut (X := Unit) (fun _ => [(1, .slice A ls.length c), (5, .bool true), (6, .pointer (some ⟨br, 0, none⟩)), (9, .slice Aq 3 cq), (11, .slice Al s.done.length cl), (12, .int .i64 s.last), (13, .int .i64 (i : Int)), (14, .pointer (some ⟨q14, 0, none⟩)), (15, .int .i64 (k : Int)), (16, .pointer (some ⟨bw, 0, none⟩)), (78, .int .i64 p), (182, .bool (decide (p = 7 ∨ p = 8)))]) (fun _ => row q14 64 (deedQ u) :: row br 35 (rlC Ad Aj n cd cj bm) :: wrsA Aj n cj bm qb s.ws :: slc bpE 29 Aq cq qb :: slc entE 49 Al cl s.done :: slc bpE 76 Ad cd (s.xs.map (·.d)) :: jsA Aj cj bm s.xs s.m F) (fun _ => True) ?_ ?_
        · repeat' (first|refine bk ?_|refine bkc ?_|refine bks ?_|refine bkd ?_|refine bkq (fun q => ?_)|(refine bk2 ?_ ?_<;>(first|exact bkn|(refine bkk ?_;intro h))))
          all_goals
            refine QS.met () trivial ⟨rfl, rfl, rfl, rfl, rfl, rfl, rfl, rfl, rfl, rfl, rfl, ?_, trivial⟩ (fun W hs => hs)
            simp [*]; try rfl
        rintro _ _
        obtain ⟨j, hj, hjn⟩ : ∃ j : Nat, pickM u.node (n : Int) = (j : Int) ∧ j < n := by
          have := pickM_range (n := u.node) (m := (n : Int)) (by omega)
          exact ⟨(pickM u.node (n : Int)).toNat, by omega, by omega⟩
        obtain ⟨x, hx⟩ : ∃ x, s.xs[j]? = some x := ⟨s.xs[j]'(by omega), List.getElem?_eq_getElem (by omega)⟩
        have hxd : (s.xs.map (·.d))[(j : Int).toNat]? = some x.d := by rw [Int.toNat_natCast, List.getElem?_map, hx]; rfl
        have hxo := hInv.oks x (List.mem_of_getElem? hx)
        by_cases h182 : p = 7 ∨ p = 8
        · -- a message comes
          simp only [h182, decide_true]
          obtain ⟨j8, hj8, hj8n⟩ : ∃ j8 : Nat, pickM u.n 8 = (j8 : Int) ∧ j8 < 8 := by
            have := pickM_range (n := u.n) (m := 8) (by decide)
            exact ⟨(pickM u.n 8).toNat, by omega, by omega⟩
          have hpk : ∀ G', (∀ W, Sat W0 G' W → Sat W0 (row q14 64 (deedQ u) :: row br 35 (rlC Ad Aj n cd cj bm) :: F) W) → Fn Tryz.prog 9 [.int .i64 u.n, .int .i64 8] W0 G' (Ret fun v G'' => v = .int .i64 (j8 : Int) ∧ G'' = G') := fun G' _ => by
            have := law_pick u.n 8 huo.n (by decide) W0 G'
            rwa [hj8] at this
          repeat' (first|refine bk ?_|refine bkc ?_|refine bks ?_|refine bkq (fun q => ?_)|(refine bk2 ?_ ?_<;>(first|exact bkn|(refine bkk ?_;intro h))))
          refine CS.drawA (row q14 64 (deedQ u) :: row br 35 (rlC Ad Aj n cd cj bm) :: F) (fun W hs => hs.ord 9 [0, 1] rfl) mixed (by kernel_rfl) rfl ?_
          repeat' (first|refine bka ?_|(refine bk2a ?_ ?_<;>(first|exact bkn|(refine bkk ?_;intro h))))
          refine WA.call rfl rfl (by kernel_rfl) rfl c9 rfl rfl rfl rfl hpk ?_
          cases hz : s.m[j8]? with
          | none =>
            have hmj := List.getElem?_eq_none_iff.1 hz
            refine WA.e2 7 11 (by kernel_rfl) (by kernel_rfl) rfl rfl rfl rfl (EffC.call c22 rfl rfl rfl ((mail_TakeN bm s.m j8 hmj (by omega) W0 _).pre (fun W hs => hs.front (i := 8) rfl))) (EffC.alloc TT rfl rfl) rfl rfl ?_ ?_
            focus
              rintro _ _ ⟨rfl, rfl⟩
              refine ⟨fun W hs => hs.ord 9 [1, 2] rfl, ?_⟩
              repeat' (first|refine bka ?_|(refine bk2a ?_ ?_<;>(first|exact bkn|(refine bkk ?_;intro h))))
              refine WA.e1 11 (by kernel_rfl) (by kernel_rfl) rfl rfl (EffC.alloc TT rfl rfl) rfl ?_
              rintro _ _ ⟨b3, rfl, rfl⟩
              refine ⟨fun W hs => hs.ord 10 [2, 3] rfl, ?_⟩
              refine WA.e1 12 (by kernel_rfl) (by kernel_rfl) rfl rfl (EffC.store TT 0 rfl rfl rfl rfl rfl rfl rfl rfl rfl) rfl ?_
              rintro _ _ ⟨rfl, rfl⟩
              refine ⟨fun W hs => hs.ord 10 [2, 3] rfl, ?_⟩
              repeat' (first|refine bka ?_|(refine bk2a ?_ ?_<;>(first|exact bkn|(refine bkk ?_;intro h))))
              refine WA.fin (by kernel_rfl) ?_
              repeat' (first|refine bk ?_|refine bkc ?_|refine bks ?_|refine bkq (fun q => ?_)|(refine bk2 ?_ ?_<;>(first|exact bkn|(refine bkk ?_;intro h))))
              exact QS.met ⟨s, qb, Al, cl⟩ hO ⟨rfl, rfl, rfl, rfl, rfl, rfl, rfl, trivial⟩ (fun W hs => hs.ord 10 [2, 3, 4, 5, 6, 7, 8, 9, 1] rfl)
            focus
              rintro _ _ ⟨b3, rfl, rfl⟩
              refine ⟨fun W hs => hs.ord 10 [1, 2] rfl, ?_⟩
              refine WA.e1 7 (by kernel_rfl) (by kernel_rfl) rfl rfl (EffC.call c22 rfl rfl rfl ((mail_TakeN bm s.m j8 hmj (by omega) W0 _).pre (fun W hs => hs.front (i := 9) rfl))) rfl ?_
              rintro _ _ ⟨rfl, rfl⟩
              refine ⟨fun W hs => hs.ord 10 [2, 3] rfl, ?_⟩
              repeat' (first|refine bka ?_|(refine bk2a ?_ ?_<;>(first|exact bkn|(refine bkk ?_;intro h))))
              refine WA.e1 12 (by kernel_rfl) (by kernel_rfl) rfl rfl (EffC.store TT 1 rfl rfl rfl rfl rfl rfl rfl rfl rfl) rfl ?_
              rintro _ _ ⟨rfl, rfl⟩
              refine ⟨fun W hs => hs.ord 10 [2, 3] rfl, ?_⟩
              repeat' (first|refine bka ?_|(refine bk2a ?_ ?_<;>(first|exact bkn|(refine bkk ?_;intro h))))
              refine WA.fin (by kernel_rfl) ?_
              repeat' (first|refine bk ?_|refine bkc ?_|refine bks ?_|refine bkq (fun q => ?_)|(refine bk2 ?_ ?_<;>(first|exact bkn|(refine bkk ?_;intro h))))
              exact QS.met ⟨s, qb, Al, cl⟩ hO ⟨rfl, rfl, rfl, rfl, rfl, rfl, rfl, trivial⟩ (fun W hs => hs.ord 10 [2, 3, 4, 5, 6, 7, 8, 9, 0] rfl)
          | some z =>
            obtain ⟨i2, x2, hz1, hx2, hsz, hI2⟩ := hInv.take hz
            obtain ⟨zi, zs⟩ := z
            simp only at hz1 hsz hI2
            subst hz1
            have hi2n : i2 < s.xs.length := (List.getElem?_eq_some_iff.1 hx2).1
            have hxb : (s.xs.map (·.b))[(i2 : Int).toNat]? = some x2.b := by rw [Int.toNat_natCast, List.getElem?_map, hx2]; rfl
            refine WA.e2 7 11 (by kernel_rfl) (by kernel_rfl) rfl rfl rfl rfl (EffC.call c22 rfl rfl rfl ((mail_Take bm s.m j8 _ hz hm50 W0 _).pre (fun W hs => hs.front (i := 8) rfl))) (EffC.alloc TT rfl rfl) rfl rfl ?_ ?_
            focus
              rintro _ _ ⟨rfl, rfl⟩
              refine ⟨fun W hs => hs.ord 9 [1, 2] rfl, ?_⟩
              repeat' (first|refine bka ?_|(refine bk2a ?_ ?_<;>(first|exact bkn|(refine bkk ?_;intro h))))
              refine WA.e1 11 (by kernel_rfl) (by kernel_rfl) rfl rfl (EffC.alloc TT rfl rfl) rfl ?_
              rintro _ _ ⟨b3, rfl, rfl⟩
              refine ⟨fun W hs => hs.ord 10 [2, 3] rfl, ?_⟩
              refine WA.e1 12 (by kernel_rfl) (by kernel_rfl) rfl rfl (EffC.store TT 0 rfl rfl rfl rfl rfl rfl rfl rfl rfl) rfl ?_
              rintro _ _ ⟨rfl, rfl⟩
              refine ⟨fun W hs => hs.ord 10 [2, 3] rfl, ?_⟩
              repeat' (first|refine bka ?_|(refine bk2a ?_ ?_<;>(first|exact bkn|(refine bkk ?_;intro h))))
              refine WA.fin (by kernel_rfl) ?_
              repeat' (first|refine bk ?_|refine bkc ?_|refine bks ?_|refine bkq (fun q => ?_)|(refine bk2 ?_ ?_<;>(first|exact bkn|(refine bkk ?_;intro h))))
              refine CS.turn (G' := row b3 72 [.int .i64 (i2 : Int), .string zs] :: row q14 64 (deedQ u) :: row br 35 (rlC Ad Aj n cd cj bm) :: wrsA Aj n cj bm qb s.ws :: slc bpE 29 Aq cq qb :: slc entE 49 Al cl s.done :: slc bpE 76 Ad cd (s.xs.map (·.d)) :: slc bpE 46 Aj cj (s.xs.map (·.b)) :: nodesA s.xs :: mailA bm (s.m.eraseIdx j8) :: F) (fun W hs => hs.ord 10 [0, 2, 3, 4, 5, 6, 7, 8, 9, 1] rfl) ?_
            rotate_left
            focus
              rintro _ _ ⟨b3, rfl, rfl⟩
              refine ⟨fun W hs => hs.ord 10 [1, 2] rfl, ?_⟩
              refine WA.e1 7 (by kernel_rfl) (by kernel_rfl) rfl rfl (EffC.call c22 rfl rfl rfl ((mail_Take bm s.m j8 _ hz hm50 W0 _).pre (fun W hs => hs.front (i := 9) rfl))) rfl ?_
              rintro _ _ ⟨rfl, rfl⟩
              refine ⟨fun W hs => hs.ord 10 [2, 3] rfl, ?_⟩
              repeat' (first|refine bka ?_|(refine bk2a ?_ ?_<;>(first|exact bkn|(refine bkk ?_;intro h))))
              refine WA.e1 12 (by kernel_rfl) (by kernel_rfl) rfl rfl (EffC.store TT 1 rfl rfl rfl rfl rfl rfl rfl rfl rfl) rfl ?_
              rintro _ _ ⟨rfl, rfl⟩
              refine ⟨fun W hs => hs.ord 10 [2, 3] rfl, ?_⟩
              repeat' (first|refine bka ?_|(refine bk2a ?_ ?_<;>(first|exact bkn|(refine bkk ?_;intro h))))
              refine WA.fin (by kernel_rfl) ?_
              repeat' (first|refine bk ?_|refine bkc ?_|refine bks ?_|refine bkq (fun q => ?_)|(refine bk2 ?_ ?_<;>(first|exact bkn|(refine bkk ?_;intro h))))
              refine CS.turn (G' := row b3 72 [.int .i64 (i2 : Int), .string zs] :: row q14 64 (deedQ u) :: row br 35 (rlC Ad Aj n cd cj bm) :: wrsA Aj n cj bm qb s.ws :: slc bpE 29 Aq cq qb :: slc entE 49 Al cl s.done :: slc bpE 76 Ad cd (s.xs.map (·.d)) :: slc bpE 46 Aj cj (s.xs.map (·.b)) :: nodesA s.xs :: mailA bm (s.m.eraseIdx j8) :: F) (fun W hs => hs.ord 10 [1, 2, 3, 4, 5, 6, 7, 8, 9, 0] rfl) ?_
            all_goals
              refine CS.world fun hwd => ?_
              refine CS.drawT 10 mixed (by kernel_rfl) rfl ?_
              repeat' (first|refine bk ?_|refine bkc ?_|refine bks ?_|refine bkd ?_|refine bkh ?_|refine bkq (fun q => ?_)|((first|refine bk2 ?_ ?_|refine bk2h ?_ ?_)<;>(first|exact bkn|(refine bkk ?_;intro h))))
              refine WH.idx TT (E := bpE) (Rd.slc (i := 7) rfl) rfl rfl (by rw [List.length_map]; exact hlen.symm) (by omega) (x := x2.b) hxb rfl rfl rfl rfl hwd (fun b4 o4 hA4 => ?_)
              refine WH.s (op1_at TT hA4 rfl rfl rfl rfl) rfl ?_
              repeat' (first|refine bk ?_|refine bkc ?_|refine bks ?_|refine bkd ?_|refine bkh ?_|refine bkq (fun q => ?_)|((first|refine bk2 ?_ ?_|refine bk2h ?_ ?_)<;>(first|exact bkn|(refine bkk ?_;intro h))))
              refine WL.call c23 rfl rfl rfl rfl ((q_hand hx2 (hInv.oks x2 (List.mem_of_getElem? hx2)) zs (by omega) W0 _).pre (fun W hs => hs.front (i := 8) rfl)) ?_
              rintro _ _ ⟨rfl, rfl⟩
              repeat' (first|refine bk ?_|refine bkc ?_|refine bks ?_|refine bkd ?_|refine bkq (fun q => ?_)|(refine bk2 ?_ ?_<;>(first|exact bkn|(refine bkk ?_;intro h))))
              exact QS.met ⟨{ s with xs := s.xs.set i2 (x2.hand (bs zs)), m := s.m.eraseIdx j8 }, qb, Al, cl⟩ ⟨hI2, hqb⟩ ⟨rfl, rfl, rfl, rfl, rfl, rfl, rfl, trivial⟩ (fun W hs => by
                simp only [jsA]
                rw [map_set_b (y := x2.hand (bs zs)) hx2 (·.d) rfl, map_set_b (y := x2.hand (bs zs)) hx2 (·.b) rfl]
                exact hs.ord 10 [2, 3, 4, 5, 6, 7, 8, 0, 9] rfl)
        · simp only [h182, decide_false]
          by_cases h9 : p = 9
          · -- a fuse
            repeat' (first|refine bk ?_|refine bkc ?_|refine bks ?_|refine bkq (fun q => ?_)|(refine bk2 ?_ ?_<;>(first|exact bkn|(refine bkk ?_;intro h))))
            refine CS.world fun hwd => ?_
            refine CS.drawT 16 mixed (by kernel_rfl) rfl ?_
            repeat' (first|refine bk ?_|refine bkc ?_|refine bks ?_|refine bkd ?_|refine bkh ?_|refine bkq (fun q => ?_)|((first|refine bk2 ?_ ?_|refine bk2h ?_ ?_)<;>(first|exact bkn|(refine bkk ?_;intro h))))
            refine WH.call c9 rfl rfl rfl rfl (law_pick u.node (n : Int) huo.node (by omega) W0 _) ?_
            rw [hj]
            repeat' (first|refine bk ?_|refine bkc ?_|refine bks ?_|refine bkd ?_|refine bkh ?_|refine bkq (fun q => ?_)|((first|refine bk2 ?_ ?_|refine bk2h ?_ ?_)<;>(first|exact bkn|(refine bkk ?_;intro h))))
            refine WH.idx TT (E := bpE) (Rd.slc (i := 5) rfl) rfl rfl (by rw [List.length_map]; exact hlen.symm) (by omega) (x := x.d) hxd rfl rfl rfl rfl hwd (fun b4 o4 hA4 => ?_)
            refine WH.s (op1_at TT hA4 rfl rfl rfl rfl) rfl ?_
            repeat' (first|refine bk ?_|refine bkc ?_|refine bks ?_|refine bkd ?_|refine bkh ?_|refine bkq (fun q => ?_)|((first|refine bk2 ?_ ?_|refine bk2h ?_ ?_)<;>(first|exact bkn|(refine bkk ?_;intro h))))
            refine WL.call c24 rfl rfl rfl rfl ((q_Fuse hx u.n W0 _).pre (fun W hs => hs.front (i := 7) rfl)) ?_
            rintro _ _ ⟨rfl, rfl⟩
            repeat' (first|refine bk ?_|refine bkc ?_|refine bks ?_|refine bkd ?_|refine bkq (fun q => ?_)|(refine bk2 ?_ ?_<;>(first|exact bkn|(refine bkk ?_;intro h))))
            exact QS.met ⟨{ s with xs := s.xs.set j ⟨x.b, x.d, x.J, x.D.light u.n⟩ }, qb, Al, cl⟩ ⟨hInv.fuse hx huo.n.2, hqb⟩ ⟨rfl, rfl, rfl, rfl, rfl, rfl, rfl, trivial⟩ (fun W hs => by
              simp only [jsA]
              rw [map_set_b (y := ⟨x.b, x.d, x.J, x.D.light u.n⟩) hx (·.d) rfl, map_set_b (y := ⟨x.b, x.d, x.J, x.D.light u.n⟩) hx (·.b) rfl]
              exact hs.ord 9 [1, 2, 3, 4, 5, 6, 7, 0, 8] rfl)
          · by_cases h10 : p = 10
            · -- a node falls
              have hkk := huo.keeps
              unfold maxLen at hkk
              repeat' (first|refine bk ?_|refine bkc ?_|refine bks ?_|refine bkd ?_|refine bkq (fun q => ?_)|(refine bk2 ?_ ?_<;>(first|exact bkn|(refine bkk ?_;intro h))))
              refine WQ.call c9 rfl rfl rfl rfl (law_pick u.node (n : Int) huo.node (by omega) W0 _) ?_
              rw [hj]
              repeat' (first|refine bk ?_|refine bkc ?_|refine bks ?_|refine bkq (fun q => ?_)|(refine bk2 ?_ ?_<;>(first|exact bkn|(refine bkk ?_;intro h))))
              refine CS.world fun hwd => ?_
              refine CS.drawT 9 mixed (by kernel_rfl) rfl ?_
              repeat' (first|refine bk ?_|refine bkc ?_|refine bks ?_|refine bkd ?_|refine bkh ?_|refine bkq (fun q => ?_)|((first|refine bk2 ?_ ?_|refine bk2h ?_ ?_)<;>(first|exact bkn|(refine bkk ?_;intro h))))
              refine WH.idx TT (E := bpE) (Rd.slc (i := 5) rfl) rfl rfl (by rw [List.length_map]; exact hlen.symm) (by omega) (x := x.d) hxd rfl rfl rfl rfl hwd (fun b4 o4 hA4 => ?_)
              refine WH.s (op1_at TT hA4 rfl rfl rfl rfl) rfl ?_
              repeat' (first|refine bk ?_|refine bkc ?_|refine bks ?_|refine bkd ?_|refine bkh ?_|refine bkq (fun q => ?_)|((first|refine bk2 ?_ ?_|refine bk2h ?_ ?_)<;>(first|exact bkn|(refine bkk ?_;intro h))))
              refine WL.call c25 rfl rfl rfl rfl ((q_Crash hx hxo.D (A := u.keepsA) (c := u.keepsc) (keeps := u.keeps) hkk.2 (by omega) W0 _ (hR3 u hum).cons.cons.cons.cons.cons.cons.cons.cons).pre (fun W hs => hs.front (i := 7) rfl)) ?_
              rintro _ _ ⟨rfl, rfl⟩
              have hx1 : (s.xs.set j ⟨x.b, x.d, x.J, x.D.crash u.keeps⟩)[j]? = some ⟨x.b, x.d, x.J, x.D.crash u.keeps⟩ := set_at hx
              repeat' (first|refine bk ?_|refine bkc ?_|refine bks ?_|refine bkq (fun q => ?_)|(refine bk2 ?_ ?_<;>(first|exact bkn|(refine bkk ?_;intro h))))
              refine WL.idx TT (E := bpE) (Rd.slc (i := 6) rfl) rfl rfl (by rw [List.length_map]; exact hlen.symm) (by omega) (x := x.d) hxd rfl rfl rfl rfl (fun b5 o5 hA5 => ?_)
              refine WL.s (op1_at TT hA5 rfl rfl rfl rfl) rfl ?_
              refine WL.call c26 rfl rfl rfl rfl (q_Open hx1 (crash_ok hxo.D u.keeps) (hInv.crash hx u.keeps 0).1 W0 _) ?_
              rintro _ _ ⟨bz, rfl, rfl⟩
              rw [List.set_set]
              subst hgj
              repeat' (first|refine bk ?_|refine bkc ?_|refine bks ?_|refine bkq (fun q => ?_)|(refine bk2 ?_ ?_<;>(first|exact bkn|(refine bkk ?_;intro h))))
              refine WL.s (op1_idxA TT bpE rfl rfl (by omega) rfl rfl rfl) rfl ?_
              refine WL.storeS TT (E := bpE) 7 (j := j) (k := 0) (z := x.b) (z' := bz) rfl rfl rfl (by rw [Int.toNat_natCast]; rfl) (by rw [List.getElem?_map, hx]; rfl) rfl rfl rfl rfl rfl rfl ?_
              repeat' (first|refine bk ?_|refine bkc ?_|refine bks ?_|refine bkd ?_|refine bkq (fun q => ?_)|(refine bk2 ?_ ?_<;>(first|exact bkn|(refine bkk ?_;intro h))))
              exact QS.met ⟨{ s with xs := s.xs.set j ⟨bz, x.d, (openJ (x.D.crash u.keeps)).2.1, (openJ (x.D.crash u.keeps)).2.2⟩ }, qb, Al, cl⟩ ⟨(hInv.crash hx u.keeps bz).2, hqb⟩ ⟨rfl, rfl, rfl, rfl, rfl, rfl, rfl, trivial⟩ (fun W hs => by
                simp only [jsA]
                rw [map_set_b (y := ⟨bz, x.d, (openJ (x.D.crash u.keeps)).2.1, (openJ (x.D.crash u.keeps)).2.2⟩) hx (·.d) rfl, List.map_set]
                exact hs.ord 9 [1, 2, 3, 4, 5, 6, 7, 0, 8] rfl)
            · -- another writer
              repeat' (first|refine bk ?_|refine bkc ?_|refine bks ?_|refine bkq (fun q => ?_)|(refine bk2 ?_ ?_<;>(first|exact bkn|(refine bkk ?_;intro h))))
              subst hgq
              refine CS.drawE (row br 35 (rlC Ad Aj n cd cj bm) :: F) 12 (fun W hs => hs.ord 9 [1] rfl) mixed (by kernel_rfl) rfl ?_
              repeat' (first|refine bka ?_|(refine bk2a ?_ ?_<;>(first|exact bkn|(refine bkk ?_;intro h))))
              refine WA.e1 10 (by kernel_rfl) (by kernel_rfl) rfl rfl (EffC.call c11 rfl rfl rfl (q_New Aj n cj bm hn5 hcj W0 _)) rfl ?_
              rintro _ _ ⟨bz, rfl, rfl⟩
              refine ⟨fun W hs => hs.ord 10 [2] rfl, ?_⟩
              refine WA.at 11 (by kernel_rfl) rfl (by kernel_rfl) rfl (op1_idxA TT bpE rfl rfl (by omega) rfl rfl rfl) rfl ?_
              refine WA.last (by kernel_rfl) (by kernel_rfl) (by kernel_rfl) rfl rfl (EffC.storeS TT (E := bpE) 4 (j := k) (k := 0) (z := bw) (z' := bz) rfl rfl rfl (by rw [Int.toNat_natCast]; rfl) hbw rfl rfl rfl rfl rfl rfl) rfl ?_
              rintro _ _ ⟨rfl, rfl⟩
              repeat' (first|refine bk ?_|refine bkc ?_|refine bks ?_|refine bkd ?_|refine bkq (fun q => ?_)|(refine bk2 ?_ ?_<;>(first|exact bkn|(refine bkk ?_;intro h))))
              exact QS.met ⟨{ s with ws := s.ws.set k ⟨0, 0, false⟩ }, qb.set k bz, Al, cl⟩ ⟨hInv.fresh k, by simp only [List.length_set]; exact hqb⟩ ⟨rfl, rfl, rfl, rfl, rfl, rfl, rfl, trivial⟩ (fun W hs => by
                have h1 := wrs_open hbw hwk W (hs.ord 10 [3, 0, 1, 2, 4, 5, 6, 7, 8, 9] rfl)
                exact (wrs_shut hbw hwk W (h1.ord 11 [2, 1, 3, 4, 5, 6, 7, 8, 9, 10] rfl)).ord 9 [1, 2, 0, 3, 4, 5, 6, 7, 8] rfl)
end Go.Proofs.YtfolmcpfdcgliaaGreat.B
