import Derived.Test.YtgebdehpoalfbaaMg20
set_option linter.unusedVariables false
set_option linter.unusedSimpArgs false
set_option maxRecDepth 8000
/-! What the blocks' laws are made of. -/
namespace Go.Proofs.Ytgebdehpoalfbaa.B
open Go Go.Proofs
attribute [local irreducible] WL CS QS WQ WH WS Fn Op1 row Sat
attribute [local irreducible] slc mapb bmA inners
theorem law_pick (n m : Int) (hn : -9223372036854775808 ≤ n ∧ n ≤ 9223372036854775807) (hm : 0 < m) (W0 : World) (G : List SL) :
    Fn Try.prog 14 [.int .i64 n, .int .i64 m] W0 G (Ret fun v G' => v = .int .i64 (pickM n m) ∧ G' = G) := by
  refine Fn.enter Try.func14 rfl Try.ntmps14 rfl ?_
  have hm0 : decide (m = 0) = false := decide_eq_false (by omega)
  repeat' (first|refine bk ?_|refine bkc ?_|refine bks ?_|refine bkd ?_|refine bkq (fun q => ?_)|(refine bk2 ?_ ?_<;>(first|exact bkn|(refine bkk ?_;intro h))))
  all_goals
    refine WL.s (op1_rem TT rfl rfl (by omega)) rfl ?_
    repeat' (first|refine bk ?_|refine bkc ?_|refine bks ?_|refine bkd ?_|refine bkq (fun q => ?_)|(refine bk2 ?_ ?_<;>(first|exact bkn|(refine bkk ?_;intro h))))
    refine QS.retV Try.results14 rfl ⟨?_, rfl⟩
    first
      | (rw [pickM, if_pos (by assumption)]; rfl)
      | (rw [pickM, if_neg (by assumption)]; rfl)
theorem law_numbers (A B : Option Addr) (c c2 : Nat) (xs : List Int) (hl : xs.length ≤ 1000000) (W0 : World) (G : List SL) (hR : Rd W0 G intE A xs) (hR2 : Rd W0 G intE B xs) :
    Fn Try.prog 15 [.slice A xs.length c, .slice B xs.length c2] W0 G (Ret fun v G' => v = .bool true ∧ G' = G) := by
  refine Fn.enter Try.func15 rfl Try.ntmps15 rfl ?_
  have hne : decide ((xs.length : Int) = xs.length) = true := by simp
  repeat' (first|refine bk ?_|refine bkc ?_|refine bks ?_|refine bkd ?_|refine bkq (fun q => ?_)|(refine bk2 ?_ ?_<;>(first|exact bkn|(refine bkk ?_;intro h))))
  refine CS.loop (X := Nat) (fun i => [(0, .slice A xs.length c), (1, .slice B xs.length c2), (5, .int .i64 (i : Int))]) (fun i => G)
    (fun i => i ≤ xs.length) (fun i => xs.length - i) 0 ⟨rfl, rfl, rfl, trivial⟩ (fun w hs => hs) (Nat.zero_le _) ?_
  intro i hi
  refine CS.world fun hw => ?_
  repeat' (first|refine bk ?_|refine bkc ?_|refine bks ?_|refine bkd ?_|refine bkq (fun q => ?_)|(refine bk2 ?_ ?_<;>(first|exact bkn|(refine bkk ?_;intro h))))
  · obtain ⟨x, hx⟩ : ∃ x, xs[i]? = some x := ⟨xs[i]'(by omega), List.getElem?_eq_getElem (by omega)⟩
    refine WQ.idx TT hR rfl rfl rfl (by omega) (by rw [Int.toNat_natCast]; exact hx) rfl rfl rfl rfl hw (fun b2 o hA => ?_)
    refine WQ.s (op1_at TT hA rfl rfl rfl rfl) rfl ?_
    repeat' (first|refine bk ?_|refine bkc ?_|refine bks ?_|refine bkd ?_|refine bkq (fun q => ?_)|(refine bk2 ?_ ?_<;>(first|exact bkn|(refine bkk ?_;intro h))))
    refine WQ.idx TT hR2 rfl rfl rfl (by omega) (by rw [Int.toNat_natCast]; exact hx) rfl rfl rfl rfl hw (fun b3 o3 hA3 => ?_)
    refine WQ.s (op1_at TT hA3 rfl rfl rfl rfl) rfl ?_
    repeat' (first|refine bk ?_|refine bkc ?_|refine bks ?_|refine bkd ?_|refine bkq (fun q => ?_)|(refine bk2 ?_ ?_<;>(first|exact bkn|(refine bkk ?_;intro h))))
    exact QS.again (i + 1) (by show i + 1 ≤ xs.length; omega) (by show xs.length - (i + 1) < xs.length - i; omega) ⟨rfl, rfl, rfl, trivial⟩ (fun w hs => hs)
  · exact QS.retV Try.results15 rfl ⟨rfl, rfl⟩
theorem law_same (A B : Option Addr) (c c2 : Nat) (xs : List Blk) (hl : xs.length ≤ 1000000) (W0 : World) (G : List SL) (hR : Rd W0 G blkE A xs) (hR2 : Rd W0 G blkE B xs) :
    Fn Try.prog 24 [.slice A xs.length c, .slice B xs.length c2] W0 G (Ret fun v G' => v = .bool true ∧ G' = G) := by
  refine Fn.enter Try.func24 rfl Try.ntmps24 rfl ?_
  repeat' (first|refine bk ?_|refine bkc ?_|refine bks ?_|refine bkd ?_|refine bkq (fun q => ?_)|(refine bk2 ?_ ?_<;>(first|exact bkn|(refine bkk ?_;intro h))))
  refine CS.loop (X := Nat) (fun i => [(0, .slice A xs.length c), (1, .slice B xs.length c2), (5, .int .i64 (i : Int))]) (fun i => G)
    (fun i => i ≤ xs.length) (fun i => xs.length - i) 0 ⟨rfl, rfl, rfl, trivial⟩ (fun w hs => hs) (Nat.zero_le _) ?_
  intro i hi
  refine CS.world fun hw => ?_
  repeat' (first|refine bk ?_|refine bkc ?_|refine bks ?_|refine bkd ?_|refine bkq (fun q => ?_)|(refine bk2 ?_ ?_<;>(first|exact bkn|(refine bkk ?_;intro h))))
  · obtain ⟨x, hx⟩ : ∃ x, xs[i]? = some x := ⟨xs[i]'(by omega), List.getElem?_eq_getElem (by omega)⟩
    refine WQ.idx TT hR rfl rfl rfl (by omega) (by rw [Int.toNat_natCast]; exact hx) rfl rfl rfl rfl hw (fun b2 o hA => ?_)
    refine WQ.s (op1_at TT hA rfl rfl rfl rfl) rfl ?_
    repeat' (first|refine bk ?_|refine bkc ?_|refine bks ?_|refine bkd ?_|refine bkq (fun q => ?_)|(refine bk2 ?_ ?_<;>(first|exact bkn|(refine bkk ?_;intro h))))
    refine WQ.idx TT hR2 rfl rfl rfl (by omega) (by rw [Int.toNat_natCast]; exact hx) rfl rfl rfl rfl hw (fun b3 o3 hA3 => ?_)
    refine WQ.s (op1_at TT hA3 rfl rfl rfl rfl) rfl ?_
    have hcmp : eqFs TT [(3, 0), (3, 1), (3, 2)] (blkC x) (blkC x) = some true := by
      have e : (decide (x.id = x.id) && (decide (x.gen = x.gen) && (decide (x.len = x.len) && true))) = true := by simp
      exact (show eqFs TT [(3, 0), (3, 1), (3, 2)] (blkC x) (blkC x) = some (decide (x.id = x.id) && (decide (x.gen = x.gen) && (decide (x.len = x.len) && true))) from rfl).trans (by rw [e])
    refine WQ.s (op1_neS TT cmp28 rfl rfl rfl rfl hcmp) rfl ?_
    repeat' (first|refine bk ?_|refine bkc ?_|refine bks ?_|refine bkd ?_|refine bkq (fun q => ?_)|(refine bk2 ?_ ?_<;>(first|exact bkn|(refine bkk ?_;intro h))))
    exact QS.again (i + 1) (by show i + 1 ≤ xs.length; omega) (by show xs.length - (i + 1) < xs.length - i; omega) ⟨rfl, rfl, rfl, trivial⟩ (fun w hs => hs)
  · exact QS.retV Try.results24 rfl ⟨rfl, rfl⟩
end Go.Proofs.Ytgebdehpoalfbaa.B

set_option linter.unusedVariables false
set_option linter.unusedSimpArgs false
set_option maxRecDepth 8000
/-! The chapter's example. -/
namespace Go.Proofs.Ytgebdehpoalfbaa.B
open Go Go.Proofs
attribute [local irreducible] WL CS QS WQ WH WS Fn Op1 row Sat
attribute [local irreducible] slc mapb bmA inners
set_option maxHeartbeats 2000000 in
theorem law_examples (W0 : World) (G : List SL) :
    Fn Try.prog 8 [] W0 G (Ret fun v G' => v = .bool true ∧ G' = G) := by
  refine Fn.enter Try.func8 rfl Try.ntmps8 rfl ?_
  repeat' (first|refine bk ?_|refine bkc ?_|refine bks ?_|refine bkd ?_|refine bkq (fun q => ?_)|(refine bk2 ?_ ?_<;>(first|exact bkn|(refine bkk ?_;intro h))))
  refine WL.call c9 rfl rfl rfl rfl (blocks_New W0 _) ?_
  rintro _ _ ⟨b, rfl, rfl⟩
  repeat' (first|refine bk ?_|refine bkc ?_|refine bks ?_|refine bkd ?_|refine bkq (fun q => ?_)|(refine bk2 ?_ ?_<;>(first|exact bkn|(refine bkk ?_;intro h))))
  revert q; intro q2
  refine WL.buildSlice TT rfl rfl rfl rfl rfl rfl rfl rfl (fun q3 => ?_)
  have hc := blocks_Report b b0 0 (some ⟨q3, 0, none⟩) 1 [⟨7, 2, 5, false⟩] (by decide) W0 (row q3 30 [.int .i64 7, .int .i64 2, .int .i64 5, .bool false] :: row q2 28 (blkC exB) :: G) (Rd.row (i := 0) rfl rfl)
  rw [if_pos (by decide)] at hc
  refine WL.call c10 rfl rfl rfl rfl (hc.pre (fun w hs => hs.front (i := 2) rfl)) ?_
  clear hc
  rintro _ _ ⟨rfl, rfl⟩
  repeat' (first|refine bk ?_|refine bkc ?_|refine bks ?_|refine bkd ?_|refine bkq (fun q => ?_)|(refine bk2 ?_ ?_<;>(first|exact bkn|(refine bkk ?_;intro h))))
  refine WL.buildSlice TT rfl rfl rfl rfl rfl rfl rfl rfl (fun q4 => ?_)
  have hc := blocks_Report b (b0.report 0 [⟨7, 2, 5, false⟩]) 1 (some ⟨q4, 0, none⟩) 1 [⟨7, 1, 9, false⟩] (by decide) W0 (row q4 30 [.int .i64 7, .int .i64 1, .int .i64 9, .bool false] :: row q3 30 [.int .i64 7, .int .i64 2, .int .i64 5, .bool false] :: row q2 28 (blkC exB) :: G) (Rd.row (i := 0) rfl rfl)
  rw [if_pos (by decide)] at hc
  refine WL.call c10 rfl rfl rfl rfl (hc.pre (fun w hs => hs.front (i := 1) rfl)) ?_
  clear hc
  rintro _ _ ⟨rfl, rfl⟩
  rw [show (b0.report 0 [⟨7, 2, 5, false⟩]).report 1 [⟨7, 1, 9, false⟩] = exM from rfl]
  repeat' (first|refine bk ?_|refine bkc ?_|refine bks ?_|refine bkd ?_|refine bkq (fun q => ?_)|(refine bk2 ?_ ?_<;>(first|exact bkn|(refine bkk ?_;intro h))))
  have hc := blocks_Hold b exM exM_ok exB W0 (row q4 30 [.int .i64 7, .int .i64 1, .int .i64 9, .bool false] :: row q3 30 [.int .i64 7, .int .i64 2, .int .i64 5, .bool false] :: row q2 28 (blkC exB) :: G)
  rw [ex_hold] at hc
  refine WL.call c13 rfl rfl rfl rfl hc ?_
  clear hc
  rintro _ _ ⟨A5, c5, rfl, rfl⟩
  repeat' (first|refine bk ?_|refine bkc ?_|refine bks ?_|refine bkd ?_|refine bkq (fun q => ?_)|(refine bk2 ?_ ?_<;>(first|exact bkn|(refine bkk ?_;intro h))))
  refine WL.buildSlice TT rfl rfl rfl rfl rfl rfl rfl rfl (fun q5 => ?_)
  refine WL.call c15 rfl rfl rfl rfl (law_numbers A5 (some ⟨q5, 0, none⟩) c5 1 [0] (by decide) W0 _ (Rd.slc (i := 1) rfl) (Rd.row (i := 0) rfl rfl)) ?_
  rintro _ G2 ⟨rfl, hG2⟩
  rw [hG2]; clear hG2 G2
  repeat' (first|refine bk ?_|refine bkc ?_|refine bks ?_|refine bkd ?_|refine bkq (fun q => ?_)|(refine bk2 ?_ ?_<;>(first|exact bkn|(refine bkk ?_;intro h))))
  refine WL.buildSlice TT rfl rfl rfl rfl rfl rfl rfl rfl (fun q6 => ?_)
  have hc := blocks_Stale b exM (some ⟨q6, 0, none⟩) 1 [exB] (by decide) 1 (by decide) W0 (row q6 28 (blkC exB) :: row q5 3 [.int .i64 0] :: slc intE 3 A5 c5 [0] :: row q4 30 [.int .i64 7, .int .i64 1, .int .i64 9, .bool false] :: row q3 30 [.int .i64 7, .int .i64 2, .int .i64 5, .bool false] :: row q2 28 (blkC exB) :: G) (Rd.row (i := 0) rfl rfl)
  rw [ex_stale] at hc
  refine WL.call c11 rfl rfl rfl rfl (hc.pre (fun w hs => hs.front (i := 3) rfl)) ?_
  clear hc
  rintro _ _ ⟨A7, c7, rfl, rfl⟩
  repeat' (first|refine bk ?_|refine bkc ?_|refine bks ?_|refine bkd ?_|refine bkq (fun q => ?_)|(refine bk2 ?_ ?_<;>(first|exact bkn|(refine bkk ?_;intro h))))
  refine WL.buildSlice TT rfl rfl rfl rfl rfl rfl rfl rfl (fun q7 => ?_)
  refine WL.call c15 rfl rfl rfl rfl (law_numbers A7 (some ⟨q7, 0, none⟩) c7 1 [7] (by decide) W0 _ (Rd.slc (i := 1) rfl) (Rd.row (i := 0) rfl rfl)) ?_
  rintro _ G2 ⟨rfl, hG2⟩
  rw [hG2]; clear hG2 G2
  repeat' (first|refine bk ?_|refine bkc ?_|refine bks ?_|refine bkd ?_|refine bkq (fun q => ?_)|(refine bk2 ?_ ?_<;>(first|exact bkn|(refine bkk ?_;intro h))))
  refine WL.buildSlice TT rfl rfl rfl rfl rfl rfl rfl rfl (fun q8 => ?_)
  have hc := fun F hR => blocks_Held b exM exM_ok (some ⟨q8, 0, none⟩) 1 [exB] (by decide) W0 F hR
  simp only [ex_held] at hc
  repeat' (first|refine bk ?_|refine bkc ?_|refine bks ?_|refine bkd ?_|refine bkq (fun q => ?_)|(refine bk2 ?_ ?_<;>(first|exact bkn|(refine bkk ?_;intro h))))
  refine WL.call c12 rfl rfl rfl rfl ((hc _ (Rd.row (i := 0) rfl rfl)).pre (fun w hs => hs.front (i := 3) rfl)) ?_
  clear hc
  rintro _ _ ⟨rfl, rfl⟩
  repeat' (first|refine bk ?_|refine bkc ?_|refine bks ?_|refine bkd ?_|refine bkq (fun q => ?_)|(refine bk2 ?_ ?_<;>(first|exact bkn|(refine bkk ?_;intro h))))
  exact QS.turn (G' := G) (fun w hs => hs.drop.drop.drop.drop.drop.drop.drop.drop.drop.drop) (QS.retV Try.results8 rfl ⟨rfl, rfl⟩)
end Go.Proofs.Ytgebdehpoalfbaa.B

set_option linter.unusedVariables false
set_option linter.unusedSimpArgs false
set_option maxRecDepth 8000
/-! BlocksLast: the walk. -/
namespace Go.Proofs.Ytgebdehpoalfbaa.B
open Go Go.Proofs
theorem pick4 (n : Int) : 0 ≤ pickM n 4 ∧ pickM n 4 < 4 := pickM_range (by decide)
theorem at_len {m : BM} {n : Int} {l : List Rep} {k : Int} (h : m.at k = if n = k then nmOf l else []) (hl : l.length ≤ 1000000) : (m.at k).length ≤ 1000000 := by
  rw [h]
  split
  · exact Nat.le_trans (nmOf_len l) hl
  · exact Nat.zero_le _
attribute [local irreducible] WL CS QS WQ WH WS Fn Op1 row Sat
attribute [local irreducible] slc mapb bmA inners
set_option maxHeartbeats 4000000 in
theorem law_BlocksLast (n0 : Int) (hn0 : -9223372036854775808 ≤ n0 ∧ n0 ≤ 9223372036854775807) (A1 : Option Addr) (k1 c1 : Nat) (one0 : List Rep) (hk1 : k1 = one0.length) (hkc1 : k1 ≤ c1) (hc1 : c1 ≤ 9223372036854775807) (A2 : Option Addr) (k2 c2 : Nat) (two0 : List Rep) (hk2 : k2 = two0.length) (hkc2 : k2 ≤ c2) (hc2 : c2 ≤ 9223372036854775807) (z : Blk) (W0 : World) (G : List SL) (hR1 : Rd W0 G repE A1 one0) (hR2 : Rd W0 G repE A2 two0) :
    Fn Try.prog 5 [.int .i64 n0, .slice A1 k1 c1, .slice A2 k2 c2, blkV z] W0 G (Ret fun v G' => v = .bool true ∧ G' = G) := by
  refine Fn.enter Try.func5 rfl Try.ntmps5 rfl ?_
  repeat' (first|refine bk ?_|refine bkc ?_|refine bks ?_|refine bkd ?_|refine bkq (fun q => ?_)|(refine bk2 ?_ ?_<;>(first|exact bkn|(refine bkk ?_;intro h))))
  revert q; intro q7
  refine WL.call c8 rfl rfl rfl rfl (law_examples W0 _) ?_
  rintro _ G2 ⟨rfl, hG2⟩
  rw [hG2]; clear hG2 G2
  repeat' (first|refine bk ?_|refine bkc ?_|refine bks ?_|refine bkd ?_|refine bkq (fun q => ?_)|(refine bk2 ?_ ?_<;>(first|exact bkn|(refine bkk ?_;intro h))))
  refine WL.call c9 rfl rfl rfl rfl (blocks_New W0 _) ?_
  rintro _ _ ⟨b1, rfl, rfl⟩
  repeat' (first|refine bk ?_|refine bkc ?_|refine bks ?_|refine bkd ?_|refine bkq (fun q => ?_)|(refine bk2 ?_ ?_<;>(first|exact bkn|(refine bkk ?_;intro h))))
  refine WL.call c9 rfl rfl rfl rfl (blocks_New W0 _) ?_
  rintro _ _ ⟨b2, rfl, rfl⟩
  repeat' (first|refine bk ?_|refine bkc ?_|refine bks ?_|refine bkd ?_|refine bkq (fun q => ?_)|(refine bk2 ?_ ?_<;>(first|exact bkn|(refine bkk ?_;intro h))))
  refine WL.call c14 rfl rfl rfl rfl (law_pick n0 4 hn0 (by decide) W0 _) ?_
  rintro _ G2 ⟨rfl, hG2⟩
  rw [hG2]; clear hG2 G2
  have hn := pick4 n0
  generalize pickM n0 4 = n at hn ⊢
  repeat' (first|refine bk ?_|refine bkc ?_|refine bks ?_|refine bkd ?_|refine bkq (fun q => ?_)|(refine bk2 ?_ ?_<;>(first|exact bkn|(refine bkk ?_;intro h))))
  obtain ⟨m, hm, hm1⟩ : ∃ m : Nat, (if (30 : Int) < (k1 : Int) then (30 : Int) else (k1 : Int)) = (m : Int) ∧ m = min k1 30 := ⟨min k1 30, by split <;> omega, rfl⟩
  rw [hm]
  refine WL.s (op1_sliceS (E := repE) (xs := one0) (l := 0) (r := (m : Int)) TT (by rfl) (by rfl) rfl rfl hk1 rfl rfl (by omega) hkc1) rfl ?_
  simp only [Int.toNat_zero, Nat.sub_zero, Int.toNat_natCast]
  have hR1' := hR1.part (c := c1) (l := 0) (r := m) (by omega) (by omega)
  have hlen1 : m = ((one0.take m).drop 0).length := by rw [List.drop_zero, List.length_take]; omega
  generalize (one0.take m).drop 0 = one at hR1' hlen1
  generalize (if c1 = 0 then A1 else A1.map (·.add (0 * repE.sz))) = A1' at hR1' ⊢
  have hl1 : one.length ≤ 30 := by omega
  rw [hlen1]
  clear hm hm1 hlen1 hR1
  repeat' (first|refine bk ?_|refine bkc ?_|refine bks ?_|refine bkd ?_|refine bkq (fun q => ?_)|(refine bk2 ?_ ?_<;>(first|exact bkn|(refine bkk ?_;intro h))))
  obtain ⟨m2, hm, hm1⟩ : ∃ m : Nat, (if (30 : Int) < (k2 : Int) then (30 : Int) else (k2 : Int)) = (m : Int) ∧ m = min k2 30 := ⟨min k2 30, by split <;> omega, rfl⟩
  rw [hm]
  refine WL.s (op1_sliceS (E := repE) (xs := two0) (l := 0) (r := (m2 : Int)) TT (by rfl) (by rfl) rfl rfl hk2 rfl rfl (by omega) hkc2) rfl ?_
  simp only [Int.toNat_zero, Nat.sub_zero, Int.toNat_natCast]
  have hR2' := hR2.part (c := c2) (l := 0) (r := m2) (by omega) (by omega)
  have hlen2 : m2 = ((two0.take m2).drop 0).length := by rw [List.drop_zero, List.length_take]; omega
  generalize (two0.take m2).drop 0 = two at hR2' hlen2
  generalize (if c2 = 0 then A2 else A2.map (·.add (0 * repE.sz))) = A2' at hR2' ⊢
  have hl2 : two.length ≤ 30 := by omega
  rw [hlen2]
  clear hm hm1 hlen2 hR2
  repeat' (first|refine bk ?_|refine bkc ?_|refine bks ?_|refine bkd ?_|refine bkq (fun q => ?_)|(refine bk2 ?_ ?_<;>(first|exact bkn|(refine bkk ?_;intro h))))
  have ok1 : BMOk (b0.report n one) := report_ok bm0 _ _
  have ok2 : BMOk ((b0.report n one).report n two) := report_ok ok1 _ _
  have ok3 : BMOk (b0.report n two) := report_ok bm0 _ _
  have hc := fun F hR => blocks_Report b1 b0 n A1' c1 one (by omega) W0 F hR
  rw [if_pos hn] at hc
  refine WL.call c10 rfl rfl rfl rfl ((hc _ hR1'.cons.cons).pre (fun w hs => hs.front (i := 1) rfl)) ?_
  clear hc
  rintro _ _ ⟨rfl, rfl⟩
  repeat' (first|refine bk ?_|refine bkc ?_|refine bks ?_|refine bkd ?_|refine bkq (fun q => ?_)|(refine bk2 ?_ ?_<;>(first|exact bkn|(refine bkk ?_;intro h))))
  have hc := fun F hR => blocks_Report b1 (b0.report n one) n A2' c2 two (by omega) W0 F hR
  rw [if_pos hn] at hc
  refine WL.call c10 rfl rfl rfl rfl (hc _ hR2'.cons.cons) ?_
  clear hc
  rintro _ _ ⟨rfl, rfl⟩
  repeat' (first|refine bk ?_|refine bkc ?_|refine bks ?_|refine bkd ?_|refine bkq (fun q => ?_)|(refine bk2 ?_ ?_<;>(first|exact bkn|(refine bkk ?_;intro h))))
  have hc := fun F hR => blocks_Report b2 b0 n A2' c2 two (by omega) W0 F hR
  rw [if_pos hn] at hc
  refine WL.call c10 rfl rfl rfl rfl ((hc _ hR2'.cons.cons).pre (fun w hs => hs.front (i := 1) rfl)) ?_
  clear hc
  rintro _ _ ⟨rfl, rfl⟩
  have eH := last_hold hn one two z
  have eS := last_stale hn one two []
  have a1 : (((b0.report n one).report n two).at n).length ≤ 1000000 := by
    rw [last_at hn]; exact at_len (n := n) (l := two) (by rw [report_at hn]; rfl) (by omega)
  have a2 : ((b0.report n two).at n).length ≤ 1000000 := at_len (n := n) (l := two) (by rw [report_at hn]; rfl) (by omega)
  have hnn := last_none hn one two
  have hhl := hold_len ok3 z
  have hsl : ((b0.report n two).stale [] n).length ≤ 1000000 := by
    unfold BM.stale
    rw [sortI_len, List.length_map]
    exact Nat.le_trans (List.length_filter_le _ _) a2
  generalize (b0.report n one).report n two = M1 at ok2 eH eS a1 hnn ⊢
  generalize b0.report n two = M2 at ok3 eH eS a2 hhl hsl ⊢
  clear ok1
  repeat' (first|refine bk ?_|refine bkc ?_|refine bkd ?_|refine bkq (fun q => ?_)|(refine bk2 ?_ ?_<;>(first|exact bkn|(refine bkk ?_;intro h))))
  refine CS.seq ?_
  refine CS.cut (X := Unit) (fun _ => [(0, .int .i64 n), (7, .pointer (some ⟨q7, 0, none⟩)), (9, .bool true), (10, .pointer (some ⟨b1, 0, none⟩)), (11, .pointer (some ⟨b2, 0, none⟩)), (12, .int .i64 0), (13, .int .i64 0), (14, .int .i64 0), (15, .bool true)])
    (fun _ => bmA b1 M1 :: bmA b2 M2 :: row q7 28 (blkC z) :: G) (fun _ => True) ?_ ?_
  · refine CS.drawA _ (fun w hs => hs) mixed (by kernel_rfl) rfl ?_
    repeat' (first|refine bka ?_|(refine bk2a ?_ ?_<;>(first|exact bkn|(refine bkk ?_;intro h))))
    have hA := fun F => blocks_Hold b1 M1 ok2 z W0 F
    rw [eH] at hA
    have hB := fun F => blocks_Hold b2 M2 ok3 z W0 F
    refine WA.at 3 (by kernel_rfl) rfl (by kernel_rfl) rfl (op1_pure1 TT rfl) rfl ?_
    refine WA.at 4 (by kernel_rfl) rfl (by kernel_rfl) rfl (op1_load TT 2 rfl rfl rfl) rfl ?_
    refine WA.e2 2 5 (by kernel_rfl) (by kernel_rfl) rfl rfl rfl rfl (EffC.call c13 rfl rfl rfl ((hA _).pre (fun w hs => hs.front (i := 1) rfl))) (EffC.call (fst := []) (cap := []) (vs := [.pointer (some ⟨b2, 0, none⟩), blkV z]) c13 rfl rfl rfl (hB _)) rfl rfl ?_ ?_
    · rintro _ _ ⟨A3, c3, rfl, rfl⟩
      refine ⟨fun w hs => hs.drop.front (i := 1) rfl, ?_⟩
      refine WA.e1 5 (by kernel_rfl) (by kernel_rfl) rfl rfl (EffC.call c13 rfl rfl rfl ((hB _).pre (fun w hs => hs.front (i := 2) rfl))) rfl ?_
      rintro _ _ ⟨A4, c4, rfl, rfl⟩
      refine ⟨fun w hs => hs.drop.kick (i := 1) rfl, ?_⟩
      refine WA.e1 6 (by kernel_rfl) (by kernel_rfl) rfl rfl (EffC.call c15 rfl rfl rfl (law_numbers A3 A4 c3 c4 _ (by omega) W0 _ (Rd.slc (i := 2) rfl) (Rd.slc (i := 0) rfl))) rfl ?_
      rintro _ _ ⟨rfl, rfl⟩
      refine ⟨fun w hs => hs.drop.kick (i := 1) rfl, ?_⟩
      repeat' (first|refine bka ?_|(refine bk2a ?_ ?_<;>(first|exact bkn|(refine bkk ?_;intro h))))
      refine WA.fin (by kernel_rfl) ?_
      exact QS.met () trivial ⟨rfl, rfl, rfl, rfl, rfl, rfl, rfl, rfl, rfl, trivial⟩ (fun w hs => (hs.drop.kick (i := 1) rfl).front (i := 1) rfl)
    · rintro _ _ ⟨A4, c4, rfl, rfl⟩
      refine ⟨fun w hs => hs.drop, ?_⟩
      refine WA.e1 2 (by kernel_rfl) (by kernel_rfl) rfl rfl (EffC.call c13 rfl rfl rfl ((hA _).pre (fun w hs => hs.front (i := 2) rfl))) rfl ?_
      rintro _ _ ⟨A3, c3, rfl, rfl⟩
      refine ⟨fun w hs => (hs.drop.kick (i := 1) rfl).front (i := 1) rfl, ?_⟩
      refine WA.e1 6 (by kernel_rfl) (by kernel_rfl) rfl rfl (EffC.call c15 rfl rfl rfl (law_numbers A3 A4 c3 c4 _ (by omega) W0 _ (Rd.slc (i := 0) rfl) (Rd.slc (i := 2) rfl))) rfl ?_
      rintro _ _ ⟨rfl, rfl⟩
      refine ⟨fun w hs => (hs.drop.kick (i := 1) rfl).front (i := 1) rfl, ?_⟩
      repeat' (first|refine bka ?_|(refine bk2a ?_ ?_<;>(first|exact bkn|(refine bkk ?_;intro h))))
      refine WA.fin (by kernel_rfl) ?_
      exact QS.met () trivial ⟨rfl, rfl, rfl, rfl, rfl, rfl, rfl, rfl, rfl, trivial⟩ (fun w hs => hs.drop.kick (i := 1) rfl)
  · rintro ⟨⟩ _
    repeat' (first|refine bk ?_|refine bkc ?_|refine bks ?_|refine bkd ?_|refine bkq (fun q => ?_)|(refine bk2 ?_ ?_<;>(first|exact bkn|(refine bkk ?_;intro h))))
    have hA := fun F hR => blocks_Stale b1 M1 none 0 [] (by decide) n a1 W0 F hR
    rw [eS] at hA
    have hB := fun F hR => blocks_Stale b2 M2 none 0 [] (by decide) n a2 W0 F hR
    refine WL.call c11 rfl rfl rfl rfl (hA _ Rd.nil) ?_
    rintro _ _ ⟨A3, c3, rfl, rfl⟩
    repeat' (first|refine bk ?_|refine bkc ?_|refine bks ?_|refine bkd ?_|refine bkq (fun q => ?_)|(refine bk2 ?_ ?_<;>(first|exact bkn|(refine bkk ?_;intro h))))
    refine WL.call c11 rfl rfl rfl rfl ((hB _ Rd.nil).pre (fun w hs => hs.front (i := 2) rfl)) ?_
    rintro _ _ ⟨A4, c4, rfl, rfl⟩
    refine WL.call c15 rfl rfl rfl rfl (law_numbers A3 A4 c3 c4 _ (by omega) W0 _ (Rd.slc (i := 2) rfl) (Rd.slc (i := 0) rfl)) ?_
    rintro _ G2 ⟨rfl, hG2⟩
    rw [hG2]; clear hG2 G2 hA hB
    repeat' (first|refine bk ?_|refine bkc ?_|refine bks ?_|refine bkd ?_|refine bkq (fun q => ?_)|(refine bk2 ?_ ?_<;>(first|exact bkn|(refine bkk ?_;intro h))))
    refine WL.call c16 rfl rfl rfl rfl ((blocks_Lost b1 M1 n W0 _).pre (fun w hs => hs.front (i := 3) rfl)) ?_
    rintro _ _ ⟨rfl, rfl⟩
    have ok4 := lost_ok ok2 n
    have e1 := none_hold ok4 hnn z
    have e2 := none_nodes ok4 hnn
    have e3 := none_stale hnn [] n
    have a4 : ((M1.lost n).at n).length ≤ 1000000 := by unfold BM.at; rw [hnn]; exact Nat.zero_le _
    generalize M1.lost n = M3 at ok4 e1 e2 e3 a4 ⊢
    repeat' (first|refine bk ?_|refine bkc ?_|refine bks ?_|refine bkd ?_|refine bkq (fun q => ?_)|(refine bk2 ?_ ?_<;>(first|exact bkn|(refine bkk ?_;intro h))))
    have hA := fun F => blocks_Hold b1 M3 ok4 z W0 F
    rw [e1] at hA
    refine WL.call c13 rfl rfl rfl rfl (hA _) ?_
    rintro _ _ ⟨A5, c5, rfl, rfl⟩
    repeat' (first|refine bk ?_|refine bkc ?_|refine bks ?_|refine bkd ?_|refine bkq (fun q => ?_)|(refine bk2 ?_ ?_<;>(first|exact bkn|(refine bkk ?_;intro h))))
    have hA := fun F => blocks_Nodes (b := b1) ok4 W0 F
    rw [e2] at hA
    refine WL.call c17 rfl rfl rfl rfl ((hA _).pre (fun w hs => hs.front (i := 1) rfl)) ?_
    rintro _ _ ⟨A6, c6, rfl, rfl⟩
    repeat' (first|refine bk ?_|refine bkc ?_|refine bks ?_|refine bkd ?_|refine bkq (fun q => ?_)|(refine bk2 ?_ ?_<;>(first|exact bkn|(refine bkk ?_;intro h))))
    have hA := fun F hR => blocks_Stale b1 M3 none 0 [] (by decide) n a4 W0 F hR
    rw [e3] at hA
    refine WL.call c11 rfl rfl rfl rfl ((hA _ Rd.nil).pre (fun w hs => hs.front (i := 1) rfl)) ?_
    rintro _ _ ⟨A7, c7, rfl, rfl⟩
    repeat' (first|refine bk ?_|refine bkc ?_|refine bks ?_|refine bkd ?_|refine bkq (fun q => ?_)|(refine bk2 ?_ ?_<;>(first|exact bkn|(refine bkk ?_;intro h))))
    exact QS.turn (G' := G) (fun w hs => hs.drop.drop.drop.drop.drop.drop.drop.drop) (QS.retV Try.results5 rfl ⟨rfl, rfl⟩)
end Go.Proofs.Ytgebdehpoalfbaa.B
