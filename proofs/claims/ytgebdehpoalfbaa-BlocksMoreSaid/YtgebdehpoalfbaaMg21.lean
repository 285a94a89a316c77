import Derived.Test.YtgebdehpoalfbaaMg20
set_option linter.unusedVariables false
set_option linter.unusedSimpArgs false
set_option maxRecDepth 8000
/-! What the blocks' laws are made of. -/
namespace Go.Proofs.Ytgebdehpoalfbaa.B
open Go Go.Proofs
attribute [local irreducible] WL CS QS WQ WH WS Fn Op1 row Sat
attribute [local irreducible] slc mapb bmA inners
theorem law_pick (n m : Int) (hn : -9223372036854775808 ≤ n ∧ n ≤ 9223372036854775807) (hm : 0 < m) (W0 : World) (G : List SL) :
    Fn Try.prog 14 [.int .i64 n, .int .i64 m] W0 G (Ret fun v G' => v = .int .i64 (pickM n m) ∧ G' = G) := by
  refine Fn.enter Try.func14 rfl Try.ntmps14 rfl ?_
  have hm0 : decide (m = 0) = false := decide_eq_false (by omega)
  repeat' (first|refine bk ?_|refine bkc ?_|refine bks ?_|refine bkd ?_|refine bkq (fun q => ?_)|(refine bk2 ?_ ?_<;>(first|exact bkn|(refine bkk ?_;intro h))))
  all_goals
    refine WL.s (op1_rem TT rfl rfl (by omega)) rfl ?_
    repeat' (first|refine bk ?_|refine bkc ?_|refine bks ?_|refine bkd ?_|refine bkq (fun q => ?_)|(refine bk2 ?_ ?_<;>(first|exact bkn|(refine bkk ?_;intro h))))
    refine QS.retV Try.results14 rfl ⟨?_, rfl⟩
    first
      | (rw [pickM, if_pos (by assumption)]; rfl)
      | (rw [pickM, if_neg (by assumption)]; rfl)
theorem law_numbers (A B : Option Addr) (c c2 : Nat) (xs : List Int) (hl : xs.length ≤ 1000000) (W0 : World) (G : List SL) (hR : Rd W0 G intE A xs) (hR2 : Rd W0 G intE B xs) :
    Fn Try.prog 15 [.slice A xs.length c, .slice B xs.length c2] W0 G (Ret fun v G' => v = .bool true ∧ G' = G) := by
  refine Fn.enter Try.func15 rfl Try.ntmps15 rfl ?_
  have hne : decide ((xs.length : Int) = xs.length) = true := by simp
  repeat' (first|refine bk ?_|refine bkc ?_|refine bks ?_|refine bkd ?_|refine bkq (fun q => ?_)|(refine bk2 ?_ ?_<;>(first|exact bkn|(refine bkk ?_;intro h))))
  refine CS.loop (X := Nat) (fun i => [(0, .slice A xs.length c), (1, .slice B xs.length c2), (5, .int .i64 (i : Int))]) (fun i => G)
    (fun i => i ≤ xs.length) (fun i => xs.length - i) 0 ⟨rfl, rfl, rfl, trivial⟩ (fun w hs => hs) (Nat.zero_le _) ?_
  intro i hi
  refine CS.world fun hw => ?_
  repeat' (first|refine bk ?_|refine bkc ?_|refine bks ?_|refine bkd ?_|refine bkq (fun q => ?_)|(refine bk2 ?_ ?_<;>(first|exact bkn|(refine bkk ?_;intro h))))
  · obtain ⟨x, hx⟩ : ∃ x, xs[i]? = some x := ⟨xs[i]'(by omega), List.getElem?_eq_getElem (by omega)⟩
    refine WQ.idx TT hR rfl rfl rfl (by omega) (by rw [Int.toNat_natCast]; exact hx) rfl rfl rfl rfl hw (fun b2 o hA => ?_)
    refine WQ.s (op1_at TT hA rfl rfl rfl rfl) rfl ?_
    repeat' (first|refine bk ?_|refine bkc ?_|refine bks ?_|refine bkd ?_|refine bkq (fun q => ?_)|(refine bk2 ?_ ?_<;>(first|exact bkn|(refine bkk ?_;intro h))))
    refine WQ.idx TT hR2 rfl rfl rfl (by omega) (by rw [Int.toNat_natCast]; exact hx) rfl rfl rfl rfl hw (fun b3 o3 hA3 => ?_)
    refine WQ.s (op1_at TT hA3 rfl rfl rfl rfl) rfl ?_
    repeat' (first|refine bk ?_|refine bkc ?_|refine bks ?_|refine bkd ?_|refine bkq (fun q => ?_)|(refine bk2 ?_ ?_<;>(first|exact bkn|(refine bkk ?_;intro h))))
    exact QS.again (i + 1) (by show i + 1 ≤ xs.length; omega) (by show xs.length - (i + 1) < xs.length - i; omega) ⟨rfl, rfl, rfl, trivial⟩ (fun w hs => hs)
  · exact QS.retV Try.results15 rfl ⟨rfl, rfl⟩
theorem law_same (A B : Option Addr) (c c2 : Nat) (xs : List Blk) (hl : xs.length ≤ 1000000) (W0 : World) (G : List SL) (hR : Rd W0 G blkE A xs) (hR2 : Rd W0 G blkE B xs) :
    Fn Try.prog 24 [.slice A xs.length c, .slice B xs.length c2] W0 G (Ret fun v G' => v = .bool true ∧ G' = G) := by
  refine Fn.enter Try.func24 rfl Try.ntmps24 rfl ?_
  repeat' (first|refine bk ?_|refine bkc ?_|refine bks ?_|refine bkd ?_|refine bkq (fun q => ?_)|(refine bk2 ?_ ?_<;>(first|exact bkn|(refine bkk ?_;intro h))))
  refine CS.loop (X := Nat) (fun i => [(0, .slice A xs.length c), (1, .slice B xs.length c2), (5, .int .i64 (i : Int))]) (fun i => G)
    (fun i => i ≤ xs.length) (fun i => xs.length - i) 0 ⟨rfl, rfl, rfl, trivial⟩ (fun w hs => hs) (Nat.zero_le _) ?_
  intro i hi
  refine CS.world fun hw => ?_
  repeat' (first|refine bk ?_|refine bkc ?_|refine bks ?_|refine bkd ?_|refine bkq (fun q => ?_)|(refine bk2 ?_ ?_<;>(first|exact bkn|(refine bkk ?_;intro h))))
  · obtain ⟨x, hx⟩ : ∃ x, xs[i]? = some x := ⟨xs[i]'(by omega), List.getElem?_eq_getElem (by omega)⟩
    refine WQ.idx TT hR rfl rfl rfl (by omega) (by rw [Int.toNat_natCast]; exact hx) rfl rfl rfl rfl hw (fun b2 o hA => ?_)
    refine WQ.s (op1_at TT hA rfl rfl rfl rfl) rfl ?_
    repeat' (first|refine bk ?_|refine bkc ?_|refine bks ?_|refine bkd ?_|refine bkq (fun q => ?_)|(refine bk2 ?_ ?_<;>(first|exact bkn|(refine bkk ?_;intro h))))
    refine WQ.idx TT hR2 rfl rfl rfl (by omega) (by rw [Int.toNat_natCast]; exact hx) rfl rfl rfl rfl hw (fun b3 o3 hA3 => ?_)
    refine WQ.s (op1_at TT hA3 rfl rfl rfl rfl) rfl ?_
    have hcmp : eqFs TT [(3, 0), (3, 1), (3, 2)] (blkC x) (blkC x) = some true := by
      have e : (decide (x.id = x.id) && (decide (x.gen = x.gen) && (decide (x.len = x.len) && true))) = true := by simp
      exact (show eqFs TT [(3, 0), (3, 1), (3, 2)] (blkC x) (blkC x) = some (decide (x.id = x.id) && (decide (x.gen = x.gen) && (decide (x.len = x.len) && true))) from rfl).trans (by rw [e])
    refine WQ.s (op1_neS TT cmp28 rfl rfl rfl rfl hcmp) rfl ?_
    repeat' (first|refine bk ?_|refine bkc ?_|refine bks ?_|refine bkd ?_|refine bkq (fun q => ?_)|(refine bk2 ?_ ?_<;>(first|exact bkn|(refine bkk ?_;intro h))))
    exact QS.again (i + 1) (by show i + 1 ≤ xs.length; omega) (by show xs.length - (i + 1) < xs.length - i; omega) ⟨rfl, rfl, rfl, trivial⟩ (fun w hs => hs)
  · exact QS.retV Try.results24 rfl ⟨rfl, rfl⟩
end Go.Proofs.Ytgebdehpoalfbaa.B

set_option linter.unusedVariables false
set_option linter.unusedSimpArgs false
set_option maxRecDepth 8000
/-! The chapter's example. -/
namespace Go.Proofs.Ytgebdehpoalfbaa.B
open Go Go.Proofs
attribute [local irreducible] WL CS QS WQ WH WS Fn Op1 row Sat
attribute [local irreducible] slc mapb bmA inners
set_option maxHeartbeats 2000000 in
theorem law_examples (W0 : World) (G : List SL) :
    Fn Try.prog 8 [] W0 G (Ret fun v G' => v = .bool true ∧ G' = G) := by
  refine Fn.enter Try.func8 rfl Try.ntmps8 rfl ?_
  repeat' (first|refine bk ?_|refine bkc ?_|refine bks ?_|refine bkd ?_|refine bkq (fun q => ?_)|(refine bk2 ?_ ?_<;>(first|exact bkn|(refine bkk ?_;intro h))))
  refine WL.call c9 rfl rfl rfl rfl (blocks_New W0 _) ?_
  rintro _ _ ⟨b, rfl, rfl⟩
  repeat' (first|refine bk ?_|refine bkc ?_|refine bks ?_|refine bkd ?_|refine bkq (fun q => ?_)|(refine bk2 ?_ ?_<;>(first|exact bkn|(refine bkk ?_;intro h))))
  revert q; intro q2
  refine WL.buildSlice TT rfl rfl rfl rfl rfl rfl rfl rfl (fun q3 => ?_)
  have hc := blocks_Report b b0 0 (some ⟨q3, 0, none⟩) 1 [⟨7, 2, 5, false⟩] (by decide) W0 (row q3 30 [.int .i64 7, .int .i64 2, .int .i64 5, .bool false] :: row q2 28 (blkC exB) :: G) (Rd.row (i := 0) rfl rfl)
  rw [if_pos (by decide)] at hc
  refine WL.call c10 rfl rfl rfl rfl (hc.pre (fun w hs => hs.front (i := 2) rfl)) ?_
  clear hc
  rintro _ _ ⟨rfl, rfl⟩
  repeat' (first|refine bk ?_|refine bkc ?_|refine bks ?_|refine bkd ?_|refine bkq (fun q => ?_)|(refine bk2 ?_ ?_<;>(first|exact bkn|(refine bkk ?_;intro h))))
  refine WL.buildSlice TT rfl rfl rfl rfl rfl rfl rfl rfl (fun q4 => ?_)
  have hc := blocks_Report b (b0.report 0 [⟨7, 2, 5, false⟩]) 1 (some ⟨q4, 0, none⟩) 1 [⟨7, 1, 9, false⟩] (by decide) W0 (row q4 30 [.int .i64 7, .int .i64 1, .int .i64 9, .bool false] :: row q3 30 [.int .i64 7, .int .i64 2, .int .i64 5, .bool false] :: row q2 28 (blkC exB) :: G) (Rd.row (i := 0) rfl rfl)
  rw [if_pos (by decide)] at hc
  refine WL.call c10 rfl rfl rfl rfl (hc.pre (fun w hs => hs.front (i := 1) rfl)) ?_
  clear hc
  rintro _ _ ⟨rfl, rfl⟩
  rw [show (b0.report 0 [⟨7, 2, 5, false⟩]).report 1 [⟨7, 1, 9, false⟩] = exM from rfl]
  repeat' (first|refine bk ?_|refine bkc ?_|refine bks ?_|refine bkd ?_|refine bkq (fun q => ?_)|(refine bk2 ?_ ?_<;>(first|exact bkn|(refine bkk ?_;intro h))))
  have hc := blocks_Hold b exM exM_ok exB W0 (row q4 30 [.int .i64 7, .int .i64 1, .int .i64 9, .bool false] :: row q3 30 [.int .i64 7, .int .i64 2, .int .i64 5, .bool false] :: row q2 28 (blkC exB) :: G)
  rw [ex_hold] at hc
  refine WL.call c13 rfl rfl rfl rfl hc ?_
  clear hc
  rintro _ _ ⟨A5, c5, rfl, rfl⟩
  repeat' (first|refine bk ?_|refine bkc ?_|refine bks ?_|refine bkd ?_|refine bkq (fun q => ?_)|(refine bk2 ?_ ?_<;>(first|exact bkn|(refine bkk ?_;intro h))))
  refine WL.buildSlice TT rfl rfl rfl rfl rfl rfl rfl rfl (fun q5 => ?_)
  refine WL.call c15 rfl rfl rfl rfl (law_numbers A5 (some ⟨q5, 0, none⟩) c5 1 [0] (by decide) W0 _ (Rd.slc (i := 1) rfl) (Rd.row (i := 0) rfl rfl)) ?_
  rintro _ G2 ⟨rfl, hG2⟩
  rw [hG2]; clear hG2 G2
  repeat' (first|refine bk ?_|refine bkc ?_|refine bks ?_|refine bkd ?_|refine bkq (fun q => ?_)|(refine bk2 ?_ ?_<;>(first|exact bkn|(refine bkk ?_;intro h))))
  refine WL.buildSlice TT rfl rfl rfl rfl rfl rfl rfl rfl (fun q6 => ?_)
  have hc := blocks_Stale b exM (some ⟨q6, 0, none⟩) 1 [exB] (by decide) 1 (by decide) W0 (row q6 28 (blkC exB) :: row q5 3 [.int .i64 0] :: slc intE 3 A5 c5 [0] :: row q4 30 [.int .i64 7, .int .i64 1, .int .i64 9, .bool false] :: row q3 30 [.int .i64 7, .int .i64 2, .int .i64 5, .bool false] :: row q2 28 (blkC exB) :: G) (Rd.row (i := 0) rfl rfl)
  rw [ex_stale] at hc
  refine WL.call c11 rfl rfl rfl rfl (hc.pre (fun w hs => hs.front (i := 3) rfl)) ?_
  clear hc
  rintro _ _ ⟨A7, c7, rfl, rfl⟩
  repeat' (first|refine bk ?_|refine bkc ?_|refine bks ?_|refine bkd ?_|refine bkq (fun q => ?_)|(refine bk2 ?_ ?_<;>(first|exact bkn|(refine bkk ?_;intro h))))
  refine WL.buildSlice TT rfl rfl rfl rfl rfl rfl rfl rfl (fun q7 => ?_)
  refine WL.call c15 rfl rfl rfl rfl (law_numbers A7 (some ⟨q7, 0, none⟩) c7 1 [7] (by decide) W0 _ (Rd.slc (i := 1) rfl) (Rd.row (i := 0) rfl rfl)) ?_
  rintro _ G2 ⟨rfl, hG2⟩
  rw [hG2]; clear hG2 G2
  repeat' (first|refine bk ?_|refine bkc ?_|refine bks ?_|refine bkd ?_|refine bkq (fun q => ?_)|(refine bk2 ?_ ?_<;>(first|exact bkn|(refine bkk ?_;intro h))))
  refine WL.buildSlice TT rfl rfl rfl rfl rfl rfl rfl rfl (fun q8 => ?_)
  have hc := fun F hR => blocks_Held b exM exM_ok (some ⟨q8, 0, none⟩) 1 [exB] (by decide) W0 F hR
  simp only [ex_held] at hc
  repeat' (first|refine bk ?_|refine bkc ?_|refine bks ?_|refine bkd ?_|refine bkq (fun q => ?_)|(refine bk2 ?_ ?_<;>(first|exact bkn|(refine bkk ?_;intro h))))
  refine WL.call c12 rfl rfl rfl rfl ((hc _ (Rd.row (i := 0) rfl rfl)).pre (fun w hs => hs.front (i := 3) rfl)) ?_
  clear hc
  rintro _ _ ⟨rfl, rfl⟩
  repeat' (first|refine bk ?_|refine bkc ?_|refine bks ?_|refine bkd ?_|refine bkq (fun q => ?_)|(refine bk2 ?_ ?_<;>(first|exact bkn|(refine bkk ?_;intro h))))
  exact QS.turn (G' := G) (fun w hs => hs.drop.drop.drop.drop.drop.drop.drop.drop.drop.drop) (QS.retV Try.results8 rfl ⟨rfl, rfl⟩)
end Go.Proofs.Ytgebdehpoalfbaa.B

set_option linter.unusedVariables false
set_option linter.unusedSimpArgs false
set_option maxRecDepth 8000
/-! BlocksMore: the walk. -/
namespace Go.Proofs.Ytgebdehpoalfbaa.B
open Go Go.Proofs
attribute [local irreducible] WL CS QS WQ WH WS Fn Op1 row Sat
attribute [local irreducible] slc mapb bmA inners
def holdLens (M : BM) (l : List Blk) : List Int := l.map fun b => ((M.hold b).length : Int)
theorem holdLens_take (M : BM) {l : List Blk} {i : Nat} {x : Blk} (h : l[i]? = some x) : holdLens M (l.take (i + 1)) = holdLens M (l.take i) ++ [((M.hold x).length : Int)] := by
  unfold holdLens
  rw [List.take_add_one, h, Option.toList_some, List.map_append]
  rfl
theorem holdLens_len (M : BM) (l : List Blk) : (holdLens M l).length = l.length := by simp [holdLens]
set_option maxHeartbeats 4000000 in
theorem law_BlocksMore (A1 : Option Addr) (k1 c1 : Nat) (one0 : List Rep) (hk1 : k1 = one0.length) (hkc1 : k1 ≤ c1) (hc1 : c1 ≤ 9223372036854775807) (A2 : Option Addr) (k2 c2 : Nat) (two0 : List Rep) (hk2 : k2 = two0.length) (hkc2 : k2 ≤ c2) (hc2 : c2 ≤ 9223372036854775807)
    (A3 : Option Addr) (k3 c3 : Nat) (all0 : List Blk) (hk3 : k3 = all0.length) (hkc3 : k3 ≤ c3) (hc3 : c3 ≤ 9223372036854775807) (W0 : World) (G : List SL) (hR1 : Rd W0 G repE A1 one0) (hR2 : Rd W0 G repE A2 two0) (hR3 : Rd W0 G blkE A3 all0) :
    Fn Try.prog 4 [.slice A1 k1 c1, .slice A2 k2 c2, .slice A3 k3 c3] W0 G (Ret fun v G' => v = .bool true ∧ G' = G) := by
  refine Fn.enter Try.func4 rfl Try.ntmps4 rfl ?_
  repeat' (first|refine bk ?_|refine bkc ?_|refine bks ?_|refine bkd ?_|refine bkq (fun q => ?_)|(refine bk2 ?_ ?_<;>(first|exact bkn|(refine bkk ?_;intro h))))
  refine WL.call c8 rfl rfl rfl rfl (law_examples W0 _) ?_
  rintro _ G2 ⟨rfl, hG2⟩
  rw [hG2]; clear hG2 G2
  repeat' (first|refine bk ?_|refine bkc ?_|refine bks ?_|refine bkd ?_|refine bkq (fun q => ?_)|(refine bk2 ?_ ?_<;>(first|exact bkn|(refine bkk ?_;intro h))))
  refine WL.call c9 rfl rfl rfl rfl (blocks_New W0 _) ?_
  rintro _ _ ⟨b1, rfl, rfl⟩
  repeat' (first|refine bk ?_|refine bkc ?_|refine bks ?_|refine bkd ?_|refine bkq (fun q => ?_)|(refine bk2 ?_ ?_<;>(first|exact bkn|(refine bkk ?_;intro h))))
  obtain ⟨m, hm, hm1⟩ : ∃ m : Nat, (if (30 : Int) < (k3 : Int) then (30 : Int) else (k3 : Int)) = (m : Int) ∧ m = min k3 30 := ⟨min k3 30, by split <;> omega, rfl⟩
  rw [hm]
  refine WL.s (op1_sliceS (E := blkE) (xs := all0) (l := 0) (r := (m : Int)) TT (by rfl) (by rfl) rfl rfl hk3 rfl rfl (by omega) hkc3) rfl ?_
  simp only [Int.toNat_zero, Nat.sub_zero, Int.toNat_natCast]
  have hR3' := hR3.part (c := c3) (l := 0) (r := m) (by omega) (by omega)
  have hlen3 : m = ((all0.take m).drop 0).length := by rw [List.drop_zero, List.length_take]; omega
  generalize (all0.take m).drop 0 = all at hR3' hlen3
  generalize (if c3 = 0 then A3 else A3.map (·.add (0 * blkE.sz))) = A3' at hR3' ⊢
  have hl3 : all.length ≤ 30 := by omega
  rw [hlen3]
  clear hm hm1 hlen3 hR3
  repeat' (first|refine bk ?_|refine bkc ?_|refine bks ?_|refine bkd ?_|refine bkq (fun q => ?_)|(refine bk2 ?_ ?_<;>(first|exact bkn|(refine bkk ?_;intro h))))
  obtain ⟨m1, hm, hm1⟩ : ∃ m : Nat, (if (30 : Int) < (k1 : Int) then (30 : Int) else (k1 : Int)) = (m : Int) ∧ m = min k1 30 := ⟨min k1 30, by split <;> omega, rfl⟩
  rw [hm]
  refine WL.s (op1_sliceS (E := repE) (xs := one0) (l := 0) (r := (m1 : Int)) TT (by rfl) (by rfl) rfl rfl hk1 rfl rfl (by omega) hkc1) rfl ?_
  simp only [Int.toNat_zero, Nat.sub_zero, Int.toNat_natCast]
  have hR1' := hR1.part (c := c1) (l := 0) (r := m1) (by omega) (by omega)
  have hlen1 : m1 = ((one0.take m1).drop 0).length := by rw [List.drop_zero, List.length_take]; omega
  generalize (one0.take m1).drop 0 = one at hR1' hlen1
  generalize (if c1 = 0 then A1 else A1.map (·.add (0 * repE.sz))) = A1' at hR1' ⊢
  have hl1 : one.length ≤ 30 := by omega
  rw [hlen1]
  clear hm hm1 hlen1 hR1
  have ok1 : BMOk (b0.report 0 one) := report_ok bm0 _ _
  have hc := fun F hR => blocks_Report b1 b0 0 A1' c1 one (by omega) W0 F hR
  rw [if_pos (by decide)] at hc
  refine WL.call c10 rfl rfl rfl rfl (hc _ hR1') ?_
  clear hc
  rintro _ _ ⟨rfl, rfl⟩
  repeat' (first|refine bk ?_|refine bkc ?_|refine bks ?_|refine bkd ?_|refine bkq (fun q => ?_)|(refine bk2 ?_ ?_<;>(first|exact bkn|(refine bkk ?_;intro h))))
  refine WL.call c12 rfl rfl rfl rfl (blocks_Held b1 _ ok1 A3' c3 all (by omega) W0 _ hR3') ?_
  rintro _ G2 ⟨rfl, hG2⟩
  rw [hG2]; clear hG2 G2
  repeat' (first|refine bk ?_|refine bkc ?_|refine bks ?_|refine bkd ?_|refine bkq (fun q => ?_)|(refine bk2 ?_ ?_<;>(first|exact bkn|(refine bkk ?_;intro h))))
  refine CS.loop (X := Nat × Option Addr × Nat) (fun y => [(1, .slice A2 k2 c2), (2, .slice A3' all.length c3), (7, .bool true), (8, .pointer (some ⟨b1, 0, none⟩)), (9, .int .i64 (heldN (b0.report 0 one) all : Int)), (10, .slice y.2.1 (holdLens (b0.report 0 one) (all.take y.1)).length y.2.2), (11, .int .i64 (y.1 : Int))])
    (fun y => slc intE 3 y.2.1 y.2.2 (holdLens (b0.report 0 one) (all.take y.1)) :: bmA b1 (b0.report 0 one) :: G) (fun y => y.1 ≤ all.length) (fun y => all.length - y.1) (0, none, 0) ⟨rfl, rfl, rfl, rfl, rfl, rfl, rfl, trivial⟩ (fun w hs => hs.slcNil intE 3) (Nat.zero_le _) ?_
  rintro ⟨i, A5, c5⟩ hi
  simp only at hi ⊢
  repeat' (first|refine bk ?_|refine bkc ?_|refine bks ?_|refine bkd ?_|refine bkq (fun q => ?_)|(refine bk2 ?_ ?_<;>(first|exact bkn|(refine bkk ?_;intro h))))
  · obtain ⟨x, hx⟩ : ∃ x, all[i]? = some x := ⟨all[i]'(by omega), List.getElem?_eq_getElem (by omega)⟩
    refine WL.idx TT hR3'.cons.cons rfl rfl rfl (by omega) (by rw [Int.toNat_natCast]; exact hx) rfl rfl rfl rfl (fun bb o hA => ?_)
    refine WL.s (op1_at TT hA rfl rfl rfl rfl) rfl ?_
    have hh := holdLens_take (b0.report 0 one) hx
    have h1 := holdLens_len (b0.report 0 one) (all.take i)
    rw [List.length_take] at h1
    have h2 := hold_len ok1 x
    refine WL.call c13 rfl rfl rfl rfl ((blocks_Hold b1 _ ok1 x W0 _).pre (fun w hs => hs.front (i := 1) rfl)) ?_
    rintro _ _ ⟨A6, c6, rfl, rfl⟩
    repeat' (first|refine bk ?_|refine bkc ?_|refine bks ?_|refine bkd ?_|refine bkq (fun q => ?_)|(refine bk2 ?_ ?_<;>(first|exact bkn|(refine bkk ?_;intro h))))
    refine WL.buildSlice TT rfl rfl rfl rfl rfl rfl rfl rfl (fun q7 => ?_)
    refine WL.append TT (E := intE) (xs := holdLens (b0.report 0 one) (all.take i)) (ys := [(((b0.report 0 one).hold x).length : Int)]) 3 rfl rfl rfl rfl rfl (Rd.row (i := 0) rfl rfl) rfl rfl rfl rfl rfl (by decide) (by simp only [List.length_cons, List.length_nil]; omega) (fun _ _ => rfl) rfl (fun A7 c7 => ?_)
    repeat' (first|refine bk ?_|refine bkc ?_|refine bks ?_|refine bkd ?_|refine bkq (fun q => ?_)|(refine bk2 ?_ ?_<;>(first|exact bkn|(refine bkk ?_;intro h))))
    refine QS.again (i + 1, A7, c7) (by show i + 1 ≤ all.length; omega) (by show all.length - (i + 1) < all.length - i; omega) ⟨rfl, rfl, rfl, rfl, rfl, by simp only [hh]; rfl, rfl, trivial⟩ (fun w hs => ?_)
    simp only [hh]
    exact (hs.drop.drop).front (i := 1) rfl
  have hfin : all.take i = all := List.take_of_length_le (by omega)
  rw [hfin]
  repeat' (first|refine bk ?_|refine bkc ?_|refine bks ?_|refine bkd ?_|refine bkq (fun q => ?_)|(refine bk2 ?_ ?_<;>(first|exact bkn|(refine bkk ?_;intro h))))
  obtain ⟨m2, hm, hm1⟩ : ∃ m : Nat, (if (30 : Int) < (k2 : Int) then (30 : Int) else (k2 : Int)) = (m : Int) ∧ m = min k2 30 := ⟨min k2 30, by split <;> omega, rfl⟩
  rw [hm]
  refine WL.s (op1_sliceS (E := repE) (xs := two0) (l := 0) (r := (m2 : Int)) TT (by rfl) (by rfl) rfl rfl hk2 rfl rfl (by omega) hkc2) rfl ?_
  simp only [Int.toNat_zero, Nat.sub_zero, Int.toNat_natCast]
  have hR2' := hR2.part (c := c2) (l := 0) (r := m2) (by omega) (by omega)
  have hlen2 : m2 = ((two0.take m2).drop 0).length := by rw [List.drop_zero, List.length_take]; omega
  generalize (two0.take m2).drop 0 = two at hR2' hlen2
  generalize (if c2 = 0 then A2 else A2.map (·.add (0 * repE.sz))) = A2' at hR2' ⊢
  have hl2 : two.length ≤ 30 := by omega
  rw [hlen2]
  clear hm hm1 hlen2 hR2
  have hc := fun F hR => blocks_Report b1 (b0.report 0 one) 1 A2' c2 two (by omega) W0 F hR
  rw [if_pos (by decide)] at hc
  refine WL.call c10 rfl rfl rfl rfl ((hc _ hR2'.cons).pre (fun w hs => hs.front (i := 1) rfl)) ?_
  clear hc
  rintro _ _ ⟨rfl, rfl⟩
  have ok2 : BMOk ((b0.report 0 one).report 1 two) := report_ok ok1 _ _
  repeat' (first|refine bk ?_|refine bkc ?_|refine bks ?_|refine bkd ?_|refine bkq (fun q => ?_)|(refine bk2 ?_ ?_<;>(first|exact bkn|(refine bkk ?_;intro h))))
  refine CS.loop (X := Nat) (fun y => [(2, .slice A3' all.length c3), (7, .bool true), (8, .pointer (some ⟨b1, 0, none⟩)), (9, .int .i64 (heldN (b0.report 0 one) all : Int)), (10, .slice A5 (holdLens (b0.report 0 one) all).length c5), (12, .int .i64 (y : Int))])
    (fun y => bmA b1 ((b0.report 0 one).report 1 two) :: slc intE 3 A5 c5 (holdLens (b0.report 0 one) all) :: G) (fun y => y ≤ all.length) (fun y => all.length - y) 0 ⟨rfl, rfl, rfl, rfl, rfl, rfl, trivial⟩ (fun w hs => hs) (Nat.zero_le _) ?_
  intro j hj
  have hll := holdLens_len (b0.report 0 one) all
  repeat' (first|refine bk ?_|refine bkc ?_|refine bks ?_|refine bkd ?_|refine bkq (fun q => ?_)|(refine bk2 ?_ ?_<;>(first|exact bkn|(refine bkk ?_;intro h))))
  · obtain ⟨x, hx⟩ : ∃ x, all[j]? = some x := ⟨all[j]'(by omega), List.getElem?_eq_getElem (by omega)⟩
    refine WL.idx TT hR3'.cons.cons rfl rfl rfl (by omega) (by rw [Int.toNat_natCast]; exact hx) rfl rfl rfl rfl (fun bb o hA => ?_)
    refine WL.s (op1_at TT hA rfl rfl rfl rfl) rfl ?_
    have hm3 := more_len one two x
    have h2 := hold_len ok2 x
    have hy : (holdLens (b0.report 0 one) all)[j]? = some (((b0.report 0 one).hold x).length : Int) := by unfold holdLens; rw [List.getElem?_map, hx]; rfl
    refine WL.call c13 rfl rfl rfl rfl (blocks_Hold b1 _ ok2 x W0 _) ?_
    rintro _ _ ⟨A6, c6, rfl, rfl⟩
    repeat' (first|refine bk ?_|refine bkc ?_|refine bks ?_|refine bkd ?_|refine bkq (fun q => ?_)|(refine bk2 ?_ ?_<;>(first|exact bkn|(refine bkk ?_;intro h))))
    refine WL.idx TT (Rd.slc (i := 2) rfl) rfl rfl rfl (by omega) (by rw [Int.toNat_natCast]; exact hy) rfl rfl rfl rfl (fun b9 o9 hA9 => ?_)
    refine WL.s (op1_at TT hA9 rfl rfl rfl rfl) rfl ?_
    repeat' (first|refine bk ?_|refine bkc ?_|refine bks ?_|refine bkd ?_|refine bkq (fun q => ?_)|(refine bk2 ?_ ?_<;>(first|exact bkn|(refine bkk ?_;intro h))))
    refine WL.idx TT (Rd.slc (i := 2) rfl) rfl rfl rfl (by omega) (by rw [Int.toNat_natCast]; exact hy) rfl rfl rfl rfl (fun b8 o8 hA8 => ?_)
    repeat' (first|refine bk ?_|refine bkc ?_|refine bks ?_|refine bkd ?_|refine bkq (fun q => ?_)|(refine bk2 ?_ ?_<;>(first|exact bkn|(refine bkk ?_;intro h))))
    refine WL.s (op1_at TT hA8 rfl rfl rfl rfl) rfl ?_
    repeat' (first|refine bk ?_|refine bkc ?_|refine bks ?_|refine bkd ?_|refine bkq (fun q => ?_)|(refine bk2 ?_ ?_<;>(first|exact bkn|(refine bkk ?_;intro h))))
    exact QS.again (j + 1) (by show j + 1 ≤ all.length; omega) (by show all.length - (j + 1) < all.length - j; omega) ⟨rfl, rfl, rfl, rfl, rfl, rfl, trivial⟩ (fun w hs => hs.drop)
  · have h4 := more_held one two all
    have h5 := held_le ((b0.report 0 one).report 1 two) all
    refine WL.call c12 rfl rfl rfl rfl (blocks_Held b1 _ ok2 A3' c3 all (by omega) W0 _ hR3'.cons) ?_
    rintro _ G2 ⟨rfl, hG2⟩
    rw [hG2]; clear hG2 G2
    repeat' (first|refine bk ?_|refine bkc ?_|refine bks ?_|refine bkd ?_|refine bkq (fun q => ?_)|(refine bk2 ?_ ?_<;>(first|exact bkn|(refine bkk ?_;intro h))))
    refine WL.call c12 rfl rfl rfl rfl (blocks_Held b1 _ ok2 A3' c3 all (by omega) W0 _ hR3'.cons) ?_
    rintro _ G2 ⟨rfl, hG2⟩
    rw [hG2]; clear hG2 G2
    repeat' (first|refine bk ?_|refine bkc ?_|refine bks ?_|refine bkd ?_|refine bkq (fun q => ?_)|(refine bk2 ?_ ?_<;>(first|exact bkn|(refine bkk ?_;intro h))))
    refine QS.turn (G' := G) (fun w hs => hs.drop.drop) (QS.retV Try.results4 rfl ⟨?_, rfl⟩)
    rw [decide_eq_true (show ((heldN ((b0.report 0 one).report 1 two) all : Nat) : Int) ≤ (all.length : Int) by omega)]
    rfl
end Go.Proofs.Ytgebdehpoalfbaa.B
