import Derived.Test.YtgebdehpoalfbaaMg20
set_option linter.unusedVariables false
set_option linter.unusedSimpArgs false
set_option maxRecDepth 8000
/-! What the blocks' laws are made of. -/
namespace Go.Proofs.Ytgebdehpoalfbaa.B
open Go Go.Proofs
attribute [local irreducible] WL CS QS WQ WH WS Fn Op1 row Sat
attribute [local irreducible] slc mapb bmA inners
theorem law_pick (n m : Int) (hn : -9223372036854775808 ≤ n ∧ n ≤ 9223372036854775807) (hm : 0 < m) (W0 : World) (G : List SL) :
    Fn Try.prog 14 [.int .i64 n, .int .i64 m] W0 G (Ret fun v G' => v = .int .i64 (pickM n m) ∧ G' = G) := by
  refine Fn.enter Try.func14 rfl Try.ntmps14 rfl ?_
  have hm0 : decide (m = 0) = false := decide_eq_false (by omega)
  repeat' (first|refine bk ?_|refine bkc ?_|refine bks ?_|refine bkd ?_|refine bkq (fun q => ?_)|(refine bk2 ?_ ?_<;>(first|exact bkn|(refine bkk ?_;intro h))))
  all_goals
    refine WL.s (op1_rem TT rfl rfl (by omega)) rfl ?_
    repeat' (first|refine bk ?_|refine bkc ?_|refine bks ?_|refine bkd ?_|refine bkq (fun q => ?_)|(refine bk2 ?_ ?_<;>(first|exact bkn|(refine bkk ?_;intro h))))
    refine QS.retV Try.results14 rfl ⟨?_, rfl⟩
    first
      | (rw [pickM, if_pos (by assumption)]; rfl)
      | (rw [pickM, if_neg (by assumption)]; rfl)
theorem law_numbers (A B : Option Addr) (c c2 : Nat) (xs : List Int) (hl : xs.length ≤ 1000000) (W0 : World) (G : List SL) (hR : Rd W0 G intE A xs) (hR2 : Rd W0 G intE B xs) :
    Fn Try.prog 15 [.slice A xs.length c, .slice B xs.length c2] W0 G (Ret fun v G' => v = .bool true ∧ G' = G) := by
  refine Fn.enter Try.func15 rfl Try.ntmps15 rfl ?_
  have hne : decide ((xs.length : Int) = xs.length) = true := by simp
  repeat' (first|refine bk ?_|refine bkc ?_|refine bks ?_|refine bkd ?_|refine bkq (fun q => ?_)|(refine bk2 ?_ ?_<;>(first|exact bkn|(refine bkk ?_;intro h))))
  refine CS.loop (X := Nat) (fun i => [(0, .slice A xs.length c), (1, .slice B xs.length c2), (5, .int .i64 (i : Int))]) (fun i => G)
    (fun i => i ≤ xs.length) (fun i => xs.length - i) 0 ⟨rfl, rfl, rfl, trivial⟩ (fun w hs => hs) (Nat.zero_le _) ?_
  intro i hi
  refine CS.world fun hw => ?_
  repeat' (first|refine bk ?_|refine bkc ?_|refine bks ?_|refine bkd ?_|refine bkq (fun q => ?_)|(refine bk2 ?_ ?_<;>(first|exact bkn|(refine bkk ?_;intro h))))
  · obtain ⟨x, hx⟩ : ∃ x, xs[i]? = some x := ⟨xs[i]'(by omega), List.getElem?_eq_getElem (by omega)⟩
    refine WQ.idx TT hR rfl rfl rfl (by omega) (by rw [Int.toNat_natCast]; exact hx) rfl rfl rfl rfl hw (fun b2 o hA => ?_)
    refine WQ.s (op1_at TT hA rfl rfl rfl rfl) rfl ?_
    repeat' (first|refine bk ?_|refine bkc ?_|refine bks ?_|refine bkd ?_|refine bkq (fun q => ?_)|(refine bk2 ?_ ?_<;>(first|exact bkn|(refine bkk ?_;intro h))))
    refine WQ.idx TT hR2 rfl rfl rfl (by omega) (by rw [Int.toNat_natCast]; exact hx) rfl rfl rfl rfl hw (fun b3 o3 hA3 => ?_)
    refine WQ.s (op1_at TT hA3 rfl rfl rfl rfl) rfl ?_
    repeat' (first|refine bk ?_|refine bkc ?_|refine bks ?_|refine bkd ?_|refine bkq (fun q => ?_)|(refine bk2 ?_ ?_<;>(first|exact bkn|(refine bkk ?_;intro h))))
    exact QS.again (i + 1) (by show i + 1 ≤ xs.length; omega) (by show xs.length - (i + 1) < xs.length - i; omega) ⟨rfl, rfl, rfl, trivial⟩ (fun w hs => hs)
  · exact QS.retV Try.results15 rfl ⟨rfl, rfl⟩
theorem law_same (A B : Option Addr) (c c2 : Nat) (xs : List Blk) (hl : xs.length ≤ 1000000) (W0 : World) (G : List SL) (hR : Rd W0 G blkE A xs) (hR2 : Rd W0 G blkE B xs) :
    Fn Try.prog 24 [.slice A xs.length c, .slice B xs.length c2] W0 G (Ret fun v G' => v = .bool true ∧ G' = G) := by
  refine Fn.enter Try.func24 rfl Try.ntmps24 rfl ?_
  repeat' (first|refine bk ?_|refine bkc ?_|refine bks ?_|refine bkd ?_|refine bkq (fun q => ?_)|(refine bk2 ?_ ?_<;>(first|exact bkn|(refine bkk ?_;intro h))))
  refine CS.loop (X := Nat) (fun i => [(0, .slice A xs.length c), (1, .slice B xs.length c2), (5, .int .i64 (i : Int))]) (fun i => G)
    (fun i => i ≤ xs.length) (fun i => xs.length - i) 0 ⟨rfl, rfl, rfl, trivial⟩ (fun w hs => hs) (Nat.zero_le _) ?_
  intro i hi
  refine CS.world fun hw => ?_
  repeat' (first|refine bk ?_|refine bkc ?_|refine bks ?_|refine bkd ?_|refine bkq (fun q => ?_)|(refine bk2 ?_ ?_<;>(first|exact bkn|(refine bkk ?_;intro h))))
  · obtain ⟨x, hx⟩ : ∃ x, xs[i]? = some x := ⟨xs[i]'(by omega), List.getElem?_eq_getElem (by omega)⟩
    refine WQ.idx TT hR rfl rfl rfl (by omega) (by rw [Int.toNat_natCast]; exact hx) rfl rfl rfl rfl hw (fun b2 o hA => ?_)
    refine WQ.s (op1_at TT hA rfl rfl rfl rfl) rfl ?_
    repeat' (first|refine bk ?_|refine bkc ?_|refine bks ?_|refine bkd ?_|refine bkq (fun q => ?_)|(refine bk2 ?_ ?_<;>(first|exact bkn|(refine bkk ?_;intro h))))
    refine WQ.idx TT hR2 rfl rfl rfl (by omega) (by rw [Int.toNat_natCast]; exact hx) rfl rfl rfl rfl hw (fun b3 o3 hA3 => ?_)
    refine WQ.s (op1_at TT hA3 rfl rfl rfl rfl) rfl ?_
    have hcmp : eqFs TT [(3, 0), (3, 1), (3, 2)] (blkC x) (blkC x) = some true := by
      have e : (decide (x.id = x.id) && (decide (x.gen = x.gen) && (decide (x.len = x.len) && true))) = true := by simp
      exact (show eqFs TT [(3, 0), (3, 1), (3, 2)] (blkC x) (blkC x) = some (decide (x.id = x.id) && (decide (x.gen = x.gen) && (decide (x.len = x.len) && true))) from rfl).trans (by rw [e])
    refine WQ.s (op1_neS TT cmp28 rfl rfl rfl rfl hcmp) rfl ?_
    repeat' (first|refine bk ?_|refine bkc ?_|refine bks ?_|refine bkd ?_|refine bkq (fun q => ?_)|(refine bk2 ?_ ?_<;>(first|exact bkn|(refine bkk ?_;intro h))))
    exact QS.again (i + 1) (by show i + 1 ≤ xs.length; omega) (by show xs.length - (i + 1) < xs.length - i; omega) ⟨rfl, rfl, rfl, trivial⟩ (fun w hs => hs)
  · exact QS.retV Try.results24 rfl ⟨rfl, rfl⟩
end Go.Proofs.Ytgebdehpoalfbaa.B

set_option linter.unusedVariables false
set_option linter.unusedSimpArgs false
set_option maxRecDepth 8000
/-! The chapter's example. -/
namespace Go.Proofs.Ytgebdehpoalfbaa.B
open Go Go.Proofs
attribute [local irreducible] WL CS QS WQ WH WS Fn Op1 row Sat
attribute [local irreducible] slc mapb bmA inners
set_option maxHeartbeats 2000000 in
theorem law_examples (W0 : World) (G : List SL) :
    Fn Try.prog 8 [] W0 G (Ret fun v G' => v = .bool true ∧ G' = G) := by
  refine Fn.enter Try.func8 rfl Try.ntmps8 rfl ?_
  repeat' (first|refine bk ?_|refine bkc ?_|refine bks ?_|refine bkd ?_|refine bkq (fun q => ?_)|(refine bk2 ?_ ?_<;>(first|exact bkn|(refine bkk ?_;intro h))))
  refine WL.call c9 rfl rfl rfl rfl (blocks_New W0 _) ?_
  rintro _ _ ⟨b, rfl, rfl⟩
  repeat' (first|refine bk ?_|refine bkc ?_|refine bks ?_|refine bkd ?_|refine bkq (fun q => ?_)|(refine bk2 ?_ ?_<;>(first|exact bkn|(refine bkk ?_;intro h))))
  revert q; intro q2
  refine WL.buildSlice TT rfl rfl rfl rfl rfl rfl rfl rfl (fun q3 => ?_)
  have hc := blocks_Report b b0 0 (some ⟨q3, 0, none⟩) 1 [⟨7, 2, 5, false⟩] (by decide) W0 (row q3 30 [.int .i64 7, .int .i64 2, .int .i64 5, .bool false] :: row q2 28 (blkC exB) :: G) (Rd.row (i := 0) rfl rfl)
  rw [if_pos (by decide)] at hc
  refine WL.call c10 rfl rfl rfl rfl (hc.pre (fun w hs => hs.front (i := 2) rfl)) ?_
  clear hc
  rintro _ _ ⟨rfl, rfl⟩
  repeat' (first|refine bk ?_|refine bkc ?_|refine bks ?_|refine bkd ?_|refine bkq (fun q => ?_)|(refine bk2 ?_ ?_<;>(first|exact bkn|(refine bkk ?_;intro h))))
  refine WL.buildSlice TT rfl rfl rfl rfl rfl rfl rfl rfl (fun q4 => ?_)
  have hc := blocks_Report b (b0.report 0 [⟨7, 2, 5, false⟩]) 1 (some ⟨q4, 0, none⟩) 1 [⟨7, 1, 9, false⟩] (by decide) W0 (row q4 30 [.int .i64 7, .int .i64 1, .int .i64 9, .bool false] :: row q3 30 [.int .i64 7, .int .i64 2, .int .i64 5, .bool false] :: row q2 28 (blkC exB) :: G) (Rd.row (i := 0) rfl rfl)
  rw [if_pos (by decide)] at hc
  refine WL.call c10 rfl rfl rfl rfl (hc.pre (fun w hs => hs.front (i := 1) rfl)) ?_
  clear hc
  rintro _ _ ⟨rfl, rfl⟩
  rw [show (b0.report 0 [⟨7, 2, 5, false⟩]).report 1 [⟨7, 1, 9, false⟩] = exM from rfl]
  repeat' (first|refine bk ?_|refine bkc ?_|refine bks ?_|refine bkd ?_|refine bkq (fun q => ?_)|(refine bk2 ?_ ?_<;>(first|exact bkn|(refine bkk ?_;intro h))))
  have hc := blocks_Hold b exM exM_ok exB W0 (row q4 30 [.int .i64 7, .int .i64 1, .int .i64 9, .bool false] :: row q3 30 [.int .i64 7, .int .i64 2, .int .i64 5, .bool false] :: row q2 28 (blkC exB) :: G)
  rw [ex_hold] at hc
  refine WL.call c13 rfl rfl rfl rfl hc ?_
  clear hc
  rintro _ _ ⟨A5, c5, rfl, rfl⟩
  repeat' (first|refine bk ?_|refine bkc ?_|refine bks ?_|refine bkd ?_|refine bkq (fun q => ?_)|(refine bk2 ?_ ?_<;>(first|exact bkn|(refine bkk ?_;intro h))))
  refine WL.buildSlice TT rfl rfl rfl rfl rfl rfl rfl rfl (fun q5 => ?_)
  refine WL.call c15 rfl rfl rfl rfl (law_numbers A5 (some ⟨q5, 0, none⟩) c5 1 [0] (by decide) W0 _ (Rd.slc (i := 1) rfl) (Rd.row (i := 0) rfl rfl)) ?_
  rintro _ G2 ⟨rfl, hG2⟩
  rw [hG2]; clear hG2 G2
  repeat' (first|refine bk ?_|refine bkc ?_|refine bks ?_|refine bkd ?_|refine bkq (fun q => ?_)|(refine bk2 ?_ ?_<;>(first|exact bkn|(refine bkk ?_;intro h))))
  refine WL.buildSlice TT rfl rfl rfl rfl rfl rfl rfl rfl (fun q6 => ?_)
  have hc := blocks_Stale b exM (some ⟨q6, 0, none⟩) 1 [exB] (by decide) 1 (by decide) W0 (row q6 28 (blkC exB) :: row q5 3 [.int .i64 0] :: slc intE 3 A5 c5 [0] :: row q4 30 [.int .i64 7, .int .i64 1, .int .i64 9, .bool false] :: row q3 30 [.int .i64 7, .int .i64 2, .int .i64 5, .bool false] :: row q2 28 (blkC exB) :: G) (Rd.row (i := 0) rfl rfl)
  rw [ex_stale] at hc
  refine WL.call c11 rfl rfl rfl rfl (hc.pre (fun w hs => hs.front (i := 3) rfl)) ?_
  clear hc
  rintro _ _ ⟨A7, c7, rfl, rfl⟩
  repeat' (first|refine bk ?_|refine bkc ?_|refine bks ?_|refine bkd ?_|refine bkq (fun q => ?_)|(refine bk2 ?_ ?_<;>(first|exact bkn|(refine bkk ?_;intro h))))
  refine WL.buildSlice TT rfl rfl rfl rfl rfl rfl rfl rfl (fun q7 => ?_)
  refine WL.call c15 rfl rfl rfl rfl (law_numbers A7 (some ⟨q7, 0, none⟩) c7 1 [7] (by decide) W0 _ (Rd.slc (i := 1) rfl) (Rd.row (i := 0) rfl rfl)) ?_
  rintro _ G2 ⟨rfl, hG2⟩
  rw [hG2]; clear hG2 G2
  repeat' (first|refine bk ?_|refine bkc ?_|refine bks ?_|refine bkd ?_|refine bkq (fun q => ?_)|(refine bk2 ?_ ?_<;>(first|exact bkn|(refine bkk ?_;intro h))))
  refine WL.buildSlice TT rfl rfl rfl rfl rfl rfl rfl rfl (fun q8 => ?_)
  have hc := fun F hR => blocks_Held b exM exM_ok (some ⟨q8, 0, none⟩) 1 [exB] (by decide) W0 F hR
  simp only [ex_held] at hc
  repeat' (first|refine bk ?_|refine bkc ?_|refine bks ?_|refine bkd ?_|refine bkq (fun q => ?_)|(refine bk2 ?_ ?_<;>(first|exact bkn|(refine bkk ?_;intro h))))
  refine WL.call c12 rfl rfl rfl rfl ((hc _ (Rd.row (i := 0) rfl rfl)).pre (fun w hs => hs.front (i := 3) rfl)) ?_
  clear hc
  rintro _ _ ⟨rfl, rfl⟩
  repeat' (first|refine bk ?_|refine bkc ?_|refine bks ?_|refine bkd ?_|refine bkq (fun q => ?_)|(refine bk2 ?_ ?_<;>(first|exact bkn|(refine bkk ?_;intro h))))
  exact QS.turn (G' := G) (fun w hs => hs.drop.drop.drop.drop.drop.drop.drop.drop.drop.drop) (QS.retV Try.results8 rfl ⟨rfl, rfl⟩)
end Go.Proofs.Ytgebdehpoalfbaa.B

set_option linter.unusedVariables false
set_option linter.unusedSimpArgs false
set_option maxRecDepth 8000
/-! BlocksStale: the walk. -/
namespace Go.Proofs.Ytgebdehpoalfbaa.B
open Go Go.Proofs
theorem needB_take {l : List Blk} {k : Nat} {x : Blk} (h : l[k]? = some x) (i g : Int) : needB (l.take (k + 1)) i g = (needB (l.take k) i g || (decide (x.id = i) && decide (x.gen = g))) := by
  unfold needB
  rw [List.take_add_one, h, Option.toList_some, List.any_append]
  simp
attribute [local irreducible] WL CS QS WQ WH WS Fn Op1 row Sat
attribute [local irreducible] slc mapb bmA inners
set_option maxHeartbeats 4000000 in
theorem law_BlocksStale (A1 : Option Addr) (k1 c1 : Nat) (l0 : List Rep) (hk1 : k1 = l0.length) (hkc1 : k1 ≤ c1) (hc1 : c1 ≤ 9223372036854775807)
    (A3 : Option Addr) (k3 c3 : Nat) (all0 : List Blk) (hk3 : k3 = all0.length) (hkc3 : k3 ≤ c3) (hc3 : c3 ≤ 9223372036854775807) (W0 : World) (G : List SL) (hR1 : Rd W0 G repE A1 l0) (hR3 : Rd W0 G blkE A3 all0) :
    Fn Try.prog 3 [.slice A1 k1 c1, .slice A3 k3 c3] W0 G (Ret fun v G' => v = .bool true ∧ G' = G) := by
  refine Fn.enter Try.func3 rfl Try.ntmps3 rfl ?_
  repeat' (first|refine bk ?_|refine bkc ?_|refine bks ?_|refine bkd ?_|refine bkq (fun q => ?_)|(refine bk2 ?_ ?_<;>(first|exact bkn|(refine bkk ?_;intro h))))
  refine WL.call c8 rfl rfl rfl rfl (law_examples W0 _) ?_
  rintro _ G2 ⟨rfl, hG2⟩
  rw [hG2]; clear hG2 G2
  repeat' (first|refine bk ?_|refine bkc ?_|refine bks ?_|refine bkd ?_|refine bkq (fun q => ?_)|(refine bk2 ?_ ?_<;>(first|exact bkn|(refine bkk ?_;intro h))))
  refine WL.call c9 rfl rfl rfl rfl (blocks_New W0 _) ?_
  rintro _ _ ⟨b1, rfl, rfl⟩
  repeat' (first|refine bk ?_|refine bkc ?_|refine bkd ?_|refine bkq (fun q => ?_)|(refine bk2 ?_ ?_<;>(first|exact bkn|(refine bkk ?_;intro h))))
  refine CS.seq ?_
  refine CS.seq ?_
  repeat' (first|refine bk ?_|refine bkc ?_|refine bkd ?_|refine bkq (fun q => ?_)|(refine bk2 ?_ ?_<;>(first|exact bkn|(refine bkk ?_;intro h))))
  refine CS.seq ?_
  repeat' (first|refine bk ?_|refine bkc ?_|refine bkd ?_|refine bkq (fun q => ?_)|(refine bk2 ?_ ?_<;>(first|exact bkn|(refine bkk ?_;intro h))))
  refine CS.seq ?_
  obtain ⟨K, hK⟩ : ∃ K, K = min k1 20 := ⟨_, rfl⟩
  refine CS.cut (X := Option Addr × Nat) (fun y => [(1, .slice A3 k3 c3), (5, .bool true), (6, .pointer (some ⟨b1, 0, none⟩)), (7, .slice y.1 (numbered (l0.take K)).length y.2)])
    (fun y => slc repE 30 y.1 y.2 (numbered (l0.take K)) :: bmA b1 b0 :: G) (fun _ => True) ?_ ?_
  · repeat' (first|refine bk ?_|refine bkc ?_|refine bks ?_|refine bkd ?_|refine bkq (fun q => ?_)|(refine bk2 ?_ ?_<;>(first|exact bkn|(refine bkk ?_;intro h))))
    refine CS.loop (X := Nat × Option Addr × Nat) (fun y => [(0, .slice A1 k1 c1), (1, .slice A3 k3 c3), (5, .bool true), (6, .pointer (some ⟨b1, 0, none⟩)), (7, .slice y.2.1 (numbered (l0.take y.1)).length y.2.2), (8, .int .i64 (y.1 : Int))])
      (fun y => slc repE 30 y.2.1 y.2.2 (numbered (l0.take y.1)) :: bmA b1 b0 :: G) (fun y => y.1 ≤ min k1 20) (fun y => 20 - y.1) (0, none, 0) ⟨rfl, rfl, rfl, rfl, rfl, rfl, trivial⟩ (fun w hs => hs.slcNil repE 30) (Nat.zero_le _) ?_
    rintro ⟨i, A5, c5⟩ hi
    simp only at hi ⊢
    have hnl : (numbered (l0.take i)).length = i := by rw [numbered_len, List.length_take]; omega
    repeat' (first|refine bk ?_|refine bkc ?_|refine bks ?_|refine bkd ?_|refine bkq (fun q => ?_)|(refine bk2 ?_ ?_<;>(first|exact bkn|(refine bkk ?_;intro h))))
    · obtain ⟨x, hx⟩ : ∃ x, l0[i]? = some x := ⟨l0[i]'(by omega), List.getElem?_eq_getElem (by omega)⟩
      refine WL.idx TT hR1.cons.cons rfl rfl hk1 (by omega) (by rw [Int.toNat_natCast]; exact hx) rfl rfl rfl rfl (fun bb o hA => ?_)
      refine WL.s (op1_at TT hA rfl rfl rfl rfl) rfl ?_
      have hh := numbered_take l0 i x hx
      generalize numbered (l0.take i) = X at hh hnl ⊢
      repeat' (first|refine bk ?_|refine bkc ?_|refine bks ?_|refine bkd ?_|refine bkq (fun q => ?_)|(refine bk2 ?_ ?_<;>(first|exact bkn|(refine bkk ?_;intro h))))
      refine WL.buildSlice TT rfl rfl rfl rfl rfl rfl rfl rfl (fun q7 => ?_)
      refine WL.append TT (E := repE) (xs := X) (ys := [numF i x]) 2 rfl rfl rfl rfl rfl (Rd.row (i := 0) rfl rfl) rfl rfl rfl rfl rfl (by decide) (by simp only [List.length_cons, List.length_nil]; omega) (fun _ _ => rfl) rfl (fun A7 c7 => ?_)
      repeat' (first|refine bk ?_|refine bkc ?_|refine bks ?_|refine bkd ?_|refine bkq (fun q => ?_)|(refine bk2 ?_ ?_<;>(first|exact bkn|(refine bkk ?_;intro h))))
      refine QS.again (i + 1, A7, c7) (by show i + 1 ≤ min k1 20; omega) (by show 20 - (i + 1) < 20 - i; omega) ⟨rfl, rfl, rfl, rfl, by simp only [hh]; rfl, rfl, trivial⟩ (fun w hs => ?_)
      simp only [hh]
      exact (hs.drop.drop)
    all_goals
      have hiK : i = K := by omega
      subst hiK
      exact QS.met (A5, c5) trivial ⟨rfl, rfl, rfl, rfl, trivial⟩ (fun w hs => hs)
  rintro ⟨A5, c5⟩ _
  simp only
  have hnl : (numbered (l0.take K)).length = K := by rw [numbered_len, List.length_take]; omega
  have hst := fun all => stale_free (l0.take K) all
  have hKl : (l0.take K).length = K := by rw [List.length_take]; omega
  rw [hKl] at hst
  generalize numbered (l0.take K) = own at hnl hst ⊢
  repeat' (first|refine bk ?_|refine bkc ?_|refine bks ?_|refine bkd ?_|refine bkq (fun q => ?_)|(refine bk2 ?_ ?_<;>(first|exact bkn|(refine bkk ?_;intro h))))
  obtain ⟨m, hm, hm1⟩ : ∃ m : Nat, (if (20 : Int) < (k3 : Int) then (20 : Int) else (k3 : Int)) = (m : Int) ∧ m = min k3 20 := ⟨min k3 20, by split <;> omega, rfl⟩
  rw [hm]
  refine WL.s (op1_sliceS (E := blkE) (xs := all0) (l := 0) (r := (m : Int)) TT (by rfl) (by rfl) rfl rfl hk3 rfl rfl (by omega) hkc3) rfl ?_
  simp only [Int.toNat_zero, Nat.sub_zero, Int.toNat_natCast]
  have hR3' := hR3.part (c := c3) (l := 0) (r := m) (by omega) (by omega)
  have hlen3 : m = ((all0.take m).drop 0).length := by rw [List.drop_zero, List.length_take]; omega
  generalize (all0.take m).drop 0 = all at hR3' hlen3
  generalize (if c3 = 0 then A3 else A3.map (·.add (0 * blkE.sz))) = A3' at hR3' ⊢
  have hl3 : all.length ≤ 20 := by omega
  rw [hlen3]
  clear hm hm1 hlen3 hR3
  have hst := hst all
  repeat' (first|refine bk ?_|refine bkc ?_|refine bks ?_|refine bkd ?_|refine bkq (fun q => ?_)|(refine bk2 ?_ ?_<;>(first|exact bkn|(refine bkk ?_;intro h))))
  have hc := fun F hR => blocks_Report b1 b0 2 A5 c5 own (by omega) W0 F hR
  rw [if_pos (by decide)] at hc
  refine WL.call c10 rfl rfl rfl rfl ((hc _ (Rd.slc (i := 0) rfl)).pre (fun w hs => hs.front (i := 1) rfl)) ?_
  clear hc
  rintro _ _ ⟨rfl, rfl⟩
  have hat : ((b0.report 2 own).at 2).length ≤ 1000000 := by
    rw [report_at (by decide), if_pos rfl]
    exact Nat.le_trans (nmOf_len own) (by omega)
  have hc := fun F hR => blocks_Stale b1 (b0.report 2 own) A3' c3 all (by omega) 2 hat W0 F hR
  rw [hst] at hc
  repeat' (first|refine bk ?_|refine bkc ?_|refine bks ?_|refine bkd ?_|refine bkq (fun q => ?_)|(refine bk2 ?_ ?_<;>(first|exact bkn|(refine bkk ?_;intro h))))
  refine WL.call c11 rfl rfl rfl rfl (hc _ hR3'.cons) ?_
  clear hc
  rintro _ _ ⟨A6, c6, rfl, rfl⟩
  repeat' (first|refine bk ?_|refine bkc ?_|refine bks ?_|refine bkd ?_|refine bkq (fun q => ?_)|(refine bk2 ?_ ?_<;>(first|exact bkn|(refine bkk ?_;intro h))))
  refine CS.loop (X := Nat) (fun i => [(1, .slice A3' all.length c3), (5, .bool true), (7, .slice A5 own.length c5), (10, .slice A6 (freeI own all K).length c6), (11, .int .i64 ((freeI own all i).length : Int)), (12, .int .i64 (i : Int))])
    (fun i => slc intE 3 A6 c6 (freeI own all K) :: bmA b1 (b0.report 2 own) :: slc repE 30 A5 c5 own :: G) (fun i => i ≤ K) (fun i => K - i) 0 ⟨rfl, rfl, rfl, rfl, rfl, rfl, trivial⟩ (fun w hs => hs) (Nat.zero_le _) ?_
  intro i hi
  have hfl : (freeI own all i).length ≤ i := by unfold freeI; rw [List.length_map]; exact Nat.le_trans (List.length_filter_le _ _) (by simp)
  have hfs := freeI_succ own all i
  by_cases hiK : i < K
  · obtain ⟨r, hr⟩ : ∃ x, own[i]? = some x := ⟨own[i]'(by omega), List.getElem?_eq_getElem (by omega)⟩
    have hnr : needR own all i = needB all (i : Int) r.gen := by unfold needR; rw [hr]
    rw [hnr] at hfs
    have hgo : ((i : Nat) : Int) < (own.length : Int) := by omega
    repeat' (first|refine bk ?_|refine bkc ?_|refine bks ?_|refine bkd ?_|refine bkq (fun q => ?_)|(refine bk2 ?_ ?_<;>(first|exact bkn|(refine bkk ?_;intro h))))
    refine CS.loop (X := Nat) (fun k => [(1, .slice A3' all.length c3), (5, .bool true), (7, .slice A5 own.length c5), (10, .slice A6 (freeI own all K).length c6), (11, .int .i64 ((freeI own all i).length : Int)), (12, .int .i64 (i : Int)), (13, .bool (needB (all.take k) (i : Int) r.gen)), (14, .int .i64 (k : Int))])
      (fun _ => slc intE 3 A6 c6 (freeI own all K) :: bmA b1 (b0.report 2 own) :: slc repE 30 A5 c5 own :: G) (fun k => k ≤ all.length) (fun k => all.length - k) 0 ⟨rfl, rfl, rfl, rfl, rfl, rfl, rfl, rfl, trivial⟩ (fun w hs => hs) (Nat.zero_le _) ?_
    intro k hk
    refine CS.world fun hw => ?_
    by_cases hkl : k < all.length
    · obtain ⟨x, hx⟩ : ∃ x, all[k]? = some x := ⟨all[k]'(by omega), List.getElem?_eq_getElem (by omega)⟩
      have hnb := needB_take hx (i : Int) r.gen
      generalize needB (all.take k) (i : Int) r.gen = nb at hnb ⊢
      cases nb with
      | true =>
        repeat' (first|refine bk ?_|refine bkc ?_|refine bks ?_|refine bkd ?_|refine bkq (fun q => ?_)|(refine bk2 ?_ ?_<;>(first|exact bkn|(refine bkk ?_;intro h))))
        refine QS.again (k + 1) (by show k + 1 ≤ all.length; omega) (by show all.length - (k + 1) < all.length - k; omega) ⟨rfl, rfl, rfl, rfl, rfl, rfl, by rw [hnb]; rfl, rfl, trivial⟩ (fun w hs => hs)
      | false =>
        repeat' (first|refine bk ?_|refine bkc ?_|refine bks ?_|refine bkd ?_|refine bkq (fun q => ?_)|(refine bk2 ?_ ?_<;>(first|exact bkn|(refine bkk ?_;intro h))))
        refine WQ.idx TT hR3'.cons.cons.cons rfl rfl rfl (by omega) (by rw [Int.toNat_natCast]; exact hx) rfl rfl rfl rfl hw (fun b2 o hA => ?_)
        repeat' (first|refine bk ?_|refine bkc ?_|refine bks ?_|refine bkd ?_|refine bkq (fun q => ?_)|(refine bk2 ?_ ?_<;>(first|exact bkn|(refine bkk ?_;intro h))))
        refine WQ.s (op1_atF TT 0 hA rfl rfl rfl rfl rfl) rfl ?_
        by_cases hid : x.id = (i : Int)
        · repeat' (first|refine bk ?_|refine bkc ?_|refine bks ?_|refine bkd ?_|refine bkq (fun q => ?_)|(refine bk2 ?_ ?_<;>(first|exact bkn|(refine bkk ?_;intro h))))
          refine WQ.idx TT hR3'.cons.cons.cons rfl rfl rfl (by omega) (by rw [Int.toNat_natCast]; exact hx) rfl rfl rfl rfl hw (fun b3 o3 hA3 => ?_)
          repeat' (first|refine bk ?_|refine bkc ?_|refine bks ?_|refine bkd ?_|refine bkq (fun q => ?_)|(refine bk2 ?_ ?_<;>(first|exact bkn|(refine bkk ?_;intro h))))
          refine WQ.s (op1_atF TT 1 hA3 rfl rfl rfl rfl rfl) rfl ?_
          repeat' (first|refine bk ?_|refine bkc ?_|refine bks ?_|refine bkd ?_|refine bkq (fun q => ?_)|(refine bk2 ?_ ?_<;>(first|exact bkn|(refine bkk ?_;intro h))))
          refine WQ.idx TT (Rd.slc (i := 2) rfl) rfl rfl rfl (by omega) (by rw [Int.toNat_natCast]; exact hr) rfl rfl rfl rfl hw (fun b4 o4 hA4 => ?_)
          repeat' (first|refine bk ?_|refine bkc ?_|refine bks ?_|refine bkd ?_|refine bkq (fun q => ?_)|(refine bk2 ?_ ?_<;>(first|exact bkn|(refine bkk ?_;intro h))))
          refine WQ.s (op1_atF TT 1 hA4 rfl rfl rfl rfl rfl) rfl ?_
          repeat' (first|refine bk ?_|refine bkc ?_|refine bks ?_|refine bkd ?_|refine bkq (fun q => ?_)|(refine bk2 ?_ ?_<;>(first|exact bkn|(refine bkk ?_;intro h))))
          refine QS.again (k + 1) (by show k + 1 ≤ all.length; omega) (by show all.length - (k + 1) < all.length - k; omega) ⟨rfl, rfl, rfl, rfl, rfl, rfl, by rw [hnb, decide_eq_true hid]; rfl, rfl, trivial⟩ (fun w hs => hs)
        · repeat' (first|refine bk ?_|refine bkc ?_|refine bks ?_|refine bkd ?_|refine bkq (fun q => ?_)|(refine bk2 ?_ ?_<;>(first|exact bkn|(refine bkk ?_;intro h))))
          refine QS.again (k + 1) (by show k + 1 ≤ all.length; omega) (by show all.length - (k + 1) < all.length - k; omega) ⟨rfl, rfl, rfl, rfl, rfl, rfl, by rw [hnb, decide_eq_false hid]; rfl, rfl, trivial⟩ (fun w hs => hs)
    · have hk1 : all.take k = all := List.take_of_length_le (by omega)
      rw [hk1]
      cases hnb : needB all (i : Int) r.gen with
      | true =>
        rw [hnb, if_pos rfl, List.append_nil] at hfs
        repeat' (first|refine bk ?_|refine bkc ?_|refine bks ?_|refine bkd ?_|refine bkq (fun q => ?_)|(refine bk2 ?_ ?_<;>(first|exact bkn|(refine bkk ?_;intro h))))
        exact QS.again (i + 1) (by show i + 1 ≤ K; omega) (by show K - (i + 1) < K - i; omega) ⟨rfl, rfl, rfl, rfl, by rw [hfs]; rfl, rfl, trivial⟩ (fun w hs => hs)
      | false =>
        rw [hnb, if_neg (by decide)] at hfs
        have hfa := free_at (n := K) hiK (hnr.trans hnb)
        have hlt := (List.getElem?_eq_some_iff.1 hfa).1
        repeat' (first|refine bk ?_|refine bkc ?_|refine bks ?_|refine bkd ?_|refine bkq (fun q => ?_)|(refine bk2 ?_ ?_<;>(first|exact bkn|(refine bkk ?_;intro h))))
        refine WL.idx TT (Rd.slc (i := 0) rfl) rfl rfl rfl (by omega) (by rw [Int.toNat_natCast]; exact hfa) rfl rfl rfl rfl (fun b4 o4 hA4 => ?_)
        repeat' (first|refine bk ?_|refine bkc ?_|refine bks ?_|refine bkd ?_|refine bkq (fun q => ?_)|(refine bk2 ?_ ?_<;>(first|exact bkn|(refine bkk ?_;intro h))))
        refine WL.s (op1_at TT hA4 rfl rfl rfl rfl) rfl ?_
        repeat' (first|refine bk ?_|refine bkc ?_|refine bks ?_|refine bkd ?_|refine bkq (fun q => ?_)|(refine bk2 ?_ ?_<;>(first|exact bkn|(refine bkk ?_;intro h))))
        exact QS.again (i + 1) (by show i + 1 ≤ K; omega) (by show K - (i + 1) < K - i; omega) ⟨rfl, rfl, rfl, rfl, by rw [hfs, List.length_append]; rfl, rfl, trivial⟩ (fun w hs => hs)
  · have hiK2 : i = K := by omega
    subst hiK2
    repeat' (first|refine bk ?_|refine bkc ?_|refine bks ?_|refine bkd ?_|refine bkq (fun q => ?_)|(refine bk2 ?_ ?_<;>(first|exact bkn|(refine bkk ?_;intro h))))
    exact QS.turn (G' := G) (fun w hs => hs.drop.drop.drop) (QS.retV Try.results3 rfl ⟨by simp [resV], rfl⟩)
end Go.Proofs.Ytgebdehpoalfbaa.B
