import Derived.Test.YtgebdehpoalfbaaMg24
import Derived.Test.YtgebdehpoalfbaaMg26
set_option linter.unusedVariables false
set_option linter.unusedSimpArgs false
set_option maxRecDepth 8000
/-! BlocksPlay: the walk. -/
namespace Go.Proofs.Ytgebdehpoalfbaa.B
open Go Go.Proofs
structure SlX where
  A : Option Addr
  k : Nat
  c : Nat
def slE : EncK SlX := ⟨fun d => [.slice d.A d.k d.c], 1, fun _ => rfl, by decide, fun _ u hu => by
  simp only [List.mem_cons, List.not_mem_nil, or_false] at hu
  rcases hu with rfl <;> rfl⟩
def deedK (u : DeedB) (lA : Option Addr) (ln : Nat) (allA : Option Addr) (an : Nat) : List Value := [.int .i64 u.kind, .int .i64 u.node, .slice lA ln u.lc, .slice allA an u.allc, .int .i64 u.bid, .int .i64 u.bgen, .int .i64 u.blen, .int .i64 u.n]
theorem cp_at {M : BM} {L : Nat → List Rep} {s : Nat → Bool} (h : Cp M L s) (n : Int) : (M.at n).length ≤ 30 := by
  by_cases hn : 0 ≤ n ∧ n < 4
  · obtain ⟨k, rfl⟩ : ∃ k : Nat, n = (k : Int) := ⟨n.toNat, by omega⟩
    rw [h.eq k (by omega)]
    have := h.len k (by omega)
    simpa [keyed] using this
  · unfold BM.at
    rw [out_get h.ok hn]
    exact Nat.zero_le _
theorem cp_stale {M : BM} {L : Nat → List Rep} {s : Nat → Bool} (h : Cp M L s) (l : List Blk) (n : Int) : (M.stale l n).length ≤ 30 := by
  unfold BM.stale
  rw [sortI_len, List.length_map]
  exact Nat.le_trans (List.length_filter_le _ _) (cp_at h n)
theorem nodes_le {M : BM} (hM : BMOk M) : M.nodes.length ≤ 4 := by
  rw [nodes_eq hM]
  exact List.length_filter_le _ _
theorem short_le (M : BM) (l : List Blk) (w : Int) : (M.short l w).length ≤ l.length := by
  unfold BM.short
  exact List.length_filter_le _ _
attribute [local irreducible] WL CS QS WQ WH WS Fn Op1 row Sat
attribute [local irreducible] slc mapb bmA inners slc4 rmA rmC
set_option maxHeartbeats 16000000 in
theorem law_BlocksPlay (A : Option Addr) (k c : Nat) (ls : List DeedB) (hk : k = ls.length) (hL : ∀ x ∈ ls, DeedBOk x) (W0 : World) (G : List SL) (hR : Rd W0 G dbE A ls) (hR2 : ∀ x ∈ ls, Rd W0 G repE x.lA x.l) (hR3 : ∀ x ∈ ls, Rd W0 G blkE x.allA x.all) :
    Fn Try.prog 7 [.slice A k c] W0 G (Ret fun v G' => v = .bool true ∧ G' = G) := by
  subst hk
  refine Fn.enter Try.func7 rfl Try.ntmps7 rfl ?_
  repeat' (first|refine bk ?_|refine bkc ?_|refine bks ?_|refine bkd ?_|refine bkq (fun q => ?_)|(refine bk2 ?_ ?_<;>(first|exact bkn|(refine bkk ?_;intro h))))
  refine WL.call c8 rfl rfl rfl rfl (law_examples W0 _) ?_
  rintro _ G2 ⟨rfl, hG2⟩
  rw [hG2]; clear hG2 G2
  repeat' (first|refine bk ?_|refine bkc ?_|refine bks ?_|refine bkd ?_|refine bkq (fun q => ?_)|(refine bk2 ?_ ?_<;>(first|exact bkn|(refine bkk ?_;intro h))))
  refine WL.call c9 rfl rfl rfl rfl (blocks_New W0 _) ?_
  rintro _ _ ⟨b1, rfl, rfl⟩
  repeat' (first|refine bk ?_|refine bkc ?_|refine bks ?_|refine bkd ?_|refine bkq (fun q => ?_)|(refine bk2 ?_ ?_<;>(first|exact bkn|(refine bkk ?_;intro h))))
  revert q; intro b2
  refine CS.loop (X := BM × (Nat → List Rep) × (Nat → Bool) × Nat) (fun y => [(0, .slice A ls.length c), (3, .bool true), (4, .pointer (some ⟨b1, 0, none⟩)), (5, .pointer (some ⟨b2, 0, none⟩)), (6, .int .i64 (y.2.2.2 : Int))])
    (fun y => bmA b1 y.1 :: rmA b2 y.2.1 y.2.2.1 :: G) (fun y => Cp y.1 y.2.1 y.2.2.1 ∧ y.2.2.2 ≤ ls.length) (fun y => ls.length - y.2.2.2) (b0, fun _ => [], fun _ => false, 0) ⟨rfl, rfl, rfl, rfl, rfl, trivial⟩ (fun w hs => (rm0 w hs).front (i := 1) rfl) ⟨cp0, Nat.zero_le _⟩ ?_
  rintro ⟨M, L, s, i⟩ ⟨hC, hi⟩
  simp only at hC hi ⊢
  by_cases hgo : i < ls.length ∧ i < 40
  · obtain ⟨u, hu⟩ : ∃ x, ls[i]? = some x := ⟨ls[i]'(by omega), List.getElem?_eq_getElem (by omega)⟩
    have hum := List.mem_of_getElem? hu
    have huo := hL u hum
    have hul := huo.l.1
    have hua := huo.all.1
    unfold maxLen at hul hua
    have hRl := hR2 u hum
    have hRa := hR3 u hum
    have hg1 := hgo.1
    have hg2 := hgo.2
    refine CS.seq ?_
    refine CS.seq ?_
    repeat' (first|refine bk ?_|refine bkc ?_|refine bkd ?_|refine bkq (fun q => ?_)|(refine bk2 ?_ ?_<;>(first|exact bkn|(refine bkk ?_;intro h))))
    refine CS.seq ?_
    repeat' (first|refine bk ?_|refine bkc ?_|refine bkd ?_|refine bkq (fun q => ?_)|(refine bk2 ?_ ?_<;>(first|exact bkn|(refine bkk ?_;intro h))))
    refine CS.seq ?_
    repeat' (first|refine bk ?_|refine bkc ?_|refine bkd ?_|refine bkq (fun q => ?_)|(refine bk2 ?_ ?_<;>(first|exact bkn|(refine bkk ?_;intro h))))
    refine WL.idx TT hR.cons.cons rfl rfl rfl (by omega) (by rw [Int.toNat_natCast]; exact hu) rfl rfl rfl rfl (fun bb o hA => ?_)
    refine WL.s (op1_at TT hA rfl rfl rfl rfl) rfl ?_
    repeat' (first|refine bk ?_|refine bkc ?_|refine bkd ?_|refine bkq (fun q => ?_)|(refine bk2 ?_ ?_<;>(first|exact bkn|(refine bkk ?_;intro h))))
    revert q; intro q7
    refine CS.seq ?_
    repeat' (first|refine bk ?_|refine bkc ?_|refine bkd ?_|refine bkq (fun q => ?_)|(refine bk2 ?_ ?_<;>(first|exact bkn|(refine bkk ?_;intro h))))
    obtain ⟨m, hm, hm1⟩ : ∃ m : Nat, (if (30 : Int) < (u.l.length : Int) then (30 : Int) else (u.l.length : Int)) = (m : Int) ∧ m = min u.l.length 30 := ⟨min u.l.length 30, by split <;> omega, rfl⟩
    rw [hm]
    refine WL.s (op1_sliceS (E := repE) (xs := u.l) (l := 0) (r := (m : Int)) TT (by rfl) (by rfl) rfl rfl rfl rfl rfl (by omega) (by omega)) rfl ?_
    simp only [Int.toNat_zero, Nat.sub_zero, Int.toNat_natCast]
    have hRl' := hRl.part (c := u.lc) (l := 0) (r := m) (by omega) (by omega)
    have hlenl : m = ((u.l.take m).drop 0).length := by rw [List.drop_zero, List.length_take]; omega
    generalize (u.l.take m).drop 0 = l at hRl' hlenl
    generalize (if u.lc = 0 then u.lA else u.lA.map (·.add (0 * repE.sz))) = lA at hRl' ⊢
    have hll : l.length ≤ 30 := by omega
    rw [hlenl]
    clear hm hm1 hlenl hRl
    repeat' (first|refine bk ?_|refine bkc ?_|refine bkd ?_|refine bkq (fun q => ?_)|(refine bk2 ?_ ?_<;>(first|exact bkn|(refine bkk ?_;intro h))))
    refine CS.seq ?_
    repeat' (first|refine bk ?_|refine bkc ?_|refine bkd ?_|refine bkq (fun q => ?_)|(refine bk2 ?_ ?_<;>(first|exact bkn|(refine bkk ?_;intro h))))
    obtain ⟨m2, hm, hm1⟩ : ∃ m : Nat, (if (30 : Int) < (u.all.length : Int) then (30 : Int) else (u.all.length : Int)) = (m : Int) ∧ m = min u.all.length 30 := ⟨min u.all.length 30, by split <;> omega, rfl⟩
    rw [hm]
    refine WL.s (op1_sliceS (E := blkE) (xs := u.all) (l := 0) (r := (m2 : Int)) TT (by rfl) (by rfl) rfl rfl rfl rfl rfl (by omega) (by omega)) rfl ?_
    simp only [Int.toNat_zero, Nat.sub_zero, Int.toNat_natCast]
    have hRa' := hRa.part (c := u.allc) (l := 0) (r := m2) (by omega) (by omega)
    have hlena : m2 = ((u.all.take m2).drop 0).length := by rw [List.drop_zero, List.length_take]; omega
    generalize (u.all.take m2).drop 0 = all at hRa' hlena
    generalize (if u.allc = 0 then u.allA else u.allA.map (·.add (0 * blkE.sz))) = allA at hRa' ⊢
    have hla : all.length ≤ 30 := by omega
    rw [hlena]
    clear hm hm1 hlena hRa
    repeat' (first|refine bk ?_|refine bkc ?_|refine bkd ?_|refine bkq (fun q => ?_)|(refine bk2 ?_ ?_<;>(first|exact bkn|(refine bkk ?_;intro h))))
    refine CS.seq ?_
    refine CS.cut (X := BM × (Nat → List Rep) × (Nat → Bool)) (fun y => [(0, .slice A ls.length c), (3, .bool true), (4, .pointer (some ⟨b1, 0, none⟩)), (5, .pointer (some ⟨b2, 0, none⟩)), (6, .int .i64 (i : Int)), (7, .pointer (some ⟨q7, 0, none⟩))])
      (fun y => row q7 54 (deedK u lA l.length allA all.length) :: bmA b1 y.1 :: rmA b2 y.2.1 y.2.2 :: G) (fun y => Cp y.1 y.2.1 y.2.2) ?_ ?_
    · refine CS.seq ?_
      repeat' (first|refine bk ?_|refine bkc ?_|refine bkd ?_|refine bkq (fun q => ?_)|(refine bk2 ?_ ?_<;>(first|exact bkn|(refine bkk ?_;intro h))))
      refine WL.call c14 rfl rfl rfl rfl (law_pick u.kind 3 huo.kind (by decide) W0 _) ?_
      rintro _ G2 ⟨rfl, hG2⟩
      rw [hG2]; clear hG2 G2
      generalize pickM u.kind 3 = kd
      repeat' (first|refine bk ?_|refine bkc ?_|refine bks ?_|refine bkd ?_|refine bkq (fun q => ?_)|(refine bk2 ?_ ?_<;>(first|exact bkn|(refine bkk ?_;intro h))))
      · refine WL.turn (fun w hs => hs.slcNil repE 30) ?_
        refine WL.append TT (E := repE) (xs := ([] : List Rep)) (ys := l) 0 rfl rfl rfl rfl rfl hRl'.cons.cons.cons.cons rfl rfl rfl rfl rfl (by decide) (by simp only [List.length_nil]; omega) (fun _ _ => rfl) rfl (fun A8 c8 => ?_)
        rw [List.nil_append]
        repeat' (first|refine bk ?_|refine bkc ?_|refine bks ?_|refine bkd ?_|refine bkq (fun q => ?_)|(refine bk2 ?_ ?_<;>(first|exact bkn|(refine bkk ?_;intro h))))
        refine WL.call c10 rfl rfl rfl rfl ((blocks_Report b1 M u.node A8 c8 l (by omega) W0 _ (Rd.slc (i := 0) rfl)).pre (fun w hs => hs.front (i := 2) rfl)) ?_
        rintro _ _ ⟨rfl, rfl⟩
        repeat' (first|refine bk ?_|refine bkc ?_|refine bks ?_|refine bkd ?_|refine bkq (fun q => ?_)|(refine bk2 ?_ ?_<;>(first|exact bkn|(refine bkk ?_;intro h))))
        refine WL.call c19 rfl rfl rfl rfl ((r_Report b2 hC u.node lA u.lc l hll W0 _ hRl'.cons.cons.cons).pre (fun w hs => hs.front (i := 3) rfl)) ?_
        rintro _ _ ⟨rfl, L2, s2, hC2, rfl⟩
        generalize M.report u.node l = M2 at hC2 ⊢
        generalize (if 0 ≤ u.node ∧ u.node < 4 then (0 : Int) else 1) = ev
        repeat' (first|refine bk ?_|refine bkc ?_|refine bks ?_|refine bkd ?_|refine bkq (fun q => ?_)|(refine bk2 ?_ ?_<;>(first|exact bkn|(refine bkk ?_;intro h))))
        refine CS.loop (X := Nat × List Rep) (fun y => [(0, .slice A ls.length c), (3, .bool true), (4, .pointer (some ⟨b1, 0, none⟩)), (5, .pointer (some ⟨b2, 0, none⟩)), (6, .int .i64 (i : Int)), (7, .pointer (some ⟨q7, 0, none⟩)), (8, .slice A8 l.length c8), (11, .int .i64 (y.1 : Int))])
          (fun y => rmA b2 L2 s2 :: bmA b1 M2 :: slc repE 30 A8 c8 y.2 :: row q7 54 (deedK u lA l.length allA all.length) :: G) (fun y => y.1 ≤ l.length ∧ y.2.length = l.length) (fun y => l.length - y.1) (0, l) ⟨rfl, rfl, rfl, rfl, rfl, rfl, rfl, rfl, trivial⟩ (fun w hs => hs) ⟨Nat.zero_le _, rfl⟩ ?_
        rintro ⟨j, ys⟩ ⟨hj, hyl⟩
        simp only at hj hyl ⊢
        refine CS.fact (slc_at (i := 2) rfl) fun ⟨hx1, hx2, hx3⟩ => ?_
        by_cases hjl : j < l.length
        · obtain ⟨g, rfl⟩ : ∃ g, A8 = some ⟨g, 0, none⟩ := hx3.elim (fun h => by rw [h.2.2] at hyl; simp at hyl; omega) (fun h => h)
          obtain ⟨x, hx⟩ : ∃ x, ys[j]? = some x := ⟨ys[j]'(by omega), List.getElem?_eq_getElem (by omega)⟩
          repeat' (first|refine bk ?_|refine bkc ?_|refine bks ?_|refine bkd ?_|refine bkq (fun q => ?_)|(refine bk2 ?_ ?_<;>(first|exact bkn|(refine bkk ?_;intro h))))
          refine WL.s (op1_idxA TT repE rfl rfl (by omega) rfl rfl rfl) rfl ?_
          repeat' (first|refine bk ?_|refine bkc ?_|refine bks ?_|refine bkd ?_|refine bkq (fun q => ?_)|(refine bk2 ?_ ?_<;>(first|exact bkn|(refine bkk ?_;intro h))))
          refine WL.storeS TT (E := repE) 2 (j := j) (k := 1) (z := x) (z' := ⟨x.id, -1, x.len, x.fin⟩) rfl rfl rfl (by rw [Int.toNat_natCast]) hx rfl rfl rfl rfl rfl rfl ?_
          repeat' (first|refine bk ?_|refine bkc ?_|refine bks ?_|refine bkd ?_|refine bkq (fun q => ?_)|(refine bk2 ?_ ?_<;>(first|exact bkn|(refine bkk ?_;intro h))))
          exact QS.again (j + 1, ys.set j ⟨x.id, -1, x.len, x.fin⟩) ⟨by show j + 1 ≤ l.length; omega, by show (ys.set j _).length = _; rw [List.length_set]; exact hyl⟩ (by show l.length - (j + 1) < l.length - j; omega) ⟨rfl, rfl, rfl, rfl, rfl, rfl, rfl, rfl, trivial⟩ (fun w hs => hs)
        · repeat' (first|refine bk ?_|refine bkc ?_|refine bks ?_|refine bkd ?_|refine bkq (fun q => ?_)|(refine bk2 ?_ ?_<;>(first|exact bkn|(refine bkk ?_;intro h))))
          exact QS.met (M2, L2, s2) hC2 ⟨rfl, rfl, rfl, rfl, rfl, rfl, trivial⟩ (fun w hs => ((hs.kick (i := 2) rfl).front (i := 1) rfl).front (i := 2) rfl)
      · refine WL.call c16 rfl rfl rfl rfl ((blocks_Lost b1 M u.node W0 _).pre (fun w hs => hs.front (i := 1) rfl)) ?_
        rintro _ _ ⟨rfl, rfl⟩
        repeat' (first|refine bk ?_|refine bkc ?_|refine bks ?_|refine bkd ?_|refine bkq (fun q => ?_)|(refine bk2 ?_ ?_<;>(first|exact bkn|(refine bkk ?_;intro h))))
        refine WL.call c20 rfl rfl rfl rfl ((r_Lost b2 hC u.node W0 _).pre (fun w hs => hs.front (i := 2) rfl)) ?_
        rintro _ _ ⟨rfl, L2, s2, hC2, rfl⟩
        repeat' (first|refine bk ?_|refine bkc ?_|refine bks ?_|refine bkd ?_|refine bkq (fun q => ?_)|(refine bk2 ?_ ?_<;>(first|exact bkn|(refine bkk ?_;intro h))))
        exact QS.met (M.lost u.node, L2, s2) hC2 ⟨rfl, rfl, rfl, rfl, rfl, rfl, trivial⟩ (fun w hs => ((hs.front (i := 1) rfl).front (i := 2) rfl))
    · rintro ⟨M2, L2, s2⟩ hC2
      simp only at hC2 ⊢
      repeat' (first|refine bk ?_|refine bkc ?_|refine bks ?_|refine bkd ?_|refine bkq (fun q => ?_)|(refine bk2 ?_ ?_<;>(first|exact bkn|(refine bkk ?_;intro h))))
      have hat := cp_at hC2 u.node
      have hsl := cp_stale hC2 all u.node
      have hnl := nodes_le hC2.ok
      obtain ⟨z, hz⟩ : ∃ z : Blk, z = ⟨u.bid, u.bgen, u.blen⟩ := ⟨_, rfl⟩
      have hhl := hold_len hC2.ok z
      have hsh := short_le M2 all u.n
      refine CS.loop (X := Nat) (fun t => [(0, .slice A ls.length c), (3, .bool true), (4, .pointer (some ⟨b1, 0, none⟩)), (5, .pointer (some ⟨b2, 0, none⟩)), (6, .int .i64 (i : Int)), (7, .pointer (some ⟨q7, 0, none⟩)), (12, .int .i64 (t : Int))]) (fun _ => row q7 54 (deedK u lA l.length allA all.length) :: bmA b1 M2 :: rmA b2 L2 s2 :: G) (fun t => t ≤ 2) (fun t => 2 - t) 0 ⟨rfl, rfl, rfl, rfl, rfl, rfl, rfl, trivial⟩ (fun w hs => hs) (Nat.zero_le _) ?_
      intro t ht
      by_cases ht2 : t < 2
      · repeat' (first|refine bk ?_|refine bkc ?_|refine bks ?_|refine bkd ?_|refine bkq (fun q => ?_)|(refine bk2 ?_ ?_<;>(first|exact bkn|(refine bkk ?_;intro h))))
        have hc := fun F => blocks_Hold b1 M2 hC2.ok z W0 F
        rw [hz] at hc
        refine WL.call c13 rfl rfl rfl rfl ((hc _).pre (fun w hs => hs.front (i := 1) rfl)) ?_
        clear hc
        rintro _ _ ⟨Aa, ca, rfl, rfl⟩
        rw [← hz]
        repeat' (first|refine bk ?_|refine bkc ?_|refine bks ?_|refine bkd ?_|refine bkq (fun q => ?_)|(refine bk2 ?_ ?_<;>(first|exact bkn|(refine bkk ?_;intro h))))
        refine WL.call c17 rfl rfl rfl rfl ((blocks_Nodes (b := b1) hC2.ok W0 _).pre (fun w hs => hs.front (i := 1) rfl)) ?_
        rintro _ _ ⟨An, cn, rfl, rfl⟩
        repeat' (first|refine bk ?_|refine bkc ?_|refine bks ?_|refine bkd ?_|refine bkq (fun q => ?_)|(refine bk2 ?_ ?_<;>(first|exact bkn|(refine bkk ?_;intro h))))
        refine WL.call c11 rfl rfl rfl rfl ((blocks_Stale b1 M2 allA u.allc all (by omega) u.node (by omega) W0 _ hRa'.cons.cons.cons.cons).pre (fun w hs => hs.front (i := 1) rfl)) ?_
        rintro _ _ ⟨As, cs, rfl, rfl⟩
        repeat' (first|refine bk ?_|refine bkc ?_|refine bks ?_|refine bkd ?_|refine bkq (fun q => ?_)|(refine bk2 ?_ ?_<;>(first|exact bkn|(refine bkk ?_;intro h))))
        have hc := fun F => r_Hold b2 hC2 z W0 F
        rw [hz] at hc
        refine WL.call c21 rfl rfl rfl rfl ((hc _).pre (fun w hs => hs.front (i := 5) rfl)) ?_
        clear hc
        rintro _ _ ⟨A1, c1, rfl, rfl⟩
        rw [← hz]
        refine WL.call c15 rfl rfl rfl rfl (law_numbers Aa A1 ca c1 _ (by omega) W0 _ (Rd.slc (i := 5) rfl) (Rd.slc (i := 0) rfl)) ?_
        rintro _ G2 ⟨rfl, hG2⟩
        rw [hG2]; clear hG2 G2
        repeat' (first|refine bk ?_|refine bkc ?_|refine bks ?_|refine bkd ?_|refine bkq (fun q => ?_)|(refine bk2 ?_ ?_<;>(first|exact bkn|(refine bkk ?_;intro h))))
        refine WL.call c22 rfl rfl rfl rfl ((r_Nodes b2 hC2 W0 _).pre (fun w hs => hs.front (i := 1) rfl)) ?_
        rintro _ _ ⟨A2, c2, rfl, rfl⟩
        refine WL.call c15 rfl rfl rfl rfl (law_numbers An A2 cn c2 _ (by omega) W0 _ (Rd.slc (i := 5) rfl) (Rd.slc (i := 0) rfl)) ?_
        rintro _ G2 ⟨rfl, hG2⟩
        rw [hG2]; clear hG2 G2
        repeat' (first|refine bk ?_|refine bkc ?_|refine bks ?_|refine bkd ?_|refine bkq (fun q => ?_)|(refine bk2 ?_ ?_<;>(first|exact bkn|(refine bkk ?_;intro h))))
        refine WL.call c23 rfl rfl rfl rfl ((r_Stale b2 hC2 allA u.allc all (by omega) u.node W0 _ hRa'.cons.cons.cons.cons.cons.cons.cons).pre (fun w hs => hs.front (i := 1) rfl)) ?_
        rintro _ _ ⟨A3, c3, rfl, rfl⟩
        refine WL.call c15 rfl rfl rfl rfl (law_numbers As A3 cs c3 _ (by omega) W0 _ (Rd.slc (i := 4) rfl) (Rd.slc (i := 0) rfl)) ?_
        rintro _ G2 ⟨rfl, hG2⟩
        rw [hG2]; clear hG2 G2
        repeat' (first|refine bk ?_|refine bkc ?_|refine bkd ?_|refine bkq (fun q => ?_)|(refine bk2 ?_ ?_<;>(first|exact bkn|(refine bkk ?_;intro h))))
        refine CS.seq ?_
        refine CS.cut (X := Unit) (fun _ => [(0, .slice A ls.length c), (3, .bool true), (4, .pointer (some ⟨b1, 0, none⟩)), (5, .pointer (some ⟨b2, 0, none⟩)), (6, .int .i64 (i : Int)), (7, .pointer (some ⟨q7, 0, none⟩)), (12, .int .i64 (t : Int)), (13, .slice Aa (M2.hold z).length ca), (14, .slice An M2.nodes.length cn), (15, .slice As (M2.stale all u.node).length cs), (16, .bool true), (17, .bool true), (18, .bool true), (19, .bool true)]) (fun _ => slc intE 3 Aa ca (M2.hold z) :: slc intE 3 An cn M2.nodes :: slc intE 3 As cs (M2.stale all u.node) :: bmA b1 M2 :: rmA b2 L2 s2 :: row q7 54 (deedK u lA l.length allA all.length) :: G) (fun _ => True) ?_ ?_
        · refine CS.turn (G' := slc intE 3 Aa ca (M2.hold z) :: slc intE 3 An cn M2.nodes :: slc intE 3 As cs (M2.stale all u.node) :: bmA b1 M2 :: rmA b2 L2 s2 :: row q7 54 (deedK u lA l.length allA all.length) :: G) (fun w hs => ?_) ?_
          · have h1 := ((hs.drop.kick (i := 1) rfl).kick (i := 1) rfl)
            exact ((((h1.front (i := 2) rfl).front (i := 2) rfl).front (i := 3) rfl).front (i := 4) rfl)
          have hS1 := fun F hR => blocks_Short b1 M2 hC2.ok allA u.allc all (by omega) u.n W0 F hR
          have hS2 := fun F hR => r_Short b2 hC2 allA u.allc all (by omega) u.n W0 F hR
          refine CS.drawA _ (fun w hs => hs) mixed (by kernel_rfl) rfl ?_
          repeat' (first|refine bka ?_|(refine bk2a ?_ ?_<;>(first|exact bkn|(refine bkk ?_;intro h))))
          refine WA.at 6 (by kernel_rfl) rfl (by kernel_rfl) rfl (op1_pure1 TT rfl) rfl ?_
          refine WA.at 7 (by kernel_rfl) rfl (by kernel_rfl) rfl (op1_pure1 TT rfl) rfl ?_
          refine WA.at 8 (by kernel_rfl) rfl (by kernel_rfl) rfl (op1_load TT 5 rfl rfl rfl) rfl ?_
          refine WA.at 9 (by kernel_rfl) rfl (by kernel_rfl) rfl (op1_pure1 TT rfl) rfl ?_
          refine WA.at 10 (by kernel_rfl) rfl (by kernel_rfl) rfl (op1_load TT 5 rfl rfl rfl) rfl ?_
          refine WA.e2 5 11 (by kernel_rfl) (by kernel_rfl) rfl rfl rfl rfl (EffC.call (fst := []) (cap := []) (vs := [.pointer (some ⟨b1, 0, none⟩), .slice allA all.length u.allc, .int .i64 u.n]) c18 rfl rfl rfl ((hS1 _ hRa'.cons.cons.cons.cons.cons).pre (fun w hs => hs.front (i := 3) rfl))) (EffC.call (fst := []) (cap := []) (vs := [.pointer (some ⟨b2, 0, none⟩), .slice allA all.length u.allc, .int .i64 u.n]) c25 rfl rfl rfl ((hS2 _ hRa'.cons.cons.cons.cons.cons).pre (fun w hs => hs.front (i := 4) rfl))) rfl rfl ?_ ?_
          · rintro _ _ ⟨A5, c5, rfl, rfl⟩
            refine ⟨fun w hs => (((hs.drop).front (i := 3) rfl).front (i := 3) rfl).front (i := 3) rfl, ?_⟩
            refine WA.e1 11 (by kernel_rfl) (by kernel_rfl) rfl rfl (EffC.call (fst := []) (cap := []) (vs := [.pointer (some ⟨b2, 0, none⟩), .slice allA all.length u.allc, .int .i64 u.n]) c25 rfl rfl rfl ((hS2 _ hRa'.cons.cons.cons.cons.cons.cons).pre (fun w hs => hs.front (i := 5) rfl))) rfl ?_
            rintro _ _ ⟨A6, c6, rfl, rfl⟩
            refine ⟨fun w hs => ((((hs.drop.kick (i := 1) rfl).front (i := 1) rfl).front (i := 4) rfl).front (i := 4) rfl).front (i := 4) rfl, ?_⟩
            refine WA.e1 12 (by kernel_rfl) (by kernel_rfl) rfl rfl (EffC.call c24 rfl rfl rfl (law_same A5 A6 c5 c6 _ (by omega) W0 _ (Rd.slc (i := 2) rfl) (Rd.slc (i := 0) rfl))) rfl ?_
            rintro _ _ ⟨rfl, rfl⟩
            refine ⟨fun w hs => ((((hs.drop.kick (i := 1) rfl).front (i := 1) rfl).front (i := 4) rfl).front (i := 4) rfl).front (i := 4) rfl, ?_⟩
            repeat' (first|refine bka ?_|(refine bk2a ?_ ?_<;>(first|exact bkn|(refine bkk ?_;intro h))))
            refine WA.fin (by kernel_rfl) ?_
            exact QS.met () trivial ⟨rfl, rfl, rfl, rfl, rfl, rfl, rfl, rfl, rfl, rfl, rfl, rfl, rfl, rfl, trivial⟩ (fun w hs => ((((hs.drop.kick (i := 1) rfl).front (i := 1) rfl).front (i := 4) rfl).front (i := 4) rfl).front (i := 4) rfl)
          · rintro _ _ ⟨A6, c6, rfl, rfl⟩
            refine ⟨fun w hs => (((hs.drop.front (i := 4) rfl).front (i := 4) rfl).front (i := 4) rfl).front (i := 4) rfl, ?_⟩
            refine WA.e1 5 (by kernel_rfl) (by kernel_rfl) rfl rfl (EffC.call (fst := []) (cap := []) (vs := [.pointer (some ⟨b1, 0, none⟩), .slice allA all.length u.allc, .int .i64 u.n]) c18 rfl rfl rfl ((hS1 _ hRa'.cons.cons.cons.cons.cons.cons).pre (fun w hs => hs.front (i := 5) rfl))) rfl ?_
            rintro _ _ ⟨A5, c5, rfl, rfl⟩
            refine ⟨fun w hs => (((hs.drop.kick (i := 1) rfl).front (i := 4) rfl).front (i := 4) rfl).front (i := 4) rfl, ?_⟩
            refine WA.e1 12 (by kernel_rfl) (by kernel_rfl) rfl rfl (EffC.call c24 rfl rfl rfl (law_same A5 A6 c5 c6 _ (by omega) W0 _ (Rd.slc (i := 0) rfl) (Rd.slc (i := 2) rfl))) rfl ?_
            rintro _ _ ⟨rfl, rfl⟩
            refine ⟨fun w hs => (((hs.drop.kick (i := 1) rfl).front (i := 4) rfl).front (i := 4) rfl).front (i := 4) rfl, ?_⟩
            repeat' (first|refine bka ?_|(refine bk2a ?_ ?_<;>(first|exact bkn|(refine bkk ?_;intro h))))
            refine WA.fin (by kernel_rfl) ?_
            exact QS.met () trivial ⟨rfl, rfl, rfl, rfl, rfl, rfl, rfl, rfl, rfl, rfl, rfl, rfl, rfl, rfl, trivial⟩ (fun w hs => (((hs.drop.kick (i := 1) rfl).front (i := 4) rfl).front (i := 4) rfl).front (i := 4) rfl)
        rintro ⟨⟩ _
        repeat' (first|refine bk ?_|refine bkc ?_|refine bkd ?_|refine bkq (fun q => ?_)|(refine bk2 ?_ ?_<;>(first|exact bkn|(refine bkk ?_;intro h))))
        refine CS.seq ?_
        refine CS.cut (X := Unit) (fun _ => [(0, .slice A ls.length c), (3, .bool true), (4, .pointer (some ⟨b1, 0, none⟩)), (5, .pointer (some ⟨b2, 0, none⟩)), (6, .int .i64 (i : Int)), (7, .pointer (some ⟨q7, 0, none⟩)), (12, .int .i64 (t : Int)), (13, .slice Aa (M2.hold z).length ca), (14, .slice An M2.nodes.length cn), (15, .slice As (M2.stale all u.node).length cs)]) (fun _ => slc intE 3 Aa ca (M2.hold z) :: slc intE 3 An cn M2.nodes :: slc intE 3 As cs (M2.stale all u.node) :: bmA b1 M2 :: rmA b2 L2 s2 :: row q7 54 (deedK u lA l.length allA all.length) :: G) (fun _ => True) ?_ ?_
        · have hH1 := fun F hR => blocks_Held b1 M2 hC2.ok allA u.allc all (by omega) W0 F hR
          have hH2 := fun F hR => r_Held b2 hC2 allA u.allc all (by omega) W0 F hR
          generalize heldN M2 all = hd at hH1 hH2
          repeat' (first|refine bk ?_|refine bkc ?_|refine bks ?_|refine bkq (fun q => ?_)|(refine bk2 ?_ ?_<;>(first|exact bkn|(refine bkk ?_;intro h))))
          refine CS.drawA _ (fun w hs => hs) mixed (by kernel_rfl) rfl ?_
          refine bka ?_
          refine WA.at 19 (by kernel_rfl) rfl (by kernel_rfl) rfl (op1_pure1 TT rfl) rfl ?_
          refine WA.at 20 (by kernel_rfl) rfl (by kernel_rfl) rfl (op1_pure1 TT rfl) rfl ?_
          refine WA.at 21 (by kernel_rfl) rfl (by kernel_rfl) rfl (op1_load TT 5 rfl rfl rfl) rfl ?_
          refine WA.e2 18 22 (by kernel_rfl) (by kernel_rfl) rfl rfl rfl rfl (EffC.call (fst := []) (cap := []) (vs := [.pointer (some ⟨b1, 0, none⟩), .slice allA all.length u.allc]) c12 rfl rfl rfl ((hH1 _ hRa'.cons.cons.cons.cons.cons).pre (fun w hs => hs.front (i := 3) rfl))) (EffC.call (fst := []) (cap := []) (vs := [.pointer (some ⟨b2, 0, none⟩), .slice allA all.length u.allc]) c26 rfl rfl rfl ((hH2 _ hRa'.cons.cons.cons.cons.cons).pre (fun w hs => hs.front (i := 4) rfl))) rfl rfl ?_ ?_
          · rintro _ _ ⟨rfl, rfl⟩
            refine ⟨fun w hs => (((hs).front (i := 3) rfl).front (i := 3) rfl).front (i := 3) rfl, ?_⟩
            refine WA.e1 22 (by kernel_rfl) (by kernel_rfl) rfl rfl (EffC.call (fst := []) (cap := []) (vs := [.pointer (some ⟨b2, 0, none⟩), .slice allA all.length u.allc]) c26 rfl rfl rfl ((hH2 _ hRa'.cons.cons.cons.cons.cons).pre (fun w hs => hs.front (i := 4) rfl))) rfl ?_
            rintro _ _ ⟨rfl, rfl⟩
            refine ⟨fun w hs => (((hs.front (i := 1) rfl).front (i := 4) rfl).front (i := 4) rfl).front (i := 4) rfl, ?_⟩
            refine bka ?_
            refine WA.parts 170 rfl (fun h => by simp at h) (fun _ => ?_)
            refine WA.fin (by kernel_rfl) ?_
            repeat' (first|refine bk ?_|refine bkc ?_|refine bks ?_|refine bkd ?_|refine bkq (fun q => ?_)|(refine bk2 ?_ ?_<;>(first|exact bkn|(refine bkk ?_;intro h))))
            exact QS.met () trivial ⟨rfl, rfl, rfl, rfl, rfl, rfl, rfl, rfl, rfl, rfl, trivial⟩ (fun w hs => (((hs.front (i := 1) rfl).front (i := 4) rfl).front (i := 4) rfl).front (i := 4) rfl)
          · rintro _ _ ⟨rfl, rfl⟩
            refine ⟨fun w hs => (((hs.front (i := 4) rfl).front (i := 4) rfl).front (i := 4) rfl).front (i := 4) rfl, ?_⟩
            refine WA.e1 18 (by kernel_rfl) (by kernel_rfl) rfl rfl (EffC.call (fst := []) (cap := []) (vs := [.pointer (some ⟨b1, 0, none⟩), .slice allA all.length u.allc]) c12 rfl rfl rfl ((hH1 _ hRa'.cons.cons.cons.cons.cons).pre (fun w hs => hs.front (i := 4) rfl))) rfl ?_
            rintro _ _ ⟨rfl, rfl⟩
            refine ⟨fun w hs => (((hs).front (i := 4) rfl).front (i := 4) rfl).front (i := 4) rfl, ?_⟩
            refine bka ?_
            refine WA.parts 170 rfl (fun h => by simp at h) (fun _ => ?_)
            refine WA.fin (by kernel_rfl) ?_
            repeat' (first|refine bk ?_|refine bkc ?_|refine bks ?_|refine bkd ?_|refine bkq (fun q => ?_)|(refine bk2 ?_ ?_<;>(first|exact bkn|(refine bkk ?_;intro h))))
            exact QS.met () trivial ⟨rfl, rfl, rfl, rfl, rfl, rfl, rfl, rfl, rfl, rfl, trivial⟩ (fun w hs => (((hs).front (i := 4) rfl).front (i := 4) rfl).front (i := 4) rfl)
        rintro ⟨⟩ _
        repeat' (first|refine bk ?_|refine bkc ?_|refine bks ?_|refine bkd ?_|refine bkq (fun q => ?_)|(refine bk2 ?_ ?_<;>(first|exact bkn|(refine bkk ?_;intro h))))
        refine WL.buildSlice TT rfl rfl rfl rfl rfl rfl rfl rfl (fun q20 => ?_)
        repeat' (first|refine bk ?_|refine bkc ?_|refine bks ?_|refine bkd ?_|refine bkq (fun q => ?_)|(refine bk2 ?_ ?_<;>(first|exact bkn|(refine bkk ?_;intro h))))
        refine CS.loop (X := Nat × List Int × List Int × List Int) (fun y => [(0, .slice A ls.length c), (3, .bool true), (4, .pointer (some ⟨b1, 0, none⟩)), (5, .pointer (some ⟨b2, 0, none⟩)), (6, .int .i64 (i : Int)), (7, .pointer (some ⟨q7, 0, none⟩)), (12, .int .i64 (t : Int)), (20, .slice (some ⟨q20, 0, none⟩) 3 3), (21, .int .i64 (y.1 : Int))])
          (fun y => row q20 33 [.slice Aa (M2.hold z).length ca, .slice An M2.nodes.length cn, .slice As (M2.stale all u.node).length cs] :: slc intE 3 Aa ca y.2.1 :: slc intE 3 An cn y.2.2.1 :: slc intE 3 As cs y.2.2.2 :: bmA b1 M2 :: rmA b2 L2 s2 :: row q7 54 (deedK u lA l.length allA all.length) :: G) (fun y => y.1 ≤ 3 ∧ y.2.1.length = (M2.hold z).length ∧ y.2.2.1.length = M2.nodes.length ∧ y.2.2.2.length = (M2.stale all u.node).length) (fun y => 3 - y.1) (0, M2.hold z, M2.nodes, M2.stale all u.node) ⟨rfl, rfl, rfl, rfl, rfl, rfl, rfl, rfl, rfl, trivial⟩ (fun w hs => hs) ⟨by show 0 ≤ 3; decide, rfl, rfl, rfl⟩ ?_
        rintro ⟨kk, y0, y1, y2⟩ ⟨hkk, hy0, hy1, hy2⟩
        simp only at hkk hy0 hy1 hy2 ⊢
        by_cases hk3 : kk < 3
        · obtain rfl | rfl | rfl : kk = 0 ∨ kk = 1 ∨ kk = 2 := by omega
          · repeat' (first|refine bk ?_|refine bkc ?_|refine bks ?_|refine bkd ?_|refine bkq (fun q => ?_)|(refine bk2 ?_ ?_<;>(first|exact bkn|(refine bkk ?_;intro h))))
            refine CS.loop (X := Nat × List Int) (fun y => [(0, .slice A ls.length c), (3, .bool true), (4, .pointer (some ⟨b1, 0, none⟩)), (5, .pointer (some ⟨b2, 0, none⟩)), (6, .int .i64 (i : Int)), (7, .pointer (some ⟨q7, 0, none⟩)), (12, .int .i64 (t : Int)), (20, .slice (some ⟨q20, 0, none⟩) 3 3), (21, .int .i64 0), (22, .int .i64 (y.1 : Int))])
              (fun y => row q20 33 [.slice Aa (M2.hold z).length ca, .slice An M2.nodes.length cn, .slice As (M2.stale all u.node).length cs] :: slc intE 3 Aa ca y.2 :: slc intE 3 An cn y1 :: slc intE 3 As cs y2 :: bmA b1 M2 :: rmA b2 L2 s2 :: row q7 54 (deedK u lA l.length allA all.length) :: G) (fun y => y.1 ≤ (M2.hold z).length ∧ y.2.length = (M2.hold z).length) (fun y => (M2.hold z).length - y.1) (0, y0) ⟨rfl, rfl, rfl, rfl, rfl, rfl, rfl, rfl, rfl, rfl, trivial⟩ (fun w hs => hs) ⟨Nat.zero_le _, hy0⟩ ?_
            rintro ⟨j, zs⟩ ⟨hj, hzl⟩
            simp only at hj hzl ⊢
            refine CS.fact (slc_at (i := 1) rfl) fun ⟨hx1, hx2, hx3⟩ => ?_
            repeat' (first|refine bk ?_|refine bkc ?_|refine bks ?_|refine bkd ?_|refine bkq (fun q => ?_)|(refine bk2 ?_ ?_<;>(first|exact bkn|(refine bkk ?_;intro h))))
            refine WL.idx TT (Rd.row (E := slE) (xs := [⟨Aa, (M2.hold z).length, ca⟩, ⟨An, M2.nodes.length, cn⟩, ⟨As, (M2.stale all u.node).length, cs⟩]) (i := 0) rfl rfl) rfl rfl rfl (by decide) rfl rfl rfl rfl rfl (fun b4 o4 hA4 => ?_)
            refine WL.s (op1_at TT hA4 rfl rfl rfl rfl) rfl ?_
            by_cases hjl : j < (M2.hold z).length
            · obtain ⟨g, hg⟩ : ∃ g, Aa = some ⟨g, 0, none⟩ := hx3.elim (fun h => by rw [h.2.2] at hzl; simp at hzl; omega) (fun h => h)
              obtain ⟨x, hx⟩ : ∃ x, zs[j]? = some x := ⟨zs[j]'(by omega), List.getElem?_eq_getElem (by omega)⟩
              repeat' (first|refine bk ?_|refine bkc ?_|refine bks ?_|refine bkd ?_|refine bkq (fun q => ?_)|(refine bk2 ?_ ?_<;>(first|exact bkn|(refine bkk ?_;intro h))))
              refine WL.idx TT (Rd.row (E := slE) (xs := [⟨Aa, (M2.hold z).length, ca⟩, ⟨An, M2.nodes.length, cn⟩, ⟨As, (M2.stale all u.node).length, cs⟩]) (i := 0) rfl rfl) rfl rfl rfl (by decide) rfl rfl rfl rfl rfl (fun b5 o5 hA5 => ?_)
              refine WL.s (op1_at TT hA5 rfl rfl rfl rfl) rfl ?_
              subst hg
              repeat' (first|refine bk ?_|refine bkc ?_|refine bks ?_|refine bkd ?_|refine bkq (fun q => ?_)|(refine bk2 ?_ ?_<;>(first|exact bkn|(refine bkk ?_;intro h))))
              refine WL.s (op1_idxA TT intE rfl rfl (by simp only; omega) rfl rfl rfl) rfl ?_
              refine WL.storeS TT (E := intE) 1 (j := j) (k := 0) (z := x) (z' := -1) rfl rfl rfl (by rw [Int.toNat_natCast]; rfl) hx rfl rfl rfl rfl rfl rfl ?_
              repeat' (first|refine bk ?_|refine bkc ?_|refine bks ?_|refine bkd ?_|refine bkq (fun q => ?_)|(refine bk2 ?_ ?_<;>(first|exact bkn|(refine bkk ?_;intro h))))
              exact QS.again (j + 1, zs.set j (-1)) ⟨by show j + 1 ≤ (M2.hold z).length; omega, by show (zs.set j _).length = _; rw [List.length_set]; exact hzl⟩ (by show (M2.hold z).length - (j + 1) < (M2.hold z).length - j; omega) ⟨rfl, rfl, rfl, rfl, rfl, rfl, rfl, rfl, rfl, rfl, trivial⟩ (fun w hs => hs)
            · repeat' (first|refine bk ?_|refine bkc ?_|refine bks ?_|refine bkd ?_|refine bkq (fun q => ?_)|(refine bk2 ?_ ?_<;>(first|exact bkn|(refine bkk ?_;intro h))))
              exact QS.again (0 + 1, zs, y1, y2) ⟨by show 0 + 1 ≤ 3; decide, hzl, hy1, hy2⟩ (by show 3 - (0 + 1) < 3 - 0; decide) ⟨rfl, rfl, rfl, rfl, rfl, rfl, rfl, rfl, rfl, trivial⟩ (fun w hs => hs)
          · repeat' (first|refine bk ?_|refine bkc ?_|refine bks ?_|refine bkd ?_|refine bkq (fun q => ?_)|(refine bk2 ?_ ?_<;>(first|exact bkn|(refine bkk ?_;intro h))))
            refine CS.loop (X := Nat × List Int) (fun y => [(0, .slice A ls.length c), (3, .bool true), (4, .pointer (some ⟨b1, 0, none⟩)), (5, .pointer (some ⟨b2, 0, none⟩)), (6, .int .i64 (i : Int)), (7, .pointer (some ⟨q7, 0, none⟩)), (12, .int .i64 (t : Int)), (20, .slice (some ⟨q20, 0, none⟩) 3 3), (21, .int .i64 1), (22, .int .i64 (y.1 : Int))])
              (fun y => row q20 33 [.slice Aa (M2.hold z).length ca, .slice An M2.nodes.length cn, .slice As (M2.stale all u.node).length cs] :: slc intE 3 Aa ca y0 :: slc intE 3 An cn y.2 :: slc intE 3 As cs y2 :: bmA b1 M2 :: rmA b2 L2 s2 :: row q7 54 (deedK u lA l.length allA all.length) :: G) (fun y => y.1 ≤ M2.nodes.length ∧ y.2.length = M2.nodes.length) (fun y => M2.nodes.length - y.1) (0, y1) ⟨rfl, rfl, rfl, rfl, rfl, rfl, rfl, rfl, rfl, rfl, trivial⟩ (fun w hs => hs) ⟨Nat.zero_le _, hy1⟩ ?_
            rintro ⟨j, zs⟩ ⟨hj, hzl⟩
            simp only at hj hzl ⊢
            refine CS.fact (slc_at (i := 2) rfl) fun ⟨hx1, hx2, hx3⟩ => ?_
            repeat' (first|refine bk ?_|refine bkc ?_|refine bks ?_|refine bkd ?_|refine bkq (fun q => ?_)|(refine bk2 ?_ ?_<;>(first|exact bkn|(refine bkk ?_;intro h))))
            refine WL.idx TT (Rd.row (E := slE) (xs := [⟨Aa, (M2.hold z).length, ca⟩, ⟨An, M2.nodes.length, cn⟩, ⟨As, (M2.stale all u.node).length, cs⟩]) (i := 0) rfl rfl) rfl rfl rfl (by decide) rfl rfl rfl rfl rfl (fun b4 o4 hA4 => ?_)
            refine WL.s (op1_at TT hA4 rfl rfl rfl rfl) rfl ?_
            by_cases hjl : j < M2.nodes.length
            · obtain ⟨g, hg⟩ : ∃ g, An = some ⟨g, 0, none⟩ := hx3.elim (fun h => by rw [h.2.2] at hzl; simp at hzl; omega) (fun h => h)
              obtain ⟨x, hx⟩ : ∃ x, zs[j]? = some x := ⟨zs[j]'(by omega), List.getElem?_eq_getElem (by omega)⟩
              repeat' (first|refine bk ?_|refine bkc ?_|refine bks ?_|refine bkd ?_|refine bkq (fun q => ?_)|(refine bk2 ?_ ?_<;>(first|exact bkn|(refine bkk ?_;intro h))))
              refine WL.idx TT (Rd.row (E := slE) (xs := [⟨Aa, (M2.hold z).length, ca⟩, ⟨An, M2.nodes.length, cn⟩, ⟨As, (M2.stale all u.node).length, cs⟩]) (i := 0) rfl rfl) rfl rfl rfl (by decide) rfl rfl rfl rfl rfl (fun b5 o5 hA5 => ?_)
              refine WL.s (op1_at TT hA5 rfl rfl rfl rfl) rfl ?_
              subst hg
              repeat' (first|refine bk ?_|refine bkc ?_|refine bks ?_|refine bkd ?_|refine bkq (fun q => ?_)|(refine bk2 ?_ ?_<;>(first|exact bkn|(refine bkk ?_;intro h))))
              refine WL.s (op1_idxA TT intE rfl rfl (by simp only; omega) rfl rfl rfl) rfl ?_
              refine WL.storeS TT (E := intE) 2 (j := j) (k := 0) (z := x) (z' := -1) rfl rfl rfl (by rw [Int.toNat_natCast]; rfl) hx rfl rfl rfl rfl rfl rfl ?_
              repeat' (first|refine bk ?_|refine bkc ?_|refine bks ?_|refine bkd ?_|refine bkq (fun q => ?_)|(refine bk2 ?_ ?_<;>(first|exact bkn|(refine bkk ?_;intro h))))
              exact QS.again (j + 1, zs.set j (-1)) ⟨by show j + 1 ≤ M2.nodes.length; omega, by show (zs.set j _).length = _; rw [List.length_set]; exact hzl⟩ (by show M2.nodes.length - (j + 1) < M2.nodes.length - j; omega) ⟨rfl, rfl, rfl, rfl, rfl, rfl, rfl, rfl, rfl, rfl, trivial⟩ (fun w hs => hs)
            · repeat' (first|refine bk ?_|refine bkc ?_|refine bks ?_|refine bkd ?_|refine bkq (fun q => ?_)|(refine bk2 ?_ ?_<;>(first|exact bkn|(refine bkk ?_;intro h))))
              exact QS.again (1 + 1, y0, zs, y2) ⟨by show 1 + 1 ≤ 3; decide, hy0, hzl, hy2⟩ (by show 3 - (1 + 1) < 3 - 1; decide) ⟨rfl, rfl, rfl, rfl, rfl, rfl, rfl, rfl, rfl, trivial⟩ (fun w hs => hs)
          · repeat' (first|refine bk ?_|refine bkc ?_|refine bks ?_|refine bkd ?_|refine bkq (fun q => ?_)|(refine bk2 ?_ ?_<;>(first|exact bkn|(refine bkk ?_;intro h))))
            refine CS.loop (X := Nat × List Int) (fun y => [(0, .slice A ls.length c), (3, .bool true), (4, .pointer (some ⟨b1, 0, none⟩)), (5, .pointer (some ⟨b2, 0, none⟩)), (6, .int .i64 (i : Int)), (7, .pointer (some ⟨q7, 0, none⟩)), (12, .int .i64 (t : Int)), (20, .slice (some ⟨q20, 0, none⟩) 3 3), (21, .int .i64 2), (22, .int .i64 (y.1 : Int))])
              (fun y => row q20 33 [.slice Aa (M2.hold z).length ca, .slice An M2.nodes.length cn, .slice As (M2.stale all u.node).length cs] :: slc intE 3 Aa ca y0 :: slc intE 3 An cn y1 :: slc intE 3 As cs y.2 :: bmA b1 M2 :: rmA b2 L2 s2 :: row q7 54 (deedK u lA l.length allA all.length) :: G) (fun y => y.1 ≤ (M2.stale all u.node).length ∧ y.2.length = (M2.stale all u.node).length) (fun y => (M2.stale all u.node).length - y.1) (0, y2) ⟨rfl, rfl, rfl, rfl, rfl, rfl, rfl, rfl, rfl, rfl, trivial⟩ (fun w hs => hs) ⟨Nat.zero_le _, hy2⟩ ?_
            rintro ⟨j, zs⟩ ⟨hj, hzl⟩
            simp only at hj hzl ⊢
            refine CS.fact (slc_at (i := 3) rfl) fun ⟨hx1, hx2, hx3⟩ => ?_
            repeat' (first|refine bk ?_|refine bkc ?_|refine bks ?_|refine bkd ?_|refine bkq (fun q => ?_)|(refine bk2 ?_ ?_<;>(first|exact bkn|(refine bkk ?_;intro h))))
            refine WL.idx TT (Rd.row (E := slE) (xs := [⟨Aa, (M2.hold z).length, ca⟩, ⟨An, M2.nodes.length, cn⟩, ⟨As, (M2.stale all u.node).length, cs⟩]) (i := 0) rfl rfl) rfl rfl rfl (by decide) rfl rfl rfl rfl rfl (fun b4 o4 hA4 => ?_)
            refine WL.s (op1_at TT hA4 rfl rfl rfl rfl) rfl ?_
            by_cases hjl : j < (M2.stale all u.node).length
            · obtain ⟨g, hg⟩ : ∃ g, As = some ⟨g, 0, none⟩ := hx3.elim (fun h => by rw [h.2.2] at hzl; simp at hzl; omega) (fun h => h)
              obtain ⟨x, hx⟩ : ∃ x, zs[j]? = some x := ⟨zs[j]'(by omega), List.getElem?_eq_getElem (by omega)⟩
              repeat' (first|refine bk ?_|refine bkc ?_|refine bks ?_|refine bkd ?_|refine bkq (fun q => ?_)|(refine bk2 ?_ ?_<;>(first|exact bkn|(refine bkk ?_;intro h))))
              refine WL.idx TT (Rd.row (E := slE) (xs := [⟨Aa, (M2.hold z).length, ca⟩, ⟨An, M2.nodes.length, cn⟩, ⟨As, (M2.stale all u.node).length, cs⟩]) (i := 0) rfl rfl) rfl rfl rfl (by decide) rfl rfl rfl rfl rfl (fun b5 o5 hA5 => ?_)
              refine WL.s (op1_at TT hA5 rfl rfl rfl rfl) rfl ?_
              subst hg
              repeat' (first|refine bk ?_|refine bkc ?_|refine bks ?_|refine bkd ?_|refine bkq (fun q => ?_)|(refine bk2 ?_ ?_<;>(first|exact bkn|(refine bkk ?_;intro h))))
              refine WL.s (op1_idxA TT intE rfl rfl (by simp only; omega) rfl rfl rfl) rfl ?_
              refine WL.storeS TT (E := intE) 3 (j := j) (k := 0) (z := x) (z' := -1) rfl rfl rfl (by rw [Int.toNat_natCast]; rfl) hx rfl rfl rfl rfl rfl rfl ?_
              repeat' (first|refine bk ?_|refine bkc ?_|refine bks ?_|refine bkd ?_|refine bkq (fun q => ?_)|(refine bk2 ?_ ?_<;>(first|exact bkn|(refine bkk ?_;intro h))))
              exact QS.again (j + 1, zs.set j (-1)) ⟨by show j + 1 ≤ (M2.stale all u.node).length; omega, by show (zs.set j _).length = _; rw [List.length_set]; exact hzl⟩ (by show (M2.stale all u.node).length - (j + 1) < (M2.stale all u.node).length - j; omega) ⟨rfl, rfl, rfl, rfl, rfl, rfl, rfl, rfl, rfl, rfl, trivial⟩ (fun w hs => hs)
            · repeat' (first|refine bk ?_|refine bkc ?_|refine bks ?_|refine bkd ?_|refine bkq (fun q => ?_)|(refine bk2 ?_ ?_<;>(first|exact bkn|(refine bkk ?_;intro h))))
              exact QS.again (2 + 1, y0, y1, zs) ⟨by show 2 + 1 ≤ 3; decide, hy0, hy1, hzl⟩ (by show 3 - (2 + 1) < 3 - 2; decide) ⟨rfl, rfl, rfl, rfl, rfl, rfl, rfl, rfl, rfl, trivial⟩ (fun w hs => hs)
        · have e3 : kk = 3 := by omega
          subst e3
          repeat' (first|refine bk ?_|refine bkc ?_|refine bks ?_|refine bkd ?_|refine bkq (fun q => ?_)|(refine bk2 ?_ ?_<;>(first|exact bkn|(refine bkk ?_;intro h))))
          exact QS.again (t + 1) (by show t + 1 ≤ 2; omega) (by show 2 - (t + 1) < 2 - t; omega) ⟨rfl, rfl, rfl, rfl, rfl, rfl, rfl, trivial⟩ (fun w hs => (hs.drop.drop.drop.drop.front (i := 2) rfl))
      · repeat' (first|refine bk ?_|refine bkc ?_|refine bks ?_|refine bkd ?_|refine bkq (fun q => ?_)|(refine bk2 ?_ ?_<;>(first|exact bkn|(refine bkk ?_;intro h))))
        exact QS.again (M2, L2, s2, i + 1) ⟨hC2, by show i + 1 ≤ ls.length; omega⟩ (by show ls.length - (i + 1) < ls.length - i; omega) ⟨rfl, rfl, rfl, rfl, rfl, trivial⟩ (fun w hs => hs.drop)
  · repeat' (first|refine bk ?_|refine bkc ?_|refine bks ?_|refine bkd ?_|refine bkq (fun q => ?_)|(refine bk2 ?_ ?_<;>(first|exact bkn|(refine bkk ?_;intro h))))
    all_goals first
      | (exfalso; omega)
      | exact QS.turn (G' := G) (fun w hs => hs.drop.drop) (QS.retV Try.results7 rfl ⟨rfl, rfl⟩)
end Go.Proofs.Ytgebdehpoalfbaa.B
