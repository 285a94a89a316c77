import Derived.Test.YtgebdehpoalfbaaMg21
import Derived.Test.YtgebdehpoalfbaaMg23
set_option linter.unusedVariables false
set_option linter.unusedSimpArgs false
set_option maxRecDepth 8000
/-! BlocksHold: the walk. -/
namespace Go.Proofs.Ytgebdehpoalfbaa.B
open Go Go.Proofs
def ownL (ls : List RepsX) : List (List Rep) := (ls.map fun x => x.l.take 20).map numbered
theorem ownL_get {ls : List RepsX} {i : Nat} {x : RepsX} (h : ls[i]? = some x) : (ownL ls).getD i [] = numbered (x.l.take 20) := by
  unfold ownL
  rw [List.getD_eq_getElem?_getD, List.getElem?_map, List.getElem?_map, h]
  rfl
attribute [local irreducible] WL CS QS WQ WH WS Fn Op1 row Sat
attribute [local irreducible] slc mapb bmA inners
set_option maxHeartbeats 8000000 in
theorem law_BlocksHold (A1 : Option Addr) (k1 c1 : Nat) (ls : List RepsX) (hk1 : k1 = ls.length) (hkc1 : k1 ≤ c1) (hc1 : c1 ≤ 9223372036854775807) (hL : ∀ x ∈ ls, x.l.length ≤ 9223372036854775807) (z0 : Blk) (hz0 : -9223372036854775808 ≤ z0.id ∧ z0.id ≤ 9223372036854775807)
    (W0 : World) (G : List SL) (hR1 : Rd W0 G rlE A1 ls) (hR2 : ∀ x ∈ ls, Rd W0 G repE x.A x.l) :
    Fn Try.prog 6 [.slice A1 k1 c1, blkV z0] W0 G (Ret fun v G' => v = .bool true ∧ G' = G) := by
  refine Fn.enter Try.func6 rfl Try.ntmps6 rfl ?_
  repeat' (first|refine bk ?_|refine bkc ?_|refine bks ?_|refine bkd ?_|refine bkq (fun q => ?_)|(refine bk2 ?_ ?_<;>(first|exact bkn|(refine bkk ?_;intro h))))
  revert q; intro q3
  refine WL.call c8 rfl rfl rfl rfl (law_examples W0 _) ?_
  rintro _ G2 ⟨rfl, hG2⟩
  rw [hG2]; clear hG2 G2
  repeat' (first|refine bk ?_|refine bkc ?_|refine bks ?_|refine bkd ?_|refine bkq (fun q => ?_)|(refine bk2 ?_ ?_<;>(first|exact bkn|(refine bkk ?_;intro h))))
  refine WL.call c9 rfl rfl rfl rfl (blocks_New W0 _) ?_
  rintro _ _ ⟨b1, rfl, rfl⟩
  repeat' (first|refine bk ?_|refine bkc ?_|refine bks ?_|refine bkd ?_|refine bkq (fun q => ?_)|(refine bk2 ?_ ?_<;>(first|exact bkn|(refine bkk ?_;intro h))))
  refine WL.call c14 rfl rfl rfl rfl (law_pick z0.id 20 hz0 (by decide) W0 _) ?_
  rintro _ G2 ⟨rfl, hG2⟩
  rw [hG2]; clear hG2 G2
  have hp : 0 ≤ pickM z0.id 20 ∧ pickM z0.id 20 < 20 := pickM_range (by decide)
  obtain ⟨z, hz⟩ : ∃ z : Blk, z = ⟨pickM z0.id 20, z0.gen, z0.len⟩ := ⟨_, rfl⟩
  have hzi : 0 ≤ z.id ∧ z.id < 20 := by rw [hz]; exact hp
  repeat' (first|refine bk ?_|refine bkc ?_|refine bkd ?_|refine bkq (fun q => ?_)|(refine bk2 ?_ ?_<;>(first|exact bkn|(refine bkk ?_;intro h))))
  refine CS.seq ?_
  repeat' (first|refine bk ?_|refine bkc ?_|refine bkd ?_|refine bkq (fun q => ?_)|(refine bk2 ?_ ?_<;>(first|exact bkn|(refine bkk ?_;intro h))))
  refine CS.seq ?_
  obtain ⟨K, hK⟩ : ∃ K, K = min k1 4 := ⟨_, rfl⟩
  refine CS.cut (X := Option Addr × Nat) (fun y => [(3, .pointer (some ⟨q3, 0, none⟩)), (5, .bool true), (6, .pointer (some ⟨b1, 0, none⟩)), (7, .slice y.1 (wantI z (ownL ls) K).length y.2)])
    (fun y => slc intE 3 y.1 y.2 (wantI z (ownL ls) K) :: bmA b1 (holdK (ownL ls) K) :: row q3 28 (blkC z) :: G) (fun _ => True) ?_ ?_
  · repeat' (first|refine bk ?_|refine bkc ?_|refine bks ?_|refine bkd ?_|refine bkq (fun q => ?_)|(refine bk2 ?_ ?_<;>(first|exact bkn|(refine bkk ?_;intro h))))
    refine CS.loop (X := Nat × Option Addr × Nat) (fun y => [(0, .slice A1 k1 c1), (3, .pointer (some ⟨q3, 0, none⟩)), (5, .bool true), (6, .pointer (some ⟨b1, 0, none⟩)), (7, .slice y.2.1 (wantI z (ownL ls) y.1).length y.2.2), (8, .int .i64 (y.1 : Int))])
      (fun y => slc intE 3 y.2.1 y.2.2 (wantI z (ownL ls) y.1) :: bmA b1 (holdK (ownL ls) y.1) :: row q3 28 (blkC z) :: G) (fun y => y.1 ≤ K) (fun y => K - y.1) (0, none, 0) ⟨rfl, rfl, rfl, rfl, rfl, rfl, trivial⟩ (fun w hs => ?_) (Nat.zero_le _) ?_
    · rw [hz]
      exact hs.slcNil intE 3
    rintro ⟨i, A5, c5⟩ hi
    simp only at hi ⊢
    have hwl := wantI_len z (ownL ls) i
    by_cases hiK : i < K
    · obtain ⟨x, hx⟩ : ∃ x, ls[i]? = some x := ⟨ls[i]'(by omega), List.getElem?_eq_getElem (by omega)⟩
      have hxm := List.mem_of_getElem? hx
      have hxL := hL x hxm
      have hog := ownL_get hx
      have hks := holdK_succ (ownL ls) i
      have hws := wantI_succ z (ownL ls) i
      rw [hog] at hks hws
      have hMo := holdK_ok (ownL ls) i
      generalize holdK (ownL ls) i = M at hks hMo ⊢
      generalize wantI z (ownL ls) i = wt at hws hwl ⊢
      obtain ⟨N, hN⟩ : ∃ N, N = min x.l.length 20 := ⟨_, rfl⟩
      have htk : x.l.take 20 = x.l.take N := by
        rw [hN]
        rcases Nat.le_total x.l.length 20 with h | h
        · rw [Nat.min_eq_left h, List.take_of_length_le h, List.take_of_length_le (Nat.le_refl _)]
        · rw [Nat.min_eq_right h]
      rw [htk] at hks hws
      have hkk : (i : Int) < (k1 : Int) := by omega
      have hk4 : (i : Int) < 4 := by omega
      refine CS.seq ?_
      refine CS.seq ?_
      repeat' (first|refine bk ?_|refine bkc ?_|refine bkd ?_|refine bkq (fun q => ?_)|(refine bk2 ?_ ?_<;>(first|exact bkn|(refine bkk ?_;intro h))))
      refine CS.seq ?_
      repeat' (first|refine bk ?_|refine bkc ?_|refine bkd ?_|refine bkq (fun q => ?_)|(refine bk2 ?_ ?_<;>(first|exact bkn|(refine bkk ?_;intro h))))
      refine CS.seq ?_
      repeat' (first|refine bk ?_|refine bkc ?_|refine bkd ?_|refine bkq (fun q => ?_)|(refine bk2 ?_ ?_<;>(first|exact bkn|(refine bkk ?_;intro h))))
      refine CS.seq ?_
      refine CS.cut (X := Option Addr × Nat) (fun y => [(0, .slice A1 k1 c1), (3, .pointer (some ⟨q3, 0, none⟩)), (5, .bool true), (6, .pointer (some ⟨b1, 0, none⟩)), (7, .slice A5 wt.length c5), (8, .int .i64 (i : Int)), (9, .slice y.1 (numbered (x.l.take N)).length y.2)])
        (fun y => slc repE 30 y.1 y.2 (numbered (x.l.take N)) :: slc intE 3 A5 c5 wt :: bmA b1 M :: row q3 28 (blkC z) :: G) (fun _ => True) ?_ ?_
      · repeat' (first|refine bk ?_|refine bkc ?_|refine bks ?_|refine bkd ?_|refine bkq (fun q => ?_)|(refine bk2 ?_ ?_<;>(first|exact bkn|(refine bkk ?_;intro h))))
        refine CS.loop (X := Nat × Option Addr × Nat) (fun y => [(0, .slice A1 k1 c1), (3, .pointer (some ⟨q3, 0, none⟩)), (5, .bool true), (6, .pointer (some ⟨b1, 0, none⟩)), (7, .slice A5 wt.length c5), (8, .int .i64 (i : Int)), (9, .slice y.2.1 (numbered (x.l.take y.1)).length y.2.2), (10, .int .i64 (y.1 : Int))])
          (fun y => slc repE 30 y.2.1 y.2.2 (numbered (x.l.take y.1)) :: slc intE 3 A5 c5 wt :: bmA b1 M :: row q3 28 (blkC z) :: G) (fun y => y.1 ≤ N) (fun y => N - y.1) (0, none, 0) ⟨rfl, rfl, rfl, rfl, rfl, rfl, rfl, rfl, trivial⟩ (fun w hs => hs.slcNil repE 30) (Nat.zero_le _) ?_
        rintro ⟨k, A6, c6⟩ hk
        simp only at hk ⊢
        have hnl : (numbered (x.l.take k)).length = k := by rw [numbered_len, List.length_take]; omega
        repeat' (first|refine bk ?_|refine bkc ?_|refine bks ?_|refine bkd ?_|refine bkq (fun q => ?_)|(refine bk2 ?_ ?_<;>(first|exact bkn|(refine bkk ?_;intro h))))
        refine WL.idx TT hR1.cons.cons.cons.cons rfl rfl hk1 (by omega) (by rw [Int.toNat_natCast]; exact hx) rfl rfl rfl rfl (fun bb o hA => ?_)
        refine WL.s (op1_at TT hA rfl rfl rfl rfl) rfl ?_
        repeat' (first|refine bk ?_|refine bkc ?_|refine bks ?_|refine bkd ?_|refine bkq (fun q => ?_)|(refine bk2 ?_ ?_<;>(first|exact bkn|(refine bkk ?_;intro h))))
        · refine WL.idx TT hR1.cons.cons.cons.cons rfl rfl hk1 (by omega) (by rw [Int.toNat_natCast]; exact hx) rfl rfl rfl rfl (fun b4 o4 hA4 => ?_)
          refine WL.s (op1_at TT hA4 rfl rfl rfl rfl) rfl ?_
          repeat' (first|refine bk ?_|refine bkc ?_|refine bks ?_|refine bkd ?_|refine bkq (fun q => ?_)|(refine bk2 ?_ ?_<;>(first|exact bkn|(refine bkk ?_;intro h))))
          obtain ⟨y, hy⟩ : ∃ y, x.l[k]? = some y := ⟨x.l[k]'(by omega), List.getElem?_eq_getElem (by omega)⟩
          refine WL.idx TT (hR2 x hxm).cons.cons.cons.cons rfl rfl rfl (by omega) (by rw [Int.toNat_natCast]; exact hy) rfl rfl rfl rfl (fun b5 o5 hA5 => ?_)
          refine WL.s (op1_at TT hA5 rfl rfl rfl rfl) rfl ?_
          have hh := numbered_take x.l k y hy
          generalize numbered (x.l.take k) = X at hh hnl ⊢
          repeat' (first|refine bk ?_|refine bkc ?_|refine bks ?_|refine bkd ?_|refine bkq (fun q => ?_)|(refine bk2 ?_ ?_<;>(first|exact bkn|(refine bkk ?_;intro h))))
          refine WL.buildSlice TT rfl rfl rfl rfl rfl rfl rfl rfl (fun q7 => ?_)
          refine WL.append TT (E := repE) (xs := X) (ys := [numF k y]) 2 rfl rfl rfl rfl rfl (Rd.row (i := 0) rfl rfl) rfl rfl rfl rfl rfl (by decide) (by simp only [List.length_cons, List.length_nil]; omega) (fun _ _ => rfl) rfl (fun A7 c7 => ?_)
          repeat' (first|refine bk ?_|refine bkc ?_|refine bks ?_|refine bkd ?_|refine bkq (fun q => ?_)|(refine bk2 ?_ ?_<;>(first|exact bkn|(refine bkk ?_;intro h))))
          refine QS.again (k + 1, A7, c7) (by show k + 1 ≤ N; omega) (by show N - (k + 1) < N - k; omega) ⟨rfl, rfl, rfl, rfl, rfl, rfl, by simp only [hh]; rfl, rfl, trivial⟩ (fun w hs => ?_)
          simp only [hh]
          exact (hs.drop.drop)
        all_goals
          have hkN : k = N := by omega
          subst hkN
          exact QS.met (A6, c6) trivial ⟨rfl, rfl, rfl, rfl, rfl, rfl, rfl, trivial⟩ (fun w hs => hs)
      · rintro ⟨A6, c6⟩ _
        simp only
        have hnl : (numbered (x.l.take N)).length = N := by rw [numbered_len, List.length_take]; omega
        generalize numbered (x.l.take N) = own at hnl hks hws ⊢
        repeat' (first|refine bk ?_|refine bkc ?_|refine bks ?_|refine bkd ?_|refine bkq (fun q => ?_)|(refine bk2 ?_ ?_<;>(first|exact bkn|(refine bkk ?_;intro h))))
        have hc := fun F hR => blocks_Report b1 M (i : Int) A6 c6 own (by omega) W0 F hR
        rw [if_pos (by omega)] at hc
        refine WL.call c10 rfl rfl rfl rfl ((hc _ (Rd.slc (i := 0) rfl)).pre (fun w hs => hs.front (i := 2) rfl)) ?_
        clear hc
        rintro _ _ ⟨rfl, rfl⟩
        repeat' (first|refine bk ?_|refine bkc ?_|refine bks ?_|refine bkq (fun q => ?_)|(refine bk2 ?_ ?_<;>(first|exact bkn|(refine bkk ?_;intro h))))
        refine CS.world fun hw => ?_
        by_cases hzN : z.id < (N : Int)
        · obtain ⟨r, hr⟩ : ∃ x, own[z.id.toNat]? = some x := ⟨own[z.id.toNat]'(by omega), List.getElem?_eq_getElem (by omega)⟩
          have hwh : wantH z own = (decide (r.gen = z.gen) && decide (z.len ≤ r.len)) := by unfold wantH; rw [hr]
          rw [hwh] at hws
          repeat' (first|refine bk ?_|refine bkc ?_|refine bks ?_|refine bkd ?_|refine bkq (fun q => ?_)|(refine bk2 ?_ ?_<;>(first|exact bkn|(refine bkk ?_;intro h))))
          refine WQ.idx TT (Rd.slc (i := 1) rfl) rfl rfl rfl (by omega) hr rfl rfl rfl rfl hw (fun b4 o4 hA4 => ?_)
          repeat' (first|refine bk ?_|refine bkc ?_|refine bks ?_|refine bkd ?_|refine bkq (fun q => ?_)|(refine bk2 ?_ ?_<;>(first|exact bkn|(refine bkk ?_;intro h))))
          refine WQ.s (op1_atF TT 1 hA4 rfl rfl rfl rfl rfl) rfl ?_
          by_cases hg : r.gen = z.gen
          · rw [decide_eq_true hg, Bool.true_and] at hws
            repeat' (first|refine bk ?_|refine bkc ?_|refine bks ?_|refine bkd ?_|refine bkq (fun q => ?_)|(refine bk2 ?_ ?_<;>(first|exact bkn|(refine bkk ?_;intro h))))
            refine WQ.idx TT (Rd.slc (i := 1) rfl) rfl rfl rfl (by omega) hr rfl rfl rfl rfl hw (fun b5 o5 hA5 => ?_)
            repeat' (first|refine bk ?_|refine bkc ?_|refine bks ?_|refine bkd ?_|refine bkq (fun q => ?_)|(refine bk2 ?_ ?_<;>(first|exact bkn|(refine bkk ?_;intro h))))
            refine WQ.s (op1_atF TT 2 hA5 rfl rfl rfl rfl rfl) rfl ?_
            by_cases hl : z.len ≤ r.len
            · have hws2 := hws
              rw [decide_eq_true hl, if_pos rfl] at hws2
              repeat' (first|refine bk ?_|refine bkc ?_|refine bks ?_|refine bkd ?_|refine bkq (fun q => ?_)|(refine bk2 ?_ ?_<;>(first|exact bkn|(refine bkk ?_;intro h))))
              refine WL.buildSlice TT rfl rfl rfl rfl rfl rfl rfl rfl (fun q7 => ?_)
              refine WL.append TT (E := intE) (xs := wt) (ys := [(i : Int)]) 3 rfl rfl rfl rfl rfl (Rd.row (i := 0) rfl rfl) rfl rfl rfl rfl rfl (by decide) (by simp only [List.length_cons, List.length_nil]; omega) (fun _ _ => rfl) rfl (fun A7 c7 => ?_)
              repeat' (first|refine bk ?_|refine bkc ?_|refine bks ?_|refine bkd ?_|refine bkq (fun q => ?_)|(refine bk2 ?_ ?_<;>(first|exact bkn|(refine bkk ?_;intro h))))
              refine QS.again (i + 1, A7, c7) (by show i + 1 ≤ K; omega) (by show K - (i + 1) < K - i; omega) ⟨rfl, rfl, rfl, rfl, by simp only [hws2]; rfl, rfl, trivial⟩ (fun w hs => by simp only [hws2, hks]; exact (hs.drop.kick (i := 1) rfl).front (i := 1) rfl)
            · have hws2 := hws
              rw [decide_eq_false hl, if_neg (by decide), List.append_nil] at hws2
              repeat' (first|refine bk ?_|refine bkc ?_|refine bks ?_|refine bkd ?_|refine bkq (fun q => ?_)|(refine bk2 ?_ ?_<;>(first|exact bkn|(refine bkk ?_;intro h))))
              refine QS.again (i + 1, A5, c5) (by show i + 1 ≤ K; omega) (by show K - (i + 1) < K - i; omega) ⟨rfl, rfl, rfl, rfl, by simp only [hws2]; rfl, rfl, trivial⟩ (fun w hs => by simp only [hws2, hks]; exact (hs.kick (i := 1) rfl).front (i := 1) rfl)
          · have hws2 := hws
            rw [decide_eq_false hg, Bool.false_and, if_neg (by decide), List.append_nil] at hws2
            repeat' (first|refine bk ?_|refine bkc ?_|refine bks ?_|refine bkd ?_|refine bkq (fun q => ?_)|(refine bk2 ?_ ?_<;>(first|exact bkn|(refine bkk ?_;intro h))))
            refine QS.again (i + 1, A5, c5) (by show i + 1 ≤ K; omega) (by show K - (i + 1) < K - i; omega) ⟨rfl, rfl, rfl, rfl, by simp only [hws2]; rfl, rfl, trivial⟩ (fun w hs => by simp only [hws2, hks]; exact (hs.kick (i := 1) rfl).front (i := 1) rfl)
        · have hwh : wantH z own = false := by unfold wantH; rw [List.getElem?_eq_none (by omega)]
          have hws2 := hws
          rw [hwh, if_neg (by decide), List.append_nil] at hws2
          repeat' (first|refine bk ?_|refine bkc ?_|refine bks ?_|refine bkd ?_|refine bkq (fun q => ?_)|(refine bk2 ?_ ?_<;>(first|exact bkn|(refine bkk ?_;intro h))))
          refine QS.again (i + 1, A5, c5) (by show i + 1 ≤ K; omega) (by show K - (i + 1) < K - i; omega) ⟨rfl, rfl, rfl, rfl, by simp only [hws2]; rfl, rfl, trivial⟩ (fun w hs => by simp only [hws2, hks]; exact (hs.kick (i := 1) rfl).front (i := 1) rfl)
    · have hiK2 : i = K := by omega
      subst hiK2
      repeat' (first|refine bk ?_|refine bkc ?_|refine bks ?_|refine bkd ?_|refine bkq (fun q => ?_)|(refine bk2 ?_ ?_<;>(first|exact bkn|(refine bkk ?_;intro h))))
      all_goals exact QS.met (A5, c5) trivial ⟨rfl, rfl, rfl, rfl, trivial⟩ (fun w hs => hs)
  rintro ⟨A5, c5⟩ _
  simp only
  have hMo := holdK_ok (ownL ls) K
  have hhw : (holdK (ownL ls) K).hold z = wantI z (ownL ls) K := holdK_want (by omega) hzi.1
  have hwl := wantI_len z (ownL ls) K
  generalize holdK (ownL ls) K = M at hMo hhw ⊢
  generalize wantI z (ownL ls) K = wt at hhw hwl ⊢
  have hs1 : M.short [z] ((wt.length : Int) + 1) = if 0 < wt.length then [z] else [] := by
    rw [short_one, hhw]
    by_cases h0 : 0 < wt.length
    · rw [if_pos h0, if_pos ⟨h0, by omega⟩]
    · rw [if_neg h0, if_neg (fun h => h0 h.1)]
  have hs2 : M.short [z] (wt.length : Int) = [] := by
    rw [short_one, hhw, if_neg (fun h => by omega)]
  repeat' (first|refine bk ?_|refine bkc ?_|refine bks ?_|refine bkd ?_|refine bkq (fun q => ?_)|(refine bk2 ?_ ?_<;>(first|exact bkn|(refine bkk ?_;intro h))))
  have hc := fun F => blocks_Hold b1 M hMo z W0 F
  rw [hhw] at hc
  refine WL.call c13 rfl rfl rfl rfl ((hc _).pre (fun w hs => hs.front (i := 1) rfl)) ?_
  clear hc
  rintro _ _ ⟨A6, c6, rfl, rfl⟩
  repeat' (first|refine bk ?_|refine bkc ?_|refine bks ?_|refine bkd ?_|refine bkq (fun q => ?_)|(refine bk2 ?_ ?_<;>(first|exact bkn|(refine bkk ?_;intro h))))
  refine WL.call c15 rfl rfl rfl rfl (law_numbers A6 A5 c6 c5 wt (by omega) W0 _ (Rd.slc (i := 0) rfl) (Rd.slc (i := 2) rfl)) ?_
  rintro _ G2 ⟨rfl, hG2⟩
  rw [hG2]; clear hG2 G2
  repeat' (first|refine bk ?_|refine bkc ?_|refine bks ?_|refine bkd ?_|refine bkq (fun q => ?_)|(refine bk2 ?_ ?_<;>(first|exact bkn|(refine bkk ?_;intro h))))
  refine WL.buildSlice TT rfl rfl rfl rfl rfl rfl rfl rfl (fun q7 => ?_)
  repeat' (first|refine bk ?_|refine bkc ?_|refine bks ?_|refine bkd ?_|refine bkq (fun q => ?_)|(refine bk2 ?_ ?_<;>(first|exact bkn|(refine bkk ?_;intro h))))
  have hc := fun F hR => blocks_Short b1 M hMo (some ⟨q7, 0, none⟩) 1 [z] (by show 1 ≤ 1000000; decide) ((wt.length : Int) + 1) W0 F hR
  rw [hs1] at hc
  refine WL.call c18 rfl rfl rfl rfl ((hc _ (Rd.row (i := 0) rfl rfl)).pre (fun w hs => hs.front (i := 2) rfl)) ?_
  clear hc
  rintro _ _ ⟨A7, c7, rfl, rfl⟩
  by_cases h0 : 0 < wt.length
  · rw [if_pos h0]
    have hq : decide (0 < (wt.length : Int)) = true := decide_eq_true (by omega)
    repeat' (first|refine bk ?_|refine bkc ?_|refine bks ?_|refine bkd ?_|refine bkq (fun q => ?_)|(refine bk2 ?_ ?_<;>(first|exact bkn|(refine bkk ?_;intro h))))
    rotate_left 1
    · exfalso
      rw [hq] at h
      simp at h
    · refine WL.buildSlice TT rfl rfl rfl rfl rfl rfl rfl rfl (fun q9 => ?_)
      repeat' (first|refine bk ?_|refine bkc ?_|refine bks ?_|refine bkd ?_|refine bkq (fun q => ?_)|(refine bk2 ?_ ?_<;>(first|exact bkn|(refine bkk ?_;intro h))))
      have hc := fun F hR => blocks_Short b1 M hMo (some ⟨q9, 0, none⟩) 1 [z] (by show 1 ≤ 1000000; decide) (wt.length : Int) W0 F hR
      rw [hs2] at hc
      refine WL.call c18 rfl rfl rfl rfl ((hc _ (Rd.row (i := 0) rfl rfl)).pre (fun w hs => hs.front (i := 2) rfl)) ?_
      clear hc
      rintro _ _ ⟨A8, c8, rfl, rfl⟩
      repeat' (first|refine bk ?_|refine bkc ?_|refine bks ?_|refine bkd ?_|refine bkq (fun q => ?_)|(refine bk2 ?_ ?_<;>(first|exact bkn|(refine bkk ?_;intro h))))
      exact QS.turn (G' := G) (fun w hs => hs.drop.drop.drop.drop.drop.drop.drop.drop) (QS.retV Try.results6 rfl ⟨rfl, rfl⟩)
  · rw [if_neg h0]
    have hq : decide (0 < (wt.length : Int)) = false := decide_eq_false (by omega)
    repeat' (first|refine bk ?_|refine bkc ?_|refine bks ?_|refine bkd ?_|refine bkq (fun q => ?_)|(refine bk2 ?_ ?_<;>(first|exact bkn|(refine bkk ?_;intro h))))
    rotate_left 1
    · exfalso
      rw [hq] at h
      simp at h
    · refine WL.buildSlice TT rfl rfl rfl rfl rfl rfl rfl rfl (fun q9 => ?_)
      repeat' (first|refine bk ?_|refine bkc ?_|refine bks ?_|refine bkd ?_|refine bkq (fun q => ?_)|(refine bk2 ?_ ?_<;>(first|exact bkn|(refine bkk ?_;intro h))))
      have hc := fun F hR => blocks_Short b1 M hMo (some ⟨q9, 0, none⟩) 1 [z] (by show 1 ≤ 1000000; decide) (wt.length : Int) W0 F hR
      rw [hs2] at hc
      refine WL.call c18 rfl rfl rfl rfl ((hc _ (Rd.row (i := 0) rfl rfl)).pre (fun w hs => hs.front (i := 2) rfl)) ?_
      clear hc
      rintro _ _ ⟨A8, c8, rfl, rfl⟩
      repeat' (first|refine bk ?_|refine bkc ?_|refine bks ?_|refine bkd ?_|refine bkq (fun q => ?_)|(refine bk2 ?_ ?_<;>(first|exact bkn|(refine bkk ?_;intro h))))
      exact QS.turn (G' := G) (fun w hs => hs.drop.drop.drop.drop.drop.drop.drop.drop) (QS.retV Try.results6 rfl ⟨rfl, rfl⟩)
end Go.Proofs.Ytgebdehpoalfbaa.B
