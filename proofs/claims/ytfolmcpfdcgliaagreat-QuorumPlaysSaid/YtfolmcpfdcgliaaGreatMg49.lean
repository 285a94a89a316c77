import Derived.Test.YtfolmcpfdcgliaaGreatMg48
set_option linter.unusedVariables false
set_option linter.unusedSimpArgs false
set_option maxRecDepth 8000
namespace Go.Proofs.YtfolmcpfdcgliaaGreat.B
open Go Go.Proofs
attribute [local irreducible] WL CS QS WQ WH WS Fn Op1 row Sat
attribute [local irreducible] slc jA diskA mailA nodesA nodesX rjA refA rnodesA rnodesX rmailA entsA
set_option maxHeartbeats 4000000 in
theorem t_ask (bt : Nat) (Ay : Option Addr) (cy bn : Nat) (w : Wr) {xs : List Nd} {ys : List (Nat × Nat)} (hl : ys.length = xs.length) {i : Nat} {x : Nd} {y : Nat × Nat} (hx : xs[i]? = some x) (hy : ys[i]? = some y) (hxo : NdOk x) (hn : xs.length ≤ 5) (m : List Msg) (hm : m.length ≤ 50) (s : ByteArray) (hs : s.size ≤ 9223372036854775807) (k : Int) (hk : 0 ≤ k ∧ k < 5) (W0 : World) (F : List SL) :
    Fn Tryz.prog 124 [.pointer (some ⟨bt, 0, none⟩), .int .i64 (i : Int), .string s, .int .i64 k] W0
      (row bt 68 (wrC Ay xs.length cy bn w) :: slc bpE 88 Ay cy (ys.map (·.1)) :: rnodesA ys xs :: rmailA bn m :: F)
      (Ret fun v G' => ∃ a, v = .tuple #[.string a, .bool (decide (k = 0 ∨ k = 3))] ∧ ((k = 0 ∨ k = 3) → a = mk (x.ans (bs s))) ∧
        G' = row bt 68 (wrC Ay xs.length cy bn w) :: slc bpE 88 Ay cy (ys.map (·.1)) :: rnodesA ys (xs.set i (ndM k s x)) :: rmailA bn (if k = 4 then sendM m i s else m) :: F) := by
  have hi := (List.getElem?_eq_some_iff.1 hx).1
  have hyb : (ys.map (·.1))[(i : Int).toNat]? = some y.1 := by rw [Int.toNat_natCast, List.getElem?_map, hy]; rfl
  refine Fn.enter Tryz.func124 rfl Tryz.ntmps124 rfl ?_
  have hf : k = 0 ∨ k = 1 ∨ k = 2 ∨ k = 3 ∨ k = 4 := by omega
  rcases hf with rfl | rfl | rfl | rfl | rfl
  · have e2 : xs.set i (ndM 0 s x) = xs.set i (x.hand (bs s)) := by simp [ndM]
    rw [e2]
    repeat' (first|refine bA ?_|refine bkq fun q=>?_|(refine bk2 ?_ ?_<;>(first|exact bkn|(refine bkk ?_;intro h))))
    refine WL.idx TT (E := bpE) (Rd.slc (i := 1) rfl) rfl rfl (by rw [List.length_map, hl]) (by omega) (x := y.1) hyb rfl rfl rfl rfl (fun bb2 o hA => ?_)
    refine WL.s (op1_at TT hA rfl rfl rfl rfl) rfl ?_
    repeat' (first|refine bA ?_|refine bkq fun q=>?_|(refine bk2 ?_ ?_<;>(first|exact bkn|(refine bkk ?_;intro h))))
    refine WL.call c46 rfl rfl rfl rfl ((t_hand hx hy hxo s hs W0 _).pre (fun w hw => hw.front (i := 2) rfl)) ?_
    rintro _ _ ⟨rfl, rfl⟩
    repeat' (first|refine bA ?_|refine bkq fun q=>?_|(refine bk2 ?_ ?_<;>(first|exact bkn|(refine bkk ?_;intro h))))
    exact QS.turn (fun w hw => hw.ord 4 [1, 2, 0, 3] rfl) (QS.retV Tryz.results124 rfl ⟨_, rfl, fun _ => rfl, rfl⟩)
  · have e2 : xs.set i (ndM 1 s x) = xs := by simp only [ndM, true_or, if_true]; exact set_self hx
    rw [e2]
    repeat' (first|refine bA ?_|refine bkq fun q=>?_|(refine bk2 ?_ ?_<;>(first|exact bkn|(refine bkk ?_;intro h))))
    exact QS.retV Tryz.results124 rfl ⟨_, rfl, fun h => absurd h (by decide), rfl⟩
  · have e2 : xs.set i (ndM 2 s x) = xs.set i (x.hand (bs s)) := by simp [ndM]
    rw [e2]
    repeat' (first|refine bA ?_|refine bkq fun q=>?_|(refine bk2 ?_ ?_<;>(first|exact bkn|(refine bkk ?_;intro h))))
    refine WL.idx TT (E := bpE) (Rd.slc (i := 1) rfl) rfl rfl (by rw [List.length_map, hl]) (by omega) (x := y.1) hyb rfl rfl rfl rfl (fun bb2 o hA => ?_)
    refine WL.s (op1_at TT hA rfl rfl rfl rfl) rfl ?_
    repeat' (first|refine bA ?_|refine bkq fun q=>?_|(refine bk2 ?_ ?_<;>(first|exact bkn|(refine bkk ?_;intro h))))
    refine WL.call c46 rfl rfl rfl rfl ((t_hand hx hy hxo s hs W0 _).pre (fun w hw => hw.front (i := 2) rfl)) ?_
    rintro _ _ ⟨rfl, rfl⟩
    repeat' (first|refine bA ?_|refine bkq fun q=>?_|(refine bk2 ?_ ?_<;>(first|exact bkn|(refine bkk ?_;intro h))))
    exact QS.turn (fun w hw => hw.ord 4 [1, 2, 0, 3] rfl) (QS.retV Tryz.results124 rfl ⟨_, rfl, fun h => absurd h (by decide), rfl⟩)
  · have e2 : xs.set i (ndM 3 s x) = (xs.set i (x.hand (bs s))).set i ((x.hand (bs s)).hand (bs s)) := by rw [List.set_set]; simp [ndM]
    rw [e2]
    repeat' (first|refine bA ?_|refine bkq fun q=>?_|(refine bk2 ?_ ?_<;>(first|exact bkn|(refine bkk ?_;intro h))))
    refine WL.idx TT (E := bpE) (Rd.slc (i := 1) rfl) rfl rfl (by rw [List.length_map, hl]) (by omega) (x := y.1) hyb rfl rfl rfl rfl (fun bb2 o hA => ?_)
    refine WL.s (op1_at TT hA rfl rfl rfl rfl) rfl ?_
    repeat' (first|refine bA ?_|refine bkq fun q=>?_|(refine bk2 ?_ ?_<;>(first|exact bkn|(refine bkk ?_;intro h))))
    refine WL.call c46 rfl rfl rfl rfl ((t_hand hx hy hxo s hs W0 _).pre (fun w hw => hw.front (i := 2) rfl)) ?_
    rintro _ _ ⟨rfl, rfl⟩
    repeat' (first|refine bA ?_|refine bkq fun q=>?_|(refine bk2 ?_ ?_<;>(first|exact bkn|(refine bkk ?_;intro h))))
    refine WL.idx TT (E := bpE) (Rd.slc (i := 2) rfl) rfl rfl (by rw [List.length_map, hl]) (by omega) (x := y.1) hyb rfl rfl rfl rfl (fun bb2 o hA => ?_)
    refine WL.s (op1_at TT hA rfl rfl rfl rfl) rfl ?_
    repeat' (first|refine bA ?_|refine bkq fun q=>?_|(refine bk2 ?_ ?_<;>(first|exact bkn|(refine bkk ?_;intro h))))
    refine WL.call c46 rfl rfl rfl rfl (t_hand (set_at hx) hy (hand_ok hxo _) s hs W0 _) ?_
    rintro _ _ ⟨rfl, rfl⟩
    repeat' (first|refine bA ?_|refine bkq fun q=>?_|(refine bk2 ?_ ?_<;>(first|exact bkn|(refine bkk ?_;intro h))))
    exact QS.turn (fun w hw => hw.ord 4 [1, 2, 0, 3] rfl) (QS.retV Tryz.results124 rfl ⟨_, rfl, fun _ => rfl, rfl⟩)
  · have e2 : xs.set i (ndM 4 s x) = xs := by simp only [ndM, or_true, if_true]; exact set_self hx
    rw [e2]
    repeat' (first|refine bA ?_|refine bkq fun q=>?_|(refine bk2 ?_ ?_<;>(first|exact bkn|(refine bkk ?_;intro h))))
    refine WL.call c174 rfl rfl rfl rfl ((t_Send bn m hm i s W0 _).pre (fun w hw => hw.front (i := 3) rfl)) ?_
    rintro _ _ ⟨⟨_, rfl⟩, rfl⟩
    repeat' (first|refine bA ?_|refine bkq fun q=>?_|(refine bk2 ?_ ?_<;>(first|exact bkn|(refine bkk ?_;intro h))))
    exact QS.turn (fun w hw => hw.ord 4 [1, 2, 3, 0] rfl) (QS.retV Tryz.results124 rfl ⟨_, rfl, fun h => absurd h (by decide), rfl⟩)
set_option maxHeartbeats 4000000 in
theorem t_all (bt : Nat) (Ay : Option Addr) (cy bn : Nat) (w : Wr) (xs : List Nd) (ys : List (Nat × Nat)) (hl : ys.length = xs.length) (hok : ∀ x ∈ xs, NdOk x) (hn : xs.length ≤ 5) (m : List Msg) (hm : m.length ≤ 50) (s : ByteArray) (hs : s.size ≤ 9223372036854775807) (A : Option Addr) (k c : Nat) (fs : List Int) (hk : k = fs.length) (hI : ∀ x ∈ fs, I64 x) (f : Nat) (hf5 : f ≤ 5) (f2 : List Int) (hf2 : ∀ i, fateM fs (f + i) = fateM f2 i) (W0 : World) (F : List SL) (hR : Rd W0 F intE A fs) :
    Fn Tryz.prog 80 [.pointer (some ⟨bt, 0, none⟩), .string s, .slice A k c, .int .i64 (f : Int)] W0
      (row bt 68 (wrC Ay xs.length cy bn w) :: slc bpE 88 Ay cy (ys.map (·.1)) :: rnodesA ys xs :: rmailA bn m :: F)
      (Ret fun v G' => ∃ ls Al cl, ls.map lgOf = (gotsM f2 s xs m xs.length).logs ∧ v = .tuple #[.slice Al ls.length cl, .bool (decide ((gotsM f2 s xs m xs.length).bad = 10))] ∧
        G' = slc lgE 45 Al cl ls :: entsA ls :: row bt 68 (wrC Ay xs.length cy bn w) :: slc bpE 88 Ay cy (ys.map (·.1)) :: rnodesA ys (ndsM f2 s xs xs.length) :: rmailA bn (gotsM f2 s xs m xs.length).m :: F) := by
  subst hk
  refine Fn.enter Tryz.func80 rfl Tryz.ntmps80 rfl ?_
  simp only [wrC]
  repeat' (first|refine bA ?_|refine bkq fun q=>?_|(refine bk2 ?_ ?_<;>(first|exact bkn|(refine bkk ?_;intro h))))
  refine CS.loop (X := Nat × List LogX × Option Addr × Nat) (fun y => [(0, .pointer (some ⟨bt, 0, none⟩)), (1, .string s), (2, .slice A fs.length c), (3, .int .i64 (f : Int)), (10, .slice y.2.2.1 y.2.1.length y.2.2.2), (11, .bool (decide ((gotsM f2 s xs m y.1).bad = 10))), (12, .int .i64 (y.1 : Int))])
    (fun y => slc lgE 45 y.2.2.1 y.2.2.2 y.2.1 :: entsA y.2.1 :: row bt 68 (wrC Ay xs.length cy bn w) :: slc bpE 88 Ay cy (ys.map (·.1)) :: rnodesA ys (ndsM f2 s xs y.1) :: rmailA bn (gotsM f2 s xs m y.1).m :: F)
    (fun y => y.1 ≤ xs.length ∧ y.2.1.map lgOf = (gotsM f2 s xs m y.1).logs) (fun y => xs.length - y.1) (0, [], none, 0) ⟨rfl, rfl, rfl, rfl, rfl, rfl, rfl, trivial⟩ (fun w hs => by rw [ndsM_zero]; exact (ents_none w hs).slcNil lgE 45) ⟨Nat.zero_le _, rfl⟩ ?_
  rintro ⟨i, ls, Al, cl⟩ ⟨hi, hls⟩
  simp only at hi hls ⊢
  by_cases hix : i < xs.length
  rotate_left 1
  · obtain rfl : i = xs.length := by omega
    repeat' (first|refine bA ?_|refine bkq fun q=>?_|(refine bk2 ?_ ?_<;>(first|exact bkn|(refine bkk ?_;intro h))))
    exact QS.retV Tryz.results80 rfl ⟨ls, Al, cl, hls, rfl, rfl⟩
  obtain ⟨x, hx⟩ : ∃ x, xs[i]? = some x := ⟨xs[i]'hix, List.getElem?_eq_getElem hix⟩
  obtain ⟨y, hy⟩ : ∃ y, ys[i]? = some y := ⟨ys[i]'(by omega), List.getElem?_eq_getElem (by omega)⟩
  have hxo := hok x (List.mem_of_getElem? hx)
  have hgl := gotsM_len f2 s xs m i
  have hml : (gotsM f2 s xs m i).m.length ≤ 50 := gotsM_mail f2 s xs m hm i
  have hg1 : gotsM f2 s xs m (i + 1) = gotM (fateM f2 i) i s x (gotsM f2 s xs m i) := by rw [gotsM, hx]
  have hn1 := ndsM_succ (fs := f2) (s := s) hx
  have hnx := ndsM_get (fs := f2) (s := s) (i := i) hx
  have hnl := ndsM_len f2 s xs i
  have hb := bad_is f2 s xs m i
  generalize ndsM f2 s xs i = zs at hn1 hnx hnl ⊢
  generalize gotsM f2 s xs m i = σ at hgl hml hg1 hls hb ⊢
  obtain ⟨lg, bad, mm⟩ := σ
  simp only at hgl hml hg1 hls hb ⊢
  have hll := congrArg List.length hls
  rw [List.length_map] at hll
  repeat' (first|refine bA ?_|refine bkq fun q=>?_|(refine bk2 ?_ ?_<;>(first|exact bkn|(refine bkk ?_;intro h))))
  refine WL.call c87 rfl rfl rfl rfl (by
    have := t_fate A _ c fs rfl hI (f + i) W0 (slc lgE 45 Al cl ls :: entsA ls :: row bt 68 (wrC Ay xs.length cy bn w) :: slc bpE 88 Ay cy (ys.map (·.1)) :: rnodesA ys zs :: rmailA bn mm :: F) hR.cons.cons.cons.cons.cons.cons
    rw [hf2, show ((f + i : Nat) : Int) = (f : Int) + (i : Int) from by omega] at this
    exact this) ?_
  rintro _ G2 ⟨rfl, hG2⟩
  rw [hG2]; clear hG2 G2
  have hfr := fate_range f2 i
  have hask := t_ask bt Ay cy bn w (xs := zs) (ys := ys) (by omega) hnx hy hxo (by omega) mm hml s hs (fateM f2 i) hfr W0 (slc lgE 45 Al cl ls :: entsA ls :: F)
  rw [hnl] at hask
  rw [← hn1] at hask
  generalize fateM f2 i = fa at hfr hg1 hask ⊢
  refine WL.call c124 rfl rfl rfl rfl (hask.pre (fun w hw => hw.ord 6 [2, 3, 4, 5, 0, 1] rfl)) ?_
  clear hask
  rintro _ _ ⟨an, rfl, han, rfl⟩
  by_cases h03 : fa = 0 ∨ fa = 3
  · have e1 : gotsM f2 s xs m (i + 1) = heard (toldM (x.ans (bs s))) ⟨lg, bad, mm⟩ := by rw [hg1]; unfold gotM; rw [if_neg (by omega), if_neg (by omega), if_neg (by omega)]
    have e4 : (if fa = 4 then sendM mm i s else mm) = mm := if_neg (by omega)
    rw [e4]
    have := han h03
    subst this
    simp only [h03, decide_true]
    have e3 := heard_m (toldM (x.ans (bs s))) ⟨lg, bad, mm⟩
    rw [← e1] at e3
    simp only at e3
    have hsz := ans_size x (bs s)
    have htold := r_Told (mk (x.ans (bs s))) hsz W0 (row bt 68 (wrC Ay xs.length cy bn w) :: slc bpE 88 Ay cy (ys.map (·.1)) :: rnodesA ys (ndsM f2 s xs (i + 1)) :: rmailA bn mm :: slc lgE 45 Al cl ls :: entsA ls :: F)
    rw [bs_mk] at htold
    generalize toldM (x.ans (bs s)) = T at e1 htold
    obtain ⟨te, txs, ter⟩ := T
    simp only at htold
    repeat' (first|refine bA ?_|refine bkq fun q=>?_|(refine bk2 ?_ ?_<;>(first|exact bkn|(refine bkk ?_;intro h))))
    refine WL.call c125 rfl rfl rfl rfl htold ?_
    clear htold
    rintro _ _ ⟨A4, c4, rfl, rfl⟩
    have hbad : decide ((gotsM f2 s xs m (i + 1)).bad = 10) = (decide (bad = 10) || decide (ter = 10)) := by
      rw [e1]; unfold heard
      by_cases h0 : ter = 0
      · rw [if_pos h0, h0]; simp
      · rw [if_neg h0]
        by_cases h10 : ter = 10
        · rw [if_pos h10, h10]; simp
        · rw [if_neg h10]; simp [h10]
    have hlog : (gotsM f2 s xs m (i + 1)).logs = if ter = 0 then lg ++ [(te, txs)] else lg := by
      rw [e1]; unfold heard
      by_cases h0 : ter = 0
      · rw [if_pos h0, if_pos h0]
      · rw [if_neg h0, if_neg h0]
        by_cases h10 : ter = 10
        · rw [if_pos h10]
        · rw [if_neg h10]
    by_cases h0 : ter = 0
    · rw [if_pos h0] at hlog
      subst h0
      repeat' (first|refine bN ?_|refine bkq fun q=>?_|(refine bk2 ?_ ?_<;>(first|exact bkn|(refine bkk ?_;intro h))))
      refine WL.buildSlice TT rfl rfl rfl rfl rfl rfl rfl rfl (fun q2 => ?_)
      refine WL.append TT 7 (E := lgE) (xs := ls) (ys := [⟨te, A4, c4, txs⟩]) rfl rfl rfl rfl rfl (Rd.row (i := 0) rfl rfl) rfl rfl rfl rfl rfl (by decide) (by simp only [List.length_cons, List.length_nil]; omega) (fun _ _ => rfl) rfl (fun A6 c6 => ?_)
      rcases hb with rfl | rfl
      all_goals
        repeat' (first|refine bA ?_|refine bkq fun q=>?_|(refine bk2 ?_ ?_<;>(first|exact bkn|(refine bkk ?_;intro h))))
        refine QS.again (i + 1, ls ++ [⟨te, A4, c4, txs⟩], A6, c6) ⟨hix, by simp only; rw [hlog, List.map_append, hls]; rfl⟩ (by show xs.length - (i + 1) < xs.length - i; omega) ⟨rfl, rfl, rfl, rfl, rfl, by simp only; rw [hbad]; rfl, rfl, trivial⟩ (fun w hw => ?_)
        simp only
        rw [e3]
        exact (ents_snoc (x := ⟨te, A4, c4, txs⟩) w (hw.ord 9 [2, 8, 3, 4, 5, 6, 7] rfl)).ord 6 [5, 0, 1, 2, 3, 4] rfl
    · rw [if_neg h0] at hlog
      rcases hb with rfl | rfl
      all_goals
        by_cases h10 : ter = 10
        all_goals
          try subst h10
          repeat' (first|refine bA ?_|refine bkq fun q=>?_|(refine bk2 ?_ ?_<;>(first|exact bkn|(refine bkk ?_;intro h))))
          refine QS.again (i + 1, ls, Al, cl) ⟨hix, by simp only; rw [hlog]; exact hls⟩ (by show xs.length - (i + 1) < xs.length - i; omega) ⟨rfl, rfl, rfl, rfl, rfl, by simp only; rw [hbad]; first | rfl | (simp [*]; try rfl), rfl, trivial⟩ (fun w hw => ?_)
          simp only
          rw [e3]
          exact hw.ord 8 [6, 7, 2, 3, 4, 5] rfl
  · have e1 : gotsM f2 s xs m (i + 1) = ⟨lg, bad, if fa = 4 then sendM mm i s else mm⟩ := by
      rw [hg1]; unfold gotM
      by_cases h1 : fa = 1
      · rw [if_pos h1, if_neg (by omega)]
      · rw [if_neg h1]
        by_cases h4 : fa = 4
        · rw [if_pos h4, if_pos h4]
        · rw [if_neg h4, if_neg h4, if_pos (by omega)]
    simp only [h03, decide_false]
    repeat' (first|refine bA ?_|refine bkq fun q=>?_|(refine bk2 ?_ ?_<;>(first|exact bkn|(refine bkk ?_;intro h))))
    refine QS.again (i + 1, ls, Al, cl) ⟨hix, by simp only; rw [e1]; exact hls⟩ (by show xs.length - (i + 1) < xs.length - i; omega) ⟨rfl, rfl, rfl, rfl, rfl, by simp only; rw [e1]; rfl, rfl, trivial⟩ (fun w hw => ?_)
    simp only
    rw [e1]
    exact hw.ord 6 [4, 5, 0, 1, 2, 3] rfl
end Go.Proofs.YtfolmcpfdcgliaaGreat.B

namespace Go.Proofs.YtfolmcpfdcgliaaGreat.B
open Go Go.Proofs
attribute [local irreducible] WL CS QS WQ WH WS Fn Op1 row Sat
attribute [local irreducible] slc jA diskA mailA nodesA nodesX rjA refA rnodesA rnodesX rmailA entsA
set_option maxHeartbeats 4000000 in
theorem t_Write (bt : Nat) (Ay : Option Addr) (cy bn : Nat) (w : Wr) (hw0 : 0 ≤ w.n ∧ w.n ≤ 9223372036854775807) (hwe : I64 w.e) (xs : List Nd) (ys : List (Nat × Nat)) (hl : ys.length = xs.length) (hok : ∀ x ∈ xs, NdOk x) (hn1 : 1 ≤ xs.length) (hn : xs.length ≤ 5) (m : List Msg) (hm : m.length ≤ 50) (s : ByteArray) (hs : s.size ≤ 9223372036854775807) (A : Option Addr) (k c : Nat) (fs : List Int) (hk : k = fs.length) (hI : ∀ x ∈ fs, I64 x) (W0 : World) (F : List SL) (hR : Rd W0 F intE A fs) :
    Fn Tryz.prog 43 [.pointer (some ⟨bt, 0, none⟩), .string s, .slice A k c] W0
      (row bt 68 (wrC Ay xs.length cy bn w) :: slc bpE 88 Ay cy (ys.map (·.1)) :: rnodesA ys xs :: rmailA bn m :: F)
      (Ret fun v G' => v = .int .i64 (writeM w xs m s fs).err ∧
        G' = row bt 68 (wrC Ay xs.length cy bn (writeM w xs m s fs).w) :: slc bpE 88 Ay cy (ys.map (·.1)) :: rnodesA ys (writeM w xs m s fs).xs :: rmailA bn (writeM w xs m s fs).m :: F) := by
  subst hk
  refine Fn.enter Tryz.func43 rfl Tryz.ntmps43 rfl ?_
  unfold I64 at hwe
  repeat' (first|refine bA ?_|refine bkq fun q=>?_|(refine bk2 ?_ ?_<;>(first|exact bkn|(refine bkk ?_;intro h))))
  · have e : writeM w xs m s fs = ⟨[], 14, w, xs, m⟩ := by unfold writeM; rw [if_pos (.inl h)]
    rw [e]
    exact QS.retV Tryz.results43 rfl ⟨rfl, rfl⟩
  · have e : writeM w xs m s fs = ⟨[], 14, w, xs, m⟩ := by unfold writeM; rw [if_pos (.inr h)]
    rw [e]
    exact QS.retV Tryz.results43 rfl ⟨rfl, rfl⟩
  · rename_i h0 h1
    have e : writeM w xs m s fs = ⟨[], 1, w, xs, m⟩ := by unfold writeM; rw [if_neg (by rw [h0]; simp [h1]), if_pos (by omega)]
    rw [e]
    exact QS.retV Tryz.results43 rfl ⟨rfl, rfl⟩
  · rename_i h0 h1 h2
    have e : writeM w xs m s fs = ⟨[], 4, w, xs, m⟩ := by unfold writeM; rw [if_neg (by rw [h0]; simp [h1]), if_neg (by omega), if_pos h]
    rw [e]
    exact QS.retV Tryz.results43 rfl ⟨rfl, rfl⟩
  · rename_i h0 h1 h2
    have hf : fitsB (w.n + 1) s = true := by unfold fitsB; exact decide_eq_true ⟨by omega, by omega, by omega⟩
    have hfR : fitsR (w.n + 1) s = true := decide_eq_true ⟨by omega, by omega, by omega⟩
    have e : writeM w xs m s fs = outW (allM w xs m (addS w.e (w.n + 1) s) fs) := by
      unfold writeM; rw [if_neg (by rw [h0]; simp [h1]), if_neg (by omega), if_neg h]; rfl
    have hadd : ∀ G, Fn Tryz.prog 86 [.int .i64 w.e, .agg #[.int .i64 (w.n + 1), .string s]] W0 G (Ret fun v G' => v = .tuple #[.string (addS w.e (w.n + 1) s), .bool true] ∧ G' = G) := fun G => by
      have := r_Add w.e hwe (w.n + 1) s W0 G
      rw [if_pos hfR] at this
      unfold addS
      rw [if_pos hf]
      exact this
    have hsz : (addS w.e (w.n + 1) s).size ≤ 9223372036854775807 := by
      unfold addS
      rw [if_pos hf, mk_size]
      have := joinB_len (addL_ok (ep := w.e) (x := ⟨w.n + 1, s⟩) hwe (by unfold I64; constructor <;> simp only <;> omega) (by simp only; omega))
      omega
    rw [e]
    refine WQ.call c86 rfl rfl rfl rfl (hadd _) ?_
    repeat' (first|refine bA ?_|refine bkq fun q=>?_|(refine bk2 ?_ ?_<;>(first|exact bkn|(refine bkk ?_;intro h))))
    refine WL.call c80 rfl rfl rfl rfl (t_all bt Ay cy bn w xs ys hl hok hn m hm (addS w.e (w.n + 1) s) hsz A _ c fs rfl hI 0 (by decide) fs (fun i => by rw [Nat.zero_add]) W0 F hR) ?_
    clear hadd hsz e
    unfold allM
    have hb := bad_is fs (addS w.e (w.n + 1) s) xs m xs.length
    generalize gotsM fs (addS w.e (w.n + 1) s) xs m xs.length = g at hb ⊢
    generalize ndsM fs (addS w.e (w.n + 1) s) xs xs.length = zs
    obtain ⟨logs, bad, m2⟩ := g
    simp only at hb ⊢
    rintro _ _ ⟨ls, Al, cl, rfl, rfl, rfl⟩
    rw [List.length_map]
    repeat' (first|refine bA ?_|refine bkq fun q=>?_|(refine bk2 ?_ ?_<;>(first|exact bkn|(refine bkk ?_;intro h))))
    refine WL.call c82 rfl rfl rfl rfl ((t_Majority bt Ay xs.length cy bn w hn W0 _).pre (fun w hw => hw.front (i := 2) rfl)) ?_
    rintro _ _ ⟨rfl, rfl⟩
    by_cases hlt : (ls.length : Int) < mostM xs.length
    · rw [if_pos (.inr hlt)]
      repeat' (first|refine bA ?_|refine bkq fun q=>?_|(refine bk2 ?_ ?_<;>(first|exact bkn|(refine bkk ?_;intro h))))
      refine WL.call c83 rfl rfl rfl rfl (t_over bt Ay xs.length cy bn w _ W0 _) ?_
      rintro _ _ ⟨rfl, rfl⟩
      repeat' (first|refine bA ?_|refine bkq fun q=>?_|(refine bk2 ?_ ?_<;>(first|exact bkn|(refine bkk ?_;intro h))))
      have eo : outW ⟨[], bad, ⟨0, 0, true⟩, zs, m2⟩ = ⟨[], bad, ⟨0, 0, true⟩, zs, m2⟩ := by unfold outW; rw [if_neg (by simp only; omega)]
      rw [eo]
      exact QS.turn (fun w hw => hw.ord 6 [0, 3, 4, 5] rfl) (QS.retV Tryz.results43 rfl ⟨by rcases hb with rfl | rfl <;> rfl, rfl⟩)
    · rw [if_neg (fun h => h.elim (fun h => by omega) (fun h => hlt h))]
      repeat' (first|refine bA ?_|refine bkq fun q=>?_|(refine bk2 ?_ ?_<;>(first|exact bkn|(refine bkk ?_;intro h))))
      exact QS.turn (fun w hw => hw.ord 6 [0, 3, 4, 5] rfl) (QS.retV Tryz.results43 rfl ⟨rfl, rfl⟩)
end Go.Proofs.YtfolmcpfdcgliaaGreat.B

namespace Go.Proofs.YtfolmcpfdcgliaaGreat.B
open Go Go.Proofs
attribute [local irreducible] WL CS QS WQ WH WS Fn Op1 row Sat
attribute [local irreducible] slc jA diskA mailA nodesA nodesX rjA refA rnodesA rnodesX rmailA entsA
theorem fate_drop (fs : List Int) (n i : Nat) : fateM fs (n + i) = fateM (fs.drop (min fs.length n)) i := by
  unfold fateM
  rw [List.getElem?_drop]
  by_cases h : fs.length ≤ n
  · rw [Nat.min_eq_left h, List.getElem?_eq_none (by omega), List.getElem?_eq_none (by omega)]
  · rw [Nat.min_eq_right (by omega)]
set_option maxHeartbeats 4000000 in
theorem t_Begin (bt : Nat) (Ay : Option Addr) (cy bn : Nat) (w : Wr) (xs : List Nd) (ys : List (Nat × Nat)) (hl : ys.length = xs.length) (hok : ∀ x ∈ xs, NdOk x) (hn1 : 1 ≤ xs.length) (hn : xs.length ≤ 5) (m : List Msg) (hm : m.length ≤ 50) (ep : Int) (hep : I64 ep) (A : Option Addr) (k c : Nat) (fs : List Int) (hk : k = fs.length) (hI : ∀ x ∈ fs, I64 x) (W0 : World) (F : List SL) (hR : Rd W0 F intE A fs) :
    Fn Tryz.prog 41 [.pointer (some ⟨bt, 0, none⟩), .int .i64 ep, .slice A k c] W0
      (row bt 68 (wrC Ay xs.length cy bn w) :: slc bpE 88 Ay cy (ys.map (·.1)) :: rnodesA ys xs :: rmailA bn m :: F)
      (Ret fun v G' => ∃ Al cl, v = .tuple #[.slice Al (beginM w xs m ep fs).l.length cl, .int .i64 (beginM w xs m ep fs).err] ∧
        G' = slc entE 49 Al cl (beginM w xs m ep fs).l :: row bt 68 (wrC Ay xs.length cy bn (beginM w xs m ep fs).w) :: slc bpE 88 Ay cy (ys.map (·.1)) :: rnodesA ys (beginM w xs m ep fs).xs :: rmailA bn (beginM w xs m ep fs).m :: F) := by
  subst hk
  refine Fn.enter Tryz.func41 rfl Tryz.ntmps41 rfl ?_
  unfold I64 at hep
  repeat' (first|refine bA ?_|refine bkq fun q=>?_|(refine bk2 ?_ ?_<;>(first|exact bkn|(refine bkk ?_;intro h))))
  · have e : beginM w xs m ep fs = ⟨[], 14, w, xs, m⟩ := by unfold beginM; rw [if_pos (.inl h)]
    rw [e]
    exact QS.turn (fun w hw => hw.slcNil entE 49) (QS.retV Tryz.results41 rfl ⟨none, 0, rfl, rfl⟩)
  · have e : beginM w xs m ep fs = ⟨[], 14, w, xs, m⟩ := by unfold beginM; rw [if_pos (.inr h)]
    rw [e]
    exact QS.turn (fun w hw => hw.slcNil entE 49) (QS.retV Tryz.results41 rfl ⟨none, 0, rfl, rfl⟩)
  · rename_i h0 h1
    have e : beginM w xs m ep fs = ⟨[], 1, w, xs, m⟩ := by unfold beginM; rw [if_neg (by rw [h0]; simp [h1]), if_pos (.inl h)]
    rw [e]
    exact QS.turn (fun w hw => hw.slcNil entE 49) (QS.retV Tryz.results41 rfl ⟨none, 0, rfl, rfl⟩)
  · rename_i h0 h1 h2
    have e : beginM w xs m ep fs = ⟨[], 1, w, xs, m⟩ := by unfold beginM; rw [if_neg (by rw [h0]; simp [h1]), if_pos (.inr h)]
    rw [e]
    exact QS.turn (fun w hw => hw.slcNil entE 49) (QS.retV Tryz.results41 rfl ⟨none, 0, rfl, rfl⟩)
  · rename_i h0 h1 h2
    have e : beginM w xs m ep fs = (if (allM w xs m (promS ep) fs).err ≠ 0 then ⟨[], (allM w xs m (promS ep) fs).err, (allM w xs m (promS ep) fs).w, (allM w xs m (promS ep) fs).xs, (allM w xs m (promS ep) fs).m⟩ else begin2 ep fs (bestL (allM w xs m (promS ep) fs).logs) (allM w xs m (promS ep) fs).w (allM w xs m (promS ep) fs).xs (allM w xs m (promS ep) fs).m) := by
      unfold beginM; rw [if_neg (by rw [h0]; simp [h1]), if_neg (by omega)]
    rw [e]; clear e
    refine WL.call c81 rfl rfl rfl rfl (r_Promise ep hep W0 _) ?_
    rintro _ G2 ⟨rfl, hG2⟩
    rw [hG2]; clear hG2 G2
    have hsz : (promS ep).size ≤ 9223372036854775807 := by
      unfold promS; rw [mk_size]; have := joinB_len (promL_ok (ep := ep) hep); omega
    repeat' (first|refine bA ?_|refine bkq fun q=>?_|(refine bk2 ?_ ?_<;>(first|exact bkn|(refine bkk ?_;intro h))))
    refine WL.call c80 rfl rfl rfl rfl (t_all bt Ay cy bn w xs ys hl hok hn m hm (promS ep) hsz A _ c fs rfl hI 0 (by decide) fs (fun i => by rw [Nat.zero_add]) W0 F hR) ?_
    obtain ⟨f1, f2, f3, f4, f5, f6, f7⟩ := all_facts (w := w) hok hm (promS ep) fs
    have hlg := all_logs (w := w) (xs := xs) (m := m) (s := promS ep) (fs := fs)
    have hb := bad_is fs (promS ep) xs m xs.length
    have hea : allM w xs m (promS ep) fs = (if xs.length = 0 ∨ ((gotsM fs (promS ep) xs m xs.length).logs.length : Int) < mostM xs.length then ⟨[], (gotsM fs (promS ep) xs m xs.length).bad, ⟨0, 0, true⟩, ndsM fs (promS ep) xs xs.length, (gotsM fs (promS ep) xs m xs.length).m⟩ else ⟨(gotsM fs (promS ep) xs m xs.length).logs, 0, w, ndsM fs (promS ep) xs xs.length, (gotsM fs (promS ep) xs m xs.length).m⟩) := rfl
    generalize allM w xs m (promS ep) fs = a at f1 f2 f3 f4 f5 f6 f7 hlg hea ⊢
    generalize gotsM fs (promS ep) xs m xs.length = g at hb hea ⊢
    generalize ndsM fs (promS ep) xs xs.length = zs at hea ⊢
    obtain ⟨logs, bad, m2⟩ := g
    simp only at hb hea ⊢
    rintro _ _ ⟨ls, Al, cl, rfl, rfl, rfl⟩
    rw [List.length_map] at hea
    repeat' (first|refine bA ?_|refine bkq fun q=>?_|(refine bk2 ?_ ?_<;>(first|exact bkn|(refine bkk ?_;intro h))))
    refine WL.call c82 rfl rfl rfl rfl ((t_Majority bt Ay xs.length cy bn w hn W0 _).pre (fun w hw => hw.front (i := 2) rfl)) ?_
    rintro _ _ ⟨rfl, rfl⟩
    by_cases hlt : (ls.length : Int) < mostM xs.length
    · rw [if_pos (.inr hlt)] at hea
      subst hea
      have hb0 : bad ≠ 0 := by omega
      simp only
      rw [if_pos hb0]
      repeat' (first|refine bA ?_|refine bkq fun q=>?_|(refine bk2 ?_ ?_<;>(first|exact bkn|(refine bkk ?_;intro h))))
      refine WL.call c83 rfl rfl rfl rfl (t_over bt Ay xs.length cy bn w _ W0 _) ?_
      rintro _ _ ⟨rfl, rfl⟩
      repeat' (first|refine bA ?_|refine bkq fun q=>?_|(refine bk2 ?_ ?_<;>(first|exact bkn|(refine bkk ?_;intro h))))
      exact QS.turn (fun w hw => (hw.ord 6 [0, 3, 4, 5] rfl).slcNil entE 49) (QS.retV Tryz.results41 rfl ⟨none, 0, by rcases hb with rfl | rfl <;> rfl, rfl⟩)
    · rw [if_neg (fun h => h.elim (fun h => by omega) (fun h => hlt h))] at hea
      subst hea
      simp only at f1 f2 f3 f4 f5 f6 f7 hlg ⊢
      rw [if_neg (by simp)]
      have hn0 : ¬ (xs.length : Int) = 0 := by omega
      obtain ⟨y, hy, hy0, hyL⟩ := bestI_is (ls := ls) rfl (f5 trivial).2
      rw [hyL]
      rw [List.length_map] at f5
      have hym : y ∈ ls := List.mem_of_getElem? hy
      have hyo := hlg (lgOf y) (List.mem_map_of_mem hym)
      repeat' (first|refine bA ?_|refine bkq fun q=>?_|(refine bk2 ?_ ?_<;>(first|exact bkn|(refine bkk ?_;intro h))))
      refine WL.call c84 rfl rfl rfl rfl (ref_Best Al _ cl ls rfl (by have := f5 trivial; omega) W0 _ (Rd.slc (i := 1) rfl)) ?_
      rintro _ G2 ⟨rfl, hG2⟩
      rw [hG2]; clear hG2 G2
      repeat' (first|refine bA ?_|refine bkq fun q=>?_|(refine bk2 ?_ ?_<;>(first|exact bkn|(refine bkk ?_;intro h))))
      refine WL.idx TT (Rd.slc (i := 1) rfl) rfl rfl rfl hy0 hy rfl rfl rfl rfl (fun b3 o3 hA3 => ?_)
      repeat' (first|refine bA ?_|refine bkq fun q=>?_|(refine bk2 ?_ ?_<;>(first|exact bkn|(refine bkk ?_;intro h))))
      refine WL.s (op1_atF TT 1 hA3 rfl rfl rfl rfl rfl) rfl ?_
      repeat' (first|refine bA ?_|refine bkq fun q=>?_|(refine bk2 ?_ ?_<;>(first|exact bkn|(refine bkk ?_;intro h))))
      have hyl : y.xs.length ≤ 300 := (logOk_iff.1 hyo).1.2.2
      have hRy : ∀ {G'' : List SL} {i : Nat}, G''[i]? = some (entsA ls) → Rd W0 G'' entE y.A y.xs := fun h => ents_rd hym h
      refine WL.call c85 rfl rfl rfl rfl (r_Accept ep hep y.A _ y.c y.xs rfl (by omega) W0 _ (hRy (i := 2) rfl)) ?_
      rintro _ G2 ⟨rfl, hG2⟩
      rw [hG2]; clear hG2 G2
      have hyE : logOk ep y.xs = true := by
        obtain ⟨⟨_, _, l3⟩, l4⟩ := logOk_iff.1 hyo
        exact logOk_iff.2 ⟨⟨by omega, by omega, l3⟩, l4⟩
      have hacc : mk (joinB (accL ep y.xs)) = accS ep y.xs := by unfold accS; rw [if_pos hyE]
      have hsz2 : (accS ep y.xs).size ≤ 9223372036854775807 := by
        rw [← hacc, mk_size]; have := joinB_len (accL_ok hyE); omega
      rw [if_pos hyE, hacc]
      repeat' (first|refine bA ?_|refine bkq fun q=>?_|(refine bk2 ?_ ?_<;>(first|exact bkn|(refine bkk ?_;intro h))))
      have hall := t_all bt Ay cy bn w zs ys (by omega) f1 (by omega) m2 f4 (accS ep y.xs) hsz2 A _ c fs rfl hI xs.length hn (fs.drop (min fs.length xs.length)) (fate_drop fs xs.length) W0 (slc lgE 45 Al cl ls :: entsA ls :: F) hR.cons.cons
      rw [f2] at hall
      have eb : begin2 ep fs y.xs w zs m2 = (let b : Res := (if xs.length = 0 ∨ ((gotsM (fs.drop (min fs.length xs.length)) (accS ep y.xs) zs m2 xs.length).logs.length : Int) < mostM xs.length then ⟨[], (gotsM (fs.drop (min fs.length xs.length)) (accS ep y.xs) zs m2 xs.length).bad, ⟨0, 0, true⟩, ndsM (fs.drop (min fs.length xs.length)) (accS ep y.xs) zs xs.length, (gotsM (fs.drop (min fs.length xs.length)) (accS ep y.xs) zs m2 xs.length).m⟩ else ⟨(gotsM (fs.drop (min fs.length xs.length)) (accS ep y.xs) zs m2 xs.length).logs, 0, w, ndsM (fs.drop (min fs.length xs.length)) (accS ep y.xs) zs xs.length, (gotsM (fs.drop (min fs.length xs.length)) (accS ep y.xs) zs m2 xs.length).m⟩); if b.err ≠ 0 then ⟨[], b.err, b.w, b.xs, b.m⟩ else ⟨y.xs, 0, ⟨ep, y.xs.length, b.w.over⟩, b.xs, b.m⟩) := by
        unfold begin2 allM; rw [f2]
      rw [eb]; clear eb
      refine WL.call c80 rfl rfl rfl rfl (hall.pre (fun w hw => hw.ord 6 [0, 3, 4, 5, 1, 2] rfl)) ?_
      clear hall
      have hb2 := bad_is (fs.drop (min fs.length xs.length)) (accS ep y.xs) zs m2 xs.length
      generalize gotsM (fs.drop (min fs.length xs.length)) (accS ep y.xs) zs m2 xs.length = g2 at hb2 ⊢
      generalize ndsM (fs.drop (min fs.length xs.length)) (accS ep y.xs) zs xs.length = zs2
      obtain ⟨logs2, bad2, m3⟩ := g2
      simp only at hb2 ⊢
      rintro _ _ ⟨ls2, Al2, cl2, rfl, rfl, rfl⟩
      rw [List.length_map]
      repeat' (first|refine bA ?_|refine bkq fun q=>?_|(refine bk2 ?_ ?_<;>(first|exact bkn|(refine bkk ?_;intro h))))
      refine WL.call c82 rfl rfl rfl rfl ((t_Majority bt Ay xs.length cy bn w hn W0 _).pre (fun w hw => hw.front (i := 2) rfl)) ?_
      rintro _ _ ⟨rfl, rfl⟩
      by_cases hlt2 : (ls2.length : Int) < mostM xs.length
      · have hc2 : xs.length = 0 ∨ ((ls2.length : Nat) : Int) < mostM (xs.length : Int) := .inr hlt2
        rw [if_pos hc2]
        have hb0 : bad2 ≠ 0 := by omega
        simp only
        rw [if_pos hb0]
        repeat' (first|refine bA ?_|refine bkq fun q=>?_|(refine bk2 ?_ ?_<;>(first|exact bkn|(refine bkk ?_;intro h))))
        refine WL.call c83 rfl rfl rfl rfl (t_over bt Ay xs.length cy bn w _ W0 _) ?_
        rintro _ _ ⟨rfl, rfl⟩
        repeat' (first|refine bA ?_|refine bkq fun q=>?_|(refine bk2 ?_ ?_<;>(first|exact bkn|(refine bkk ?_;intro h))))
        exact QS.turn (fun w hw => (hw.ord 8 [0, 3, 4, 5] rfl).slcNil entE 49) (QS.retV Tryz.results41 rfl ⟨none, 0, by rcases hb2 with rfl | rfl <;> rfl, rfl⟩)
      · have hc2 : ¬ (xs.length = 0 ∨ ((ls2.length : Nat) : Int) < mostM (xs.length : Int)) := fun h => h.elim (fun h => by omega) (fun h => hlt2 h)
        rw [if_neg hc2]
        simp only
        rw [if_neg (by simp)]
        repeat' (first|refine bA ?_|refine bkq fun q=>?_|(refine bk2 ?_ ?_<;>(first|exact bkn|(refine bkk ?_;intro h))))
        refine WL.turn (fun w hs => hs.slcNil entE 49) ?_
        refine WL.append TT 0 (E := entE) (xs := ([] : List Ent)) (ys := y.xs) rfl rfl rfl rfl rfl (hRy (i := 8) rfl) rfl rfl rfl rfl rfl (by decide) (by simp only [List.length_nil]; omega) (fun _ _ => rfl) rfl (fun A8 c8 => ?_)
        rw [List.nil_append]
        repeat' (first|refine bA ?_|refine bkq fun q=>?_|(refine bk2 ?_ ?_<;>(first|exact bkn|(refine bkk ?_;intro h))))
        exact QS.turn (fun w hw => hw.ord 9 [0, 1, 4, 5, 6] rfl) (QS.retV Tryz.results41 rfl ⟨A8, c8, rfl, rfl⟩)
end Go.Proofs.YtfolmcpfdcgliaaGreat.B

namespace Go.Proofs.YtfolmcpfdcgliaaGreat.B
open Go Go.Proofs
attribute [local irreducible] WL CS QS WQ WH WS Fn Op1 row Sat
attribute [local irreducible] slc
def BestAt (ls : List LogX) (N : Int) (i : Nat) (b : Int) : Prop :=
  (b = -1 ∧ ∀ (j : Nat) x, j < i → ls[j]? = some x → (cnt ls x.e 0 : Int) < N) ∨
  (∃ y, 0 ≤ b ∧ b < (i : Int) ∧ ls[b.toNat]? = some y ∧ N ≤ (cnt ls y.e 0 : Int) ∧ ∀ (j : Nat) x, j < i → ls[j]? = some x → N ≤ (cnt ls x.e 0 : Int) → x.e ≤ y.e)
theorem cnt_none {ls : List LogX} {E : Int} {K : Nat} (h : ∀ (j : Nat) x, ls[j]? = some x → ¬ hit E K x) : cnt ls E K = 0 := by
  rcases Nat.eq_zero_or_pos (cnt ls E K) with h0 | h0
  · exact h0
  · obtain ⟨i, x, h1, h2, _⟩ := cnt_pos h0
    exact absurd h2 (h i x h1)
theorem BestAt.skip {ls : List LogX} {N b : Int} {i : Nat} {x : LogX} (h : BestAt ls N i b) (hx : ls[i]? = some x) (hc : (cnt ls x.e 0 : Int) < N) : BestAt ls N (i + 1) b := by
  have key : ∀ (j : Nat) z, j < i + 1 → ls[j]? = some z → z = x ∨ j < i := fun j z hj hz => by
    by_cases hji : j = i
    · subst hji; rw [hx] at hz; exact .inl (Option.some.inj hz).symm
    · exact .inr (by omega)
  rcases h with ⟨rfl, h⟩ | ⟨y, h1, h2, h3, h4, h5⟩
  · refine .inl ⟨rfl, fun j z hj hz => ?_⟩
    rcases key j z hj hz with rfl | h6
    · exact hc
    · exact h j z h6 hz
  · refine .inr ⟨y, h1, by omega, h3, h4, fun j z hj hz hz2 => ?_⟩
    rcases key j z hj hz with rfl | h6
    · omega
    · exact h5 j z h6 hz hz2
theorem BestAt.first {ls : List LogX} {N b : Int} {i : Nat} {x : LogX} (h : BestAt ls N i b) (hb : b < 0) (hx : ls[i]? = some x) (hc : N ≤ (cnt ls x.e 0 : Int)) : BestAt ls N (i + 1) (i : Int) := by
  rcases h with ⟨rfl, h⟩ | ⟨y, h1, _⟩
  · refine .inr ⟨x, by omega, by omega, by rw [Int.toNat_natCast]; exact hx, hc, fun j z hj hz hz2 => ?_⟩
    by_cases hji : j = i
    · subst hji; rw [hx] at hz; rw [Option.some.inj hz]; exact Int.le_refl _
    · have := h j z (by omega) hz; omega
  · omega
theorem BestAt.up {ls : List LogX} {N b : Int} {i : Nat} {x y : LogX} (h : BestAt ls N i b) (hb : ¬ b < 0) (hy : ls[b.toNat]? = some y) (hx : ls[i]? = some x) (hc : N ≤ (cnt ls x.e 0 : Int)) (hlt : y.e < x.e) : BestAt ls N (i + 1) (i : Int) := by
  rcases h with ⟨rfl, h⟩ | ⟨y', h1, h2, h3, h4, h5⟩
  · omega
  · obtain rfl : y = y' := by rw [hy] at h3; exact Option.some.inj h3
    refine .inr ⟨x, by omega, by omega, by rw [Int.toNat_natCast]; exact hx, hc, fun j z hj hz hz2 => ?_⟩
    by_cases hji : j = i
    · subst hji; rw [hx] at hz; rw [Option.some.inj hz]; exact Int.le_refl _
    · have := h5 j z (by omega) hz hz2; omega
theorem BestAt.keep {ls : List LogX} {N b : Int} {i : Nat} {x y : LogX} (h : BestAt ls N i b) (hb : ¬ b < 0) (hy : ls[b.toNat]? = some y) (hx : ls[i]? = some x) (hlt : ¬ y.e < x.e) : BestAt ls N (i + 1) b := by
  rcases h with ⟨rfl, h⟩ | ⟨y', h1, h2, h3, h4, h5⟩
  · omega
  · obtain rfl : y = y' := by rw [hy] at h3; exact Option.some.inj h3
    refine .inr ⟨y, h1, by omega, h3, h4, fun j z hj hz hz2 => ?_⟩
    by_cases hji : j = i
    · subst hji; rw [hx] at hz; rw [← Option.some.inj hz]; omega
    · exact h5 j z (by omega) hz hz2
set_option maxHeartbeats 4000000 in
theorem ref_Committed (A : Option Addr) (k c : Nat) (ls : List LogX) (hk : k = ls.length) (hkb : k ≤ 1000) (hxs : ∀ x ∈ ls, x.xs.length ≤ 5864062014805 ∧ x.xs.length ≤ x.c) (need : Int) (hneed : need ≤ 9223372036854775807) (W0 : World) (G : List SL) (hR : Rd W0 G lgE A ls) (hL : ∀ x ∈ ls, Rd W0 G entE x.A x.xs) :
    Fn Tryz.prog 88 [.slice A k c, .int .i64 need] W0 G
      (Ret fun v G' => ∃ out A' c', Out ls (max need 1) out ∧ v = .slice A' out.length c' ∧ G' = slc entE 49 A' c' out :: G) := by
  refine Fn.enter Tryz.func88 rfl Tryz.ntmps88 rfl ?_
  repeat' (first|refine bA ?_|refine bkq fun q=>?_|(refine bk2 ?_ ?_<;>(first|exact bkn|(refine bkk ?_;intro h))))
  obtain ⟨N, hN, hN1⟩ : ∃ N, N = max need 1 ∧ (if 1 > need then (1 : Int) else need) = N := ⟨max need 1, rfl, by split <;> omega⟩
  rw [hN1, ← hN]
  have hN2 : 1 ≤ N := by omega
  refine CS.loop (X := Nat × Int) (fun x => [(0, .slice A k c), (1, .int .i64 N), (5, .int .i64 x.2), (6, .int .i64 (x.1 : Int))]) (fun x => G)
    (fun x => x.1 ≤ k ∧ BestAt ls N x.1 x.2) (fun x => k - x.1) (0, -1) ⟨rfl, rfl, rfl, rfl, trivial⟩ (fun w hs => hs) ⟨Nat.zero_le _, .inl ⟨rfl, fun j x hj => absurd hj (Nat.not_lt_zero _)⟩⟩ ?_
  rintro ⟨i, b⟩ ⟨hi, hb⟩
  simp only at *
  refine CS.world fun hw => ?_
  repeat' (first|refine bA ?_|refine bkq fun q=>?_|(refine bk2 ?_ ?_<;>(first|exact bkn|(refine bkk ?_;intro h))))
  rotate_right
  focus
    have hie : i = ls.length := by omega
    obtain ⟨y, hb0, _, hy, hc0, htop0⟩ : ∃ y, 0 ≤ b ∧ b < (i : Int) ∧ ls[b.toNat]? = some y ∧ N ≤ (cnt ls y.e 0 : Int) ∧ ∀ (j : Nat) x, j < i → ls[j]? = some x → N ≤ (cnt ls x.e 0 : Int) → x.e ≤ y.e := by
      rcases hb with ⟨rfl, _⟩ | h
      · omega
      · exact h
    have htop : ∀ E', N ≤ (cnt ls E' 0 : Int) → E' ≤ y.e := fun E' hE' => by
      obtain ⟨j, x, h1, h2, _⟩ := cnt_pos (ls := ls) (E := E') (k := 0) (by omega)
      have := htop0 j x (by have := (List.getElem?_eq_some_iff.1 h1).1; omega) h1 (by rw [h2.1]; exact hE')
      rw [h2.1] at this; exact this
    refine CS.loop (X := Nat) (fun K => [(0, .slice A k c), (1, .int .i64 N), (5, .int .i64 b), (7, .int .i64 (K : Int))]) (fun K => G)
      (fun K => K ≤ 5864062014805 ∧ N ≤ (cnt ls y.e K : Int)) (fun K => 5864062014805 - K) 0 ⟨rfl, rfl, rfl, rfl, trivial⟩ (fun w hs => hs) ⟨Nat.zero_le _, hc0⟩ ?_
    rintro K ⟨hK, hcK⟩
    have hcK1 : N ≤ (cnt ls y.e (K + 1) : Int) → K + 1 ≤ 5864062014805 := fun h => by
      obtain ⟨j, x, h1, h2, _⟩ := cnt_pos (ls := ls) (E := y.e) (k := K + 1) (by omega)
      have := (hxs x (List.mem_of_getElem? h1)).1
      have := h2.2
      omega
    repeat' (first|refine bA ?_|refine bkq fun q=>?_|(refine bk2 ?_ ?_<;>(first|exact bkn|(refine bkk ?_;intro h))))
    refine WL.idx TT hR rfl rfl hk (by omega) (hy) rfl rfl rfl rfl (fun b4 o4 hA4 => ?_)
    repeat' (first|refine bA ?_|refine bkq fun q=>?_|(refine bk2 ?_ ?_<;>(first|exact bkn|(refine bkk ?_;intro h))))
    refine WL.s (op1_atF TT 0 hA4 rfl rfl rfl rfl rfl) rfl ?_
    repeat' (first|refine bA ?_|refine bkq fun q=>?_|(refine bk2 ?_ ?_<;>(first|exact bkn|(refine bkk ?_;intro h))))
    have hK1 : (K : Int) + 1 = ((K + 1 : Nat) : Int) := by omega
    rw [hK1]
    refine WL.call c130 rfl rfl rfl rfl (ref_many A k c ls hk hkb y.e (K + 1) (by omega) W0 _ hR) ?_
    rintro _ G2 ⟨rfl, hG2⟩
    rw [hG2]
    repeat' (first|refine bA ?_|refine bkq fun q=>?_|(refine bk2 ?_ ?_<;>(first|exact bkn|(refine bkk ?_;intro h))))
    · refine QS.again (K + 1) ⟨hcK1 (by omega), by omega⟩ (by have := hcK1 (by omega); omega) ⟨rfl, rfl, rfl, ?_, trivial⟩ (fun w hs => hs)
      rw [show ((K + 1 : Nat) : Int) = (K : Int) + 1 from by omega]; rfl
    refine CS.loop (X := Nat) (fun j => [(0, .slice A k c), (5, .int .i64 b), (7, .int .i64 (K : Int)), (8, .int .i64 (j : Int))]) (fun j => G)
      (fun j => j ≤ k ∧ ∀ m z, m < j → ls[m]? = some z → ¬ hit y.e K z) (fun j => k - j) 0 ⟨rfl, rfl, rfl, rfl, trivial⟩ (fun w hs => hs) ⟨Nat.zero_le _, fun m z hm => by omega⟩ ?_
    rintro j ⟨hj, hno⟩
    refine CS.world fun hw => ?_
    repeat' (first|refine bA ?_|refine bkq fun q=>?_|(refine bk2 ?_ ?_<;>(first|exact bkn|(refine bkk ?_;intro h))))
    rotate_right
    · exfalso
      have := cnt_none (ls := ls) (E := y.e) (K := K) (fun m z hz => hno m z (by have := (List.getElem?_eq_some_iff.1 hz).1; omega) hz)
      omega
    obtain ⟨x, hx⟩ : ∃ x, ls[j]? = some x := ⟨ls[j]'(by omega), List.getElem?_eq_getElem (by omega)⟩
    have hxm := hxs x (List.mem_of_getElem? hx)
    have step : ¬ hit y.e K x → ∀ m z, m < j + 1 → ls[m]? = some z → ¬ hit y.e K z := fun hn m z hm hz => by
      by_cases hmj : m = j
      · subst hmj; rw [hx] at hz; rw [← Option.some.inj hz]; exact hn
      · exact hno m z (by omega) hz
    refine WQ.idx TT hR rfl rfl hk (by omega) (by rw [Int.toNat_natCast]; exact hx) rfl rfl rfl rfl hw (fun b5 o5 hA5 => ?_)
    repeat' (first|refine bA ?_|refine bkq fun q=>?_|(refine bk2 ?_ ?_<;>(first|exact bkn|(refine bkk ?_;intro h))))
    refine WQ.s (op1_atF TT 0 hA5 rfl rfl rfl rfl rfl) rfl ?_
    repeat' (first|refine bA ?_|refine bkq fun q=>?_|(refine bk2 ?_ ?_<;>(first|exact bkn|(refine bkk ?_;intro h))))
    refine WQ.idx TT hR rfl rfl hk (by omega) (hy) rfl rfl rfl rfl hw (fun b6 o6 hA6 => ?_)
    repeat' (first|refine bA ?_|refine bkq fun q=>?_|(refine bk2 ?_ ?_<;>(first|exact bkn|(refine bkk ?_;intro h))))
    refine WQ.s (op1_atF TT 0 hA6 rfl rfl rfl rfl rfl) rfl ?_
    repeat' (first|refine bA ?_|refine bkq fun q=>?_|(refine bk2 ?_ ?_<;>(first|exact bkn|(refine bkk ?_;intro h))))
    rotate_right
    · refine QS.again (j + 1) ⟨by omega, step (fun h => absurd h.1 (by assumption))⟩ (by omega) ⟨rfl, rfl, rfl, ?_, trivial⟩ (fun w hs => hs)
      rw [show ((j + 1 : Nat) : Int) = (j : Int) + 1 from by omega]; rfl
    refine WQ.idx TT hR rfl rfl hk (by omega) (by rw [Int.toNat_natCast]; exact hx) rfl rfl rfl rfl hw (fun b7 o7 hA7 => ?_)
    repeat' (first|refine bA ?_|refine bkq fun q=>?_|(refine bk2 ?_ ?_<;>(first|exact bkn|(refine bkk ?_;intro h))))
    refine WQ.s (op1_atF TT 1 hA7 rfl rfl rfl rfl rfl) rfl ?_
    repeat' (first|refine bA ?_|refine bkq fun q=>?_|(refine bk2 ?_ ?_<;>(first|exact bkn|(refine bkk ?_;intro h))))
    rotate_right
    · refine QS.again (j + 1) ⟨by omega, step (fun h => by have := h.2; omega)⟩ (by omega) ⟨rfl, rfl, rfl, ?_, trivial⟩ (fun w hs => hs)
      rw [show ((j + 1 : Nat) : Int) = (j : Int) + 1 from by omega]; rfl
    have hKx : K ≤ x.xs.length := by omega
    refine WL.idx TT hR rfl rfl hk (by omega) (by rw [Int.toNat_natCast]; exact hx) rfl rfl rfl rfl (fun b8 o8 hA8 => ?_)
    repeat' (first|refine bA ?_|refine bkq fun q=>?_|(refine bk2 ?_ ?_<;>(first|exact bkn|(refine bkk ?_;intro h))))
    refine WL.s (op1_atF TT 1 hA8 rfl rfl rfl rfl rfl) rfl ?_
    repeat' (first|refine bA ?_|refine bkq fun q=>?_|(refine bk2 ?_ ?_<;>(first|exact bkn|(refine bkk ?_;intro h))))
    refine WL.s (op1_sliceS (E := entE) (xs := x.xs) (l := 0) (r := (K : Int)) TT (by rfl) (by rfl) rfl rfl rfl rfl rfl (by omega) hxm.2) rfl ?_
    simp only [Int.toNat_zero, Nat.sub_zero, Int.toNat_natCast]
    refine WL.turn (fun w hs => hs.slcNil entE 49) ?_
    have hlen : ((x.xs.take K).drop 0).length = K := by rw [List.drop_zero, List.length_take]; omega
    refine WL.append TT (E := entE) (xs := ([] : List Ent)) (ys := (x.xs.take K).drop 0) 0 rfl rfl rfl hlen.symm rfl ((hL x (List.mem_of_getElem? hx)).cons.part hKx hxm.2) rfl rfl rfl rfl rfl (by decide) (by rw [hlen]; simp only [List.length_nil]; omega) (fun _ _ => rfl) rfl (fun A' c2 => ?_)
    rw [List.nil_append, hlen]
    repeat' (first|refine bA ?_|refine bkq fun q=>?_|(refine bk2 ?_ ?_<;>(first|exact bkn|(refine bkk ?_;intro h))))
    refine QS.retV Tryz.results88 rfl ⟨(x.xs.take K).drop 0, A', c2, .inr ⟨y.e, K, j, x, ⟨hc0, htop, hcK, by omega, hx, ⟨by assumption, hKx⟩, hno⟩, List.drop_zero⟩, ?_, rfl⟩
    rw [hlen]; rfl
  focus
    obtain ⟨x, hx⟩ : ∃ x, ls[i]? = some x := ⟨ls[i]'(by omega), List.getElem?_eq_getElem (by omega)⟩
    refine WQ.idx TT hR rfl rfl hk (by omega) (by rw [Int.toNat_natCast]; exact hx) rfl rfl rfl rfl hw (fun b1 o1 hA1 => ?_)
    repeat' (first|refine bA ?_|refine bkq fun q=>?_|(refine bk2 ?_ ?_<;>(first|exact bkn|(refine bkk ?_;intro h))))
    refine WQ.s (op1_atF TT 0 hA1 rfl rfl rfl rfl rfl) rfl ?_
    repeat' (first|refine bA ?_|refine bkq fun q=>?_|(refine bk2 ?_ ?_<;>(first|exact bkn|(refine bkk ?_;intro h))))
    refine WQ.call c130 rfl rfl rfl rfl (ref_many A k c ls hk hkb x.e 0 (by decide) W0 _ hR) ?_
    repeat' (first|refine bA ?_|refine bkq fun q=>?_|(refine bk2 ?_ ?_<;>(first|exact bkn|(refine bkk ?_;intro h))))
    rotate_right
    · refine QS.again (i + 1, b) ⟨by simp only; omega, hb.skip hx (by omega)⟩ (by omega) ⟨rfl, rfl, rfl, ?_, trivial⟩ (fun w hs => hs)
      rw [show ((i + 1 : Nat) : Int) = (i : Int) + 1 from by omega]; rfl
    · refine QS.again (i + 1, (i : Int)) ⟨by simp only; omega, hb.first (by assumption) hx (by omega)⟩ (by omega) ⟨rfl, rfl, rfl, ?_, trivial⟩ (fun w hs => hs)
      rw [show ((i + 1 : Nat) : Int) = (i : Int) + 1 from by omega]; rfl
    obtain ⟨y, hy⟩ : ∃ y, ls[b.toNat]? = some y := by
      rcases hb with ⟨rfl, _⟩ | ⟨y, _, _, h3, _⟩
      · omega
      · exact ⟨y, h3⟩
    have hb0 : ¬ b < 0 := by omega
    refine WQ.idx TT hR rfl rfl hk (by omega) (by rw [Int.toNat_natCast]; exact hx) rfl rfl rfl rfl hw (fun b2 o2 hA2 => ?_)
    repeat' (first|refine bA ?_|refine bkq fun q=>?_|(refine bk2 ?_ ?_<;>(first|exact bkn|(refine bkk ?_;intro h))))
    refine WQ.s (op1_atF TT 0 hA2 rfl rfl rfl rfl rfl) rfl ?_
    repeat' (first|refine bA ?_|refine bkq fun q=>?_|(refine bk2 ?_ ?_<;>(first|exact bkn|(refine bkk ?_;intro h))))
    refine WQ.idx TT hR rfl rfl hk (by omega) (hy) rfl rfl rfl rfl hw (fun b3 o3 hA3 => ?_)
    repeat' (first|refine bA ?_|refine bkq fun q=>?_|(refine bk2 ?_ ?_<;>(first|exact bkn|(refine bkk ?_;intro h))))
    refine WQ.s (op1_atF TT 0 hA3 rfl rfl rfl rfl rfl) rfl ?_
    repeat' (first|refine bA ?_|refine bkq fun q=>?_|(refine bk2 ?_ ?_<;>(first|exact bkn|(refine bkk ?_;intro h))))
    · refine QS.again (i + 1, (i : Int)) ⟨by simp only; omega, hb.up hb0 hy hx (by omega) (by assumption)⟩ (by omega) ⟨rfl, rfl, rfl, ?_, trivial⟩ (fun w hs => hs)
      rw [show ((i + 1 : Nat) : Int) = (i : Int) + 1 from by omega]; rfl
    · refine QS.again (i + 1, b) ⟨by simp only; omega, hb.keep hb0 hy hx (by assumption)⟩ (by omega) ⟨rfl, rfl, rfl, ?_, trivial⟩ (fun w hs => hs)
      rw [show ((i + 1 : Nat) : Int) = (i : Int) + 1 from by omega]; rfl
  focus
    refine QS.turn (G' := slc entE 49 none 0 ([] : List Ent) :: G) (fun w hs => hs.slcNil _ _) (QS.retV Tryz.results88 rfl ⟨[], none, 0, .inl ⟨fun E => ?_, rfl⟩, rfl, rfl⟩)
    have hie : i = ls.length := by omega
    rcases Int.lt_or_le (cnt ls E 0 : Int) N with h | h
    · exact h
    · obtain ⟨j, x, h1, h2, _⟩ := cnt_pos (ls := ls) (E := E) (k := 0) (by omega)
      rcases hb with ⟨rfl, h3⟩ | ⟨y, h3, _⟩
      · have := h3 j x (by have := (List.getElem?_eq_some_iff.1 h1).1; omega) h1
        rw [h2.1] at this; exact this
      · omega
end Go.Proofs.YtfolmcpfdcgliaaGreat.B

namespace Go.Proofs.YtfolmcpfdcgliaaGreat.B
open Go Go.Proofs
def rjO (b bx : Nat) (J : Jn) (z : Option Addr × Nat) : SL := star (row b 112 (rjC bx z.1 z.2 J)) (slc entE 49 z.1 z.2 J.xs)
def rndO (y : Nat × Nat) (x : Nd) (z : Option Addr × Nat) : SL := star (rjO y.1 y.2 x.J z) (refA y.2 (toR x.D))
def rnodesO : List (Nat × Nat) → List Nd → List (Option Addr × Nat) → List SL
  | y :: ys, x :: xs, z :: zs => rndO y x z :: rnodesO ys xs zs
  | _, _, _ => []
section
variable {W0 : World}
theorem rnodes_all : ∀ (ys : List (Nat × Nat)) (xs : List Nd) (G : List SL) w, ys.length = xs.length → Sat W0 (rnodesA ys xs :: G) w → ∃ zs : List (Option Addr × Nat), zs.length = xs.length ∧ Sat W0 (bagA (rnodesO ys xs zs) :: G) w
  | [], [], G, w, _, s => ⟨[], rfl, s⟩
  | y :: ys, x :: xs, G, w, hl, s => by
    have s1 : Sat W0 (rjA y.1 y.2 x.J :: refA y.2 (toR x.D) :: rnodesA ys xs :: G) w := (bag_open (P := rndA y x) s).split
    obtain ⟨z, s2⟩ := rjA_open w s1
    have s3 : Sat W0 (rnodesA ys xs :: rndO y x z :: G) w := ((s2.join (P := row y.1 112 (rjC y.2 z.1 z.2 x.J))).join (P := rjO y.1 y.2 x.J z)).front (i := 1) rfl
    obtain ⟨zs, h1, s4⟩ := rnodes_all ys xs _ w (by simpa using hl) s3
    exact ⟨z :: zs, by simp [h1], bag_shut (P := rndO y x z) (s4.front (i := 1) rfl)⟩
theorem rnodes_back : ∀ (ys : List (Nat × Nat)) (xs : List Nd) (zs : List (Option Addr × Nat)) (G : List SL) w, ys.length = xs.length → zs.length = xs.length → Sat W0 (bagA (rnodesO ys xs zs) :: G) w → Sat W0 (rnodesA ys xs :: G) w
  | [], [], [], G, w, _, _, s => s
  | y :: ys, x :: xs, z :: zs, G, w, hl, hz, s => by
    have s1 : Sat W0 (rjO y.1 y.2 x.J z :: refA y.2 (toR x.D) :: bagA (rnodesO ys xs zs) :: G) w := (bag_open (P := rndO y x z) s).split
    have s2 : Sat W0 (rjA y.1 y.2 x.J :: refA y.2 (toR x.D) :: bagA (rnodesO ys xs zs) :: G) w := rjA_shut (A := z.1) (c := z.2) w s1.split
    have s3 : Sat W0 (bagA (rnodesO ys xs zs) :: rndA y x :: G) w := (s2.join (P := rjA y.1 y.2 x.J)).front (i := 1) rfl
    exact bag_shut (P := rndA y x) ((rnodes_back ys xs zs _ w (by simpa using hl) (by simpa using hz) s3).front (i := 1) rfl)
theorem nodesO_at : ∀ {ys : List (Nat × Nat)} {xs : List Nd} {zs : List (Option Addr × Nat)} {i : Nat} {y : Nat × Nat} {x : Nd} {z : Option Addr × Nat}, ys[i]? = some y → xs[i]? = some x → zs[i]? = some z → (rnodesO ys xs zs)[i]? = some (rndO y x z)
  | y :: ys, x :: xs, z :: zs, 0, _, _, _, h1, h2, h3 => by
    obtain rfl := Option.some.inj h1; obtain rfl := Option.some.inj h2; obtain rfl := Option.some.inj h3; rfl
  | y :: ys, x :: xs, z :: zs, i + 1, _, _, _, h1, h2, h3 => nodesO_at (i := i) (by simpa using h1) (by simpa using h2) (by simpa using h3)
  | [], _, _, _, _, _, _, h1, _, _ => by simp at h1
  | _ :: _, [], _, _, _, _, _, _, h2, _ => by simp at h2
  | _ :: _, _ :: _, [], _, _, _, _, _, _, h3 => by simp at h3
theorem nodesO_rd {ys : List (Nat × Nat)} {xs : List Nd} {zs : List (Option Addr × Nat)} {i : Nat} {y : Nat × Nat} {x : Nd} {z : Option Addr × Nat} (h1 : ys[i]? = some y) (h2 : xs[i]? = some x) (h3 : zs[i]? = some z) {G : List SL} : Rd W0 (bagA (rnodesO ys xs zs) :: G) entE z.1 x.J.xs := fun w hs => by
  have s1 := (bag_at (nodesO_at h1 h2 h3) hs).split
  have s2 : Sat W0 (slc entE 49 z.1 z.2 x.J.xs :: row y.1 112 (rjC y.2 z.1 z.2 x.J) :: refA y.2 (toR x.D) :: bagA ((rnodesO ys xs zs).eraseIdx i) :: G) w := s1.split.front (i := 1) rfl
  exact (Rd.slc (i := 0) rfl) w s2
end
end Go.Proofs.YtfolmcpfdcgliaaGreat.B
