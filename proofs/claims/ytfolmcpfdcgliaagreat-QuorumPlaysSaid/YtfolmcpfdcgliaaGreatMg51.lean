import Derived.Test.YtfolmcpfdcgliaaGreatMg50
import Derived.Test.YtfolmcpfdcgliaaGreatMg47
import Derived.Test.YtfolmcpfdcgliaaGreatMg46
set_option linter.unusedVariables false
set_option linter.unusedSimpArgs false
set_option maxRecDepth 8000
namespace Go.Proofs.YtfolmcpfdcgliaaGreat.B
open Go Go.Proofs
abbrev deedC17 (u : DeedQ) : List Value := [.int .i64 u.kind, .int .i64 u.q, .int .i64 u.epoch, .string u.data, .slice u.fatesA u.fates.length u.fatesc, .int .i64 u.node, .int .i64 u.n, .slice u.keepsA u.keeps.length u.keepsc]
theorem map_put {α β : Type} {l : List α} {i : Nat} {x y : α} (hx : l[i]? = some x) (f : α → β) (hf : f y = f x) : (l.set i y).map f = l.map f := by
  rw [List.map_set, hf]
  exact set_same (by rw [List.getElem?_map, hx]; rfl)
theorem eqMsg (i : Int) (s : ByteArray) : eqFs TT [(3, 0), (9, 1)] [.int .i64 i, .string s] [.int .i64 i, .string s] = some true := by
  have e : true = (decide (i = i) && (decide (s = s) && true)) := by simp
  rw [e]; rfl
attribute [local irreducible] WL CS QS WQ WH WS Fn Op1 row Sat
attribute [local irreducible] slc jA diskA mailA nodesA nodesX rjA refA rnodesA rnodesX rmailA entsA wrsA wrsX trsA trsX
set_option maxHeartbeats 32000000 in
theorem law_does {br b17 bm bn n cd cj cx cy gj gy bw tw k : Nat} {Ad Ax : Option Addr} {s : LSt} {w : Wr} {ys : List (Nat × Nat)} (hInv : LInv n s) (hwk : s.ws[k]? = some w) (hly : ys.length = n) (hn1 : 1 ≤ n) (hn5 : n ≤ 5) (u : DeedQ) (huo : DeedQOk u) (W0 : World) (F : List SL) (hR2 : Rd W0 F intE u.fatesA u.fates) (hR3 : Rd W0 F intE u.keepsA u.keeps) :
    Fn Tryz.prog 19 [.pointer (some ⟨br, 0, none⟩), .pointer (some ⟨b17, 0, none⟩), .pointer (some ⟨bw, 0, none⟩), .pointer (some ⟨tw, 0, none⟩), .agg (deedC17 u).toArray] W0 (row bw 92 (wrC (some ⟨gj, 0, none⟩) n cj bm w) :: row tw 68 (wrC (some ⟨gy, 0, none⟩) n cy bn w) :: bothA br b17 bm bn n cd cj cx cy Ad (some ⟨gj, 0, none⟩) Ax (some ⟨gy, 0, none⟩) s.xs ys s.m s.m F)
      (Ret fun v G' => ∃ xs' m' w' ys', LInv n ⟨xs', m', s.ws.set k w'⟩ ∧ ys'.length = n ∧ v = .bool true ∧ G' = row bw 92 (wrC (some ⟨gj, 0, none⟩) n cj bm w') :: row tw 68 (wrC (some ⟨gy, 0, none⟩) n cy bn w') :: bothA br b17 bm bn n cd cj cx cy Ad (some ⟨gj, 0, none⟩) Ax (some ⟨gy, 0, none⟩) xs' ys' m' m' F) := by
  have hlen := hInv.len
  have hm50 := hInv.m50
  have hwb := hInv.wr w (List.mem_of_getElem? hwk)
  unfold WB at hwb
  have hfl : u.fates.length ≤ 9223372036854775807 := by have := huo.fates.1; unfold maxLen at this; omega
  have hds : u.data.size ≤ 9223372036854775807 := huo.data
  obtain ⟨j, hj, hjn⟩ : ∃ j : Nat, pickM u.node (n : Int) = (j : Int) ∧ j < n := by
    have := pickM_range (n := u.node) (m := (n : Int)) (by omega)
    exact ⟨(pickM u.node (n : Int)).toNat, by omega, by omega⟩
  obtain ⟨x, hx⟩ : ∃ x, s.xs[j]? = some x := ⟨s.xs[j]'(by omega), List.getElem?_eq_getElem (by omega)⟩
  obtain ⟨y, hy⟩ : ∃ y, ys[j]? = some y := ⟨ys[j]'(by omega), List.getElem?_eq_getElem (by omega)⟩
  have hxd : (s.xs.map (·.d))[(j : Int).toNat]? = some x.d := by rw [Int.toNat_natCast, List.getElem?_map, hx]; rfl
  have hyd : (ys.map (·.2))[(j : Int).toNat]? = some y.2 := by rw [Int.toNat_natCast, List.getElem?_map, hy]; rfl
  have hxo := hInv.loks x (List.mem_of_getElem? hx)
  have hsame : s.ws.set k w = s.ws := set_same hwk
  refine Fn.enter Tryz.func19 rfl Tryz.ntmps19 rfl ?_
  repeat' (first|refine bA ?_|refine bkq fun q=>?_|(refine bk2 ?_ ?_<;>(first|exact bkn|(refine bkk ?_;intro h))))
  revert q; intro q9
  refine WQ.call c9 rfl rfl rfl rfl (law_pick u.node (n : Int) huo.node (by omega) W0 _) ?_
  rw [hj]
  repeat' (first|refine bN ?_|refine bkq fun q=>?_|(refine bk2 ?_ ?_<;>(first|exact bkn|(refine bkk ?_;intro h))))
  refine WL.call c9 rfl rfl rfl rfl (law_pick u.kind 12 huo.kind (by decide) W0 _) ?_
  rintro _ G2 ⟨rfl, hG2⟩
  rw [hG2]; clear hG2 G2
  have hp12 := pickM_range (n := u.kind) (m := 12) (by decide)
  generalize pickM u.kind 12 = p at hp12 ⊢
  rcases (by omega : (p = 0 ∨ p = 1) ∨ (p = 2 ∨ p = 3 ∨ p = 4 ∨ p = 5) ∨ p = 6 ∨ (p = 7 ∨ p = 8) ∨ p = 9 ∨ p = 10 ∨ p = 11) with hp | hp | hp | hp | hp | hp | hp
  · -- a writer begins
    obtain ⟨r, hr⟩ : ∃ r, beginM w s.xs s.m u.epoch u.fates = r := ⟨_, rfl⟩
    have k5 := (begin_ok2 (w := w) hInv.loks hm50 u.epoch u.fates).2.2.2.2
    rw [hr] at k5
    have hc2 := fun F' hR' => t_Begin tw (some ⟨gy, 0, none⟩) cy bn w s.xs ys (by omega) hInv.loks (by omega) (by omega) s.m hm50 u.epoch huo.epoch u.fatesA u.fates.length u.fatesc u.fates rfl huo.fates.2 W0 F' hR'
    rw [hlen, hr] at hc2
    repeat' (first|refine bN ?_|refine bkq fun q=>?_|(refine bk2 ?_ ?_<;>(first|exact bkn|(refine bkk ?_;intro h))))
    all_goals
      refine WL.call c12 rfl rfl rfl rfl ((q_Begin2 hr hlen hInv.loks hn5 hm50 huo.epoch rfl huo.fates.1.1 hfl huo.fates.2 W0 _ hR2.cons.cons.cons.cons.cons.cons.cons.cons.cons).pre (fun W hs => hs.ord 13 [1, 7, 8, 9, 0, 2, 3, 4, 5, 6, 10, 11, 12] rfl)) ?_
      rintro _ _ ⟨Al2, cl2, rfl, rfl⟩
      repeat' (first|refine bN ?_|refine bkq fun q=>?_|(refine bk2 ?_ ?_<;>(first|exact bkn|(refine bkk ?_;intro h))))
      refine WL.call c41 rfl rfl rfl rfl ((hc2 _ hR2.cons.cons.cons.cons.cons.cons.cons.cons.cons.cons).pre (fun W hs => hs.ord 14 [6, 11, 12, 13, 0, 1, 2, 3, 4, 5, 7, 8, 9, 10] rfl)) ?_
      rintro _ _ ⟨Al3, cl3, rfl, rfl⟩
      refine WL.fact (p := r.l.length ≤ cl2 ∧ cl2 ≤ maxLen) (fun W hs => ⟨(slc_at (i := 5) rfl W hs).1, (slc_at (i := 5) rfl W hs).2.1⟩) (fun hcp => ?_)
      obtain ⟨hcp1, hcp2⟩ := hcp
      unfold maxLen at hcp2
      repeat' (first|refine bN ?_|refine bkq fun q=>?_|(refine bk2 ?_ ?_<;>(first|exact bkn|(refine bkk ?_;intro h))))
      refine WL.call c42 rfl rfl rfl rfl (ents17 Al2 Al3 _ cl2 _ cl3 r.l r.l rfl rfl (by omega) W0 _ (Rd.slc (i := 5) rfl) (Rd.slc (i := 0) rfl)) ?_
      rintro _ G2 ⟨rfl, hG2⟩
      rw [hG2, show decide (r.l = r.l) = true from decide_eq_true rfl]; clear hG2 G2
      repeat' (first|refine bN ?_|refine bkq fun q=>?_|(refine bk2 ?_ ?_<;>(first|exact bkn|(refine bkk ?_;intro h))))
      exact QS.turn (G' := row bw 92 (wrC (some ⟨gj, 0, none⟩) n cj bm r.w) :: row tw 68 (wrC (some ⟨gy, 0, none⟩) n cy bn r.w) :: bothA br b17 bm bn n cd cj cx cy Ad (some ⟨gj, 0, none⟩) Ax (some ⟨gy, 0, none⟩) r.xs ys r.m r.m F) (fun W hs => by
        simp only [bothA]; rw [k5]; exact hs.ord 15 [6, 1, 11, 12, 13, 14, 7, 8, 9, 2, 3, 4] rfl) (QS.retV Tryz.results19 rfl ⟨_, _, _, _, (hInv.lbegin hwk u.epoch u.fates hr), hly, by first | rfl | (simp; rfl), rfl⟩)
  · -- a writer writes
    obtain ⟨r, hr⟩ : ∃ r, writeM w s.xs s.m u.data u.fates = r := ⟨_, rfl⟩
    have k5 := (write_ok2 (w := w) hInv.loks hm50 u.data u.fates).2.2.2.2
    rw [hr] at k5
    have hc2 := fun F' hR' => t_Write tw (some ⟨gy, 0, none⟩) cy bn w ⟨by omega, by omega⟩ (by unfold I64; omega) s.xs ys (by omega) hInv.loks (by omega) (by omega) s.m hm50 u.data hds u.fatesA u.fates.length u.fatesc u.fates rfl huo.fates.2 W0 F' hR'
    rw [hlen, hr] at hc2
    repeat' (first|refine bN ?_|refine bkq fun q=>?_|(refine bk2 ?_ ?_<;>(first|exact bkn|(refine bkk ?_;intro h))))
    all_goals
      refine WL.call c13 rfl rfl rfl rfl ((q_Write2 hr hlen hInv.loks hn5 hm50 ⟨by omega, by omega⟩ (by unfold I64; omega) hds rfl huo.fates.2 W0 _ hR2.cons.cons.cons.cons.cons.cons.cons.cons.cons).pre (fun W hs => hs.ord 13 [1, 7, 8, 9, 0, 2, 3, 4, 5, 6, 10, 11, 12] rfl)) ?_
      rintro _ _ ⟨rfl, rfl⟩
      repeat' (first|refine bN ?_|refine bkq fun q=>?_|(refine bk2 ?_ ?_<;>(first|exact bkn|(refine bkk ?_;intro h))))
      refine WL.call c43 rfl rfl rfl rfl ((hc2 _ hR2.cons.cons.cons.cons.cons.cons.cons.cons.cons).pre (fun W hs => hs.ord 13 [5, 10, 11, 12, 0, 1, 2, 3, 4, 6, 7, 8, 9] rfl)) ?_
      rintro _ _ ⟨rfl, rfl⟩
      repeat' (first|refine bN ?_|refine bkq fun q=>?_|(refine bk2 ?_ ?_<;>(first|exact bkn|(refine bkk ?_;intro h))))
      exact QS.turn (G' := row bw 92 (wrC (some ⟨gj, 0, none⟩) n cj bm r.w) :: row tw 68 (wrC (some ⟨gy, 0, none⟩) n cy bn r.w) :: bothA br b17 bm bn n cd cj cx cy Ad (some ⟨gj, 0, none⟩) Ax (some ⟨gy, 0, none⟩) r.xs ys r.m r.m F) (fun W hs => by
        simp only [bothA]; rw [k5]; exact hs.ord 13 [4, 0, 9, 10, 11, 12, 5, 6, 7, 1, 2, 3] rfl) (QS.retV Tryz.results19 rfl ⟨_, _, _, _, (hInv.lwrite hwk u.data u.fates hr), hly, by first | rfl | (simp; rfl), rfl⟩)
  · -- a writer reads
    have hc1 := fun F' hR' => q_Read bw (some ⟨gj, 0, none⟩) cj bm w s.xs hInv.loks (by omega) u.fatesA u.fates.length u.fatesc u.fates rfl huo.fates.2 W0 F' hR'
    have hc2 := fun F' hR' => t_Read tw (some ⟨gy, 0, none⟩) cy bn w s.xs ys (by omega) hInv.loks (by omega) (by omega) u.fatesA u.fates.length u.fatesc u.fates rfl huo.fates.2 W0 F' hR'
    rw [hlen] at hc1 hc2
    repeat' (first|refine bN ?_|refine bkq fun q=>?_|(refine bk2 ?_ ?_<;>(first|exact bkn|(refine bkk ?_;intro h))))
    refine WL.call c17 rfl rfl rfl rfl ((hc1 _ hR2.cons.cons.cons.cons.cons.cons.cons.cons.cons.cons).pre (fun W hs => hs.ord 13 [1, 7, 8, 0, 2, 3, 4, 5, 6, 9, 10, 11, 12] rfl)) ?_
    rintro _ _ ⟨out, er, Al2, cl2, hrd, rfl, rfl⟩
    repeat' (first|refine bN ?_|refine bkq fun q=>?_|(refine bk2 ?_ ?_<;>(first|exact bkn|(refine bkk ?_;intro h))))
    refine WL.call c44 rfl rfl rfl rfl ((hc2 _ hR2.cons.cons.cons.cons.cons.cons.cons.cons.cons.cons.cons).pre (fun W hs => hs.ord 14 [5, 11, 12, 0, 1, 2, 3, 4, 6, 7, 8, 9, 10, 13] rfl)) ?_
    rintro _ _ ⟨out2, er2, Al3, cl3, hrd2, rfl, rfl⟩
    obtain ⟨rfl, rfl⟩ := read_same hrd hrd2
    refine WL.fact (p := out.length ≤ cl2 ∧ cl2 ≤ maxLen) (fun W hs => ⟨(slc_at (i := 4) rfl W hs).1, (slc_at (i := 4) rfl W hs).2.1⟩) (fun hcp => ?_)
    obtain ⟨hcp1, hcp2⟩ := hcp
    unfold maxLen at hcp2
    repeat' (first|refine bN ?_|refine bkq fun q=>?_|(refine bk2 ?_ ?_<;>(first|exact bkn|(refine bkk ?_;intro h))))
    refine WL.call c42 rfl rfl rfl rfl (ents17 Al2 Al3 _ cl2 _ cl3 out out rfl rfl (by omega) W0 _ (Rd.slc (i := 4) rfl) (Rd.slc (i := 0) rfl)) ?_
    rintro _ G2 ⟨rfl, hG2⟩
    rw [hG2, show decide (out = out) = true from decide_eq_true rfl]; clear hG2 G2
    repeat' (first|refine bN ?_|refine bkq fun q=>?_|(refine bk2 ?_ ?_<;>(first|exact bkn|(refine bkk ?_;intro h))))
    exact QS.turn (G' := row bw 92 (wrC (some ⟨gj, 0, none⟩) n cj bm w) :: row tw 68 (wrC (some ⟨gy, 0, none⟩) n cy bn w) :: bothA br b17 bm bn n cd cj cx cy Ad (some ⟨gj, 0, none⟩) Ax (some ⟨gy, 0, none⟩) s.xs ys s.m s.m F) (fun W hs => by
        exact hs.ord 15 [5, 1, 9, 10, 11, 12, 6, 7, 13, 2, 3, 14] rfl) (QS.retV Tryz.results19 rfl ⟨_, _, _, _, (show LInv n ⟨_, _, s.ws.set k w⟩ from by rw [hsame]; exact hInv), hly, by first | rfl | (simp; rfl), rfl⟩)
  · -- a message comes
    obtain ⟨j8, hj8, hj8n⟩ : ∃ j8 : Nat, pickM u.n 8 = (j8 : Int) ∧ j8 < 8 := by
      have := pickM_range (n := u.n) (m := 8) (by decide)
      exact ⟨(pickM u.n 8).toNat, by omega, by omega⟩
    have hpk : ∀ G0 G', (∀ W, Sat W0 G' W → Sat W0 G0 W) → Fn Tryz.prog 9 [.int .i64 u.n, .int .i64 8] W0 G' (Ret fun v G'' => v = .int .i64 (j8 : Int) ∧ G'' = G') := fun _ G' _ => by
      have := law_pick u.n 8 huo.n (by decide) W0 G'
      rwa [hj8] at this
    repeat' (first|refine bN ?_|refine bkq fun q=>?_|(refine bk2 ?_ ?_<;>(first|exact bkn|(refine bkk ?_;intro h))))
    all_goals
      refine CS.cut (X := Nat) (fun b3 => [(0, .pointer (some ⟨br, 0, none⟩)), (1, .pointer (some ⟨b17, 0, none⟩)), (2, .pointer (some ⟨bw, 0, none⟩)), (3, .pointer (some ⟨tw, 0, none⟩)), (9, .pointer (some ⟨q9, 0, none⟩)), (24, .pointer (some ⟨b3, 0, none⟩)), (25, .bool (tkB s.m j8))]) (fun b3 => row b3 72 [.int .i64 (tkM s.m j8).1, .string (tkM s.m j8).2] :: row q9 64 (deedC17 u) :: row bw 92 (wrC (some ⟨gj, 0, none⟩) n cj bm w) :: row tw 68 (wrC (some ⟨gy, 0, none⟩) n cy bn w) :: bothA br b17 bm bn n cd cj cx cy Ad (some ⟨gj, 0, none⟩) Ax (some ⟨gy, 0, none⟩) s.xs ys (s.m.eraseIdx j8) s.m F) (fun _ => True) ?_ ?_
      refine CS.drawA (row q9 64 (deedC17 u) :: row br 35 (rlC Ad (some ⟨gj, 0, none⟩) n cd cj bm) :: F) (fun W hs => hs.ord 13 [0, 3] rfl) mixed (by kernel_rfl) rfl ?_
      repeat' (first|refine bka ?_|(refine bk2a ?_ ?_<;>(first|exact bkn|(refine bkk ?_;intro h))))
      refine WA.call rfl rfl (by kernel_rfl) rfl c9 rfl rfl rfl rfl (hpk _) ?_
      refine WA.e2 7 11 (by kernel_rfl) (by kernel_rfl) rfl rfl rfl rfl (EffC.call c22 rfl rfl rfl ((q_TakeO bm s.m j8 hm50 hj8n W0 _).pre (fun W hs => hs.front (i := 9) rfl))) (EffC.alloc TT rfl rfl) rfl rfl ?_ ?_
      focus
        rintro _ _ ⟨rfl, rfl⟩
        refine ⟨fun W hs => hs.ord 13 [1, 4] rfl, ?_⟩
        repeat' (first|refine bka ?_|(refine bk2a ?_ ?_<;>(first|exact bkn|(refine bkk ?_;intro h))))
        refine WA.e1 11 (by kernel_rfl) (by kernel_rfl) rfl rfl (EffC.alloc TT rfl rfl) rfl ?_
        rintro _ _ ⟨b3, rfl, rfl⟩
        refine ⟨fun W hs => hs.ord 14 [2, 5] rfl, ?_⟩
        refine WA.e1 12 (by kernel_rfl) (by kernel_rfl) rfl rfl (EffC.store TT 0 rfl rfl rfl rfl rfl rfl rfl rfl rfl) rfl ?_
        rintro _ _ ⟨rfl, rfl⟩
        refine ⟨fun W hs => hs.ord 14 [2, 5] rfl, ?_⟩
        repeat' (first|refine bka ?_|(refine bk2a ?_ ?_<;>(first|exact bkn|(refine bkk ?_;intro h))))
        refine WA.fin (by kernel_rfl) ?_
        repeat' (first|refine bN ?_|refine bkq fun q=>?_|(refine bk2 ?_ ?_<;>(first|exact bkn|(refine bkk ?_;intro h))))
        exact QS.met b3 trivial ⟨rfl, rfl, rfl, rfl, rfl, rfl, rfl, trivial⟩ (fun W hs => hs.ord 14 [0, 2, 3, 4, 5, 6, 7, 8, 9, 10, 1, 11, 12, 13] rfl)
      focus
        rintro _ _ ⟨b3, rfl, rfl⟩
        refine ⟨fun W hs => hs.ord 14 [1, 4] rfl, ?_⟩
        refine WA.e1 7 (by kernel_rfl) (by kernel_rfl) rfl rfl (EffC.call c22 rfl rfl rfl ((q_TakeO bm s.m j8 hm50 hj8n W0 _).pre (fun W hs => hs.front (i := 10) rfl))) rfl ?_
        rintro _ _ ⟨rfl, rfl⟩
        refine ⟨fun W hs => hs.ord 14 [2, 5] rfl, ?_⟩
        repeat' (first|refine bka ?_|(refine bk2a ?_ ?_<;>(first|exact bkn|(refine bkk ?_;intro h))))
        refine WA.e1 12 (by kernel_rfl) (by kernel_rfl) rfl rfl (EffC.store TT 1 rfl rfl rfl rfl rfl rfl rfl rfl rfl) rfl ?_
        rintro _ _ ⟨rfl, rfl⟩
        refine ⟨fun W hs => hs.ord 14 [2, 5] rfl, ?_⟩
        repeat' (first|refine bka ?_|(refine bk2a ?_ ?_<;>(first|exact bkn|(refine bkk ?_;intro h))))
        refine WA.fin (by kernel_rfl) ?_
        repeat' (first|refine bN ?_|refine bkq fun q=>?_|(refine bk2 ?_ ?_<;>(first|exact bkn|(refine bkk ?_;intro h))))
        exact QS.met b3 trivial ⟨rfl, rfl, rfl, rfl, rfl, rfl, rfl, trivial⟩ (fun W hs => hs.ord 14 [1, 2, 3, 4, 5, 6, 7, 8, 9, 10, 0, 11, 12, 13] rfl)
      rintro b3 _
      repeat' (first|refine bN ?_|refine bkq fun q=>?_|(refine bk2 ?_ ?_<;>(first|exact bkn|(refine bkk ?_;intro h))))
      refine CS.cut (X := Nat) (fun b4 => [(0, .pointer (some ⟨br, 0, none⟩)), (1, .pointer (some ⟨b17, 0, none⟩)), (2, .pointer (some ⟨bw, 0, none⟩)), (3, .pointer (some ⟨tw, 0, none⟩)), (9, .pointer (some ⟨q9, 0, none⟩)), (24, .pointer (some ⟨b3, 0, none⟩)), (25, .bool (tkB s.m j8)), (26, .pointer (some ⟨b4, 0, none⟩)), (27, .bool (tkB s.m j8))]) (fun b4 => row b4 72 [.int .i64 (tkM s.m j8).1, .string (tkM s.m j8).2] :: row b3 72 [.int .i64 (tkM s.m j8).1, .string (tkM s.m j8).2] :: row q9 64 (deedC17 u) :: row bw 92 (wrC (some ⟨gj, 0, none⟩) n cj bm w) :: row tw 68 (wrC (some ⟨gy, 0, none⟩) n cy bn w) :: bothA br b17 bm bn n cd cj cx cy Ad (some ⟨gj, 0, none⟩) Ax (some ⟨gy, 0, none⟩) s.xs ys (s.m.eraseIdx j8) (s.m.eraseIdx j8) F) (fun _ => True) ?_ ?_
      refine CS.drawA (row q9 64 (deedC17 u) :: row b17 62 (rlC Ax (some ⟨gy, 0, none⟩) n cx cy bn) :: F) (fun W hs => hs.ord 14 [1, 5] rfl) mixed (by kernel_rfl) rfl ?_
      repeat' (first|refine bka ?_|(refine bk2a ?_ ?_<;>(first|exact bkn|(refine bkk ?_;intro h))))
      refine WA.call rfl rfl (by kernel_rfl) rfl c9 rfl rfl rfl rfl (hpk _) ?_
      refine WA.e2 7 11 (by kernel_rfl) (by kernel_rfl) rfl rfl rfl rfl (EffC.call c45 rfl rfl rfl ((t_TakeO bn s.m j8 hm50 hj8n W0 _).pre (fun W hs => hs.front (i := 13) rfl))) (EffC.alloc TT rfl rfl) rfl rfl ?_ ?_
      focus
        rintro _ _ ⟨rfl, rfl⟩
        refine ⟨fun W hs => hs.ord 14 [2, 6] rfl, ?_⟩
        repeat' (first|refine bka ?_|(refine bk2a ?_ ?_<;>(first|exact bkn|(refine bkk ?_;intro h))))
        refine WA.e1 11 (by kernel_rfl) (by kernel_rfl) rfl rfl (EffC.alloc TT rfl rfl) rfl ?_
        rintro _ _ ⟨b3, rfl, rfl⟩
        refine ⟨fun W hs => hs.ord 15 [3, 7] rfl, ?_⟩
        refine WA.e1 12 (by kernel_rfl) (by kernel_rfl) rfl rfl (EffC.store TT 0 rfl rfl rfl rfl rfl rfl rfl rfl rfl) rfl ?_
        rintro _ _ ⟨rfl, rfl⟩
        refine ⟨fun W hs => hs.ord 15 [3, 7] rfl, ?_⟩
        repeat' (first|refine bka ?_|(refine bk2a ?_ ?_<;>(first|exact bkn|(refine bkk ?_;intro h))))
        refine WA.fin (by kernel_rfl) ?_
        repeat' (first|refine bN ?_|refine bkq fun q=>?_|(refine bk2 ?_ ?_<;>(first|exact bkn|(refine bkk ?_;intro h))))
        exact QS.met b3 trivial ⟨rfl, rfl, rfl, rfl, rfl, rfl, rfl, rfl, rfl, trivial⟩ (fun W hs => hs.ord 15 [0, 2, 3, 4, 5, 6, 7, 8, 9, 10, 11, 12, 13, 14, 1] rfl)
      focus
        rintro _ _ ⟨b3, rfl, rfl⟩
        refine ⟨fun W hs => hs.ord 15 [2, 6] rfl, ?_⟩
        refine WA.e1 7 (by kernel_rfl) (by kernel_rfl) rfl rfl (EffC.call c45 rfl rfl rfl ((t_TakeO bn s.m j8 hm50 hj8n W0 _).pre (fun W hs => hs.front (i := 14) rfl))) rfl ?_
        rintro _ _ ⟨rfl, rfl⟩
        refine ⟨fun W hs => hs.ord 15 [3, 7] rfl, ?_⟩
        repeat' (first|refine bka ?_|(refine bk2a ?_ ?_<;>(first|exact bkn|(refine bkk ?_;intro h))))
        refine WA.e1 12 (by kernel_rfl) (by kernel_rfl) rfl rfl (EffC.store TT 1 rfl rfl rfl rfl rfl rfl rfl rfl rfl) rfl ?_
        rintro _ _ ⟨rfl, rfl⟩
        refine ⟨fun W hs => hs.ord 15 [3, 7] rfl, ?_⟩
        repeat' (first|refine bka ?_|(refine bk2a ?_ ?_<;>(first|exact bkn|(refine bkk ?_;intro h))))
        refine WA.fin (by kernel_rfl) ?_
        repeat' (first|refine bN ?_|refine bkq fun q=>?_|(refine bk2 ?_ ?_<;>(first|exact bkn|(refine bkk ?_;intro h))))
        exact QS.met b3 trivial ⟨rfl, rfl, rfl, rfl, rfl, rfl, rfl, rfl, rfl, trivial⟩ (fun W hs => hs.ord 15 [1, 2, 3, 4, 5, 6, 7, 8, 9, 10, 11, 12, 13, 14, 0] rfl)
      rintro b4 _
      unfold tkM tkB
      cases hz : s.m[j8]? with
      | none =>
        rw [List.eraseIdx_of_length_le (List.getElem?_eq_none_iff.1 hz)]
        simp only [Option.isSome]
        repeat' (first|refine bN ?_|refine bkq fun q=>?_|(refine bk2 ?_ ?_<;>(first|exact bkn|(refine bkk ?_;intro h))))
        exact QS.turn (G' := row bw 92 (wrC (some ⟨gj, 0, none⟩) n cj bm w) :: row tw 68 (wrC (some ⟨gy, 0, none⟩) n cy bn w) :: bothA br b17 bm bn n cd cj cx cy Ad (some ⟨gj, 0, none⟩) Ax (some ⟨gy, 0, none⟩) s.xs ys s.m s.m F) (fun W hs => by
        exact hs.ord 15 [3, 4, 5, 6, 7, 8, 9, 10, 11, 12, 13, 14] rfl) (QS.retV Tryz.results19 rfl ⟨_, _, _, _, (show LInv n ⟨_, _, s.ws.set k w⟩ from by rw [hsame]; exact hInv), hly, by first | rfl | (simp; rfl), rfl⟩)
      | some z =>
        simp only [Option.isSome, Option.getD]
        obtain ⟨i2, x2, hz1, hx2, hsz, hI2⟩ := hInv.ltake hz
        obtain ⟨zi, zs⟩ := z
        simp only at hz1 hsz hI2 ⊢
        subst hz1
        have hi2n : i2 < s.xs.length := (List.getElem?_eq_some_iff.1 hx2).1
        obtain ⟨y2, hy2⟩ : ∃ y2, ys[i2]? = some y2 := ⟨ys[i2]'(by omega), List.getElem?_eq_getElem (by omega)⟩
        have hxb : (s.xs.map (·.b))[(i2 : Int).toNat]? = some x2.b := by rw [Int.toNat_natCast, List.getElem?_map, hx2]; rfl
        have hyb : (ys.map (·.1))[(i2 : Int).toNat]? = some y2.1 := by rw [Int.toNat_natCast, List.getElem?_map, hy2]; rfl
        have hx2o := hInv.loks x2 (List.mem_of_getElem? hx2)
        repeat' (first|refine bN ?_|refine bkq fun q=>?_|(refine bk2 ?_ ?_<;>(first|exact bkn|(refine bkk ?_;intro h))))
        refine WL.s (op1_eqS TT cmp72 rfl rfl rfl rfl (eqMsg _ _)) rfl ?_
        repeat' (first|refine bN ?_|refine bkq fun q=>?_|(refine bk2 ?_ ?_<;>(first|exact bkn|(refine bkk ?_;intro h))))
        refine CS.world fun hwd => ?_
        refine CS.drawT 10 mixed (by kernel_rfl) rfl ?_
        repeat' (first|refine bk ?_|refine bkc ?_|refine bks ?_|refine bkd ?_|refine bkh ?_|refine bkq (fun q => ?_)|((first|refine bk2 ?_ ?_|refine bk2h ?_ ?_)<;>(first|exact bkn|(refine bkk ?_;intro h))))
        refine WH.idx TT (E := bpE) (Rd.slc (i := 9) rfl) rfl rfl (by rw [List.length_map]; exact hlen.symm) (by omega) (x := x2.b) hxb rfl rfl rfl rfl hwd (fun b5 o5 hA5 => ?_)
        refine WH.s (op1_at TT hA5 rfl rfl rfl rfl) rfl ?_
        repeat' (first|refine bk ?_|refine bkc ?_|refine bks ?_|refine bkd ?_|refine bkh ?_|refine bkq (fun q => ?_)|((first|refine bk2 ?_ ?_|refine bk2h ?_ ?_)<;>(first|exact bkn|(refine bkk ?_;intro h))))
        refine WL.call c23 rfl rfl rfl rfl ((q_hand hx2 hx2o zs (by omega) W0 _).pre (fun W hs => hs.front (i := 10) rfl)) ?_
        rintro _ _ ⟨rfl, rfl⟩
        repeat' (first|refine bN ?_|refine bkq fun q=>?_|(refine bk2 ?_ ?_<;>(first|exact bkn|(refine bkk ?_;intro h))))
        refine CS.world fun hwd2 => ?_
        refine CS.drawT 10 mixed (by kernel_rfl) rfl ?_
        repeat' (first|refine bk ?_|refine bkc ?_|refine bks ?_|refine bkd ?_|refine bkh ?_|refine bkq (fun q => ?_)|((first|refine bk2 ?_ ?_|refine bk2h ?_ ?_)<;>(first|exact bkn|(refine bkk ?_;intro h))))
        refine WH.idx TT (E := bpE) (Rd.slc (i := 12) rfl) rfl rfl (by rw [List.length_map]; exact hly.symm) (by omega) (x := y2.1) hyb rfl rfl rfl rfl hwd2 (fun b6 o6 hA6 => ?_)
        refine WH.s (op1_at TT hA6 rfl rfl rfl rfl) rfl ?_
        repeat' (first|refine bk ?_|refine bkc ?_|refine bks ?_|refine bkd ?_|refine bkh ?_|refine bkq (fun q => ?_)|((first|refine bk2 ?_ ?_|refine bk2h ?_ ?_)<;>(first|exact bkn|(refine bkk ?_;intro h))))
        refine WL.call c46 rfl rfl rfl rfl ((t_hand hx2 hy2 hx2o zs (by omega) W0 _).pre (fun W hs => hs.front (i := 13) rfl)) ?_
        rintro _ _ ⟨rfl, rfl⟩
        repeat' (first|refine bN ?_|refine bkq fun q=>?_|(refine bk2 ?_ ?_<;>(first|exact bkn|(refine bkk ?_;intro h))))
        exact QS.turn (G' := row bw 92 (wrC (some ⟨gj, 0, none⟩) n cj bm w) :: row tw 68 (wrC (some ⟨gy, 0, none⟩) n cy bn w) :: bothA br b17 bm bn n cd cj cx cy Ad (some ⟨gj, 0, none⟩) Ax (some ⟨gy, 0, none⟩) (s.xs.set i2 (x2.hand (bs zs))) ys (s.m.eraseIdx j8) (s.m.eraseIdx j8) F) (fun W hs => by
        simp only [bothA]; rw [map_put (y := x2.hand (bs zs)) hx2 (·.d) rfl, map_put (y := x2.hand (bs zs)) hx2 (·.b) rfl]; exact hs.ord 15 [5, 6, 7, 8, 9, 10, 11, 1, 12, 13, 0, 14] rfl) (QS.retV Tryz.results19 rfl ⟨_, _, _, _, (show LInv n ⟨_, _, s.ws.set k w⟩ from by rw [hsame]; exact hI2), hly, by first | rfl | (simp; rfl), rfl⟩)
  · -- a fuse
    repeat' (first|refine bN ?_|refine bkq fun q=>?_|(refine bk2 ?_ ?_<;>(first|exact bkn|(refine bkk ?_;intro h))))
    refine CS.world fun hwd => ?_
    refine CS.drawT 9 mixed (by kernel_rfl) rfl ?_
    repeat' (first|refine bk ?_|refine bkc ?_|refine bks ?_|refine bkd ?_|refine bkh ?_|refine bkq (fun q => ?_)|((first|refine bk2 ?_ ?_|refine bk2h ?_ ?_)<;>(first|exact bkn|(refine bkk ?_;intro h))))
    refine WH.idx TT (E := bpE) (Rd.slc (i := 5) rfl) rfl rfl (by rw [List.length_map]; exact hlen.symm) (by omega) (x := x.d) hxd rfl rfl rfl rfl hwd (fun b4 o4 hA4 => ?_)
    refine WH.s (op1_at TT hA4 rfl rfl rfl rfl) rfl ?_
    repeat' (first|refine bk ?_|refine bkc ?_|refine bks ?_|refine bkd ?_|refine bkh ?_|refine bkq (fun q => ?_)|((first|refine bk2 ?_ ?_|refine bk2h ?_ ?_)<;>(first|exact bkn|(refine bkk ?_;intro h))))
    refine WL.call c24 rfl rfl rfl rfl ((q_Fuse hx u.n W0 _).pre (fun W hs => hs.front (i := 8) rfl)) ?_
    rintro _ _ ⟨rfl, rfl⟩
    repeat' (first|refine bN ?_|refine bkq fun q=>?_|(refine bk2 ?_ ?_<;>(first|exact bkn|(refine bkk ?_;intro h))))
    refine CS.world fun hwd2 => ?_
    refine CS.drawT 9 mixed (by kernel_rfl) rfl ?_
    repeat' (first|refine bk ?_|refine bkc ?_|refine bks ?_|refine bkd ?_|refine bkh ?_|refine bkq (fun q => ?_)|((first|refine bk2 ?_ ?_|refine bk2h ?_ ?_)<;>(first|exact bkn|(refine bkk ?_;intro h))))
    refine WH.idx TT (E := bpE) (Rd.slc (i := 7) rfl) rfl rfl (by rw [List.length_map]; exact hly.symm) (by omega) (x := y.2) hyd rfl rfl rfl rfl hwd2 (fun b5 o5 hA5 => ?_)
    refine WH.s (op1_at TT hA5 rfl rfl rfl rfl) rfl ?_
    repeat' (first|refine bk ?_|refine bkc ?_|refine bks ?_|refine bkd ?_|refine bkh ?_|refine bkq (fun q => ?_)|((first|refine bk2 ?_ ?_|refine bk2h ?_ ?_)<;>(first|exact bkn|(refine bkk ?_;intro h))))
    refine WL.call c47 rfl rfl rfl rfl ((t_Fuse hx hy hxo.D u.n W0 _).pre (fun W hs => hs.front (i := 11) rfl)) ?_
    rintro _ _ ⟨rfl, rfl⟩
    repeat' (first|refine bN ?_|refine bkq fun q=>?_|(refine bk2 ?_ ?_<;>(first|exact bkn|(refine bkk ?_;intro h))))
    exact QS.turn (G' := row bw 92 (wrC (some ⟨gj, 0, none⟩) n cj bm w) :: row tw 68 (wrC (some ⟨gy, 0, none⟩) n cy bn w) :: bothA br b17 bm bn n cd cj cx cy Ad (some ⟨gj, 0, none⟩) Ax (some ⟨gy, 0, none⟩) (s.xs.set j ⟨x.b, x.d, x.J, x.D.light u.n⟩) ys s.m s.m F) (fun W hs => by
        simp only [bothA]; rw [map_put (y := ⟨x.b, x.d, x.J, x.D.light u.n⟩) hx (fun v : Nd => v.d) rfl, map_put (y := ⟨x.b, x.d, x.J, x.D.light u.n⟩) hx (fun v : Nd => v.b) rfl]; exact hs.ord 13 [3, 4, 5, 6, 7, 8, 9, 1, 10, 11, 0, 12] rfl) (QS.retV Tryz.results19 rfl ⟨_, _, _, _, (show LInv n ⟨_, _, s.ws.set k w⟩ from by rw [hsame]; exact hInv.lfuse hx huo.n.2), hly, by first | rfl | (simp; rfl), rfl⟩)
  · -- a node falls
    have hkk := huo.keeps
    unfold maxLen at hkk
    have hx1 : (s.xs.set j ⟨x.b, x.d, x.J, x.D.crash u.keeps⟩)[j]? = some ⟨x.b, x.d, x.J, x.D.crash u.keeps⟩ := set_at hx
    repeat' (first|refine bN ?_|refine bkq fun q=>?_|(refine bk2 ?_ ?_<;>(first|exact bkn|(refine bkk ?_;intro h))))
    refine CS.world fun hwd => ?_
    refine CS.drawT 9 mixed (by kernel_rfl) rfl ?_
    repeat' (first|refine bk ?_|refine bkc ?_|refine bks ?_|refine bkd ?_|refine bkh ?_|refine bkq (fun q => ?_)|((first|refine bk2 ?_ ?_|refine bk2h ?_ ?_)<;>(first|exact bkn|(refine bkk ?_;intro h))))
    refine WH.idx TT (E := bpE) (Rd.slc (i := 5) rfl) rfl rfl (by rw [List.length_map]; exact hlen.symm) (by omega) (x := x.d) hxd rfl rfl rfl rfl hwd (fun b4 o4 hA4 => ?_)
    refine WH.s (op1_at TT hA4 rfl rfl rfl rfl) rfl ?_
    repeat' (first|refine bk ?_|refine bkc ?_|refine bks ?_|refine bkd ?_|refine bkh ?_|refine bkq (fun q => ?_)|((first|refine bk2 ?_ ?_|refine bk2h ?_ ?_)<;>(first|exact bkn|(refine bkk ?_;intro h))))
    refine WL.call c25 rfl rfl rfl rfl ((q_Crash hx hxo.D hkk.2 (by omega) W0 _ hR3.cons.cons.cons.cons.cons.cons.cons.cons.cons.cons.cons.cons).pre (fun W hs => hs.front (i := 8) rfl)) ?_
    rintro _ _ ⟨rfl, rfl⟩
    repeat' (first|refine bN ?_|refine bkq fun q=>?_|(refine bk2 ?_ ?_<;>(first|exact bkn|(refine bkk ?_;intro h))))
    refine CS.world fun hwd2 => ?_
    refine CS.drawT 9 mixed (by kernel_rfl) rfl ?_
    repeat' (first|refine bk ?_|refine bkc ?_|refine bks ?_|refine bkd ?_|refine bkh ?_|refine bkq (fun q => ?_)|((first|refine bk2 ?_ ?_|refine bk2h ?_ ?_)<;>(first|exact bkn|(refine bkk ?_;intro h))))
    refine WH.idx TT (E := bpE) (Rd.slc (i := 7) rfl) rfl rfl (by rw [List.length_map]; exact hly.symm) (by omega) (x := y.2) hyd rfl rfl rfl rfl hwd2 (fun b5 o5 hA5 => ?_)
    refine WH.s (op1_at TT hA5 rfl rfl rfl rfl) rfl ?_
    repeat' (first|refine bk ?_|refine bkc ?_|refine bks ?_|refine bkd ?_|refine bkh ?_|refine bkq (fun q => ?_)|((first|refine bk2 ?_ ?_|refine bk2h ?_ ?_)<;>(first|exact bkn|(refine bkk ?_;intro h))))
    refine WL.call c48 rfl rfl rfl rfl ((t_Crash hx hy hxo.D hkk.2 (by omega) W0 _ hR3.cons.cons.cons.cons.cons.cons.cons.cons.cons.cons.cons.cons).pre (fun W hs => hs.front (i := 11) rfl)) ?_
    rintro _ _ ⟨rfl, rfl⟩
    repeat' (first|refine bN ?_|refine bkq fun q=>?_|(refine bk2 ?_ ?_<;>(first|exact bkn|(refine bkk ?_;intro h))))
    refine WL.idx TT (E := bpE) (Rd.slc (i := 7) rfl) rfl rfl (by rw [List.length_map]; exact hlen.symm) (by omega) (x := x.d) hxd rfl rfl rfl rfl (fun b6 o6 hA6 => ?_)
    refine WL.s (op1_at TT hA6 rfl rfl rfl rfl) rfl ?_
    refine WL.call c26 rfl rfl rfl rfl ((q_Open hx1 (crash_ok hxo.D u.keeps) (hInv.lcrash hx u.keeps 0).1 W0 _).pre (fun W hs => hs.front (i := 1) rfl)) ?_
    rintro _ _ ⟨bz, rfl, rfl⟩
    rw [List.set_set]
    repeat' (first|refine bN ?_|refine bkq fun q=>?_|(refine bk2 ?_ ?_<;>(first|exact bkn|(refine bkk ?_;intro h))))
    refine WL.idx TT (E := bpE) (Rd.slc (i := 8) rfl) rfl rfl (by rw [List.length_map]; exact hly.symm) (by omega) (x := y.2) hyd rfl rfl rfl rfl (fun b7 o7 hA7 => ?_)
    refine WL.s (op1_at TT hA7 rfl rfl rfl rfl) rfl ?_
    refine WL.call c30 rfl rfl rfl rfl ((t_Open hx1 hy (crash_ok hxo.D u.keeps) (hInv.lcrash hx u.keeps 0).1 bz x.d W0 _).pre (fun W hs => hs.front (i := 1) rfl)) ?_
    rintro _ _ ⟨bv, rfl, rfl⟩
    rw [List.set_set]
    repeat' (first|refine bN ?_|refine bkq fun q=>?_|(refine bk2 ?_ ?_<;>(first|exact bkn|(refine bkk ?_;intro h))))
    refine WL.s (op1_idxA TT bpE rfl rfl (by omega) rfl rfl rfl) rfl ?_
    refine WL.storeS TT (E := bpE) 9 (j := j) (k := 0) (z := x.b) (z' := bz) rfl rfl rfl (by rw [Int.toNat_natCast]; rfl) (by rw [List.getElem?_map, hx]; rfl) rfl rfl rfl rfl rfl rfl ?_
    repeat' (first|refine bN ?_|refine bkq fun q=>?_|(refine bk2 ?_ ?_<;>(first|exact bkn|(refine bkk ?_;intro h))))
    refine WL.s (op1_idxA TT bpE rfl rfl (by omega) rfl rfl rfl) rfl ?_
    refine WL.storeS TT (E := bpE) 11 (j := j) (k := 0) (z := y.1) (z' := bv) rfl rfl rfl (by rw [Int.toNat_natCast]; rfl) (by rw [List.getElem?_map, hy]; rfl) rfl rfl rfl rfl rfl rfl ?_
    repeat' (first|refine bN ?_|refine bkq fun q=>?_|(refine bk2 ?_ ?_<;>(first|exact bkn|(refine bkk ?_;intro h))))
    exact QS.turn (G' := row bw 92 (wrC (some ⟨gj, 0, none⟩) n cj bm w) :: row tw 68 (wrC (some ⟨gy, 0, none⟩) n cy bn w) :: bothA br b17 bm bn n cd cj cx cy Ad (some ⟨gj, 0, none⟩) Ax (some ⟨gy, 0, none⟩) (s.xs.set j ⟨bz, x.d, (openJ (x.D.crash u.keeps)).2.1, (openJ (x.D.crash u.keeps)).2.2⟩) (ys.set j (bv, y.2)) s.m s.m F) (fun W hs => by
        simp only [bothA]; rw [map_put (y := ⟨bz, x.d, (openJ (x.D.crash u.keeps)).2.1, (openJ (x.D.crash u.keeps)).2.2⟩) hx (fun v : Nd => v.d) rfl, map_put (y := (bv, y.2)) hy (fun v : Nat × Nat => v.2) rfl, List.map_set, List.map_set]; exact hs.ord 13 [3, 4, 5, 6, 7, 8, 9, 1, 10, 11, 0, 12] rfl) (QS.retV Tryz.results19 rfl ⟨_, _, _, _, (show LInv n ⟨_, _, s.ws.set k w⟩ from by rw [hsame]; exact (hInv.lcrash hx u.keeps bz).2), (by rw [List.length_set]; exact hly), by first | rfl | (simp; rfl), rfl⟩)
  · -- another writer was laid
    repeat' (first|refine bN ?_|refine bkq fun q=>?_|(refine bk2 ?_ ?_<;>(first|exact bkn|(refine bkk ?_;intro h))))
    exact QS.turn (G' := row bw 92 (wrC (some ⟨gj, 0, none⟩) n cj bm w) :: row tw 68 (wrC (some ⟨gy, 0, none⟩) n cy bn w) :: bothA br b17 bm bn n cd cj cx cy Ad (some ⟨gj, 0, none⟩) Ax (some ⟨gy, 0, none⟩) s.xs ys s.m s.m F) (fun W hs => by
        exact hs.ord 13 [1, 2, 3, 4, 5, 6, 7, 8, 9, 10, 11, 12] rfl) (QS.retV Tryz.results19 rfl ⟨_, _, _, _, (show LInv n ⟨_, _, s.ws.set k w⟩ from by rw [hsame]; exact hInv), hly, by first | rfl | (simp; rfl), rfl⟩)
end Go.Proofs.YtfolmcpfdcgliaaGreat.B

namespace Go.Proofs.YtfolmcpfdcgliaaGreat.B
open Go Go.Proofs
structure PM where
  s : LSt
  qb : List Nat
  tb : List Nat
  ys : List (Nat × Nat)
structure POk (n : Nat) (y : PM) : Prop where
  inv : LInv n y.s
  qb : y.qb.length = 3
  tb : y.tb.length = 3
  ys : y.ys.length = n
attribute [local irreducible] WL CS QS WQ WH WS Fn Op1 row Sat
attribute [local irreducible] slc jA diskA mailA nodesA nodesX rjA refA rnodesA rnodesX rmailA entsA wrsA wrsX trsA trsX
theorem q_EpochQ {bq n cj bm : Nat} {Aj : Option Addr} {w : Wr} {W0 : World} {F : List SL} : ∀ G', (∀ W, Sat W0 G' W → Sat W0 (row bq 92 (wrC Aj n cj bm w) :: F) W) →
    Fn Tryz.prog 15 [.pointer (some ⟨bq, 0, none⟩)] W0 G' (Ret fun v G'' => v = .int .i64 w.e ∧ G'' = G') := fun G' hG =>
  Fn.quiet (fun W hs => by
    unfold row at hs
    exact ⟨bq, _, Sat.blk (b := bq) hs, fun W1 F1 => by have h := q_Epoch bq Aj n cj bm w W1 F1; unfold row at h; exact h⟩) hG
theorem q_ManyQ {bq n cj bm : Nat} {Aj : Option Addr} {w : Wr} {W0 : World} {F : List SL} : ∀ G', (∀ W, Sat W0 G' W → Sat W0 (row bq 92 (wrC Aj n cj bm w) :: F) W) →
    Fn Tryz.prog 14 [.pointer (some ⟨bq, 0, none⟩)] W0 G' (Ret fun v G'' => v = .int .i64 w.n ∧ G'' = G') := fun G' hG =>
  Fn.quiet (fun W hs => by
    unfold row at hs
    exact ⟨bq, _, Sat.blk (b := bq) hs, fun W1 F1 => by have h := q_Many bq Aj n cj bm w W1 F1; unfold row at h; exact h⟩) hG
set_option maxHeartbeats 32000000 in
theorem law_QuorumPlays (a : Int) (ha : I64 a) (A : Option Addr) (k c : Nat) (ls : List DeedQ) (hk : k = ls.length) (hL : ∀ x ∈ ls, DeedQOk x) (W0 : World) (F : List SL) (hR : Rd W0 F dqE A ls) (hR2 : ∀ x ∈ ls, Rd W0 F intE x.fatesA x.fates) (hR3 : ∀ x ∈ ls, Rd W0 F intE x.keepsA x.keeps) :
    Fn Tryz.prog 6 [.int .i64 a, .slice A k c] W0 F (Ret fun v G' => v = .bool true ∧ G' = F) := by
  subst hk
  refine Fn.enter Tryz.func6 rfl Tryz.ntmps6 rfl ?_
  repeat' (first|refine bA ?_|refine bkq fun q=>?_|(refine bk2 ?_ ?_<;>(first|exact bkn|(refine bkk ?_;intro h))))
  refine WL.call c8 rfl rfl rfl rfl (law_examples W0 _) ?_
  rintro _ G2 ⟨rfl, hG2⟩
  rw [hG2]; clear hG2 G2
  repeat' (first|refine bA ?_|refine bkq fun q=>?_|(refine bk2 ?_ ?_<;>(first|exact bkn|(refine bkk ?_;intro h))))
  refine WL.call c9 rfl rfl rfl rfl (law_pick a 5 ha (by decide) W0 _) ?_
  rintro _ G2 ⟨rfl, hG2⟩
  rw [hG2]; clear hG2 G2
  have hp := pickM_range (n := a) (m := 5) (by decide)
  obtain ⟨n, hn, hn1⟩ : ∃ n : Nat, 1 + pickM a 5 = (n : Int) ∧ 1 ≤ n ∧ n ≤ 5 := ⟨(1 + pickM a 5).toNat, by omega, by omega, by omega⟩
  obtain ⟨hn1, hn5⟩ := hn1
  repeat' (first|refine bA ?_|refine bkq fun q=>?_|(refine bk2 ?_ ?_<;>(first|exact bkn|(refine bkk ?_;intro h))))
  rw [hn]
  refine WL.call c10 rfl rfl rfl rfl (law_begun n hn5 W0 _) ?_
  rintro _ _ ⟨br, bm, b17, bn, ⟨xs, ys, Ad, cd, Aj, cj, Ax, cx, Ay, cy⟩, hN, hl, hly, rfl, rfl⟩
  simp only at hN hl hly ⊢
  refine WL.turn (G' := bothA br b17 bm bn n cd cj cx cy Ad Aj Ax Ay xs ys [] [] F) (fun w hs => by rw [← hl]; exact hs.ord 10 [0, 5, 1, 6, 2, 3, 4, 7, 8, 9] rfl) ?_
  refine WL.fact (p := (n ≤ cj ∧ ∃ g, Aj = some ⟨g, 0, none⟩) ∧ (n ≤ cy ∧ ∃ g, Ay = some ⟨g, 0, none⟩)) (fun w hs => by
    obtain ⟨h1, _, h2⟩ := slc_at (i := 4) rfl w hs
    obtain ⟨h3, _, h4⟩ := slc_at (i := 7) rfl w hs
    rw [List.length_map] at h1 h3
    refine ⟨⟨by omega, h2.resolve_left (fun h => ?_)⟩, ⟨by omega, h4.resolve_left (fun h => ?_)⟩⟩
    · have := congrArg List.length h.2.2
      rw [List.length_map] at this
      simp at this; omega
    · have := congrArg List.length h.2.2
      rw [List.length_map] at this
      simp at this; omega) (fun hcj => ?_)
  obtain ⟨⟨hcj, gj, rfl⟩, ⟨hcy, gy, rfl⟩⟩ := hcj
  repeat' (first|refine bN ?_|refine bkq fun q=>?_|(refine bk2 ?_ ?_<;>(first|exact bkn|(refine bkk ?_;intro h))))
  refine CS.loop (X := {y : (List Nat × Option Addr × Nat) × List Nat × Option Addr × Nat // y.1.1.length ≤ 3 ∧ y.2.1.length = y.1.1.length}) (fun y => [(1, .slice A ls.length c), (5, .bool true), (7, .pointer (some ⟨br, 0, none⟩)), (8, .pointer (some ⟨b17, 0, none⟩)), (10, .slice y.1.1.2.1 y.1.1.1.length y.1.1.2.2), (11, .slice y.1.2.2.1 y.1.2.1.length y.1.2.2.2), (12, .int .i64 (y.1.1.1.length : Int))])
    (fun y => wrsA (some ⟨gj, 0, none⟩) n cj bm y.1.1.1 (List.replicate y.1.1.1.length (⟨0, 0, false⟩ : Wr)) :: slc bpE 29 y.1.1.2.1 y.1.1.2.2 y.1.1.1 :: trsA (some ⟨gy, 0, none⟩) n cy bn y.1.2.1 (List.replicate y.1.1.1.length (⟨0, 0, false⟩ : Wr)) :: slc bpE 56 y.1.2.2.1 y.1.2.2.2 y.1.2.1 :: bothA br b17 bm bn n cd cj cx cy Ad (some ⟨gj, 0, none⟩) Ax (some ⟨gy, 0, none⟩) xs ys [] [] F) (fun _ => True) (fun y => 3 - y.1.1.1.length) ⟨(([], none, 0), ([], none, 0)), by decide, rfl⟩ ⟨rfl, rfl, rfl, rfl, rfl, rfl, rfl, trivial⟩ (fun w hs => wrs_none w (by
      have h1 : Sat W0 (trsA (some ⟨gy, 0, none⟩) n cy bn [] [] :: slc bpE 56 none 0 [] :: bothA br b17 bm bn n cd cj cx cy Ad (some ⟨gj, 0, none⟩) Ax (some ⟨gy, 0, none⟩) xs ys [] [] F) w := trs_none w (hs.slcNil bpE 56)
      exact h1.slcNil bpE 29)) trivial ?_
  rintro ⟨⟨⟨qb, Aq, cq⟩, tb, At, ct⟩, hq, hqt⟩ _
  simp only at hq hqt ⊢
  by_cases hq3 : qb.length < 3
  · repeat' (first|refine bN ?_|refine bkq fun q=>?_|(refine bk2 ?_ ?_<;>(first|exact bkn|(refine bkk ?_;intro h))))
    refine CS.drawA (row br 35 (rlC Ad (some ⟨gj, 0, none⟩) n cd cj bm) :: F) (fun w hs => hs.ord 14 [4] rfl) mixed (by kernel_rfl) rfl ?_
    repeat' (first|refine bka ?_|(refine bk2a ?_ ?_<;>(first|exact bkn|(refine bkk ?_;intro h))))
    refine WA.e1 9 (by kernel_rfl) (by kernel_rfl) rfl rfl (EffC.call c11 rfl rfl rfl (q_New _ n cj bm hn5 hcj W0 _)) rfl ?_
    rintro _ _ ⟨bq, rfl, rfl⟩
    refine ⟨fun w hs => hs.ord 15 [5] rfl, ?_⟩
    refine WA.e1 10 (by kernel_rfl) (by kernel_rfl) rfl rfl (EffC.of (Eff.buildSlice TT rfl rfl rfl rfl rfl rfl rfl)) rfl ?_
    rintro _ _ ⟨q2, rfl, rfl⟩
    refine ⟨fun w hs => hs.ord 16 [6] rfl, ?_⟩
    refine WA.e1 11 (by kernel_rfl) (by kernel_rfl) rfl rfl (EffC.of (Eff.append TT (E := bpE) (xs := qb) (ys := [bq]) 3 rfl rfl rfl rfl rfl (Rd.row (i := 0) rfl rfl) rfl rfl rfl rfl rfl (by decide) (by simp only [List.length_cons, List.length_nil]; omega) (fun _ _ => rfl))) rfl ?_
    rintro _ _ ⟨A5, c5, rfl, rfl⟩
    refine ⟨fun w hs => hs.ord 16 [6] rfl, ?_⟩
    repeat' (first|refine bka ?_|(refine bk2a ?_ ?_<;>(first|exact bkn|(refine bkk ?_;intro h))))
    refine WA.fin (by kernel_rfl) ?_
    repeat' (first|refine bN ?_|refine bkq fun q=>?_|(refine bk2 ?_ ?_<;>(first|exact bkn|(refine bkk ?_;intro h))))
    refine CS.drawA (row b17 62 (rlC Ax (some ⟨gy, 0, none⟩) n cx cy bn) :: F) (fun w hs => hs.ord 16 [7] rfl) mixed (by kernel_rfl) rfl ?_
    repeat' (first|refine bka ?_|(refine bk2a ?_ ?_<;>(first|exact bkn|(refine bkk ?_;intro h))))
    refine WA.e1 9 (by kernel_rfl) (by kernel_rfl) rfl rfl (EffC.call c18 rfl rfl rfl (t_New _ n cy bn hn5 hcy W0 _)) rfl ?_
    rintro _ _ ⟨tq, rfl, rfl⟩
    refine ⟨fun w hs => hs.ord 17 [8] rfl, ?_⟩
    refine WA.e1 10 (by kernel_rfl) (by kernel_rfl) rfl rfl (EffC.of (Eff.buildSlice TT rfl rfl rfl rfl rfl rfl rfl)) rfl ?_
    rintro _ _ ⟨q3, rfl, rfl⟩
    refine ⟨fun w hs => hs.ord 18 [9] rfl, ?_⟩
    refine WA.e1 11 (by kernel_rfl) (by kernel_rfl) rfl rfl (EffC.of (Eff.append TT (E := bpE) (xs := tb) (ys := [tq]) 7 rfl rfl rfl rfl rfl (Rd.row (i := 0) rfl rfl) rfl rfl rfl rfl rfl (by decide) (by simp only [List.length_cons, List.length_nil]; omega) (fun _ _ => rfl))) rfl ?_
    rintro _ _ ⟨A6, c6, rfl, rfl⟩
    refine ⟨fun w hs => hs.ord 18 [9] rfl, ?_⟩
    repeat' (first|refine bka ?_|(refine bk2a ?_ ?_<;>(first|exact bkn|(refine bkk ?_;intro h))))
    refine WA.fin (by kernel_rfl) ?_
    repeat' (first|refine bA ?_|refine bkq fun q=>?_|(refine bk2 ?_ ?_<;>(first|exact bkn|(refine bkk ?_;intro h))))
    have hlen : (qb ++ [bq]).length = qb.length + 1 := by simp
    have hlt : (tb ++ [tq]).length = (qb ++ [bq]).length := by simp [hqt]
    refine QS.again ⟨((qb ++ [bq], A5, c5), tb ++ [tq], A6, c6), by simp only [hlen]; omega, hlt⟩ trivial (by simp only [hlen]; omega) ⟨rfl, rfl, rfl, rfl, rfl, rfl, ?_, trivial⟩ (fun w hs => ?_)
    · simp only [hlen]
      rw [show ((qb.length + 1 : Nat) : Int) = (qb.length : Int) + 1 from by omega]; rfl
    · simp only [hlen, List.replicate_succ']
      have h1 := wrs_snoc (by simp) w (hs.ord 8 [3, 4, 5, 1, 6, 7] rfl)
      have h2 := trs_snoc (by simp [hqt]) w (h1.ord 5 [2, 3, 0, 1, 4] rfl)
      exact h2.ord 4 [1, 2, 0, 3] rfl
  have hq3 : qb.length = 3 := by omega
  have ht3 : tb.length = 3 := by omega
  refine CS.fact (p := (∃ g, Aq = some ⟨g, 0, none⟩) ∧ ∃ g, At = some ⟨g, 0, none⟩) (fun w hs => by
    obtain ⟨_, _, h2⟩ := slc_at (i := 1) rfl w hs
    obtain ⟨_, _, h4⟩ := slc_at (i := 3) rfl w hs
    exact ⟨h2.resolve_left (fun h => by rw [h.2.2] at hq3; simp at hq3), h4.resolve_left (fun h => by rw [h.2.2] at ht3; simp at ht3)⟩) (fun hgq => ?_)
  obtain ⟨⟨gq, hgq⟩, gt, hgt⟩ := hgq
  have hrep : List.replicate 3 (⟨0, 0, false⟩ : Wr) = [⟨0, 0, false⟩, ⟨0, 0, false⟩, ⟨0, 0, false⟩] := rfl
  rw [hq3, ht3, hrep]
  repeat' (first|refine bN ?_|refine bkq fun q=>?_|(refine bk2 ?_ ?_<;>(first|exact bkn|(refine bkk ?_;intro h))))
  refine CS.loop (X := PM × Nat) (fun y => [(1, .slice A ls.length c), (5, .bool true), (7, .pointer (some ⟨br, 0, none⟩)), (8, .pointer (some ⟨b17, 0, none⟩)), (10, .slice Aq 3 cq), (11, .slice At 3 ct), (13, .int .i64 (y.2 : Int))]) (fun y => wrsA (some ⟨gj, 0, none⟩) n cj bm y.1.qb y.1.s.ws :: slc bpE 29 Aq cq y.1.qb :: trsA (some ⟨gy, 0, none⟩) n cy bn y.1.tb y.1.s.ws :: slc bpE 56 At ct y.1.tb :: bothA br b17 bm bn n cd cj cx cy Ad (some ⟨gj, 0, none⟩) Ax (some ⟨gy, 0, none⟩) y.1.s.xs y.1.ys y.1.s.m y.1.s.m F) (fun y => POk n y.1 ∧ y.2 ≤ ls.length) (fun y => ls.length - y.2) (⟨⟨xs, [], [⟨0, 0, false⟩, ⟨0, 0, false⟩, ⟨0, 0, false⟩]⟩, qb, tb, ys⟩, 0) ⟨rfl, rfl, rfl, rfl, rfl, rfl, rfl, trivial⟩ (fun w hs => hs) ⟨⟨light_start hN hl, hq3, ht3, hly⟩, Nat.zero_le _⟩ ?_
  clear hq hqt hq3 ht3 hN hly hl
  rintro ⟨⟨s, qb, tb, ys⟩, i⟩ ⟨hO, hi⟩
  simp only at hO hi ⊢
  have hInv : LInv n s := hO.inv
  have hqb : qb.length = 3 := hO.qb
  have htb : tb.length = 3 := hO.tb
  have hys : ys.length = n := hO.ys
  have hw3 := hInv.w3
  by_cases hgo : i < ls.length ∧ i < 40
  rotate_left 1
  · repeat' (first|refine bA ?_|refine bkq fun q=>?_|(refine bk2 ?_ ?_<;>(first|exact bkn|(refine bkk ?_;intro h))))
    all_goals first
      | exact QS.turn (G' := F) (fun w hs => hs.ord 14 [] rfl) (QS.retV Tryz.results6 rfl ⟨rfl, rfl⟩)
      | (exfalso; omega)
  obtain ⟨hg1, hg2⟩ := hgo
  obtain ⟨u, hu⟩ : ∃ x, ls[i]? = some x := ⟨ls[i]'(by omega), List.getElem?_eq_getElem (by omega)⟩
  have hum := List.mem_of_getElem? hu
  have huo := hL u hum
  repeat' (first|refine bN ?_|refine bkq fun q=>?_|(refine bk2 ?_ ?_<;>(first|exact bkn|(refine bkk ?_;intro h))))
  refine WL.idx TT hR.cons.cons.cons.cons.cons.cons.cons.cons.cons.cons.cons.cons.cons.cons rfl rfl rfl (by omega) (by rw [Int.toNat_natCast]; exact hu) rfl rfl rfl rfl (fun bb o hA => ?_)
  refine WL.s (op1_at TT hA rfl rfl rfl rfl) rfl ?_
  repeat' (first|refine bk ?_|refine bkc ?_|refine bkd ?_|refine bkq (fun q => ?_)|(refine bk2 ?_ ?_<;>(first|exact bkn|(refine bkk ?_;intro h))))
  revert q; intro q14
  refine CS.seq ?_
  repeat' (first|refine bk ?_|refine bkc ?_|refine bkd ?_|refine bkq (fun q => ?_)|(refine bk2 ?_ ?_<;>(first|exact bkn|(refine bkk ?_;intro h))))
  refine WL.call c9 rfl rfl rfl rfl (law_pick u.q 3 huo.q (by decide) W0 _) ?_
  rintro _ G2 ⟨rfl, hG2⟩
  rw [hG2]; clear hG2 G2
  have hp3 := pickM_range (n := u.q) (m := 3) (by decide)
  obtain ⟨k, hk, hk3⟩ : ∃ k : Nat, pickM u.q 3 = (k : Int) ∧ k < 3 := ⟨(pickM u.q 3).toNat, by omega, by omega⟩
  rw [hk]
  repeat' (first|refine bk ?_|refine bkc ?_|refine bkd ?_|refine bkq (fun q => ?_)|(refine bk2 ?_ ?_<;>(first|exact bkn|(refine bkk ?_;intro h))))
  refine CS.seq ?_
  refine CS.cut (X := PM) (fun y => [(1, .slice A ls.length c), (5, .bool true), (7, .pointer (some ⟨br, 0, none⟩)), (8, .pointer (some ⟨b17, 0, none⟩)), (10, .slice Aq 3 cq), (11, .slice At 3 ct), (13, .int .i64 (i : Int)), (14, .pointer (some ⟨q14, 0, none⟩)), (15, .int .i64 (k : Int))]) (fun y => row q14 64 (deedC17 u) :: wrsA (some ⟨gj, 0, none⟩) n cj bm y.qb y.s.ws :: slc bpE 29 Aq cq y.qb :: trsA (some ⟨gy, 0, none⟩) n cy bn y.tb y.s.ws :: slc bpE 56 At ct y.tb :: bothA br b17 bm bn n cd cj cx cy Ad (some ⟨gj, 0, none⟩) Ax (some ⟨gy, 0, none⟩) y.s.xs y.ys y.s.m y.s.m F) (POk n) ?_ ?_
  · obtain ⟨bw, hbw⟩ : ∃ b, qb[k]? = some b := ⟨qb[k]'(by omega), List.getElem?_eq_getElem (by omega)⟩
    obtain ⟨tw, htw⟩ : ∃ b, tb[k]? = some b := ⟨tb[k]'(by omega), List.getElem?_eq_getElem (by omega)⟩
    obtain ⟨w, hwk⟩ : ∃ w, s.ws[k]? = some w := ⟨s.ws[k]'(by omega), List.getElem?_eq_getElem (by omega)⟩
    repeat' (first|refine bN ?_|refine bkq fun q=>?_|(refine bk2 ?_ ?_<;>(first|exact bkn|(refine bkk ?_;intro h))))
    refine WL.call c9 rfl rfl rfl rfl (law_pick u.kind 12 huo.kind (by decide) W0 _) ?_
    rintro _ G2 ⟨rfl, hG2⟩
    rw [hG2]; clear hG2 G2
    generalize pickM u.kind 12 = p
    by_cases h11 : p = 11
    · repeat' (first|refine bN ?_|refine bkq fun q=>?_|(refine bk2 ?_ ?_<;>(first|exact bkn|(refine bkk ?_;intro h))))
      subst hgq
      subst hgt
      refine CS.drawE (row br 35 (rlC Ad (some ⟨gj, 0, none⟩) n cd cj bm) :: F) 12 (fun W hs => hs.ord 15 [5] rfl) mixed (by kernel_rfl) rfl ?_
      repeat' (first|refine bka ?_|(refine bk2a ?_ ?_<;>(first|exact bkn|(refine bkk ?_;intro h))))
      refine WA.e1 10 (by kernel_rfl) (by kernel_rfl) rfl rfl (EffC.call c11 rfl rfl rfl (q_New _ n cj bm hn5 hcj W0 _)) rfl ?_
      rintro _ _ ⟨bz, rfl, rfl⟩
      refine ⟨fun W hs => hs.ord 16 [6] rfl, ?_⟩
      refine WA.at 11 (by kernel_rfl) rfl (by kernel_rfl) rfl (op1_idxA TT bpE rfl rfl (by omega) rfl rfl rfl) rfl ?_
      refine WA.last (by kernel_rfl) (by kernel_rfl) (by kernel_rfl) rfl rfl (EffC.storeS TT (E := bpE) 3 (j := k) (k := 0) (z := bw) (z' := bz) rfl rfl rfl (by rw [Int.toNat_natCast]; rfl) hbw rfl rfl rfl rfl rfl rfl) rfl ?_
      rintro _ _ ⟨rfl, rfl⟩
      repeat' (first|refine bN ?_|refine bkq fun q=>?_|(refine bk2 ?_ ?_<;>(first|exact bkn|(refine bkk ?_;intro h))))
      refine CS.drawE (row b17 62 (rlC Ax (some ⟨gy, 0, none⟩) n cx cy bn) :: F) 12 (fun W hs => hs.ord 16 [7] rfl) mixed (by kernel_rfl) rfl ?_
      repeat' (first|refine bka ?_|(refine bk2a ?_ ?_<;>(first|exact bkn|(refine bkk ?_;intro h))))
      refine WA.e1 10 (by kernel_rfl) (by kernel_rfl) rfl rfl (EffC.call c18 rfl rfl rfl (t_New _ n cy bn hn5 hcy W0 _)) rfl ?_
      rintro _ _ ⟨tz, rfl, rfl⟩
      refine ⟨fun W hs => hs.ord 17 [8] rfl, ?_⟩
      refine WA.at 11 (by kernel_rfl) rfl (by kernel_rfl) rfl (op1_idxA TT bpE rfl rfl (by omega) rfl rfl rfl) rfl ?_
      refine WA.last (by kernel_rfl) (by kernel_rfl) (by kernel_rfl) rfl rfl (EffC.storeS TT (E := bpE) 6 (j := k) (k := 0) (z := tw) (z' := tz) rfl rfl rfl (by rw [Int.toNat_natCast]; rfl) htw rfl rfl rfl rfl rfl rfl) rfl ?_
      rintro _ _ ⟨rfl, rfl⟩
      repeat' (first|refine bN ?_|refine bkq fun q=>?_|(refine bk2 ?_ ?_<;>(first|exact bkn|(refine bkk ?_;intro h))))
      exact QS.met ⟨⟨s.xs, s.m, s.ws.set k ⟨0, 0, false⟩⟩, qb.set k bz, tb.set k tz, ys⟩ ⟨hInv.lfresh k, by simp only [List.length_set]; exact hqb, by simp only [List.length_set]; exact htb, hys⟩ ⟨rfl, rfl, rfl, rfl, rfl, rfl, rfl, rfl, rfl, trivial⟩ (fun W hs => by
        have h1 := wrs_open hbw hwk W (hs.ord 7 [3, 1, 0, 2, 4, 5, 6] rfl)
        have h2 := wrs_shut hbw hwk W (h1.ord 8 [2, 1, 3, 4, 5, 6, 7] rfl)
        have h3 := trs_open htw hwk W (h2.ord 6 [4, 1, 0, 2, 3, 5] rfl)
        have h4 := trs_shut htw hwk W (h3.ord 7 [2, 1, 3, 4, 5, 6] rfl)
        exact h4.ord 5 [2, 1, 3, 0, 4] rfl)
    · repeat' (first|refine bN ?_|refine bkq fun q=>?_|(refine bk2 ?_ ?_<;>(first|exact bkn|(refine bkk ?_;intro h))))
      exact QS.met ⟨s, qb, tb, ys⟩ hO ⟨rfl, rfl, rfl, rfl, rfl, rfl, rfl, rfl, rfl, trivial⟩ (fun W hs => hs)
  clear hO hInv hqb htb hys hw3
  rintro ⟨s, qb, tb, ys⟩ hO
  simp only at hO ⊢
  have hInv : LInv n s := hO.inv
  have hqb : qb.length = 3 := hO.qb
  have htb : tb.length = 3 := hO.tb
  have hys : ys.length = n := hO.ys
  have hw3 := hInv.w3
  obtain ⟨bw, hbw⟩ : ∃ b, qb[k]? = some b := ⟨qb[k]'(by omega), List.getElem?_eq_getElem (by omega)⟩
  obtain ⟨tw, htw⟩ : ∃ b, tb[k]? = some b := ⟨tb[k]'(by omega), List.getElem?_eq_getElem (by omega)⟩
  obtain ⟨w, hwk⟩ : ∃ w, s.ws[k]? = some w := ⟨s.ws[k]'(by omega), List.getElem?_eq_getElem (by omega)⟩
  repeat' (first|refine bN ?_|refine bkq fun q=>?_|(refine bk2 ?_ ?_<;>(first|exact bkn|(refine bkk ?_;intro h))))
  refine CS.world fun hwd => ?_
  refine CS.drawT 11 mixed (by kernel_rfl) rfl ?_
  repeat' (first|refine bk ?_|refine bkc ?_|refine bks ?_|refine bkd ?_|refine bkh ?_|refine bkq (fun q => ?_)|((first|refine bk2 ?_ ?_|refine bk2h ?_ ?_)<;>(first|exact bkn|(refine bkk ?_;intro h))))
  refine WH.idx TT (E := bpE) (Rd.slc (i := 2) rfl) rfl rfl hqb.symm (by omega) (x := bw) (by rw [Int.toNat_natCast]; exact hbw) rfl rfl rfl rfl hwd (fun b4 o4 hA4 => ?_)
  refine WH.s (op1_at TT hA4 rfl rfl rfl rfl) rfl ?_
  repeat' (first|refine bk ?_|refine bkc ?_|refine bks ?_|refine bkd ?_|refine bkh ?_|refine bkq (fun q => ?_)|((first|refine bk2 ?_ ?_|refine bk2h ?_ ?_)<;>(first|exact bkn|(refine bkk ?_;intro h))))
  refine WH.idx TT (E := bpE) (Rd.slc (i := 4) rfl) rfl rfl htb.symm (by omega) (x := tw) (by rw [Int.toNat_natCast]; exact htw) rfl rfl rfl rfl hwd (fun b5 o5 hA5 => ?_)
  refine WH.s (op1_at TT hA5 rfl rfl rfl rfl) rfl ?_
  repeat' (first|refine bk ?_|refine bkc ?_|refine bks ?_|refine bkd ?_|refine bkh ?_|refine bkq (fun q => ?_)|((first|refine bk2 ?_ ?_|refine bk2h ?_ ?_)<;>(first|exact bkn|(refine bkk ?_;intro h))))
  refine WL.call c19 rfl rfl rfl rfl ((law_does (br := br) (b17 := b17) (bm := bm) (bn := bn) (cd := cd) (cj := cj) (cx := cx) (cy := cy) (gj := gj) (gy := gy) (bw := bw) (tw := tw) (Ad := Ad) (Ax := Ax) hInv hwk hys hn1 hn5 u huo W0 (wrsX (some ⟨gj, 0, none⟩) n cj bm qb s.ws k :: trsX (some ⟨gy, 0, none⟩) n cy bn tb s.ws k :: row q14 64 (deedC17 u) :: slc bpE 29 Aq cq qb :: slc bpE 56 At ct tb :: F) (hR2 u hum).cons.cons.cons.cons.cons (hR3 u hum).cons.cons.cons.cons.cons).pre (fun W hs => by
    have h1 := wrs_open hbw hwk W (hs.ord 15 [1, 0, 2, 3, 4, 5, 6, 7, 8, 9, 10, 11, 12, 13, 14] rfl)
    have h2 := trs_open htw hwk W (h1.ord 16 [4, 0, 1, 2, 3, 5, 6, 7, 8, 9, 10, 11, 12, 13, 14, 15] rfl)
    exact h2.ord 17 [2, 0, 7, 8, 9, 10, 11, 12, 13, 14, 15, 16, 3, 1, 4, 5, 6] rfl)) ?_
  rintro _ _ ⟨xs2, m2, w2, ys2, hI, hys2, rfl, rfl⟩
  have hl2 := hI.len
  simp only at hl2
  repeat' (first|refine bN ?_|refine bkq fun q=>?_|(refine bk2 ?_ ?_<;>(first|exact bkn|(refine bkk ?_;intro h))))
  refine WL.call c20 rfl rfl rfl rfl ((law_state br b17 bm bn n Ad (some ⟨gj, 0, none⟩) Ax (some ⟨gy, 0, none⟩) cd cj cx cy xs2 ys2 m2 hl2 hys2 hn5 hI.loks W0 _).pre (fun W hs => hs.ord 12 [2, 3, 4, 5, 6, 7, 8, 9, 10, 11, 0, 1] rfl)) ?_
  rintro _ _ ⟨rfl, rfl⟩
  refine WL.turn (fun W hs => hs.ord 17 [10, 11, 14, 15, 16, 0, 1, 2, 3, 4, 5, 6, 7, 8, 9, 12, 13] rfl) ?_
  have t1 : decide (w2.e = w2.e) = true := decide_eq_true rfl
  have t2 : decide (w2.n = w2.n) = true := decide_eq_true rfl
  repeat' (first|refine bN ?_|refine bkq fun q=>?_|(refine bk2 ?_ ?_<;>(first|exact bkn|(refine bkk ?_;intro h))))
  refine CS.world fun hwd2 => ?_
  repeat' (first|refine bA ?_|refine bkq fun q=>?_|(refine bk2 ?_ ?_<;>(first|exact bkn|(refine bkk ?_;intro h))))
  refine WQ.idx TT (E := bpE) (Rd.slc (i := 3) rfl) rfl rfl hqb.symm (by omega) (x := bw) (by rw [Int.toNat_natCast]; exact hbw) rfl rfl rfl rfl hwd2 (fun b4 o4 hA4 => ?_)
  repeat' (first|refine bA ?_|refine bkq fun q=>?_|(refine bk2 ?_ ?_<;>(first|exact bkn|(refine bkk ?_;intro h))))
  refine WQ.s (op1_at TT hA4 rfl rfl rfl rfl) rfl ?_
  repeat' (first|refine bA ?_|refine bkq fun q=>?_|(refine bk2 ?_ ?_<;>(first|exact bkn|(refine bkk ?_;intro h))))
  refine WQ.call c15 rfl rfl rfl rfl (q_EpochQ _ (fun W hs => hs)) ?_
  repeat' (first|refine bA ?_|refine bkq fun q=>?_|(refine bk2 ?_ ?_<;>(first|exact bkn|(refine bkk ?_;intro h))))
  refine WQ.idx TT (E := bpE) (Rd.slc (i := 4) rfl) rfl rfl htb.symm (by omega) (x := tw) (by rw [Int.toNat_natCast]; exact htw) rfl rfl rfl rfl hwd2 (fun b5 o5 hA5 => ?_)
  repeat' (first|refine bA ?_|refine bkq fun q=>?_|(refine bk2 ?_ ?_<;>(first|exact bkn|(refine bkk ?_;intro h))))
  refine WQ.s (op1_at TT hA5 rfl rfl rfl rfl) rfl ?_
  repeat' (first|refine bA ?_|refine bkq fun q=>?_|(refine bk2 ?_ ?_<;>(first|exact bkn|(refine bkk ?_;intro h))))
  refine WQ.idx TT (E := bpE) (Rd.slc (i := 3) rfl) rfl rfl hqb.symm (by omega) (x := bw) (by rw [Int.toNat_natCast]; exact hbw) rfl rfl rfl rfl hwd2 (fun b6 o6 hA6 => ?_)
  repeat' (first|refine bA ?_|refine bkq fun q=>?_|(refine bk2 ?_ ?_<;>(first|exact bkn|(refine bkk ?_;intro h))))
  refine WQ.s (op1_at TT hA6 rfl rfl rfl rfl) rfl ?_
  repeat' (first|refine bA ?_|refine bkq fun q=>?_|(refine bk2 ?_ ?_<;>(first|exact bkn|(refine bkk ?_;intro h))))
  refine WQ.call c14 rfl rfl rfl rfl (q_ManyQ _ (fun W hs => hs)) ?_
  repeat' (first|refine bA ?_|refine bkq fun q=>?_|(refine bk2 ?_ ?_<;>(first|exact bkn|(refine bkk ?_;intro h))))
  refine WQ.idx TT (E := bpE) (Rd.slc (i := 4) rfl) rfl rfl htb.symm (by omega) (x := tw) (by rw [Int.toNat_natCast]; exact htw) rfl rfl rfl rfl hwd2 (fun b7 o7 hA7 => ?_)
  repeat' (first|refine bA ?_|refine bkq fun q=>?_|(refine bk2 ?_ ?_<;>(first|exact bkn|(refine bkk ?_;intro h))))
  refine WQ.s (op1_at TT hA7 rfl rfl rfl rfl) rfl ?_
  repeat' (first|refine bA ?_|refine bkq fun q=>?_|(refine bk2 ?_ ?_<;>(first|exact bkn|(refine bkk ?_;intro h))))
  exact QS.again (⟨⟨xs2, m2, s.ws.set k w2⟩, qb, tb, ys2⟩, i + 1) ⟨⟨hI, hqb, htb, hys2⟩, by show i + 1 ≤ ls.length; omega⟩ (by show ls.length - (i + 1) < ls.length - i; omega) ⟨rfl, rfl, rfl, rfl, rfl, rfl, rfl, trivial⟩ (fun W hs => by
    have h1 := wrs_put hbw hwk W (hs.ord 17 [0, 15, 1, 16, 3, 4, 5, 6, 7, 8, 9, 10, 11, 12, 13, 14] rfl)
    have h2 := trs_put htw hwk W (h1.ord 5 [1, 2, 0, 3, 4] rfl)
    exact h2.ord 4 [1, 2, 0, 3] rfl)
end Go.Proofs.YtfolmcpfdcgliaaGreat.B
