import Derived.Test.YtfolmcpfdcgliaaGreatMg51
import Derived.Test.YtfolmcpfdcgliaaGreatMg9
import Derived.Test.YtfolmcpfdcgliaaGreatMg18
import Derived.Test.YtfolmcpfdcgliaaGreatRows
import Derived.WalkKit
import Derived.ProofKit
import Derived.OpenShut
import Derived.JoinedCond
import Derived.Carry
import Derived.Lib.SmallJoins
import Derived.SliceStrings
import Derived.ChangeMaps5
set_option linter.unusedVariables false
set_option linter.unusedSimpArgs false
set_option maxRecDepth 8000
/-! QuorumCopies: the walk. -/
namespace Go.Proofs.YtfolmcpfdcgliaaGreat.B
open Go Go.Proofs
theorem He.oks {ep : Int} {xs : List Nd} (h : He ep xs) : ∀ x ∈ xs, NdOk x := fun x hx => (h x hx).1.ok
attribute [local irreducible] WL CS QS WQ WH WS Fn Op1 row Sat
attribute [local irreducible] slc jA diskA mailA nodesA nodesX rjA refA rnodesA rnodesX rmailA
theorem q_Log {ys : List Nd} {i : Nat} {x : Nd} (hx : ys[i]? = some x) (hxo : NdOk x) (ha : x.J.dead = false) (W0 : World) (F : List SL) :
    Fn Tryz.prog 16 [.pointer (some ⟨x.b, 0, none⟩)] W0 (nodesA ys :: F) (Ret fun v G' => ∃ A c, v = logV x.J.e A x.J.xs.length c ∧ G' = slc entE 49 A c x.J.xs :: nodesA ys :: F) := by
  have h := j_Log x.b x.d x.J (by have := hxo.J.len; omega) W0 (diskA x.d x.D :: nodesX ys i :: F)
  rw [if_neg (by rw [ha]; decide), if_neg (by rw [ha]; decide)] at h
  refine Fn.post (h.pre (nodes_open hx)) (Ret.post fun v G' ⟨A, c, h1, h2⟩ => ⟨slc entE 49 A c x.J.xs :: nodesA ys :: F, fun w hw => ?_, A, c, h1, rfl⟩)
  rw [h2] at hw
  have h3 := nodes_shut hx w (hw.ord 4 [1, 2, 3, 0] rfl)
  rw [set_self hx] at h3
  exact h3.front (i := 1) rfl
set_option maxHeartbeats 16000000 in
theorem law_QuorumCopies (a b : Int) (ha : I64 a) (hb : I64 b) (Ad0 : Option Addr) (k0 c0 : Nat) (data : List ByteArray) (hk0 : k0 = data.length) (Af : Option Addr) (kf cf : Nat) (fs : List Int) (hkf : kf = fs.length) (hcf : kf ≤ cf) (hmf : kf ≤ 9223372036854775807) (hI : ∀ x ∈ fs, I64 x) (W0 : World) (F : List SL) (hR : Rd W0 F strE Ad0 data) (hRf : Rd W0 F intE Af fs) (hk0b : k0 ≤ 9223372036854775807) :
    Fn Tryz.prog 4 [.int .i64 a, .int .i64 b, .slice Ad0 k0 c0, .slice Af kf cf] W0 F (Ret fun v G' => v = .bool true ∧ G' = F) := by
  subst hk0
  subst hkf
  refine Fn.enter Tryz.func4 rfl Tryz.ntmps4 rfl ?_
  repeat' (first|refine bk ?_|refine bkc ?_|refine bks ?_|refine bkd ?_|refine bkq (fun q => ?_)|(refine bk2 ?_ ?_<;>(first|exact bkn|(refine bkk ?_;intro h))))
  refine WL.call c8 rfl rfl rfl rfl (law_examples W0 _) ?_
  rintro _ G2 ⟨rfl, hG2⟩
  rw [hG2]; clear hG2 G2
  repeat' (first|refine bk ?_|refine bkc ?_|refine bks ?_|refine bkd ?_|refine bkq (fun q => ?_)|(refine bk2 ?_ ?_<;>(first|exact bkn|(refine bkk ?_;intro h))))
  refine WL.call c9 rfl rfl rfl rfl (law_pick a 5 ha (by decide) W0 _) ?_
  rintro _ G2 ⟨rfl, hG2⟩
  rw [hG2]; clear hG2 G2
  have hp := pickM_range (n := a) (m := 5) (by decide)
  obtain ⟨n, hn, hn1⟩ : ∃ n : Nat, 1 + pickM a 5 = (n : Int) ∧ 1 ≤ n ∧ n ≤ 5 := ⟨(1 + pickM a 5).toNat, by omega, by omega, by omega⟩
  obtain ⟨hn1, hn5⟩ := hn1
  repeat' (first|refine bk ?_|refine bkc ?_|refine bks ?_|refine bkd ?_|refine bkq (fun q => ?_)|(refine bk2 ?_ ?_<;>(first|exact bkn|(refine bkk ?_;intro h))))
  rw [hn]
  refine WL.call c10 rfl rfl rfl rfl (law_begun n hn5 W0 _) ?_
  rintro _ _ ⟨br, bm, bs, bn, ⟨xs, ys, Ad, cd, Aj, cj, Ax, cx, Ay, cy⟩, hN, hl, hly, rfl, rfl⟩
  simp only at hN hl hly ⊢
  refine WL.turn (G' := row br 35 (rlC Ad Aj n cd cj bm) :: jsA Aj cj bm xs [] F) (fun w hs => by rw [← hl]; exact hs.ord 10 [0, 2, 3, 4] rfl) ?_
  refine WL.fact (p := n ≤ cj) (fun w hs => by have := slc_cap (i := 1) rfl w hs; rw [List.length_map] at this; omega) (fun hcj => ?_)
  have k0 := (new0_hu hN).oks
  repeat' (first|refine bk ?_|refine bkc ?_|refine bks ?_|refine bkd ?_|refine bkq (fun q => ?_)|(refine bk2 ?_ ?_<;>(first|exact bkn|(refine bkk ?_;intro h))))
  refine WL.call c9 rfl rfl rfl rfl (law_pick b 1000 hb (by decide) W0 _) ?_
  rintro _ G2 ⟨rfl, hG2⟩
  rw [hG2]; clear hG2 G2
  have hp2 := pickM_range (n := b) (m := 1000) (by decide)
  obtain ⟨ep, hep⟩ : ∃ ep, ep = 1 + pickM b 1000 := ⟨_, rfl⟩
  repeat' (first|refine bk ?_|refine bkc ?_|refine bks ?_|refine bkq (fun q => ?_)|(refine bk2 ?_ ?_<;>(first|exact bkn|(refine bkk ?_;intro h))))
  rw [← hep]
  have he1 : 1 ≤ ep ∧ ep ≤ 9007199254740991 := by omega
  have heI : I64 ep := by unfold I64; omega
  clear hep hp2
  refine CS.drawT 8 mixed (by kernel_rfl) rfl ?_
  repeat' (first|refine bk ?_|refine bkc ?_|refine bks ?_|refine bkd ?_|refine bkh ?_|refine bkq (fun q => ?_)|((first|refine bk2 ?_ ?_|refine bk2h ?_ ?_)<;>(first|exact bkn|(refine bkk ?_;intro h))))
  refine WL.call c11 rfl rfl rfl rfl (q_New Aj n cj bm hn5 hcj W0 _) ?_
  rintro _ _ ⟨bq, rfl, rfl⟩
  repeat' (first|refine bk ?_|refine bkc ?_|refine bks ?_|refine bkd ?_|refine bkq (fun q => ?_)|(refine bk2 ?_ ?_<;>(first|exact bkn|(refine bkk ?_;intro h))))
  obtain ⟨x1, m1, p1, h1, l1⟩ := begin_ok (new0_hu hN) (FD.nil _) (by simpa using FD.nil xs.length) (ep := ep) (by show (0 : Int) < ep; omega) he1.1 he1.2 [] (by omega) (by omega)
  have k1 := begin_ok2 (w := ⟨0, 0, false⟩) k0 (m := []) (by decide) ep []
  rw [p1] at k1
  rw [hl] at l1
  refine WL.call c12 rfl rfl rfl rfl ((q_Begin2 (bq := bq) (Aj := Aj) (cj := cj) (bm := bm) (n := n) p1 hl k0 hn5 (by decide) heI (A := none) (k := 0) (c := 0) rfl (by decide) (by decide) (fun x hx => by cases hx) W0 (row br 35 (rlC Ad Aj n cd cj bm) :: F) Rd.nil).pre (fun w hs => hs.ord 5 [0, 2, 3, 4, 1] rfl)) ?_
  rintro _ _ ⟨Al, cl, rfl, rfl⟩
  have h1 := h1.he
  have k1m := k1.2.2.2.1
  simp only at k1m
  refine WL.turn (G' := row br 35 (rlC Ad Aj n cd cj bm) :: row bq 92 (wrC Aj n cj bm ⟨ep, ((0 : Nat) : Int), false⟩) :: jsA Aj cj bm x1 m1 F) (fun w hs => hs.ord 6 [5, 1, 2, 3, 4] rfl) ?_
  clear p1 k1 k0 hN hly hl
  repeat' (first|refine bk ?_|refine bkc ?_|refine bks ?_|refine bkd ?_|refine bkq (fun q => ?_)|(refine bk2 ?_ ?_<;>(first|exact bkn|(refine bkk ?_;intro h))))
  refine CS.loop (X := Nat × List Nd × List Msg) (fun y => [(1, .int .i64 ep), (2, .slice Ad0 data.length c0), (3, .slice Af fs.length cf), (9, .bool true), (10, .int .i64 (n : Int)), (11, .pointer (some ⟨br, 0, none⟩)), (14, .pointer (some ⟨bq, 0, none⟩)), (17, .int .i64 (y.1 : Int))])
    (fun y => row br 35 (rlC Ad Aj n cd cj bm) :: row bq 92 (wrC Aj n cj bm ⟨ep, (y.1 : Int), false⟩) :: jsA Aj cj bm y.2.1 y.2.2 F) (fun y => y.1 ≤ 12 ∧ y.1 ≤ data.length ∧ He ep y.2.1 ∧ y.2.1.length = n ∧ y.2.2.length ≤ 50) (fun y => 12 - y.1) (0, x1, m1) ⟨rfl, rfl, rfl, rfl, rfl, rfl, rfl, rfl, trivial⟩ (fun w hs => hs) ⟨Nat.zero_le _, Nat.zero_le _, h1, l1, k1m⟩ ?_
  rintro ⟨i, xs, m⟩ ⟨hi, hid, hH, hl, hm⟩
  simp only at hi hid hH hl hm ⊢
  by_cases hgo : i < data.length ∧ i < 12
  rotate_left 1
  · repeat' (first|refine bk ?_|refine bkc ?_|refine bks ?_|refine bkd ?_|refine bkq (fun q => ?_)|(refine bk2 ?_ ?_<;>(first|exact bkn|(refine bkk ?_;intro h))))
    all_goals first
      | (exfalso; omega)
      | (refine WL.call c15 rfl rfl rfl rfl ((q_Epoch bq Aj n cj bm ⟨ep, (i : Int), false⟩ W0 _).pre (fun w hs => hs.front (i := 1) rfl)) ?_
         rintro _ _ ⟨rfl, rfl⟩
         repeat' (first|refine bk ?_|refine bkc ?_|refine bks ?_|refine bkd ?_|refine bkq (fun q => ?_)|(refine bk2 ?_ ?_<;>(first|exact bkn|(refine bkk ?_;intro h))))
         exact QS.turn (G' := F) (fun w hs => hs.ord 5 [] rfl) (QS.retV Tryz.results4 rfl ⟨by rw [decide_eq_true rfl]; rfl, rfl⟩))
  · obtain ⟨hg1, hg2⟩ := hgo
    obtain ⟨d, hd⟩ : ∃ x, data[i]? = some x := ⟨data[i]'(by omega), List.getElem?_eq_getElem (by omega)⟩
    refine CS.world fun hw => ?_
    repeat' (first|refine bk ?_|refine bkc ?_|refine bks ?_|refine bkd ?_|refine bkq (fun q => ?_)|(refine bk2 ?_ ?_<;>(first|exact bkn|(refine bkk ?_;intro h))))
    refine WQ.idx TT (E := strE) hR.cons.cons.cons.cons.cons rfl rfl rfl (by omega) (by rw [Int.toNat_natCast]; exact hd) rfl rfl rfl rfl hw (fun b2 o2 hA2 => ?_)
    refine WQ.s (op1_at TT hA2 rfl rfl rfl rfl) rfl ?_
    repeat' (first|refine bk ?_|refine bkc ?_|refine bks ?_|refine bkd ?_|refine bkq (fun q => ?_)|(refine bk2 ?_ ?_<;>(first|exact bkn|(refine bkk ?_;intro h))))
    refine WQ.idx TT (E := strE) hR.cons.cons.cons.cons.cons rfl rfl rfl (by omega) (by rw [Int.toNat_natCast]; exact hd) rfl rfl rfl rfl hw (fun b3 o3 hA3 => ?_)
    refine WQ.s (op1_at TT hA3 rfl rfl rfl rfl) rfl ?_
    repeat' (first|refine bk ?_|refine bkc ?_|refine bks ?_|refine bkd ?_|refine bkq (fun q => ?_)|(refine bk2 ?_ ?_<;>(first|exact bkn|(refine bkk ?_;intro h))))
    rw [show (if (600 : Int) < (d.size : Int) then (600 : Int) else (d.size : Int)) = ((min d.size 600 : Nat) : Int) from by split <;> omega]
    refine WQ.s (op1_slice TT (l := 0) (r := ((min d.size 600 : Nat) : Int)) (s := d) rfl rfl rfl rfl ⟨by omega, by omega, by omega⟩) rfl ?_
    rw [show (0 : Int).toNat = 0 from rfl, Int.toNat_natCast]
    obtain ⟨z, hz⟩ : ∃ z, z = d.extract 0 (min d.size 600) := ⟨_, rfl⟩
    have hzs : z.size ≤ 600 := by rw [hz, ByteArray.size_extract]; omega
    rw [← hz]
    clear hz
    repeat' (first|refine bk ?_|refine bkc ?_|refine bkd ?_|refine bkq (fun q => ?_)|(refine bk2 ?_ ?_<;>(first|exact bkn|(refine bkk ?_;intro h))))
    refine CS.seq ?_
    repeat' (first|refine bk ?_|refine bkc ?_|refine bkd ?_|refine bkq (fun q => ?_)|(refine bk2 ?_ ?_<;>(first|exact bkn|(refine bkk ?_;intro h))))
    refine CS.seq ?_
    refine CS.cut (X := {y : Option Addr × Nat × List Int // Rd W0 F intE y.1 y.2.2 ∧ ∀ x ∈ y.2.2, I64 x}) (fun y => [(1, .int .i64 ep), (2, .slice Ad0 data.length c0), (3, .slice Af fs.length cf), (9, .bool true), (10, .int .i64 (n : Int)), (11, .pointer (some ⟨br, 0, none⟩)), (14, .pointer (some ⟨bq, 0, none⟩)), (17, .int .i64 (i : Int)), (18, .string z), (19, .slice y.1.1 y.1.2.2.length y.1.2.1)])
      (fun _ => row br 35 (rlC Ad Aj n cd cj bm) :: row bq 92 (wrC Aj n cj bm ⟨ep, (i : Int), false⟩) :: jsA Aj cj bm xs m F) (fun _ => True) ?_ ?_
    · repeat' (first|refine bk ?_|refine bkc ?_|refine bks ?_|refine bkd ?_|refine bkq (fun q => ?_)|(refine bk2 ?_ ?_<;>(first|exact bkn|(refine bkk ?_;intro h))))
      · obtain ⟨j, hj⟩ : ∃ j : Nat, (3 : Int) * (i : Int) = (j : Int) := ⟨3 * i, by omega⟩
        rw [hj]
        refine WL.s (op1_sliceS (E := intE) (xs := fs) (l := (j : Int)) (r := (fs.length : Int)) TT (by rfl) (by rfl) rfl rfl rfl rfl rfl (by omega) hcf) rfl ?_
        simp only [Int.toNat_natCast]
        have hRp := hRf.part (c := cf) (l := j) (r := fs.length) (Nat.le_refl _) hcf
        rw [List.take_length] at hRp
        have hld : fs.length - j = (fs.drop j).length := by rw [List.length_drop]
        rw [hld]
        repeat' (first|refine bk ?_|refine bkc ?_|refine bks ?_|refine bkd ?_|refine bkq (fun q => ?_)|(refine bk2 ?_ ?_<;>(first|exact bkn|(refine bkk ?_;intro h))))
        exact QS.met ⟨(_, cf - j, fs.drop j), hRp, fun x hx => hI x (List.mem_of_mem_drop hx)⟩ trivial ⟨rfl, rfl, rfl, rfl, rfl, rfl, rfl, rfl, rfl, rfl, trivial⟩ (fun w hs => hs)
      · exact QS.met ⟨(Af, cf, fs), hRf, hI⟩ trivial ⟨rfl, rfl, rfl, rfl, rfl, rfl, rfl, rfl, rfl, rfl, trivial⟩ (fun w hs => hs)
    rintro ⟨⟨Ao, co, fo⟩, hRo, hIo⟩ _
    simp only at hRo hIo ⊢
    obtain ⟨x2, m2, hH2, hl2, hcase⟩ := write_many hH he1 fo (i := i) (by omega) hzs m (by omega)
    have k2 := write_ok2 (w := ⟨ep, (i : Int), false⟩) hH.oks hm z fo
    repeat' (first|refine bk ?_|refine bkc ?_|refine bks ?_|refine bkq (fun q => ?_)|(refine bk2 ?_ ?_<;>(first|exact bkn|(refine bkk ?_;intro h))))
    rcases hcase with ⟨e, he, hw1⟩ | ⟨hw1, hmany⟩
    · rw [hw1] at k2
      refine WL.call c13 rfl rfl rfl rfl ((q_Write2 (bq := bq) (Aj := Aj) (cj := cj) (bm := bm) (n := n) hw1 hl hH.oks hn5 hm (by simp only; omega) heI (by omega) (A := Ao) (k := fo.length) (c := co) rfl hIo W0 (row br 35 (rlC Ad Aj n cd cj bm) :: F) hRo.cons).pre (fun w hs => hs.ord 5 [1, 2, 3, 4, 0] rfl)) ?_
      rintro _ _ ⟨rfl, rfl⟩
      repeat' (first|refine bk ?_|refine bkc ?_|refine bks ?_|refine bkq (fun q => ?_)|(refine bk2 ?_ ?_<;>(first|exact bkn|(refine bkk ?_;intro h))))
      refine WL.call c14 rfl rfl rfl rfl (q_Many bq Aj n cj bm ⟨0, 0, true⟩ W0 _) ?_
      rintro _ _ ⟨rfl, rfl⟩
      repeat' (first|refine bk ?_|refine bkc ?_|refine bks ?_|refine bkq (fun q => ?_)|(refine bk2 ?_ ?_<;>(first|exact bkn|(refine bkk ?_;intro h))))
      have p2 : writeM ⟨0, 0, true⟩ x2 m2 qx [] = ⟨[], 14, ⟨0, 0, true⟩, x2, m2⟩ := by unfold writeM; rw [if_pos (.inl rfl)]
      refine WL.call c13 rfl rfl rfl rfl (q_Write2 (bq := bq) (Aj := Aj) (cj := cj) (bm := bm) (n := n) p2 (hl2.trans hl) k2.1 hn5 k2.2.2.2.1 (by decide) (by unfold I64; decide) (by decide) (A := none) (k := 0) (c := 0) rfl (fun x hx => by cases hx) W0 (row br 35 (rlC Ad Aj n cd cj bm) :: F) Rd.nil) ?_
      rintro _ _ ⟨rfl, rfl⟩
      repeat' (first|refine bk ?_|refine bkc ?_|refine bks ?_|refine bkd ?_|refine bkq (fun q => ?_)|(refine bk2 ?_ ?_<;>(first|exact bkn|(refine bkk ?_;intro h))))
      exact QS.turn (G' := F) (fun w hs => hs.ord 5 [] rfl) (QS.retV Tryz.results4 rfl ⟨rfl, rfl⟩)
    · rw [hw1] at k2
      refine WL.call c13 rfl rfl rfl rfl ((q_Write2 (bq := bq) (Aj := Aj) (cj := cj) (bm := bm) (n := n) hw1 hl hH.oks hn5 hm (by simp only; omega) heI (by omega) (A := Ao) (k := fo.length) (c := co) rfl hIo W0 (row br 35 (rlC Ad Aj n cd cj bm) :: F) hRo.cons).pre (fun w hs => hs.ord 5 [1, 2, 3, 4, 0] rfl)) ?_
      rintro _ _ ⟨rfl, rfl⟩
      have hmx : manyM ep i z x2 xs.length ≤ xs.length := by unfold manyM; have := List.countP_le_length (p := fun j => match x2[j]? with | some x => hasB ep i z x.J | none => false) (l := List.range xs.length); rwa [List.length_range] at this
      rw [hl] at hmany hmx hl2
      have k2m := k2.2.2.2.1
      simp only at k2m
      refine WL.turn (G' := row br 35 (rlC Ad Aj n cd cj bm) :: row bq 92 (wrC Aj n cj bm ⟨ep, ((i + 1 : Nat) : Int), false⟩) :: jsA Aj cj bm x2 m2 F) (fun w hs => by rw [show ((i + 1 : Nat) : Int) = (i : Int) + 1 from by omega]; exact hs.ord 5 [4, 0, 1, 2, 3] rfl) ?_
      repeat' (first|refine bk ?_|refine bkc ?_|refine bkd ?_|refine bkq (fun q => ?_)|(refine bk2 ?_ ?_<;>(first|exact bkn|(refine bkk ?_;intro h))))
      refine CS.seq ?_
      repeat' (first|refine bk ?_|refine bkc ?_|refine bkd ?_|refine bkq (fun q => ?_)|(refine bk2 ?_ ?_<;>(first|exact bkn|(refine bkk ?_;intro h))))
      refine CS.seq ?_
      refine CS.cut (X := Unit) (fun _ => [(1, .int .i64 ep), (2, .slice Ad0 data.length c0), (3, .slice Af fs.length cf), (9, .bool true), (10, .int .i64 (n : Int)), (11, .pointer (some ⟨br, 0, none⟩)), (14, .pointer (some ⟨bq, 0, none⟩)), (17, .int .i64 (i : Int)), (18, .string z), (20, .int .i64 (manyM ep i z x2 n : Int))])
        (fun _ => row br 35 (rlC Ad Aj n cd cj bm) :: row bq 92 (wrC Aj n cj bm ⟨ep, ((i + 1 : Nat) : Int), false⟩) :: jsA Aj cj bm x2 m2 F) (fun _ => True) ?_ ?_
      · refine CS.seq ?_
        repeat' (first|refine bk ?_|refine bkc ?_|refine bkd ?_|refine bkq (fun q => ?_)|(refine bk2 ?_ ?_<;>(first|exact bkn|(refine bkk ?_;intro h))))
        refine CS.loop (X := Nat) (fun y => [(1, .int .i64 ep), (2, .slice Ad0 data.length c0), (3, .slice Af fs.length cf), (9, .bool true), (10, .int .i64 (n : Int)), (11, .pointer (some ⟨br, 0, none⟩)), (14, .pointer (some ⟨bq, 0, none⟩)), (17, .int .i64 (i : Int)), (18, .string z), (20, .int .i64 (manyM ep i z x2 y : Int)), (21, .int .i64 (y : Int))])
          (fun _ => row br 35 (rlC Ad Aj n cd cj bm) :: row bq 92 (wrC Aj n cj bm ⟨ep, ((i + 1 : Nat) : Int), false⟩) :: jsA Aj cj bm x2 m2 F) (fun y => y ≤ n) (fun y => n - y) 0 ⟨rfl, rfl, rfl, rfl, rfl, rfl, rfl, rfl, rfl, rfl, rfl, trivial⟩ (fun w hs => hs) (Nat.zero_le _) ?_
        intro y hy
        by_cases hyn : y < n
        · obtain ⟨x, hx⟩ : ∃ x, x2[y]? = some x := ⟨x2[y]'(by omega), List.getElem?_eq_getElem (by omega)⟩
          obtain ⟨hx1, hx2, hx3⟩ := hH2 x (List.mem_of_getElem? hx)
          have hm1 : manyM ep i z x2 (y + 1) = manyM ep i z x2 y + (if hasB ep i z x.J = true then 1 else 0) := by
            unfold manyM
            rw [List.range_succ, List.countP_append]
            simp only [List.countP_cons, List.countP_nil, hx]
            omega
          have hmy : manyM ep i z x2 y ≤ y := by unfold manyM; have := List.countP_le_length (p := fun j => match x2[j]? with | some x => hasB ep i z x.J | none => false) (l := List.range y); rwa [List.length_range] at this
          repeat' (first|refine bk ?_|refine bkc ?_|refine bks ?_|refine bkq (fun q => ?_)|(refine bk2 ?_ ?_<;>(first|exact bkn|(refine bkk ?_;intro h))))
          refine WL.idx TT (E := bpE) (Rd.slc (i := 2) rfl) rfl rfl (by rw [List.length_map]; omega) (by omega) (x := x.b) (by rw [Int.toNat_natCast, List.getElem?_map, hx]; rfl) rfl rfl rfl rfl (fun b4 o4 hA4 => ?_)
          refine WL.s (op1_at TT hA4 rfl rfl rfl rfl) rfl ?_
          repeat' (first|refine bk ?_|refine bkc ?_|refine bks ?_|refine bkq (fun q => ?_)|(refine bk2 ?_ ?_<;>(first|exact bkn|(refine bkk ?_;intro h))))
          refine WL.call c16 rfl rfl rfl rfl ((q_Log hx hx1.ok hx1.J.alive W0 _).pre (fun w hs => hs.front (i := 3) rfl)) ?_
          rintro _ _ ⟨A4, c4, rfl, rfl⟩
          have hok4 := hx1.J.ok.len
          have hB : hasB ep i z x.J = (decide (i < x.J.xs.length) && match x.J.xs[i]? with | some y => decide (y.s = z) | none => false) := by unfold hasB; rw [decide_eq_true hx3, Bool.true_and]; rfl
          repeat' (first|refine bk ?_|refine bkc ?_|refine bks ?_|refine bkq (fun q => ?_)|(refine bk2 ?_ ?_<;>(first|exact bkn|(refine bkk ?_;intro h))))
          · obtain ⟨e4, he4⟩ : ∃ e4, x.J.xs[i]? = some e4 := ⟨x.J.xs[i]'(by omega), List.getElem?_eq_getElem (by omega)⟩
            rw [he4, decide_eq_true (by omega), Bool.true_and] at hB
            simp only at hB
            refine WL.idx TT (E := entE) (Rd.slc (i := 1) rfl) rfl rfl rfl (by omega) (by rw [Int.toNat_natCast]; exact he4) rfl rfl rfl rfl (fun b5 o5 hA5 => ?_)
            repeat' (first|refine bk ?_|refine bkc ?_|refine bks ?_|refine bkq (fun q => ?_)|(refine bk2 ?_ ?_<;>(first|exact bkn|(refine bkk ?_;intro h))))
            refine WL.s (op1_atF TT 1 hA5 rfl rfl rfl rfl rfl) rfl ?_
            by_cases hez : e4.s = z
            · rw [decide_eq_true hez] at hB
              rw [hB, if_pos rfl] at hm1
              repeat' (first|refine bk ?_|refine bkc ?_|refine bks ?_|refine bkd ?_|refine bkq (fun q => ?_)|(refine bk2 ?_ ?_<;>(first|exact bkn|(refine bkk ?_;intro h))))
              all_goals first
                | (exfalso; exact absurd hez (by assumption))
                | (refine QS.again (y + 1) hyn (by show n - (y + 1) < n - y; omega) ⟨rfl, rfl, rfl, rfl, rfl, rfl, rfl, rfl, rfl, ?_, ?_, trivial⟩ (fun w hs => hs.ord 7 [3, 4, 5, 2, 6] rfl)
                   · rw [hm1, show ((manyM ep i z x2 y + 1 : Nat) : Int) = (manyM ep i z x2 y : Int) + 1 from by omega]; rfl
                   · rw [show ((y + 1 : Nat) : Int) = (y : Int) + 1 from by omega]; rfl)
            · rw [decide_eq_false hez] at hB
              rw [hB, if_neg (by decide)] at hm1
              repeat' (first|refine bk ?_|refine bkc ?_|refine bks ?_|refine bkd ?_|refine bkq (fun q => ?_)|(refine bk2 ?_ ?_<;>(first|exact bkn|(refine bkk ?_;intro h))))
              all_goals first
                | (exfalso; exact absurd (by assumption) hez)
                | (refine QS.again (y + 1) hyn (by show n - (y + 1) < n - y; omega) ⟨rfl, rfl, rfl, rfl, rfl, rfl, rfl, rfl, rfl, ?_, ?_, trivial⟩ (fun w hs => hs.ord 7 [3, 4, 5, 2, 6] rfl)
                   · rw [hm1]; rfl
                   · rw [show ((y + 1 : Nat) : Int) = (y : Int) + 1 from by omega]; rfl)
          · rw [decide_eq_false (by omega), Bool.false_and] at hB
            rw [hB, if_neg (by decide)] at hm1
            refine QS.again (y + 1) hyn (by show n - (y + 1) < n - y; omega) ⟨rfl, rfl, rfl, rfl, rfl, rfl, rfl, rfl, rfl, ?_, ?_, trivial⟩ (fun w hs => hs.ord 7 [3, 4, 5, 2, 6] rfl)
            · rw [hm1]; rfl
            · rw [show ((y + 1 : Nat) : Int) = (y : Int) + 1 from by omega]; rfl
        · obtain rfl : y = n := by omega
          repeat' (first|refine bk ?_|refine bkc ?_|refine bks ?_|refine bkd ?_|refine bkq (fun q => ?_)|(refine bk2 ?_ ?_<;>(first|exact bkn|(refine bkk ?_;intro h))))
          exact QS.met () trivial ⟨rfl, rfl, rfl, rfl, rfl, rfl, rfl, rfl, rfl, rfl, trivial⟩ (fun w hs => hs)
      rintro _ _
      have hn2 : (n : Int).tdiv 2 = (n : Int) / 2 := Int.tdiv_eq_ediv_of_nonneg (by omega)
      have hw2 : IntKind.i64.wrap (IntKind.i64.wrap ((n : Int).tdiv 2) + 1) = (n : Int) / 2 + 1 := by
        have h1 : IntKind.i64.wrap ((n : Int) / 2) = (n : Int) / 2 := w64 (by omega)
        have h2 : IntKind.i64.wrap ((n : Int) / 2 + 1) = (n : Int) / 2 + 1 := w64 (by omega)
        rw [hn2, h1, h2]
      repeat' (first|refine bk ?_|refine bkc ?_|refine bks ?_|refine bkq (fun q => ?_)|(refine bk2 ?_ ?_<;>(first|exact bkn|(refine bkk ?_;intro h))))
      refine WL.call c14 rfl rfl rfl rfl ((q_Many bq Aj n cj bm ⟨ep, ((i + 1 : Nat) : Int), false⟩ W0 _).pre (fun w hs => hs.front (i := 1) rfl)) ?_
      rintro _ _ ⟨rfl, rfl⟩
      repeat' (first|refine bk ?_|refine bkc ?_|refine bks ?_|refine bkd ?_|refine bkq (fun q => ?_)|(refine bk2 ?_ ?_<;>(first|exact bkn|(refine bkk ?_;intro h))))
      refine QS.again (i + 1, x2, m2) ⟨by simp only; omega, by simp only; omega, hH2, hl2, k2m⟩ (by simp only; omega) ⟨rfl, rfl, rfl, rfl, rfl, rfl, rfl, ?_, trivial⟩ (fun w hs => hs.front (i := 1) rfl)
      rw [show ((i + 1 : Nat) : Int) = (i : Int) + 1 from by omega]; rfl
end Go.Proofs.YtfolmcpfdcgliaaGreat.B

set_option linter.unusedVariables false
set_option linter.unusedSimpArgs false
set_option maxRecDepth 8000
/-! The rows' opening and closing. -/
namespace Go.Proofs.YtfolmcpfdcgliaaGreat.B
open Go Go.Proofs Go.ChangeShapes Go.WideShapes Go.ChangeAt Go.RowKit

section
variable {H : Type} {enc : TypeId × Value → H} {P : Program} {W W' : World}
theorem trodAll_below (hl : laidOutB P = true) (hb : Below W.heap.size W W') : ∀ {ts : List TypeId} {vs : List Value} {ds : List (DataW H)} {ps : List MemPlace}, (∀ t ∈ ts, P.readableRec t = true ∧ t < P.types.size) →
    DataW.TrodAll enc P W 0 (fun _ => true) true ts vs ds ps → (∀ x ∈ ps, x.block < W.heap.size) → DataW.TrodAll enc P W' 0 (fun b => decide (b < W.heap.size)) true ts vs ds ps
  | [], [], [], _, _, h, _ => h
  | _ :: _, _ :: _, _ :: _, _, ht, ⟨p, q, h1, h2, e⟩, hlt => by
    subst e
    have h3 := ht _ (List.mem_cons_self ..)
    exact ⟨p, q, Below.trod hl h3.1 h3.2 h1 hb (fun x hx => hlt x (List.mem_append_left _ hx)), trodAll_below hl hb (fun t h => ht t (List.mem_cons_of_mem _ h)) h2 (fun x hx => hlt x (List.mem_append_right _ hx)), rfl⟩
/-- A law's post, of a walk that leaves the old blocks alone. -/
theorem law_post {f : Func} {s : ChangeSpec} {fresh handsOn : Bool} {args : Array Value} {ds gs : List (DataW H)} {before : List MemPlace} {v : Value}
    (hl : laidOutB P = true) (hvars : s.vars = []) (ht : f.params.toList.all (fun t => P.readableRec t && decide (t < P.types.size)) = true)
    (hW : DataW.Whole enc P f.params.toList s.vars false W args.toList ds gs before) (hb : Below W.heap.size W W')
    (hres : DataW.TrodAll enc P W' (match fresh with | true => W.heap.size | false => 0) (fun _ => false) handsOn f.resultTypes.toList (v.resultList f.resultTypes.size) (s.fn H ds).results [])
    (hargs : (s.fn H ds).args = ds) (hv2 : (s.fn H ds).vars = []) : s.post enc P f false fresh handsOn false W args v W' := by
  have hlt := hW.lt
  have hW' := hW
  obtain ⟨p, q, hA, hV, rfl, hfz, hnd⟩ := hW
  rw [hvars] at hV
  obtain ⟨rfl, rfl⟩ := trodVars_none hV
  refine ⟨ds, [], p ++ [], [], p, [], hW', ?_, ?_, ?_, ?_, fun h => (by cases h)⟩
  · rw [List.append_nil]; exact hres
  · rw [List.append_nil, hargs]
    refine trodAll_below hl hb (fun t h => ?_) hA (fun x hx => hlt x (List.mem_append_left _ hx))
    have := List.all_eq_true.1 ht t h
    simpa using this
  · rw [List.append_nil, hvars, hv2]; rfl
  · exact hb.frame _
end
theorem spot_none {w : World} {a : Addr} {v : Value} (h : w.cell? a = some v) : a.spot = none := by
  unfold World.cell? at h
  split at h
  · cases hs : a.spot with
    | none => rfl
    | some x => rw [hs] at h; simp at h
  · cases h
theorem wf_i64 {n : Int} (h : (Lit.int .i64 n).wf = true) : I64 n := by
  unfold I64
  simp only [Lit.wf, Bool.and_eq_true, decide_eq_true_eq] at h
  exact h
theorem Rd.old {α : Type} {E : EncK α} {W : World} {A : Option Addr} {xs : List α} (h : RdC W A (flat E xs)) : Rd W [B.old W W.heap.size] E A xs := fun w hs => by
  have hb := hs.oldBelow rfl
  rcases h with h | ⟨b, o, rfl, hc⟩
  · exact .inl h
  · refine .inr ⟨b, o, rfl, fun j u hj => ?_⟩
    have h1 := hc j u hj
    have hlt := World.block_lt_of_cell? W ⟨b, o + j, none⟩ (u := u) h1
    rw [World.cell?_of_block (w := W) (hb.block b hlt)]
    exact h1
/-- A walk from the beginning, for a row. -/
theorem Fn.row {P : Program} {K : Nat} {vs : List Value} {W : World} {u : Value} (h : Fn P K vs W [B.old W W.heap.size] (Ret fun v G' => v = u ∧ G' = [B.old W W.heap.size])) :
    Calls P K vs.toArray W fun e w' => e = .returned u ∧ Below W.heap.size W w' := by
  refine (h W (Sat.start W)).mono ?_
  rintro e w' ⟨G', hR, hs⟩
  cases e with
  | returned v => obtain ⟨rfl, rfl⟩ := hR; exact ⟨rfl, hs.oldBelow rfl⟩
  | panicked ch => exact hR.elim
  | outgrown => exact hR.elim

theorem prog_own : ownKnob Tryz.prog.godebug = none := by kernel_rfl
theorem prog_laid : laidOutB Tryz.prog = true := by kernel_rfl
end Go.Proofs.YtfolmcpfdcgliaaGreat.B

set_option linter.unusedVariables false
set_option linter.unusedSimpArgs false
set_option maxRecDepth 8000
/-! Opening a slice of strings. -/
namespace Go.Proofs.YtfolmcpfdcgliaaGreat.B
open Go Go.Proofs Go.ChangeShapes Go.WideShapes Go.ChangeAt Go.RowKit
section
variable {H : Type} {enc : TypeId × Value → H} {w : World} {sp : Nat → Bool} {held : Bool}
/-- A slice of strings that can be read. -/
theorem open_strs {base : Nat} {r : Reach} {v : Value} {d : DataW H} {ps : List MemPlace} (hval : Value.okWide Tryz.prog w r base 43 v) (h : DataW.Trod enc Tryz.prog w 0 sp held 43 v d ps) :
    ∃ A k c xs, v = .slice A k c ∧ k = xs.length ∧ k ≤ c ∧ c ≤ maxLen ∧ RdC w A (flat strE xs) := by
  obtain ⟨A, k, c, rfl⟩ := okWide_slice Tryz.underlying43 hval
  obtain ⟨n, hf⟩ := h
  rcases open_strings Tryz.underlying43 Tryz.underlying9 (by kernel_rfl) hf with ⟨hcs, _⟩ | ⟨a, len, cap, ss, hcs, _, hl, hm, hz, _, hcell, _⟩
  · simp [Value.cells] at hcs
    obtain ⟨rfl, rfl, rfl⟩ := hcs
    exact ⟨none, 0, 0, [], rfl, rfl, Nat.le_refl _, by simp [maxLen], .inl rfl⟩
  · simp [Value.cells] at hcs
    obtain ⟨rfl, rfl, rfl⟩ := hcs
    have hsl : k ≤ ss.length := by rw [hz]; split <;> omega
    refine ⟨some a, k, c, ss.take k, rfl, by simp; omega, hl, hm, ?_⟩
    rcases Nat.eq_zero_or_pos k with h0 | h0
    · subst h0; exact .inl (by simp [flat])
    · have h1 := hcell 0 (by omega)
      have hsp : a.spot = none := by have := spot_none h1; simpa [Addr.add] using this
      obtain ⟨b, o, spt⟩ := a
      simp only at hsp
      subst hsp
      refine .inr ⟨b, o, rfl, fun j u hj => ?_⟩
      have hjl : j < (ss.take k).length * 1 := by
        have := (List.getElem?_eq_some_iff.1 hj).1
        rwa [flat_len] at this
      have hjk : j < k := by simp at hjl; omega
      have hg : (ss.take k)[j]? = some (ss.getD j ByteArray.empty) := by
        rw [List.getElem?_take, if_pos hjk, List.getD_eq_getElem?_getD, List.getElem?_eq_getElem (by omega)]; rfl
      have h3 := flat_get strE (ss.take k) j 0 _ (.string (ss.getD j ByteArray.empty)) hg rfl
      have ej : j * strE.sz + 0 = j := by show j * 1 + 0 = j; omega
      rw [ej, hj] at h3
      injection h3 with h3
      rw [h3]
      have := hcell j (by omega)
      rw [add_off] at this
      exact this
end
end Go.Proofs.YtfolmcpfdcgliaaGreat.B
