import Derived.Test.YtfolmcpfdcgliaaGreatMg48
import Derived.Test.YtfolmcpfdcgliaaGreatMg9
import Derived.Test.YtfolmcpfdcgliaaGreatMg18
import Derived.Test.YtfolmcpfdcgliaaGreatRows
import Derived.WalkKit
import Derived.ProofKit
import Derived.OpenShut
import Derived.JoinedCond
import Derived.Carry
import Derived.Lib.SmallJoins
import Derived.SliceStrings
import Derived.ChangeMaps5
set_option linter.unusedVariables false
set_option linter.unusedSimpArgs false
set_option maxRecDepth 8000
/-! QuorumFences: plain, and the walk. -/
namespace Go.Proofs.YtfolmcpfdcgliaaGreat.B
open Go Go.Proofs
theorem read_hu {J : Jn} {xs : List Nd} (h : Hu J 0 xs) (hn : 1 ≤ xs.length) {out : List Ent} {er : Int} (hr : ReadM xs [] out er) : er = 0 ∧ out = J.xs := by
  have hs : seenL [] xs xs.length = xs.map (fun _ => (J.e, J.xs)) := by
    refine range_map xs fun i x hx => ?_
    obtain ⟨h1, h2⟩ := h i x hx
    have hJ := h2 (Nat.zero_le _)
    have ha := h1.J.alive
    rw [hJ] at ha
    unfold seenM
    rw [hx]
    simp [fateM, ha, hJ]
  have hmost := most_pos hn
  unfold ReadM at hr
  rw [hs, List.length_map] at hr
  rcases hr with ⟨hr, _, _⟩ | ⟨_, h0, ls, hls, ho⟩
  · omega
  refine ⟨h0, ?_⟩
  have hll := congrArg List.length hls
  rw [List.length_map, List.length_map] at hll
  have hmem : ∀ y ∈ ls, y.e = J.e ∧ y.xs = J.xs := fun y hy => by
    have : lgOf y ∈ xs.map (fun _ => (J.e, J.xs)) := by rw [← hls]; exact List.mem_map_of_mem hy
    obtain ⟨z, _, hz⟩ := List.mem_map.1 this
    simp only [lgOf, Prod.mk.injEq] at hz
    exact ⟨hz.1.symm, hz.2.symm⟩
  have hcnt : ∀ k, k ≤ J.xs.length → cnt ls J.e k = ls.length := fun k hk => by
    unfold cnt
    rw [List.countP_eq_length]
    intro y hy
    obtain ⟨a, b⟩ := hmem y hy
    rw [a, b]
    simp [hk]
  rcases ho with ⟨hno, _⟩ | ⟨E, K, i, y, hC, rfl⟩
  · have := hno J.e
    rw [hcnt 0 (Nat.zero_le _)] at this
    omega
  · obtain ⟨a, b⟩ := hmem y (List.mem_of_getElem? hC.at_)
    have hE : E = J.e := by rw [← hC.is.1, a]
    have hK := hC.is.2
    have hk1 := hC.k1
    rw [b] at hK ⊢
    rw [hE] at hk1
    have : ¬ K + 1 ≤ J.xs.length := fun hh => by rw [hcnt _ hh] at hk1; omega
    rw [List.take_of_length_le (by omega)]
abbrev qz : ByteArray := ⟨#[122]⟩
attribute [local irreducible] WL CS QS WQ WH WS Fn Op1 row Sat
attribute [local irreducible] slc jA diskA mailA nodesA nodesX rjA refA rnodesA rnodesX rmailA
set_option maxHeartbeats 16000000 in
theorem law_QuorumFences (a b c0 : Int) (ha : I64 a) (hb : I64 b) (hc0 : I64 c0) (d : ByteArray) (hd : d.size ≤ 9223372036854775807) (Af : Option Addr) (kf cf : Nat) (fs : List Int) (hkf : kf = fs.length) (hcf : kf ≤ cf) (hmf : kf ≤ 9223372036854775807) (hI : ∀ x ∈ fs, I64 x) (W0 : World) (F : List SL) (hRf : Rd W0 F intE Af fs) :
    Fn Tryz.prog 5 [.int .i64 a, .int .i64 b, .int .i64 c0, .string d, .slice Af kf cf] W0 F (Ret fun v G' => v = .bool true ∧ G' = F) := by
  subst hkf
  refine Fn.enter Tryz.func5 rfl Tryz.ntmps5 rfl ?_
  repeat' (first|refine bk ?_|refine bkc ?_|refine bks ?_|refine bkd ?_|refine bkq (fun q => ?_)|(refine bk2 ?_ ?_<;>(first|exact bkn|(refine bkk ?_;intro h))))
  refine WL.call c8 rfl rfl rfl rfl (law_examples W0 _) ?_
  rintro _ G2 ⟨rfl, hG2⟩
  rw [hG2]; clear hG2 G2
  repeat' (first|refine bk ?_|refine bkc ?_|refine bks ?_|refine bkd ?_|refine bkq (fun q => ?_)|(refine bk2 ?_ ?_<;>(first|exact bkn|(refine bkk ?_;intro h))))
  refine WL.call c9 rfl rfl rfl rfl (law_pick a 5 ha (by decide) W0 _) ?_
  rintro _ G2 ⟨rfl, hG2⟩
  rw [hG2]; clear hG2 G2
  have hp := pickM_range (n := a) (m := 5) (by decide)
  obtain ⟨n, hn, hn1⟩ : ∃ n : Nat, 1 + pickM a 5 = (n : Int) ∧ 1 ≤ n ∧ n ≤ 5 := ⟨(1 + pickM a 5).toNat, by omega, by omega, by omega⟩
  obtain ⟨hn1, hn5⟩ := hn1
  repeat' (first|refine bk ?_|refine bkc ?_|refine bks ?_|refine bkd ?_|refine bkq (fun q => ?_)|(refine bk2 ?_ ?_<;>(first|exact bkn|(refine bkk ?_;intro h))))
  rw [hn]
  refine WL.call c10 rfl rfl rfl rfl (law_begun n hn5 W0 _) ?_
  rintro _ _ ⟨br, bm, bs, bn, ⟨xs, ys, Ad, cd, Aj, cj, Ax, cx, Ay, cy⟩, hN, hl, hly, rfl, rfl⟩
  simp only at hN hl hly ⊢
  refine WL.turn (G' := row br 35 (rlC Ad Aj n cd cj bm) :: jsA Aj cj bm xs [] F) (fun w hs => by rw [← hl]; exact hs.ord 10 [0, 2, 3, 4] rfl) ?_
  refine WL.fact (p := n ≤ cj) (fun w hs => by have := slc_cap (i := 1) rfl w hs; rw [List.length_map] at this; omega) (fun hcj => ?_)
  have k0 := (new0_hu hN).oks
  repeat' (first|refine bk ?_|refine bkc ?_|refine bks ?_|refine bkd ?_|refine bkq (fun q => ?_)|(refine bk2 ?_ ?_<;>(first|exact bkn|(refine bkk ?_;intro h))))
  refine WL.call c9 rfl rfl rfl rfl (law_pick b 1000000 hb (by decide) W0 _) ?_
  rintro _ G2 ⟨rfl, hG2⟩
  rw [hG2]; clear hG2 G2
  have hp2 := pickM_range (n := b) (m := 1000000) (by decide)
  obtain ⟨ep, hep⟩ : ∃ ep, ep = 1 + pickM b 1000000 := ⟨_, rfl⟩
  repeat' (first|refine bk ?_|refine bkc ?_|refine bks ?_|refine bkd ?_|refine bkq (fun q => ?_)|(refine bk2 ?_ ?_<;>(first|exact bkn|(refine bkk ?_;intro h))))
  rw [← hep]
  refine WL.call c9 rfl rfl rfl rfl (law_pick c0 1000000 hc0 (by decide) W0 _) ?_
  rintro _ G2 ⟨rfl, hG2⟩
  rw [hG2]; clear hG2 G2
  have hp3 := pickM_range (n := c0) (m := 1000000) (by decide)
  obtain ⟨nx, hnx⟩ : ∃ nx, nx = ep + 1 + pickM c0 1000000 := ⟨_, rfl⟩
  repeat' (first|refine bk ?_|refine bkc ?_|refine bks ?_|refine bkq (fun q => ?_)|(refine bk2 ?_ ?_<;>(first|exact bkn|(refine bkk ?_;intro h))))
  rw [← hnx]
  have he1 : 1 ≤ ep ∧ ep < nx ∧ nx ≤ 9007199254740991 := by omega
  have heI : I64 ep := by unfold I64; omega
  have hnI : I64 nx := by unfold I64; omega
  clear hep hnx hp2 hp3
  obtain ⟨x1, m1, e1, h1, l1⟩ := begin_ok (new0_hu hN) (FD.nil _) (by simpa using FD.nil xs.length) (ep := ep) (by show (0 : Int) < ep; omega) he1.1 (by omega) [] (by omega) (by omega)
  have e1 : beginM ⟨0, 0, false⟩ xs [] ep [] = ⟨[], 0, ⟨ep, 0, false⟩, x1, m1⟩ := e1
  have h1 : Hu ⟨ep, ep, [], false⟩ 0 x1 := h1
  have k1 := begin_ok2 (w := ⟨0, 0, false⟩) k0 (m := []) (by decide) ep []
  rw [e1] at k1
  rw [hl] at l1
  obtain ⟨x2, m2, e2, h2, l2⟩ := write_ok h1 (FD.nil _) (ep := ep) rfl rfl he1.1 (s := qx) (by decide) (by show (0 : Nat) < 300; decide) m1 (by omega) (by omega)
  have e2 : writeM ⟨ep, 0, false⟩ x1 m1 qx [] = ⟨[], 0, ⟨ep, 1, false⟩, x2, m2⟩ := e2
  have h2 : Hu ⟨ep, ep, [⟨1, qx⟩], false⟩ 0 x2 := h2
  have k2 := write_ok2 (w := ⟨ep, 0, false⟩) k1.1 k1.2.2.2.1 qx []
  rw [e2] at k2
  rw [l1] at l2
  obtain ⟨x3, m3, e3, h3, l3⟩ := begin_ok h2 (FD.nil _) (by simpa using FD.nil x2.length) (ep := nx) (by show ep < nx; omega) (by omega) he1.2.2 m2 (by omega) (by omega)
  have e3 : beginM ⟨0, 0, false⟩ x2 m2 nx [] = ⟨[⟨1, qx⟩], 0, ⟨nx, 1, false⟩, x3, m3⟩ := e3
  have h3 : Hu ⟨nx, nx, [⟨1, qx⟩], false⟩ 0 x3 := h3
  have k3 := begin_ok2 (w := ⟨0, 0, false⟩) k2.1 k2.2.2.2.1 nx []
  rw [e3] at k3
  rw [l2] at l3
  obtain ⟨er4, x4, m4, he4, e4, h4, l4⟩ := begin_late h3 fs (ep := nx) (Int.le_refl _) (by omega) he1.2.2 m3
  have k4 := begin_ok2 (w := ⟨0, 0, false⟩) k3.1 k3.2.2.2.1 nx fs
  rw [e4] at k4
  rw [l3] at l4
  have hne4 : x4 ≠ [] := fun h => by rw [h] at l4; simp at l4; omega
  -- the one ahead of it writes
  obtain ⟨er5, w5, x5, m5, er6, w6, x6, m6, e5, h5, l5, hr5, e6, h6, l6, hr6, hw5n, hw5⟩ : ∃ er5 w5 x5 m5 er6 w6 x6 m6,
      writeM ⟨ep, 1, false⟩ x4 m4 d fs = ⟨[], er5, w5, x5, m5⟩ ∧ Hu ⟨nx, nx, [⟨1, qx⟩], false⟩ 0 x5 ∧ x5.length = n ∧ er5 ≠ 0 ∧
      writeM w5 x5 m5 qy [] = ⟨[], er6, w6, x6, m6⟩ ∧ Hu ⟨nx, nx, [⟨1, qx⟩], false⟩ 0 x6 ∧ x6.length = n ∧ (600 < d.size ∨ er6 = 14) ∧ (0 ≤ w5.n ∧ w5.n ≤ 300) ∧ I64 w5.e := by
    by_cases hd6 : d.size ≤ 600
    · obtain ⟨er5, x5, m5, he5, e5, h5, l5⟩ := write_late h4 fs (ep := ep) (n := 1) (by show ep < nx; omega) he1.1 (by decide) hd6 hne4 m4
      rw [l4] at l5
      have e6 : writeM ⟨0, 0, true⟩ x5 m5 qy [] = ⟨[], 14, ⟨0, 0, true⟩, x5, m5⟩ := by unfold writeM; rw [if_pos (.inl rfl)]
      exact ⟨er5, _, x5, m5, 14, _, x5, m5, e5, h5, l5, by rcases he5 with rfl | rfl <;> decide, e6, h5, l5, .inr rfl, by decide, by unfold I64; decide⟩
    · have e5 : writeM ⟨ep, 1, false⟩ x4 m4 d fs = ⟨[], 1, ⟨ep, 1, false⟩, x4, m4⟩ := by
        unfold writeM
        rw [if_neg (fun h => h.elim (fun h => by cases h) (fun h => by simp only at h; omega)), if_pos (by omega)]
      obtain ⟨er6, x6, m6, he6, e6, h6, l6⟩ := write_late h4 [] (ep := ep) (n := 1) (by show ep < nx; omega) he1.1 (by decide) (s := qy) (by decide) hne4 m4
      rw [l4] at l6
      exact ⟨1, _, x4, m4, er6, _, x6, m6, e5, h4, l4, by decide, e6, h6, l6, .inl (by omega), by show (0 : Int) ≤ 1 ∧ (1 : Int) ≤ 300; decide, heI⟩
  have k5 := write_ok2 (w := ⟨ep, 1, false⟩) k4.1 k4.2.2.2.1 d fs
  rw [e5] at k5
  have k6 := write_ok2 (w := w5) k5.1 k5.2.2.2.1 qy []
  rw [e6] at k6
  obtain ⟨x7, m7, e7, h7, l7⟩ := write_ok h6 (FD.nil _) (ep := nx) rfl rfl (by omega) (s := qz) (by decide) (by show (1 : Nat) < 300; decide) m6 (by omega) (by omega)
  have e7 : writeM ⟨nx, 1, false⟩ x6 m6 qz [] = ⟨[], 0, ⟨nx, 2, false⟩, x7, m7⟩ := e7
  have h7 : Hu ⟨nx, nx, [⟨1, qx⟩, ⟨2, qz⟩], false⟩ 0 x7 := h7
  have k7 := write_ok2 (w := ⟨nx, 1, false⟩) k6.1 k6.2.2.2.1 qz []
  rw [e7] at k7
  rw [l6] at l7
  have hr4 : ¬ er4 = 0 := by rcases he4 with h | h <;> omega
  have hr5 : ¬ er5 = 0 := hr5
  repeat' (first|refine bk ?_|refine bkc ?_|refine bks ?_|refine bkq (fun q => ?_)|(refine bk2 ?_ ?_<;>(first|exact bkn|(refine bkk ?_;intro h))))
  refine CS.drawT 8 mixed (by kernel_rfl) rfl ?_
  repeat' (first|refine bk ?_|refine bkc ?_|refine bks ?_|refine bkd ?_|refine bkh ?_|refine bkq (fun q => ?_)|((first|refine bk2 ?_ ?_|refine bk2h ?_ ?_)<;>(first|exact bkn|(refine bkk ?_;intro h))))
  refine WL.call c11 rfl rfl rfl rfl (q_New Aj n cj bm hn5 hcj W0 _) ?_
  rintro _ _ ⟨bp, rfl, rfl⟩
  repeat' (first|refine bk ?_|refine bkc ?_|refine bks ?_|refine bkq (fun q => ?_)|(refine bk2 ?_ ?_<;>(first|exact bkn|(refine bkk ?_;intro h))))
  refine CS.drawT 8 mixed (by kernel_rfl) rfl ?_
  repeat' (first|refine bk ?_|refine bkc ?_|refine bks ?_|refine bkd ?_|refine bkh ?_|refine bkq (fun q => ?_)|((first|refine bk2 ?_ ?_|refine bk2h ?_ ?_)<;>(first|exact bkn|(refine bkk ?_;intro h))))
  refine WL.call c11 rfl rfl rfl rfl (q_New Aj n cj bm hn5 hcj W0 _) ?_
  rintro _ _ ⟨bq, rfl, rfl⟩
  repeat' (first|refine bk ?_|refine bkc ?_|refine bks ?_|refine bkq (fun q => ?_)|(refine bk2 ?_ ?_<;>(first|exact bkn|(refine bkk ?_;intro h))))
  refine CS.drawT 8 mixed (by kernel_rfl) rfl ?_
  repeat' (first|refine bk ?_|refine bkc ?_|refine bks ?_|refine bkd ?_|refine bkh ?_|refine bkq (fun q => ?_)|((first|refine bk2 ?_ ?_|refine bk2h ?_ ?_)<;>(first|exact bkn|(refine bkk ?_;intro h))))
  refine WL.call c11 rfl rfl rfl rfl (q_New Aj n cj bm hn5 hcj W0 _) ?_
  rintro _ _ ⟨b3, rfl, rfl⟩
  repeat' (first|refine bk ?_|refine bkc ?_|refine bks ?_|refine bkq (fun q => ?_)|(refine bk2 ?_ ?_<;>(first|exact bkn|(refine bkk ?_;intro h))))
  refine WL.call c12 rfl rfl rfl rfl ((q_Begin2 (bq := bp) (Aj := Aj) (cj := cj) (bm := bm) (n := n) e1 hl k0 hn5 (by decide) heI (A := none) (k := 0) (c := 0) rfl (by decide) (by decide) (fun x hx => by cases hx) W0 (row bq 92 (wrC Aj n cj bm ⟨0, 0, false⟩) :: row b3 92 (wrC Aj n cj bm ⟨0, 0, false⟩) :: F) Rd.nil).pre (fun w hs => hs.ord 7 [2, 4, 5, 6, 1, 0] rfl)) ?_
  rintro _ _ ⟨Al1, cl1, rfl, rfl⟩
  repeat' (first|refine bk ?_|refine bkc ?_|refine bks ?_|refine bkq (fun q => ?_)|(refine bk2 ?_ ?_<;>(first|exact bkn|(refine bkk ?_;intro h))))
  refine WL.call c13 rfl rfl rfl rfl ((q_Write2 (bq := bp) (Aj := Aj) (cj := cj) (bm := bm) (n := n) e2 l1 k1.1 hn5 k1.2.2.2.1 (by show (0 : Int) ≤ 0 ∧ (0 : Int) ≤ 9223372036854775807; decide) heI (by decide) (A := none) (k := 0) (c := 0) rfl (fun x hx => by cases hx) W0 (row bq 92 (wrC Aj n cj bm ⟨0, 0, false⟩) :: row b3 92 (wrC Aj n cj bm ⟨0, 0, false⟩) :: F) Rd.nil).pre (fun w hs => hs.drop)) ?_
  rintro _ _ ⟨rfl, rfl⟩
  repeat' (first|refine bk ?_|refine bkc ?_|refine bks ?_|refine bkq (fun q => ?_)|(refine bk2 ?_ ?_<;>(first|exact bkn|(refine bkk ?_;intro h))))
  refine WL.call c12 rfl rfl rfl rfl ((q_Begin2 (bq := bq) (Aj := Aj) (cj := cj) (bm := bm) (n := n) e3 l2 k2.1 hn5 k2.2.2.2.1 hnI (A := none) (k := 0) (c := 0) rfl (by decide) (by decide) (fun x hx => by cases hx) W0 (row bp 92 (wrC Aj n cj bm ⟨ep, 1, false⟩) :: row b3 92 (wrC Aj n cj bm ⟨0, 0, false⟩) :: F) Rd.nil).pre (fun w hs => hs.ord 6 [4, 1, 2, 3, 0, 5] rfl)) ?_
  rintro _ _ ⟨Al3, cl3, rfl, rfl⟩
  repeat' (first|refine bk ?_|refine bkc ?_|refine bks ?_|refine bkq (fun q => ?_)|(refine bk2 ?_ ?_<;>(first|exact bkn|(refine bkk ?_;intro h))))
  refine WL.idx TT (E := entE) (xs := [⟨1, qx⟩]) (Rd.slc (i := 0) rfl) rfl rfl rfl (by decide) (x := ⟨1, qx⟩) rfl rfl rfl rfl rfl (fun b4 o4 hA4 => ?_)
  repeat' (first|refine bk ?_|refine bkc ?_|refine bks ?_|refine bkq (fun q => ?_)|(refine bk2 ?_ ?_<;>(first|exact bkn|(refine bkk ?_;intro h))))
  refine WL.s (op1_atF TT 1 hA4 rfl rfl rfl rfl rfl) rfl ?_
  repeat' (first|refine bk ?_|refine bkc ?_|refine bks ?_|refine bkq (fun q => ?_)|(refine bk2 ?_ ?_<;>(first|exact bkn|(refine bkk ?_;intro h))))
  refine WL.call c12 rfl rfl rfl rfl ((q_Begin2 (bq := b3) (Aj := Aj) (cj := cj) (bm := bm) (n := n) e4 l3 k3.1 hn5 k3.2.2.2.1 hnI (A := Af) (k := fs.length) (c := cf) rfl hcf hmf hI W0 (row bq 92 (wrC Aj n cj bm ⟨nx, 1, false⟩) :: row bp 92 (wrC Aj n cj bm ⟨ep, 1, false⟩) :: F) hRf.cons.cons).pre (fun w hs => hs.ord 7 [6, 2, 3, 4, 1, 5] rfl)) ?_
  rintro _ _ ⟨Al4, cl4, rfl, rfl⟩
  repeat' (first|refine bk ?_|refine bkc ?_|refine bks ?_|refine bkq (fun q => ?_)|(refine bk2 ?_ ?_<;>(first|exact bkn|(refine bkk ?_;intro h))))
  refine WL.call c13 rfl rfl rfl rfl ((q_Write2 (bq := bp) (Aj := Aj) (cj := cj) (bm := bm) (n := n) e5 l4 k4.1 hn5 k4.2.2.2.1 (by show (0 : Int) ≤ 1 ∧ (1 : Int) ≤ 9223372036854775807; decide) heI hd (A := Af) (k := fs.length) (c := cf) rfl hI W0 (row bq 92 (wrC Aj n cj bm ⟨nx, 1, false⟩) :: row b3 92 (wrC Aj n cj bm ⟨0, 0, true⟩) :: F) hRf.cons.cons).pre (fun w hs => hs.ord 7 [6, 2, 3, 4, 5, 1] rfl)) ?_
  rintro _ _ ⟨rfl, rfl⟩
  repeat' (first|refine bk ?_|refine bkc ?_|refine bks ?_|refine bkq (fun q => ?_)|(refine bk2 ?_ ?_<;>(first|exact bkn|(refine bkk ?_;intro h))))
  refine WL.call c13 rfl rfl rfl rfl ((q_Write2 (bq := bp) (Aj := Aj) (cj := cj) (bm := bm) (n := n) e6 l5 k5.1 hn5 k5.2.2.2.1 (by omega) hw5 (by decide) (A := none) (k := 0) (c := 0) rfl (fun x hx => by cases hx) W0 (row bq 92 (wrC Aj n cj bm ⟨nx, 1, false⟩) :: row b3 92 (wrC Aj n cj bm ⟨0, 0, true⟩) :: F) Rd.nil).pre (fun w hs => hs)) ?_
  rintro _ _ ⟨rfl, rfl⟩
  repeat' (first|refine bk ?_|refine bkc ?_|refine bks ?_|refine bkq (fun q => ?_)|(refine bk2 ?_ ?_<;>(first|exact bkn|(refine bkk ?_;intro h))))
  refine WL.call c13 rfl rfl rfl rfl ((q_Write2 (bq := bq) (Aj := Aj) (cj := cj) (bm := bm) (n := n) e7 l6 k6.1 hn5 k6.2.2.2.1 (by show (0 : Int) ≤ 1 ∧ (1 : Int) ≤ 9223372036854775807; decide) hnI (by decide) (A := none) (k := 0) (c := 0) rfl (fun x hx => by cases hx) W0 (row bp 92 (wrC Aj n cj bm w6) :: row b3 92 (wrC Aj n cj bm ⟨0, 0, true⟩) :: F) Rd.nil).pre (fun w hs => hs.ord 6 [4, 1, 2, 3, 0, 5] rfl)) ?_
  rintro _ _ ⟨rfl, rfl⟩
  have hc := q_Read bq Aj cj bm ⟨nx, 2, false⟩ x7 k7.1 (by omega) none 0 0 [] rfl (fun x hx => by cases hx) W0 (mailA bm m7 :: row bp 92 (wrC Aj n cj bm w6) :: row b3 92 (wrC Aj n cj bm ⟨0, 0, true⟩) :: F) Rd.nil
  rw [l7] at hc
  repeat' (first|refine bk ?_|refine bkc ?_|refine bks ?_|refine bkq (fun q => ?_)|(refine bk2 ?_ ?_<;>(first|exact bkn|(refine bkk ?_;intro h))))
  refine WL.call c17 rfl rfl rfl rfl hc ?_
  clear hc
  rintro _ _ ⟨out, er, Al8, cl8, hrd, rfl, rfl⟩
  obtain ⟨hr8, hout⟩ := read_hu h7 (by omega) hrd
  have hout : out = [⟨1, qx⟩, ⟨2, qz⟩] := hout
  subst hr8; subst hout
  rcases hr6 with hd6 | rfl
  · have hdd : (600 : Int) < (d.size : Int) := by omega
    repeat' (first|refine bk ?_|refine bkc ?_|refine bks ?_|refine bkq (fun q => ?_)|(refine bk2 ?_ ?_<;>(first|exact bkn|(refine bkk ?_;intro h))))
    refine WL.idx TT (E := entE) (xs := [⟨1, qx⟩, ⟨2, qz⟩]) (Rd.slc (i := 0) rfl) rfl rfl rfl (by decide) (x := ⟨2, qz⟩) rfl rfl rfl rfl rfl (fun b4 o4 hA4 => ?_)
    repeat' (first|refine bk ?_|refine bkc ?_|refine bks ?_|refine bkq (fun q => ?_)|(refine bk2 ?_ ?_<;>(first|exact bkn|(refine bkk ?_;intro h))))
    refine WL.s (op1_atF TT 1 hA4 rfl rfl rfl rfl rfl) rfl ?_
    repeat' (first|refine bk ?_|refine bkc ?_|refine bks ?_|refine bkd ?_|refine bkq (fun q => ?_)|(refine bk2 ?_ ?_<;>(first|exact bkn|(refine bkk ?_;intro h))))
    exact QS.turn (G' := F) (fun w hs => hs.ord 7 [] rfl) (QS.retV Tryz.results5 rfl ⟨rfl, rfl⟩)
  · repeat' (first|refine bk ?_|refine bkc ?_|refine bks ?_|refine bkq (fun q => ?_)|(refine bk2 ?_ ?_<;>(first|exact bkn|(refine bkk ?_;intro h))))
    by_cases hd6 : (600 : Int) < (d.size : Int)
    all_goals
      try (repeat' (first|refine bk ?_|refine bkc ?_|refine bks ?_|refine bkq (fun q => ?_)|(refine bk2 ?_ ?_<;>(first|exact bkn|(refine bkk ?_;intro h)))))
      refine WL.idx TT (E := entE) (xs := [⟨1, qx⟩, ⟨2, qz⟩]) (Rd.slc (i := 0) rfl) rfl rfl rfl (by decide) (x := ⟨2, qz⟩) rfl rfl rfl rfl rfl (fun b4 o4 hA4 => ?_)
      repeat' (first|refine bk ?_|refine bkc ?_|refine bks ?_|refine bkq (fun q => ?_)|(refine bk2 ?_ ?_<;>(first|exact bkn|(refine bkk ?_;intro h))))
      refine WL.s (op1_atF TT 1 hA4 rfl rfl rfl rfl rfl) rfl ?_
      repeat' (first|refine bk ?_|refine bkc ?_|refine bks ?_|refine bkd ?_|refine bkq (fun q => ?_)|(refine bk2 ?_ ?_<;>(first|exact bkn|(refine bkk ?_;intro h))))
      exact QS.turn (G' := F) (fun w hs => hs.ord 7 [] rfl) (QS.retV Tryz.results5 rfl ⟨rfl, rfl⟩)
end Go.Proofs.YtfolmcpfdcgliaaGreat.B

set_option linter.unusedVariables false
set_option linter.unusedSimpArgs false
set_option maxRecDepth 8000
/-! The rows' opening and closing. -/
namespace Go.Proofs.YtfolmcpfdcgliaaGreat.B
open Go Go.Proofs Go.ChangeShapes Go.WideShapes Go.ChangeAt Go.RowKit

section
variable {H : Type} {enc : TypeId × Value → H} {P : Program} {W W' : World}
theorem trodAll_below (hl : laidOutB P = true) (hb : Below W.heap.size W W') : ∀ {ts : List TypeId} {vs : List Value} {ds : List (DataW H)} {ps : List MemPlace}, (∀ t ∈ ts, P.readableRec t = true ∧ t < P.types.size) →
    DataW.TrodAll enc P W 0 (fun _ => true) true ts vs ds ps → (∀ x ∈ ps, x.block < W.heap.size) → DataW.TrodAll enc P W' 0 (fun b => decide (b < W.heap.size)) true ts vs ds ps
  | [], [], [], _, _, h, _ => h
  | _ :: _, _ :: _, _ :: _, _, ht, ⟨p, q, h1, h2, e⟩, hlt => by
    subst e
    have h3 := ht _ (List.mem_cons_self ..)
    exact ⟨p, q, Below.trod hl h3.1 h3.2 h1 hb (fun x hx => hlt x (List.mem_append_left _ hx)), trodAll_below hl hb (fun t h => ht t (List.mem_cons_of_mem _ h)) h2 (fun x hx => hlt x (List.mem_append_right _ hx)), rfl⟩
/-- A law's post, of a walk that leaves the old blocks alone. -/
theorem law_post {f : Func} {s : ChangeSpec} {fresh handsOn : Bool} {args : Array Value} {ds gs : List (DataW H)} {before : List MemPlace} {v : Value}
    (hl : laidOutB P = true) (hvars : s.vars = []) (ht : f.params.toList.all (fun t => P.readableRec t && decide (t < P.types.size)) = true)
    (hW : DataW.Whole enc P f.params.toList s.vars false W args.toList ds gs before) (hb : Below W.heap.size W W')
    (hres : DataW.TrodAll enc P W' (match fresh with | true => W.heap.size | false => 0) (fun _ => false) handsOn f.resultTypes.toList (v.resultList f.resultTypes.size) (s.fn H ds).results [])
    (hargs : (s.fn H ds).args = ds) (hv2 : (s.fn H ds).vars = []) : s.post enc P f false fresh handsOn false W args v W' := by
  have hlt := hW.lt
  have hW' := hW
  obtain ⟨p, q, hA, hV, rfl, hfz, hnd⟩ := hW
  rw [hvars] at hV
  obtain ⟨rfl, rfl⟩ := trodVars_none hV
  refine ⟨ds, [], p ++ [], [], p, [], hW', ?_, ?_, ?_, ?_, fun h => (by cases h)⟩
  · rw [List.append_nil]; exact hres
  · rw [List.append_nil, hargs]
    refine trodAll_below hl hb (fun t h => ?_) hA (fun x hx => hlt x (List.mem_append_left _ hx))
    have := List.all_eq_true.1 ht t h
    simpa using this
  · rw [List.append_nil, hvars, hv2]; rfl
  · exact hb.frame _
end
theorem spot_none {w : World} {a : Addr} {v : Value} (h : w.cell? a = some v) : a.spot = none := by
  unfold World.cell? at h
  split at h
  · cases hs : a.spot with
    | none => rfl
    | some x => rw [hs] at h; simp at h
  · cases h
theorem wf_i64 {n : Int} (h : (Lit.int .i64 n).wf = true) : I64 n := by
  unfold I64
  simp only [Lit.wf, Bool.and_eq_true, decide_eq_true_eq] at h
  exact h
theorem Rd.old {α : Type} {E : EncK α} {W : World} {A : Option Addr} {xs : List α} (h : RdC W A (flat E xs)) : Rd W [B.old W W.heap.size] E A xs := fun w hs => by
  have hb := hs.oldBelow rfl
  rcases h with h | ⟨b, o, rfl, hc⟩
  · exact .inl h
  · refine .inr ⟨b, o, rfl, fun j u hj => ?_⟩
    have h1 := hc j u hj
    have hlt := World.block_lt_of_cell? W ⟨b, o + j, none⟩ (u := u) h1
    rw [World.cell?_of_block (w := W) (hb.block b hlt)]
    exact h1
/-- A walk from the beginning, for a row. -/
theorem Fn.row {P : Program} {K : Nat} {vs : List Value} {W : World} {u : Value} (h : Fn P K vs W [B.old W W.heap.size] (Ret fun v G' => v = u ∧ G' = [B.old W W.heap.size])) :
    Calls P K vs.toArray W fun e w' => e = .returned u ∧ Below W.heap.size W w' := by
  refine (h W (Sat.start W)).mono ?_
  rintro e w' ⟨G', hR, hs⟩
  cases e with
  | returned v => obtain ⟨rfl, rfl⟩ := hR; exact ⟨rfl, hs.oldBelow rfl⟩
  | panicked ch => exact hR.elim
  | outgrown => exact hR.elim

theorem prog_own : ownKnob Tryz.prog.godebug = none := by kernel_rfl
theorem prog_laid : laidOutB Tryz.prog = true := by kernel_rfl
end Go.Proofs.YtfolmcpfdcgliaaGreat.B

set_option linter.unusedVariables false
set_option linter.unusedSimpArgs false
set_option maxRecDepth 8000
/-! Opening a slice of integers. -/
namespace Go.Proofs.YtfolmcpfdcgliaaGreat.B
open Go Go.Proofs Go.ChangeShapes Go.WideShapes Go.ChangeAt Go.RowKit
section
variable {H : Type} {enc : TypeId × Value → H} {w : World} {sp : Nat → Bool} {held : Bool}
theorem open_intsR {base : Nat} {r : Reach} {v : Value} {d : DataW H} {ps : List MemPlace} (hval : Value.okWide Tryz.prog w r base 28 v) (h : DataW.Trod enc Tryz.prog w 0 sp held 28 v d ps) :
    ∃ A k c xs, v = .slice A k c ∧ k = xs.length ∧ k ≤ c ∧ c ≤ maxLen ∧ RdC w A (flat intE xs) ∧ ∀ x ∈ xs, I64 x := by
  obtain ⟨A, k, c, rfl⟩ := okWide_slice Tryz.underlying28 hval
  obtain ⟨n, hf⟩ := h
  rcases open_ints Tryz.underlying28 Tryz.underlying3 (by kernel_rfl) hf with ⟨hcs, _⟩ | ⟨a, len, cap, ss, hcs, _, hl, hm, hz, _, hcell, hwf⟩
  · simp [Value.cells] at hcs
    obtain ⟨rfl, rfl, rfl⟩ := hcs
    exact ⟨none, 0, 0, [], rfl, rfl, Nat.le_refl _, by simp [maxLen], .inl rfl, fun x hx => by cases hx⟩
  · simp [Value.cells] at hcs
    obtain ⟨rfl, rfl, rfl⟩ := hcs
    have hsl : k ≤ ss.length := by rw [hz]; split <;> omega
    refine ⟨some a, k, c, ss.take k, rfl, by simp; omega, hl, hm, ?_, fun x hx => wf_i64 (hwf x (List.mem_of_mem_take hx))⟩
    rcases Nat.eq_zero_or_pos k with h0 | h0
    · subst h0; exact .inl (by simp [flat])
    · have h1 := hcell 0 (by omega)
      have hsp : a.spot = none := by have := spot_none h1; simpa [Addr.add] using this
      obtain ⟨b, o, spt⟩ := a
      simp only at hsp
      subst hsp
      refine .inr ⟨b, o, rfl, fun j u hj => ?_⟩
      have hjl : j < (ss.take k).length * 1 := by
        have := (List.getElem?_eq_some_iff.1 hj).1
        rwa [flat_len] at this
      have hjk : j < k := by simp at hjl; omega
      have hg : (ss.take k)[j]? = some (ss.getD j 0) := by
        rw [List.getElem?_take, if_pos hjk, List.getD_eq_getElem?_getD, List.getElem?_eq_getElem (by omega)]; rfl
      have h3 := flat_get intE (ss.take k) j 0 _ (.int .i64 (ss.getD j 0)) hg rfl
      have ej : j * intE.sz + 0 = j := by show j * 1 + 0 = j; omega
      rw [ej, hj] at h3
      injection h3 with h3
      rw [h3]
      have := hcell j (by omega)
      rw [add_off] at this
      exact this
end
end Go.Proofs.YtfolmcpfdcgliaaGreat.B
