import Derived.Test.YtpklbelejebcfaaLw
import Derived.Test.YtpklbelejebcfaaTr
set_option linter.unusedVariables false
set_option linter.unusedSimpArgs false
set_option linter.unusedSectionVars false
set_option maxRecDepth 8000
/-! LogAdded: the walk. -/
namespace Go.Proofs.Ytpklbelejebcfaa.B
open Go Go.Proofs
attribute [local irreducible] WL CS QS WQ WH WS Fn Op1 row Sat
attribute [local irreducible] diskA slc

theorem entE_one (x : Ent) : flat entE [x] = [.int .i64 x.n, .string x.s] := rfl
set_option maxHeartbeats 8000000 in
theorem law_LogAdded (A C : Option Addr) (k c k3 c3 : Nat) (ds : List ByteArray) (s : ByteArray) (hs : s.size ≤ 9223372036854775807) (zs : List Int) (hk : k = ds.length) (hk3 : k3 = zs.length) (hkm : k3 ≤ 9223372036854775807) (hz : ∀ x ∈ zs, I64 x) (n : Int) (hn : I64 n) (W0 : World) (G : List SL) (hR : Rd W0 G strE A ds) (hR3 : Rd W0 G intE C zs) :
    Fn Try.prog 9 [.slice A k c, .string s, .int .i64 n, .slice C k3 c3] W0 G (Ret fun v G' => v = .bool true ∧ G' = G) := by
  subst hk3
  refine Fn.enter Try.func9 rfl Try.ntmps9 rfl ?_
  have okA := ofM_ok 1 ds
  have lA := logB_short okA (ofM_len ds)
  have hlA := ofM_len ds
  have mA := mk_size (logB (pickM 1 1000) (ofM ds))
  repeat' (first|refine bk ?_|refine bkc ?_|refine bks ?_|refine bkd ?_|refine bkq (fun q => ?_)|(refine bk2 ?_ ?_<;>(first|exact bkn|(refine bkk ?_;intro h))))
  refine WL.call c10 rfl rfl rfl rfl (law_examples W0 _) ?_
  rintro _ G2 ⟨rfl, hG2⟩
  rw [hG2]; clear hG2 G2
  repeat' (first|refine bk ?_|refine bkc ?_|refine bks ?_|refine bkd ?_|refine bkq (fun q => ?_)|(refine bk2 ?_ ?_<;>(first|exact bkn|(refine bkk ?_;intro h))))
  refine WL.call c15 rfl rfl rfl rfl (disk_New 400000 W0 _) ?_
  rintro _ _ ⟨b, rfl, rfl⟩
  repeat' (first|refine bk ?_|refine bkc ?_|refine bks ?_|refine bkd ?_|refine bkq (fun q => ?_)|(refine bk2 ?_ ?_<;>(first|exact bkn|(refine bkk ?_;intro h))))
  refine WL.call c22 rfl rfl rfl rfl (law_of 1 (by unfold I64; decide) A k c ds hk W0 _ hR.cons) ?_
  rintro _ _ ⟨A1, c1, rfl, rfl⟩
  repeat' (first|refine bk ?_|refine bkc ?_|refine bks ?_|refine bkd ?_|refine bkq (fun q => ?_)|(refine bk2 ?_ ?_<;>(first|exact bkn|(refine bkk ?_;intro h))))
  revert q; intro q1
  refine WL.call c22 rfl rfl rfl rfl (law_of 1 (by unfold I64; decide) A k c ds hk W0 _ hR.cons.cons.cons) ?_
  rintro _ _ ⟨A2, c4, rfl, rfl⟩
  repeat' (first|refine bk ?_|refine bkc ?_|refine bks ?_|refine bkq (fun q => ?_)|(refine bk2 ?_ ?_<;>(first|exact bkn|(refine bkk ?_;intro h))))
  revert q; intro q2
  refine CS.drawA _ (fun w hs => hs) mixed (by kernel_rfl) rfl ?_
  repeat' (first|refine bka ?_|(refine bk2a ?_ ?_<;>(first|exact bkn|(refine bkk ?_;intro h))))
  rw [show (if (100 : Int) < (s.size : Int) then (100 : Int) else (s.size : Int)) = ((min s.size 100 : Nat) : Int) from by split <;> omega]
  refine WA.s rfl rfl (by kernel_rfl) rfl (op1_slice TT (l := 0) (r := ((min s.size 100 : Nat) : Int)) (s := s) rfl rfl rfl rfl ⟨by omega, by omega, by omega⟩) rfl ?_
  rw [show s.extract (Int.toNat 0) ((min s.size 100 : Nat) : Int).toNat = cutB s 100 from rfl]
  have hts := cutB_size s 100
  generalize cutB s 100 = tx at hts ⊢
  repeat' (first|refine bka ?_|(refine bk2a ?_ ?_<;>(first|exact bkn|(refine bkk ?_;intro h))))
  refine WA.e1 10 (by kernel_rfl) (by kernel_rfl) rfl rfl (EffC.alloc TT rfl rfl) rfl ?_
  rintro _ _ ⟨q3, rfl, rfl⟩
  refine ⟨fun w hs => hs.drop, ?_⟩
  refine WA.e1 11 (by kernel_rfl) (by kernel_rfl) rfl rfl (EffC.store TT 0 rfl rfl rfl rfl rfl rfl rfl rfl rfl) rfl ?_
  rintro _ _ ⟨rfl, rfl⟩
  refine ⟨fun w hs => hs.drop, WA.fin rfl ?_⟩
  repeat' (first|refine bk ?_|refine bkc ?_|refine bks ?_|refine bkd ?_|refine bkq (fun q => ?_)|(refine bk2 ?_ ?_<;>(first|exact bkn|(refine bkk ?_;intro h))))
  obtain ⟨x, hx⟩ : ∃ x : Ent, x = ⟨((ofM ds).length : Int) + 1, tx⟩ := ⟨_, rfl⟩
  have hxn : x.n = ((ofM ds).length : Int) + 1 := by rw [hx]
  have hxs : x.s = tx := by rw [hx]
  have okB : logOk (pickM 1 1000) (ofM ds ++ [x]) = true := by
    obtain ⟨⟨h1, h2, h3⟩, h4⟩ := logOk_iff.1 okA
    refine logOk_iff.2 ⟨⟨h1, h2, by simp only [List.length_append, List.length_cons, List.length_nil]; omega⟩, ?_⟩
    rw [entsOk_snoc, h4, Bool.true_and, decide_eq_true_eq]
    exact ⟨by rw [hxn]; simp, by rw [hxs]; omega⟩
  refine WL.buildSlice TT rfl rfl rfl rfl rfl rfl rfl rfl (fun qs => ?_)
  refine WL.append TT (E := entE) (xs := ofM ds) (ys := [x]) 3 rfl rfl rfl rfl rfl (Rd.row (i := 0) rfl (by rw [hx]; rfl)) rfl rfl rfl rfl rfl (by decide) (by simp only [List.length_cons, List.length_nil]; omega) (fun _ _ => rfl) rfl (fun A5 c5 => ?_)
  have hBl : (ofM ds ++ [x]).length = (ofM ds).length + 1 := by simp
  have lB := logB_mid okB (by omega)
  rw [show (((ofM ds).length : Int) + 1) = x.n from hxn.symm, ← hxs]
  have ok0 : DiskOk (Disk.new 400000) := new_ok _ (by omega)
  have hS1 := store_first (room := 400000) (name := nJ) (by omega) okA (noStr_ne (by decide)) (by decide) (by omega) (by omega)
  have ok1 := storeM_ok ok0 (pickM 1 1000) (ofM ds) nJ
  repeat' (first|refine bk ?_|refine bkc ?_|refine bks ?_|refine bkd ?_|refine bkq (fun q => ?_)|(refine bk2 ?_ ?_<;>(first|exact bkn|(refine bkk ?_;intro h))))
  refine WL.turn (G' := diskA b (Disk.new 400000) :: row q3 53 [.int .i64 x.n, .string x.s] :: row q2 24 [.int .i64 (pickM 1 1000), .slice A5 (ofM ds ++ [x]).length c5] :: slc entE 53 A5 c5 (ofM ds ++ [x]) :: row q1 24 [.int .i64 (pickM 1 1000), .slice A1 (ofM ds).length c1] :: slc entE 53 A1 c1 (ofM ds) :: G) (fun w hs => ((hs.drop).front (i := 5) rfl)) ?_
  refine WL.call c25 rfl rfl rfl rfl (log_Store b _ ok0 nJ (pickM 1 1000) A1 (ofM ds).length c1 (ofM ds) rfl W0 _ (Rd.slc (i := 5) rfl)) ?_
  rw [hS1] at ok1 ⊢
  rintro _ _ ⟨rfl, rfl⟩
  generalize ht0 : mk (logB (pickM 1 1000) (ofM ds)) = t0 at mA ok1
  rw [show ((0 : Int), disk1 400000 nJ t0).1 = 0 from rfl, show ((0 : Int), disk1 400000 nJ t0).2 = disk1 400000 nJ t0 from rfl]
  repeat' (first|refine bk ?_|refine bkc ?_|refine bks ?_|refine bkd ?_|refine bkq (fun q => ?_)|(refine bk2 ?_ ?_<;>(first|exact bkn|(refine bkk ?_;intro h))))
  refine WL.call c23 rfl rfl rfl rfl (law_pick n 3 hn (by decide) W0 _) ?_
  rintro _ G2 ⟨rfl, hG2⟩
  rw [hG2]; clear hG2 G2
  have hp := pickM_range (n := n) (m := 3) (by decide)
  generalize pickM n 3 = p at hp ⊢
  repeat' (first|refine bk ?_|refine bkc ?_|refine bks ?_|refine bkd ?_|refine bkq (fun q => ?_)|(refine bk2 ?_ ?_<;>(first|exact bkn|(refine bkk ?_;intro h))))
  refine WL.call c28 rfl rfl rfl rfl (disk_Fuse (b := b) (1 + p) W0 _) ?_
  rintro _ _ ⟨rfl, rfl⟩
  generalize hf : 1 + p = f
  have okF := light_ok ok1 (n := f) (by omega)
  have eF : (disk1 400000 nJ t0).light f = Disk.mk [(nJ, ⟨t0, t0.size⟩)] 400000 t0.size f false := by
    unfold disk1 Disk.light
    rw [show max f 0 = f from by omega]
  rw [eF] at okF ⊢
  have okS := addM_ok okF x.n x.s nJ
  have hBs := logB_snoc (pickM 1 1000) (ofM ds) x
  have hBl2 : (logB (pickM 1 1000) (ofM ds ++ [x])).length = (logB (pickM 1 1000) (ofM ds)).length + (partB x.n (bs x.s)).length := by rw [hBs, List.length_append]
  obtain ⟨D', hS2, m, hm, hm3, hrd⟩ := add_fused (n := x.n) (s := x.s) (f := f) (t := t0) (by omega) (by rw [hxs]; omega) (by omega) (by omega) (by omega) zs
  rw [hS2] at okS
  replace hrd := hrd okS
  have hbt : bs (t0 ++ (mk (partB x.n (bs x.s))).extract 0 m) = logB (pickM 1 1000) (ofM ds) ++ (partB x.n (bs x.s)).take m := by
    rw [bs_cat, ← ht0, bs_mk, bs_ext, bs_mk, List.drop_zero, Nat.sub_zero]
  have hsz : (t0 ++ (mk (partB x.n (bs x.s))).extract 0 m).size ≤ 140737488355328 := by
    rw [ByteArray.size_append, extract0_size _ _ (by rw [mk_size]; exact hm)]; omega
  repeat' (first|refine bk ?_|refine bkc ?_|refine bks ?_|refine bkd ?_|refine bkq (fun q => ?_)|(refine bk2 ?_ ?_<;>(first|exact bkn|(refine bkk ?_;intro h))))
  refine WL.call c26 rfl rfl rfl rfl (log_Add b _ okF nJ x.n x.s W0 _) ?_
  rw [hS2]
  rintro _ _ ⟨rfl, rfl⟩
  rw [show ((if f = 3 then (0 : Int) else 12), D').1 = (if f = 3 then 0 else 12) from rfl, show ((if f = 3 then (0 : Int) else 12), D').2 = D' from rfl]
  repeat' (first|refine bk ?_|refine bkc ?_|refine bks ?_|refine bkd ?_|refine bkq (fun q => ?_)|(refine bk2 ?_ ?_<;>(first|exact bkn|(refine bkk ?_;intro h))))
  refine WL.call c27 rfl rfl rfl rfl (disk_Crash (b := b) okS (A := C) (c := c3) (keeps := zs) hz hkm W0 _ hR3.cons.cons.cons.cons.cons) ?_
  rintro _ _ ⟨rfl, rfl⟩
  rw [show ((if f = 3 then (0 : Int) else 12), D').2 = D' from rfl]
  repeat' (first|refine bk ?_|refine bkc ?_|refine bks ?_|refine bkd ?_|refine bkq (fun q => ?_)|(refine bk2 ?_ ?_<;>(first|exact bkn|(refine bkk ?_;intro h))))
  refine WL.call c19 rfl rfl rfl rfl (log_Load b _ nJ (by rw [hrd]; exact hsz) W0 _) ?_
  rw [hrd]
  simp only
  rw [hbt]
  by_cases hml : m = (partB x.n (bs x.s)).length
  · rw [hml, List.take_length, ← hBs, parse_whole okB]
    rintro _ _ ⟨A4, c7, rfl, rfl⟩
    repeat' (first|refine bk ?_|refine bkc ?_|refine bks ?_|refine bkd ?_|refine bkq (fun q => ?_)|(refine bk2 ?_ ?_<;>(first|exact bkn|(refine bkk ?_;intro h))))
    refine WL.s (op1_load TT 6 rfl rfl rfl) rfl ?_
    refine WL.call c21 rfl rfl rfl rfl (law_same (pickM 1 1000) (pickM 1 1000) A4 A1 _ c7 _ c1 (ofM ds ++ [x]) (ofM ds) rfl rfl (by omega) W0 _ (Rd.slc (i := 1) rfl) (Rd.slc (i := 7) rfl)) ?_
    rintro _ G2 ⟨rfl, hG2⟩
    rw [hG2]; clear hG2 G2
    repeat' (first|refine bk ?_|refine bkc ?_|refine bks ?_|refine bkd ?_|refine bkq (fun q => ?_)|(refine bk2 ?_ ?_<;>(first|exact bkn|(refine bkk ?_;intro h))))
    refine WL.call c21 rfl rfl rfl rfl (law_same (pickM 1 1000) (pickM 1 1000) A4 A5 _ c7 _ c5 (ofM ds ++ [x]) (ofM ds ++ [x]) rfl rfl (by omega) W0 _ (Rd.slc (i := 1) rfl) (Rd.slc (i := 5) rfl)) ?_
    rintro _ G2 ⟨rfl, hG2⟩
    rw [hG2]; clear hG2 G2
    rw [show decide (ofM ds ++ [x] = ofM ds ++ [x] ∧ pickM 1 1000 = pickM 1 1000) = true from decide_eq_true ⟨rfl, rfl⟩]
    by_cases hf3 : f = 3
    · rw [if_pos hf3]
      repeat' (first|refine bk ?_|refine bkc ?_|refine bks ?_|refine bkd ?_|refine bkq (fun q => ?_)|(refine bk2 ?_ ?_<;>(first|exact bkn|(refine bkk ?_;intro h))))
      exact QS.turn (G' := G) (fun w hs => hs.drop.drop.drop.drop.drop.drop.drop.drop) (QS.retV Try.results9 rfl ⟨rfl, rfl⟩)
    · rw [if_neg hf3]
      repeat' (first|refine bk ?_|refine bkc ?_|refine bks ?_|refine bkd ?_|refine bkq (fun q => ?_)|(refine bk2 ?_ ?_<;>(first|exact bkn|(refine bkk ?_;intro h))))
      all_goals exact QS.turn (G' := G) (fun w hs => hs.drop.drop.drop.drop.drop.drop.drop.drop) (QS.retV Try.results9 rfl ⟨rfl, rfl⟩)
  · rw [parse_part okB (by omega)]
    rintro _ _ ⟨A4, c7, rfl, rfl⟩
    repeat' (first|refine bk ?_|refine bkc ?_|refine bks ?_|refine bkd ?_|refine bkq (fun q => ?_)|(refine bk2 ?_ ?_<;>(first|exact bkn|(refine bkk ?_;intro h))))
    refine WL.s (op1_load TT 6 rfl rfl rfl) rfl ?_
    refine WL.call c21 rfl rfl rfl rfl (law_same (pickM 1 1000) (pickM 1 1000) A4 A1 _ c7 _ c1 (ofM ds) (ofM ds) rfl rfl (by omega) W0 _ (Rd.slc (i := 1) rfl) (Rd.slc (i := 7) rfl)) ?_
    rintro _ G2 ⟨rfl, hG2⟩
    rw [hG2]; clear hG2 G2
    repeat' (first|refine bk ?_|refine bkc ?_|refine bks ?_|refine bkd ?_|refine bkq (fun q => ?_)|(refine bk2 ?_ ?_<;>(first|exact bkn|(refine bkk ?_;intro h))))
    refine WL.call c21 rfl rfl rfl rfl (law_same (pickM 1 1000) (pickM 1 1000) A4 A5 _ c7 _ c5 (ofM ds) (ofM ds ++ [x]) rfl rfl (by omega) W0 _ (Rd.slc (i := 1) rfl) (Rd.slc (i := 5) rfl)) ?_
    rintro _ G2 ⟨rfl, hG2⟩
    rw [hG2]; clear hG2 G2
    rw [show decide (ofM ds = ofM ds ∧ pickM 1 1000 = pickM 1 1000) = true from decide_eq_true ⟨rfl, rfl⟩, if_neg (fun e => hml (hm3 e))]
    repeat' (first|refine bk ?_|refine bkc ?_|refine bks ?_|refine bkd ?_|refine bkq (fun q => ?_)|(refine bk2 ?_ ?_<;>(first|exact bkn|(refine bkk ?_;intro h))))
    exact QS.turn (G' := G) (fun w hs => hs.drop.drop.drop.drop.drop.drop.drop.drop) (QS.retV Try.results9 rfl ⟨rfl, rfl⟩)
end Go.Proofs.Ytpklbelejebcfaa.B
