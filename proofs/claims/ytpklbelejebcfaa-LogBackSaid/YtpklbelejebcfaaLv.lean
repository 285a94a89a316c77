import Derived.Test.YtpklbelejebcfaaLw
import Derived.Test.YtpklbelejebcfaaTr
set_option linter.unusedVariables false
set_option linter.unusedSimpArgs false
set_option linter.unusedSectionVars false
set_option maxRecDepth 8000
/-! LogBack: the walk. -/
namespace Go.Proofs.Ytpklbelejebcfaa.B
open Go Go.Proofs
attribute [local irreducible] WL CS QS WQ WH WS Fn Op1 row Sat
attribute [local irreducible] diskA slc

set_option maxHeartbeats 8000000 in
theorem law_LogBack (e : Int) (he : I64 e) (A B C : Option Addr) (k c k2 c2 k3 c3 : Nat) (ds ys : List ByteArray) (zs : List Int) (hk : k = ds.length) (hk2 : k2 = ys.length) (hk3 : k3 = zs.length) (hkm : k3 ≤ 9223372036854775807) (hz : ∀ x ∈ zs, I64 x) (W0 : World) (G : List SL) (hR : Rd W0 G strE A ds) (hR2 : Rd W0 G strE B ys) (hR3 : Rd W0 G intE C zs) :
    Fn Try.prog 7 [.int .i64 e, .slice A k c, .slice B k2 c2, .slice C k3 c3] W0 G (Ret fun v G' => v = .bool true ∧ G' = G) := by
  subst hk2 hk3
  refine Fn.enter Try.func7 rfl Try.ntmps7 rfl ?_
  have okA := ofM_ok e ds
  have hlA := ofM_len ds
  generalize hE : pickM e 1000 = E at okA
  repeat' (first|refine bk ?_|refine bkc ?_|refine bks ?_|refine bkd ?_|refine bkq (fun q => ?_)|(refine bk2 ?_ ?_<;>(first|exact bkn|(refine bkk ?_;intro h))))
  refine WL.call c10 rfl rfl rfl rfl (law_examples W0 _) ?_
  rintro _ G2 ⟨rfl, hG2⟩
  rw [hG2]; clear hG2 G2
  repeat' (first|refine bk ?_|refine bkc ?_|refine bks ?_|refine bkd ?_|refine bkq (fun q => ?_)|(refine bk2 ?_ ?_<;>(first|exact bkn|(refine bkk ?_;intro h))))
  refine WL.call c15 rfl rfl rfl rfl (disk_New 400000 W0 _) ?_
  rintro _ _ ⟨b, rfl, rfl⟩
  repeat' (first|refine bk ?_|refine bkc ?_|refine bks ?_|refine bkd ?_|refine bkq (fun q => ?_)|(refine bk2 ?_ ?_<;>(first|exact bkn|(refine bkk ?_;intro h))))
  refine WL.call c22 rfl rfl rfl rfl (law_of e he A k c ds hk W0 _ hR.cons) ?_
  rintro _ _ ⟨A1, c1, rfl, rfl⟩
  rw [hE]
  generalize ofM ds = X0 at okA hlA ⊢
  have lA := logB_mid okA (by omega)
  have mA := mk_size (logB E X0)
  repeat' (first|refine bk ?_|refine bkc ?_|refine bks ?_|refine bkd ?_|refine bkq (fun q => ?_)|(refine bk2 ?_ ?_<;>(first|exact bkn|(refine bkk ?_;intro h))))
  revert q; intro q1
  have ok0 : DiskOk (Disk.new 400000) := new_ok _ (by omega)
  have hS1 := store_first (room := 400000) (name := nJ) (by omega) okA (noStr_ne (by decide)) (by decide) (by omega) (by omega)
  have ok1 := storeM_ok ok0 E X0 nJ
  refine WL.turn (G' := diskA b (Disk.new 400000) :: row q1 24 [.int .i64 E, .slice A1 X0.length c1] :: slc entE 53 A1 c1 X0 :: G) (fun w hs => hs.front (i := 2) rfl) ?_
  refine WL.call c25 rfl rfl rfl rfl (log_Store b _ ok0 nJ E A1 X0.length c1 X0 rfl W0 _ (Rd.slc (i := 2) rfl)) ?_
  rw [hS1] at ok1 ⊢
  rintro _ _ ⟨rfl, rfl⟩
  rw [show ((0 : Int), disk1 400000 nJ (mk (logB E X0))).1 = 0 from rfl, show ((0 : Int), disk1 400000 nJ (mk (logB E X0))).2 = disk1 400000 nJ (mk (logB E X0)) from rfl]
  repeat' (first|refine bk ?_|refine bkc ?_|refine bkd ?_|refine bkq (fun q => ?_)|(refine bk2 ?_ ?_<;>(first|exact bkn|(refine bkk ?_;intro h))))
  refine CS.seq ?_
  repeat' (first|refine bk ?_|refine bkc ?_|refine bkd ?_|refine bkq (fun q => ?_)|(refine bk2 ?_ ?_<;>(first|exact bkn|(refine bkk ?_;intro h))))
  refine CS.cut (X := Nat × Option Addr × Nat) (fun y => [(2, .slice B ys.length c2), (3, .slice C zs.length c3), (9, .bool true), (10, .pointer (some ⟨b, 0, none⟩)), (11, .pointer (some ⟨q1, 0, none⟩))]) (fun y => diskA b (disk1 400000 nJ (mk (logB E (addT X0 ys y.1)))) :: row q1 24 [.int .i64 E, .slice y.2.1 (addT X0 ys y.1).length y.2.2] :: slc entE 53 y.2.1 y.2.2 (addT X0 ys y.1) :: G) (fun y => y.1 ≤ 20) ?_ ?_
  · repeat' (first|refine bk ?_|refine bkc ?_|refine bks ?_|refine bkd ?_|refine bkq (fun q => ?_)|(refine bk2 ?_ ?_<;>(first|exact bkn|(refine bkk ?_;intro h))))
    refine CS.loop (X := Nat × Option Addr × Nat) (fun y => [(2, .slice B ys.length c2), (3, .slice C zs.length c3), (9, .bool true), (10, .pointer (some ⟨b, 0, none⟩)), (11, .pointer (some ⟨q1, 0, none⟩)), (12, .int .i64 (y.1 : Int))]) (fun y => diskA b (disk1 400000 nJ (mk (logB E (addT X0 ys y.1)))) :: row q1 24 [.int .i64 E, .slice y.2.1 (addT X0 ys y.1).length y.2.2] :: slc entE 53 y.2.1 y.2.2 (addT X0 ys y.1) :: G)
      (fun y => y.1 ≤ ys.length ∧ y.1 ≤ 20) (fun y => ys.length - y.1) (0, A1, c1) ⟨rfl, rfl, rfl, rfl, rfl, rfl, trivial⟩ (fun w hs => hs) ⟨Nat.zero_le _, (by decide : 0 ≤ 20)⟩ ?_
    rintro ⟨i, A2, c4⟩ ⟨hi, hi20⟩
    simp only at hi hi20 ⊢
    have okX := addT_ok ys okA hlA (i := i) hi20
    have hXl := addT_len X0 ys i
    have lX := logB_mid okX (by omega)
    have mX := mk_size (logB E (addT X0 ys i))
    have okD : DiskOk (disk1 400000 nJ (mk (logB E (addT X0 ys i)))) := one_ok (by decide) (by omega) (by omega) (by omega) (by omega)
    repeat' (first|refine bk ?_|refine bkc ?_|refine bks ?_|refine bkq (fun q => ?_)|(refine bk2 ?_ ?_<;>(first|exact bkn|(refine bkk ?_;intro h))))
    · obtain ⟨x0, hx0⟩ : ∃ x, ys[i]? = some x := ⟨ys[i]'(by omega), List.getElem?_eq_getElem (by omega)⟩
      have hgx : ys.getD i noStr = x0 := by rw [List.getD_eq_getElem?_getD, hx0]; rfl
      have hnx : addT X0 ys (i + 1) = addT X0 ys i ++ [⟨((addT X0 ys i).length : Int) + 1, cutB x0 100⟩] := by rw [addT, hgx]
      refine CS.world fun hw => ?_
      refine CS.drawA _ (fun w hs => hs) mixed (by kernel_rfl) rfl ?_
      repeat' (first|refine bka ?_|(refine bk2a ?_ ?_<;>(first|exact bkn|(refine bkk ?_;intro h))))
      refine WA.idx TT hw hR2.cons.cons.cons rfl rfl (by kernel_rfl) rfl rfl rfl rfl (by omega) (by rw [Int.toNat_natCast]; exact hx0) rfl rfl rfl rfl (fun b2 o hA => ?_)
      refine WA.s rfl rfl (by kernel_rfl) rfl (op1_at TT hA rfl rfl rfl rfl) rfl ?_
      repeat' (first|refine bka ?_|(refine bk2a ?_ ?_<;>(first|exact bkn|(refine bkk ?_;intro h))))
      refine WA.idx TT hw hR2.cons.cons.cons rfl rfl (by kernel_rfl) rfl rfl rfl rfl (by omega) (by rw [Int.toNat_natCast]; exact hx0) rfl rfl rfl rfl (fun b3 o3 hA3 => ?_)
      refine WA.s rfl rfl (by kernel_rfl) rfl (op1_at TT hA3 rfl rfl rfl rfl) rfl ?_
      repeat' (first|refine bka ?_|(refine bk2a ?_ ?_<;>(first|exact bkn|(refine bkk ?_;intro h))))
      rw [show (if (100 : Int) < (x0.size : Int) then (100 : Int) else (x0.size : Int)) = ((min x0.size 100 : Nat) : Int) from by split <;> omega]
      refine WA.s rfl rfl (by kernel_rfl) rfl (op1_slice TT (l := 0) (r := ((min x0.size 100 : Nat) : Int)) (s := x0) rfl rfl rfl rfl ⟨by omega, by omega, by omega⟩) rfl ?_
      rw [show x0.extract (Int.toNat 0) ((min x0.size 100 : Nat) : Int).toNat = cutB x0 100 from rfl]
      repeat' (first|refine bka ?_|(refine bk2a ?_ ?_<;>(first|exact bkn|(refine bkk ?_;intro h))))
      refine WA.e1 16 (by kernel_rfl) (by kernel_rfl) rfl rfl (EffC.alloc TT rfl rfl) rfl ?_
      rintro _ _ ⟨q3, rfl, rfl⟩
      refine ⟨fun w hs => hs.drop, ?_⟩
      refine WA.e1 17 (by kernel_rfl) (by kernel_rfl) rfl rfl (EffC.store TT 0 rfl rfl rfl rfl rfl rfl rfl rfl rfl) rfl ?_
      rintro _ _ ⟨rfl, rfl⟩
      refine ⟨fun w hs => hs.drop, WA.fin rfl ?_⟩
      generalize hxx : (⟨((addT X0 ys i).length : Int) + 1, cutB x0 100⟩ : Ent) = x at hnx
      have hxn : ((addT X0 ys i).length : Int) + 1 = x.n := by rw [← hxx]
      have hxs : cutB x0 100 = x.s := by rw [← hxx]
      have hts := cutB_size x0 100
      rw [hxn, hxs]
      rw [hxs] at hts
      have okY := addT_ok ys okA hlA (i := i + 1) (by omega)
      rw [hnx] at okY
      have lY := logB_mid okY (by rw [List.length_append]; simp only [List.length_cons, List.length_nil]; omega)
      have hBs := logB_snoc E (addT X0 ys i) x
      have hBl : (logB E (addT X0 ys i ++ [x])).length = (logB E (addT X0 ys i)).length + (partB x.n (bs x.s)).length := by rw [hBs, List.length_append]
      have hadd := addM_one (room := 400000) (n := x.n) (name := nJ) (t := mk (logB E (addT X0 ys i))) (s := x.s) (noStr_ne (by decide)) (by decide) (by omega) (by omega) (by omega) (by omega)
      rw [show mk (logB E (addT X0 ys i)) ++ mk (partB x.n (bs x.s)) = mk (logB E (addT X0 ys (i + 1))) from by rw [mk_cat, ← hBs, hnx]] at hadd
      repeat' (first|refine bk ?_|refine bkc ?_|refine bks ?_|refine bkd ?_|refine bkq (fun q => ?_)|(refine bk2 ?_ ?_<;>(first|exact bkn|(refine bkk ?_;intro h))))
      refine WL.call c26 rfl rfl rfl rfl ((log_Add b _ okD nJ x.n x.s W0 _).pre (fun w hs => hs.front (i := 1) rfl)) ?_
      rw [hadd]
      rintro _ _ ⟨rfl, rfl⟩
      repeat' (first|refine bk ?_|refine bkc ?_|refine bks ?_|refine bkd ?_|refine bkq (fun q => ?_)|(refine bk2 ?_ ?_<;>(first|exact bkn|(refine bkk ?_;intro h))))
      refine WL.buildSlice TT rfl rfl rfl rfl rfl rfl rfl rfl (fun qs => ?_)
      refine WL.append TT (E := entE) (xs := addT X0 ys i) (ys := [x]) 4 rfl rfl rfl rfl rfl (Rd.row (i := 0) rfl rfl) rfl rfl rfl rfl rfl (by decide) (by simp only [List.length_cons, List.length_nil]; omega) (fun _ _ => rfl) rfl (fun A5 c5 => ?_)
      rw [← hnx]
      repeat' (first|refine bk ?_|refine bkc ?_|refine bks ?_|refine bkd ?_|refine bkq (fun q => ?_)|(refine bk2 ?_ ?_<;>(first|exact bkn|(refine bkk ?_;intro h))))
      refine QS.again (i + 1, A5, c5) ⟨by simp only; omega, by simp only; omega⟩ (by simp only; omega) ⟨rfl, rfl, rfl, rfl, rfl, ?_, trivial⟩ (fun w hs => (hs.drop).kick (i := 1) rfl)
      rw [show ((i + 1 : Nat) : Int) = (i : Int) + 1 from by omega]; rfl
    · exact QS.met (i, A2, c4) hi20 ⟨rfl, rfl, rfl, rfl, rfl, trivial⟩ (fun w hs => hs)
    · exact QS.met (i, A2, c4) hi20 ⟨rfl, rfl, rfl, rfl, rfl, trivial⟩ (fun w hs => hs)
  rintro ⟨i, A2, c4⟩ hi20
  simp only at hi20 ⊢
  have okX := addT_ok ys okA hlA (i := i) hi20
  have hXl := addT_len X0 ys i
  have lX := logB_mid okX (by omega)
  have mX := mk_size (logB E (addT X0 ys i))
  have okD : DiskOk (disk1 400000 nJ (mk (logB E (addT X0 ys i)))) := one_ok (by decide) (by omega) (by omega) (by omega) (by omega)
  generalize addT X0 ys i = X at okX hXl lX mX okD ⊢
  repeat' (first|refine bk ?_|refine bkc ?_|refine bks ?_|refine bkd ?_|refine bkq (fun q => ?_)|(refine bk2 ?_ ?_<;>(first|exact bkn|(refine bkk ?_;intro h))))
  refine WL.call c27 rfl rfl rfl rfl (disk_Crash (b := b) okD (A := C) (c := c3) (keeps := zs) hz hkm W0 _ hR3.cons.cons) ?_
  rintro _ _ ⟨rfl, rfl⟩
  rw [disk1_crash (by omega)]
  have hrd : (disk1 400000 nJ (mk (logB E X))).read nJ = (mk (logB E X), 0) := read_one
  repeat' (first|refine bk ?_|refine bkc ?_|refine bks ?_|refine bkd ?_|refine bkq (fun q => ?_)|(refine bk2 ?_ ?_<;>(first|exact bkn|(refine bkk ?_;intro h))))
  refine WL.call c19 rfl rfl rfl rfl (log_Load b _ nJ (by rw [hrd]; show (mk (logB E X)).size ≤ _; omega) W0 _) ?_
  rw [hrd]
  simp only
  rw [bs_mk_load okX]
  rintro _ _ ⟨A4, c7, rfl, rfl⟩
  repeat' (first|refine bk ?_|refine bkc ?_|refine bks ?_|refine bkd ?_|refine bkq (fun q => ?_)|(refine bk2 ?_ ?_<;>(first|exact bkn|(refine bkk ?_;intro h))))
  refine WL.call c21 rfl rfl rfl rfl (law_same E E A2 A4 _ c4 _ c7 X X rfl rfl (by omega) W0 _ (Rd.slc (i := 4) rfl) (Rd.slc (i := 1) rfl)) ?_
  rintro _ G2 ⟨rfl, hG2⟩
  rw [hG2]; clear hG2 G2
  rw [show decide (X = X ∧ E = E) = true from decide_eq_true ⟨rfl, rfl⟩]
  repeat' (first|refine bk ?_|refine bkc ?_|refine bks ?_|refine bkd ?_|refine bkq (fun q => ?_)|(refine bk2 ?_ ?_<;>(first|exact bkn|(refine bkk ?_;intro h))))
  exact QS.turn (G' := G) (fun w hs => hs.drop.drop.drop.drop.drop) (QS.retV Try.results7 rfl ⟨rfl, rfl⟩)
end Go.Proofs.Ytpklbelejebcfaa.B
