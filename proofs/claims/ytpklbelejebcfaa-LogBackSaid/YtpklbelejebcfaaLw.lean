import Derived.Test.YtpklbelejebcfaaLu
import Derived.Test.YtpklbelejebcfaaDc
set_option linter.unusedVariables false
set_option linter.unusedSimpArgs false
set_option linter.unusedSectionVars false
set_option maxRecDepth 8000
/-! LogStored: the walk. -/
namespace Go.Proofs.Ytpklbelejebcfaa.B
open Go Go.Proofs
attribute [local irreducible] WL CS QS WQ WH WS Fn Op1 row Sat
attribute [local irreducible] diskA slc

theorem bs_mk_load {e : Int} {xs : List Ent} (h : logOk e xs = true) : loadM (bs (mk (logB e xs))) 0 = (e, xs, true, 0) := by rw [bs_mk]; exact parse_whole h

set_option maxHeartbeats 8000000 in
theorem law_LogStored (A B C : Option Addr) (k c k2 c2 k3 c3 : Nat) (ds es : List ByteArray) (zs : List Int) (hk : k = ds.length) (hk2 : k2 = es.length) (hk3 : k3 = zs.length) (hkm : k3 ≤ 9223372036854775807) (hz : ∀ x ∈ zs, I64 x) (n : Int) (hn : I64 n) (W0 : World) (G : List SL) (hR : Rd W0 G strE A ds) (hR2 : Rd W0 G strE B es) (hR3 : Rd W0 G intE C zs) :
    Fn Try.prog 8 [.slice A k c, .slice B k2 c2, .int .i64 n, .slice C k3 c3] W0 G (Ret fun v G' => v = .bool true ∧ G' = G) := by
  subst hk3
  refine Fn.enter Try.func8 rfl Try.ntmps8 rfl ?_
  have okA := ofM_ok 1 ds
  have okB := ofM_ok 2 es
  have lA := logB_short okA (ofM_len ds)
  have lB := logB_short okB (ofM_len es)
  have hlA := ofM_len ds
  have hlB := ofM_len es
  have mA := mk_size (logB (pickM 1 1000) (ofM ds))
  have mB := mk_size (logB (pickM 2 1000) (ofM es))
  repeat' (first|refine bk ?_|refine bkc ?_|refine bks ?_|refine bkd ?_|refine bkq (fun q => ?_)|(refine bk2 ?_ ?_<;>(first|exact bkn|(refine bkk ?_;intro h))))
  refine WL.call c10 rfl rfl rfl rfl (law_examples W0 _) ?_
  rintro _ G2 ⟨rfl, hG2⟩
  rw [hG2]; clear hG2 G2
  repeat' (first|refine bk ?_|refine bkc ?_|refine bks ?_|refine bkd ?_|refine bkq (fun q => ?_)|(refine bk2 ?_ ?_<;>(first|exact bkn|(refine bkk ?_;intro h))))
  refine WL.call c15 rfl rfl rfl rfl (disk_New 400000 W0 _) ?_
  rintro _ _ ⟨b, rfl, rfl⟩
  repeat' (first|refine bk ?_|refine bkc ?_|refine bks ?_|refine bkd ?_|refine bkq (fun q => ?_)|(refine bk2 ?_ ?_<;>(first|exact bkn|(refine bkk ?_;intro h))))
  refine WL.call c22 rfl rfl rfl rfl (law_of 1 (by unfold I64; decide) A k c ds hk W0 _ hR.cons) ?_
  rintro _ _ ⟨A1, c1, rfl, rfl⟩
  repeat' (first|refine bk ?_|refine bkc ?_|refine bks ?_|refine bkd ?_|refine bkq (fun q => ?_)|(refine bk2 ?_ ?_<;>(first|exact bkn|(refine bkk ?_;intro h))))
  revert q; intro q1
  refine WL.call c22 rfl rfl rfl rfl (law_of 2 (by unfold I64; decide) B k2 c2 es hk2 W0 _ hR2.cons.cons.cons) ?_
  rintro _ _ ⟨A2, c4, rfl, rfl⟩
  repeat' (first|refine bk ?_|refine bkc ?_|refine bks ?_|refine bkd ?_|refine bkq (fun q => ?_)|(refine bk2 ?_ ?_<;>(first|exact bkn|(refine bkk ?_;intro h))))
  revert q; intro q2
  have ok0 : DiskOk (Disk.new 400000) := new_ok _ (by omega)
  have hS1 := store_first (room := 400000) (name := nJ) (by omega) okA (noStr_ne (by decide)) (by decide) (by omega) (by omega)
  have ok1 := storeM_ok ok0 (pickM 1 1000) (ofM ds) nJ
  refine WL.turn (G' := diskA b (Disk.new 400000) :: row q2 24 [.int .i64 (pickM 2 1000), .slice A2 (ofM es).length c4] :: slc entE 53 A2 c4 (ofM es) :: row q1 24 [.int .i64 (pickM 1 1000), .slice A1 (ofM ds).length c1] :: slc entE 53 A1 c1 (ofM ds) :: G) (fun w hs => hs.front (i := 4) rfl) ?_
  refine WL.call c25 rfl rfl rfl rfl (log_Store b _ ok0 nJ (pickM 1 1000) A1 (ofM ds).length c1 (ofM ds) rfl W0 _ (Rd.slc (i := 4) rfl)) ?_
  rw [hS1] at ok1 ⊢
  rintro _ _ ⟨rfl, rfl⟩
  repeat' (first|refine bk ?_|refine bkc ?_|refine bks ?_|refine bkd ?_|refine bkq (fun q => ?_)|(refine bk2 ?_ ?_<;>(first|exact bkn|(refine bkk ?_;intro h))))
  refine WL.call c23 rfl rfl rfl rfl (law_pick n 6 hn (by decide) W0 _) ?_
  rintro _ G2 ⟨rfl, hG2⟩
  rw [hG2]; clear hG2 G2
  have hp := pickM_range (n := n) (m := 6) (by decide)
  generalize pickM n 6 = p at hp ⊢
  repeat' (first|refine bk ?_|refine bkc ?_|refine bks ?_|refine bkd ?_|refine bkq (fun q => ?_)|(refine bk2 ?_ ?_<;>(first|exact bkn|(refine bkk ?_;intro h))))
  refine WL.call c28 rfl rfl rfl rfl (disk_Fuse (b := b) (1 + p) W0 _) ?_
  rintro _ _ ⟨rfl, rfl⟩
  generalize hf : 1 + p = f
  have okF := light_ok ok1 (n := f) (by omega)
  have eF : (disk1 400000 nJ (mk (logB (pickM 1 1000) (ofM ds)))).light f = Disk.mk [(nJ, ⟨mk (logB (pickM 1 1000) (ofM ds)), (mk (logB (pickM 1 1000) (ofM ds))).size⟩)] 400000 (mk (logB (pickM 1 1000) (ofM ds))).size f false := by
    unfold disk1 Disk.light
    rw [show max f 0 = f from by omega]
  rw [show (0, disk1 400000 nJ (mk (logB (pickM 1 1000) (ofM ds)))).2 = disk1 400000 nJ (mk (logB (pickM 1 1000) (ofM ds))) from rfl]
  rw [eF] at okF ⊢
  have okS := storeM_ok okF (pickM 2 1000) (ofM es) nJ
  obtain ⟨D', hS2, hg⟩ := store_fused (f := f) (t := mk (logB (pickM 1 1000) (ofM ds))) okB (by omega) (by omega)
  by_cases h3 : f ≤ 3
  · rw [if_pos h3] at hS2 hg
    repeat' (first|refine bk ?_|refine bkc ?_|refine bks ?_|refine bkd ?_|refine bkq (fun q => ?_)|(refine bk2 ?_ ?_<;>(first|exact bkn|(refine bkk ?_;intro h))))
    refine WL.call c25 rfl rfl rfl rfl (log_Store b _ okF nJ (pickM 2 1000) A2 (ofM es).length c4 (ofM es) rfl W0 _ (Rd.slc (i := 2) rfl)) ?_
    rw [hS2] at okS ⊢
    rintro _ _ ⟨rfl, rfl⟩
    rw [show (((12 : Int), D')).1 = 12 from rfl, show (((12 : Int), D')).2 = D' from rfl]
    repeat' (first|refine bk ?_|refine bkc ?_|refine bks ?_|refine bkd ?_|refine bkq (fun q => ?_)|(refine bk2 ?_ ?_<;>(first|exact bkn|(refine bkk ?_;intro h))))
    refine WL.call c27 rfl rfl rfl rfl (disk_Crash (b := b) okS (A := C) (c := c3) (keeps := zs) hz hkm W0 _ hR3.cons.cons.cons.cons) ?_
    rintro _ _ ⟨rfl, rfl⟩
    have hrd : (D'.crash zs).read nJ = (mk (logB (pickM 1 1000) (ofM ds)), 0) := read_of rfl (by rw [crash_full okS zs hg, if_neg (by omega)])
    repeat' (first|refine bk ?_|refine bkc ?_|refine bks ?_|refine bkd ?_|refine bkq (fun q => ?_)|(refine bk2 ?_ ?_<;>(first|exact bkn|(refine bkk ?_;intro h))))
    refine WL.call c19 rfl rfl rfl rfl (log_Load b _ nJ (by show ((D'.crash zs).read nJ).1.size ≤ _; rw [hrd]; show (mk (logB (pickM 1 1000) (ofM ds))).size ≤ _; omega) W0 _) ?_
    rw [show (((12 : Int), D').2.crash zs).read nJ = (mk (logB (pickM 1 1000) (ofM ds)), 0) from hrd]
    simp only
    rw [bs_mk_load okA]
    rintro _ _ ⟨A4, c5, rfl, rfl⟩
    repeat' (first|refine bk ?_|refine bkc ?_|refine bks ?_|refine bkd ?_|refine bkq (fun q => ?_)|(refine bk2 ?_ ?_<;>(first|exact bkn|(refine bkk ?_;intro h))))
    refine WL.s (op1_load TT 5 rfl rfl rfl) rfl ?_
    refine WL.call c21 rfl rfl rfl rfl (law_same (pickM 1 1000) (pickM 1 1000) A4 A1 _ c5 _ c1 (ofM ds) (ofM ds) rfl rfl (by omega) W0 _ (Rd.slc (i := 1) rfl) (Rd.slc (i := 6) rfl)) ?_
    rintro _ G2 ⟨rfl, hG2⟩
    rw [hG2]; clear hG2 G2
    repeat' (first|refine bk ?_|refine bkc ?_|refine bks ?_|refine bkd ?_|refine bkq (fun q => ?_)|(refine bk2 ?_ ?_<;>(first|exact bkn|(refine bkk ?_;intro h))))
    refine WL.call c21 rfl rfl rfl rfl (law_same (pickM 1 1000) (pickM 2 1000) A4 A2 _ c5 _ c4 (ofM ds) (ofM es) rfl rfl (by omega) W0 _ (Rd.slc (i := 1) rfl) (Rd.slc (i := 4) rfl)) ?_
    rintro _ G2 ⟨rfl, hG2⟩
    rw [hG2]; clear hG2 G2
    rw [show decide (ofM ds = ofM ds ∧ pickM 1 1000 = pickM 1 1000) = true from decide_eq_true ⟨rfl, rfl⟩, show decide (ofM ds = ofM es ∧ pickM 1 1000 = pickM 2 1000) = false from decide_eq_false (fun e => absurd e.2 (by decide))]
    repeat' (first|refine bk ?_|refine bkc ?_|refine bks ?_|refine bkd ?_|refine bkq (fun q => ?_)|(refine bk2 ?_ ?_<;>(first|exact bkn|(refine bkk ?_;intro h))))
    exact QS.turn (G' := G) (fun w hs => hs.drop.drop.drop.drop.drop.drop.drop) (QS.retV Try.results8 rfl ⟨rfl, rfl⟩)
  · rw [if_neg h3] at hS2 hg
    repeat' (first|refine bk ?_|refine bkc ?_|refine bks ?_|refine bkd ?_|refine bkq (fun q => ?_)|(refine bk2 ?_ ?_<;>(first|exact bkn|(refine bkk ?_;intro h))))
    refine WL.call c25 rfl rfl rfl rfl (log_Store b _ okF nJ (pickM 2 1000) A2 (ofM es).length c4 (ofM es) rfl W0 _ (Rd.slc (i := 2) rfl)) ?_
    rw [hS2] at okS ⊢
    rintro _ _ ⟨rfl, rfl⟩
    rw [show (((0 : Int), D')).1 = 0 from rfl, show (((0 : Int), D')).2 = D' from rfl]
    repeat' (first|refine bk ?_|refine bkc ?_|refine bks ?_|refine bkd ?_|refine bkq (fun q => ?_)|(refine bk2 ?_ ?_<;>(first|exact bkn|(refine bkk ?_;intro h))))
    refine WL.call c27 rfl rfl rfl rfl (disk_Crash (b := b) okS (A := C) (c := c3) (keeps := zs) hz hkm W0 _ hR3.cons.cons.cons.cons) ?_
    rintro _ _ ⟨rfl, rfl⟩
    have hrd : (D'.crash zs).read nJ = (mk (logB (pickM 2 1000) (ofM es)), 0) := read_of rfl (by rw [crash_full okS zs hg, if_neg (by omega)])
    repeat' (first|refine bk ?_|refine bkc ?_|refine bks ?_|refine bkd ?_|refine bkq (fun q => ?_)|(refine bk2 ?_ ?_<;>(first|exact bkn|(refine bkk ?_;intro h))))
    refine WL.call c19 rfl rfl rfl rfl (log_Load b _ nJ (by show ((D'.crash zs).read nJ).1.size ≤ _; rw [hrd]; show (mk (logB (pickM 2 1000) (ofM es))).size ≤ _; omega) W0 _) ?_
    rw [show (((0 : Int), D').2.crash zs).read nJ = (mk (logB (pickM 2 1000) (ofM es)), 0) from hrd]
    simp only
    rw [bs_mk_load okB]
    rintro _ _ ⟨A4, c5, rfl, rfl⟩
    repeat' (first|refine bk ?_|refine bkc ?_|refine bks ?_|refine bkd ?_|refine bkq (fun q => ?_)|(refine bk2 ?_ ?_<;>(first|exact bkn|(refine bkk ?_;intro h))))
    refine WL.s (op1_load TT 5 rfl rfl rfl) rfl ?_
    refine WL.call c21 rfl rfl rfl rfl (law_same (pickM 2 1000) (pickM 1 1000) A4 A1 _ c5 _ c1 (ofM es) (ofM ds) rfl rfl (by omega) W0 _ (Rd.slc (i := 1) rfl) (Rd.slc (i := 6) rfl)) ?_
    rintro _ G2 ⟨rfl, hG2⟩
    rw [hG2]; clear hG2 G2
    repeat' (first|refine bk ?_|refine bkc ?_|refine bks ?_|refine bkd ?_|refine bkq (fun q => ?_)|(refine bk2 ?_ ?_<;>(first|exact bkn|(refine bkk ?_;intro h))))
    refine WL.call c21 rfl rfl rfl rfl (law_same (pickM 2 1000) (pickM 2 1000) A4 A2 _ c5 _ c4 (ofM es) (ofM es) rfl rfl (by omega) W0 _ (Rd.slc (i := 1) rfl) (Rd.slc (i := 4) rfl)) ?_
    rintro _ G2 ⟨rfl, hG2⟩
    rw [hG2]; clear hG2 G2
    rw [show decide (ofM es = ofM es ∧ pickM 2 1000 = pickM 2 1000) = true from decide_eq_true ⟨rfl, rfl⟩, show decide (ofM es = ofM ds ∧ pickM 2 1000 = pickM 1 1000) = false from decide_eq_false (fun e => absurd e.2 (by decide))]
    repeat' (first|refine bk ?_|refine bkc ?_|refine bks ?_|refine bkd ?_|refine bkq (fun q => ?_)|(refine bk2 ?_ ?_<;>(first|exact bkn|(refine bkk ?_;intro h))))
    exact QS.turn (G' := G) (fun w hs => hs.drop.drop.drop.drop.drop.drop.drop) (QS.retV Try.results8 rfl ⟨rfl, rfl⟩)
end Go.Proofs.Ytpklbelejebcfaa.B
