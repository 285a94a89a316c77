import Derived.Test.YtejdkcnbflpfaaaGreatMg45
import Derived.Test.YtejdkcnbflpfaaaGreatMg46
import Derived.Test.YtejdkcnbflpfaaaGreatMg47
import Derived.Test.YtejdkcnbflpfaaaGreatMg48
import Derived.Test.YtejdkcnbflpfaaaGreatMg49
import Derived.Test.YtejdkcnbflpfaaaGreatMg34
import Derived.Test.YtejdkcnbflpfaaaGreatMg32
set_option linter.unusedVariables false
set_option linter.unusedSimpArgs false
set_option maxRecDepth 8000
/-! JournalLasts: the walk. -/
namespace Go.Proofs.YtejdkcnbflpfaaaGreat.B
open Go Go.Proofs
attribute [local irreducible] WL CS QS WQ WH WS Fn Op1 row Sat
attribute [local irreducible] slc diskA jA

theorem j_Dead (b bd : Nat) (J : Jn) (W0 : World) (F : List SL) :
    Fn Tryz.prog 23 [.pointer (some ⟨b, 0, none⟩)] W0 (jA b bd J :: F) (Ret fun v G' => v = .bool J.dead ∧ G' = jA b bd J :: F) := by
  refine Fn.ex (fun w hs => jA_open w hs) ?_
  rintro ⟨A, c⟩
  refine Fn.enter Tryz.func23 rfl Tryz.ntmps23 rfl ?_
  simp only [jCells]
  repeat' (first|refine bk ?_|refine bkc ?_|refine bks ?_|refine bkd ?_|refine bkq (fun q => ?_)|(refine bk2 ?_ ?_<;>(first|exact bkn|(refine bkk ?_;intro h))))
  exact QS.turn (G' := jA b bd J :: F) (fun w hs => jA_shut (A := A) (c := c) w hs) (QS.retV Tryz.results23 rfl ⟨rfl, rfl⟩)
theorem askd (u : DeedJ) (hu : DeedJOk u) (W0 : World) (G : List SL) (hR : Rd W0 G entE u.lA u.l) :
    Fn Tryz.prog 14 [deedV u.kind u.epoch u.lA u.l.length u.lc ⟨u.xn, u.xs⟩ u.raw u.n u.keepsA u.keeps.length u.keepsc] W0 G
      (Ret fun v G' => v = .string (askM u.kind u.epoch u.l ⟨u.xn, u.xs⟩ u.raw) ∧ G' = G) :=
  law_asked u.kind u.epoch u.lA _ u.lc u.l ⟨u.xn, u.xs⟩ u.raw u.n u.keepsA _ u.keepsc hu.kind hu.epoch rfl (by have := hu.l.1; unfold maxLen at this; omega) W0 G hR
theorem askd_size (u : DeedJ) (hu : DeedJOk u) : (askM u.kind u.epoch u.l ⟨u.xn, u.xs⟩ u.raw).size ≤ 9223372036854775807 := ask_size hu.epoch (by have := hu.raw; unfold maxLen at this; omega)
theorem keep0 : Keep jn0 (jD 400000 jn0) := by
  have h0 : ∀ k, aget (jD 400000 jn0).files k = none := fun k => by simp [jD, jFiles, aget]
  exact ⟨⟨well0.ok, Int.le_refl _, fun _ => rfl, jD_ok (by decide) (by decide), rfl, by rw [h0]; rfl, fun k _ _ _ _ => h0 k, fun f hf => (by rw [h0] at hf; cases hf), fun f hf => (by rw [h0] at hf; cases hf)⟩, by unfold logIs; rw [h0]; rfl⟩
theorem beg_trans {xs ys zs : List Ent} (h1 : begB xs ys = true) (h2 : begB ys zs = true) : begB xs zs = true := by
  simp only [begB, decide_eq_true_eq] at h1 h2 ⊢
  have h3 : zs.take xs.length = (zs.take ys.length).take xs.length := by rw [List.take_take, Nat.min_eq_left h1.1]
  exact ⟨by omega, by rw [h3, h2.2, h1.2]⟩
theorem Grown.trans {J K L : Jn} (h1 : Grown J K) (h2 : Grown K L) : Grown J L := ⟨Int.le_trans h1.p h2.p, Int.le_trans h1.e h2.e, fun h => by
  have a := h1.e
  have b := h2.e
  exact beg_trans (h1.xs (by omega)) (h2.xs (by omega))⟩
theorem open_again (bd : Nat) (D : Disk) (hD : DiskOk D) (h0 : (openJ D).1 = 0) (W0 : World) (F : List SL) :
    Fn Tryz.prog 11 [.pointer (some ⟨bd, 0, none⟩)] W0 (diskA bd D :: F)
      (Ret fun v G' => ∃ b, v = .tuple #[.pointer (some ⟨b, 0, none⟩), .int .i64 0] ∧ G' = jA b bd (openJ D).2.1 :: diskA bd (openJ D).2.2 :: F) := by
  refine (j_Open bd D hD W0 F).mono fun e G' h => ?_
  unfold openO at h
  simpa [h0] using h
abbrev deedC (u : DeedJ) : List Value := [.int .i64 u.kind, .int .i64 u.epoch, .slice u.lA u.l.length u.lc, .int .i64 u.xn, .string u.xs, .string u.raw, .int .i64 u.n, .slice u.keepsA u.keeps.length u.keepsc]
set_option maxHeartbeats 8000000 in
theorem law_JournalLasts (A : Option Addr) (k c : Nat) (ls : List DeedJ) (hk : k = ls.length) (hL : ∀ x ∈ ls, DeedJOk x) (W0 : World) (G : List SL) (hR : Rd W0 G djE A ls) (hR2 : ∀ x ∈ ls, Rd W0 G entE x.lA x.l) (hR3 : ∀ x ∈ ls, Rd W0 G intE x.keepsA x.keeps) :
    Fn Tryz.prog 4 [.slice A k c] W0 G (Ret fun v G' => v = .bool true ∧ G' = G) := by
  subst hk
  refine Fn.enter Tryz.func4 rfl Tryz.ntmps4 rfl ?_
  repeat' (first|refine bk ?_|refine bkc ?_|refine bks ?_|refine bkd ?_|refine bkq (fun q => ?_)|(refine bk2 ?_ ?_<;>(first|exact bkn|(refine bkk ?_;intro h))))
  refine WL.call c6 rfl rfl rfl rfl (law_examples W0 G) ?_
  rintro _ G2 ⟨rfl, hG2⟩
  rw [hG2]; clear hG2 G2
  repeat' (first|refine bk ?_|refine bkc ?_|refine bks ?_|refine bkd ?_|refine bkq (fun q => ?_)|(refine bk2 ?_ ?_<;>(first|exact bkn|(refine bkk ?_;intro h))))
  refine WL.call c7 rfl rfl rfl rfl (disk_New 400000 W0 _) ?_
  rintro _ _ ⟨d1, rfl, rfl⟩
  repeat' (first|refine bk ?_|refine bkc ?_|refine bks ?_|refine bkd ?_|refine bkq (fun q => ?_)|(refine bk2 ?_ ?_<;>(first|exact bkn|(refine bkk ?_;intro h))))
  refine WL.call c11 rfl rfl rfl rfl (open_fresh d1 400000 (by decide) (by decide) W0 _) ?_
  rintro _ _ ⟨b0, rfl, rfl⟩
  repeat' (first|refine bk ?_|refine bkc ?_|refine bks ?_|refine bkd ?_|refine bkq (fun q => ?_)|(refine bk2 ?_ ?_<;>(first|exact bkn|(refine bkk ?_;intro h))))
  revert q; intro q8
  refine CS.loop (X := Jn × Disk × Nat × Nat × Option Addr × Nat) (fun y => [(0, .slice A ls.length c), (3, .bool true), (4, .pointer (some ⟨d1, 0, none⟩)), (5, .pointer (some ⟨y.2.2.2.1, 0, none⟩)), (7, .int .i64 y.1.p), (8, .pointer (some ⟨q8, 0, none⟩)), (9, .int .i64 (y.2.2.1 : Int))])
    (fun y => jA y.2.2.2.1 d1 y.1 :: diskA d1 y.2.1 :: row q8 49 [.int .i64 y.1.e, .slice y.2.2.2.2.1 y.1.xs.length y.2.2.2.2.2] :: slc entE 41 y.2.2.2.2.1 y.2.2.2.2.2 y.1.xs :: G)
    (fun y => Keep y.1 y.2.1 ∧ y.1.dead = false ∧ y.2.1.down = false ∧ y.2.2.1 ≤ ls.length) (fun y => ls.length - y.2.2.1) (jn0, jD 400000 jn0, 0, b0, none, 0) ⟨rfl, rfl, rfl, rfl, rfl, rfl, rfl, trivial⟩
    (fun w hs => (((hs.slcNil entE 41).front (i := 1) rfl).front (i := 3) rfl).front (i := 3) rfl) ⟨keep0, rfl, rfl, Nat.zero_le _⟩ ?_
  rintro ⟨J, D, i, b, A0, c0⟩ ⟨hK, ha, hd, hi⟩
  simp only at hK ha hd hi ⊢
  repeat' (first|refine bk ?_|refine bkc ?_|refine bks ?_|refine bkd ?_|refine bkq (fun q => ?_)|(refine bk2 ?_ ?_<;>(first|exact bkn|(refine bkk ?_;intro h))))
  rotate_left 1
  all_goals try (
    exact QS.turn (G' := G) (fun w hs => hs.drop.drop.drop.drop) (QS.retV Tryz.results4 rfl ⟨rfl, rfl⟩)
    done)
  obtain ⟨u, hu⟩ : ∃ x, ls[i]? = some x := ⟨ls[i]'(by omega), List.getElem?_eq_getElem (by omega)⟩
  have hum := List.mem_of_getElem? hu
  have huo := hL u hum
  refine WL.idx TT hR.cons.cons.cons.cons rfl rfl rfl (by omega) (by rw [Int.toNat_natCast]; exact hu) rfl rfl rfl rfl (fun bb o hA => ?_)
  refine WL.s (op1_at TT hA rfl rfl rfl rfl) rfl ?_
  repeat' (first|refine bk ?_|refine bkc ?_|refine bks ?_|refine bkd ?_|refine bkq (fun q => ?_)|(refine bk2 ?_ ?_<;>(first|exact bkn|(refine bkk ?_;intro h))))
  revert q; intro q10
  refine WL.call c19 rfl rfl rfl rfl (law_pick u.n 12 huo.n (by decide) W0 _) ?_
  rintro _ G2 ⟨rfl, hG2⟩
  rw [hG2]; clear hG2 G2
  have hp := pickM_range (n := u.n) (m := 12) (by decide)
  generalize pickM u.n 12 = fu at hp ⊢
  repeat' (first|refine bk ?_|refine bkc ?_|refine bks ?_|refine bkd ?_|refine bkq (fun q => ?_)|(refine bk2 ?_ ?_<;>(first|exact bkn|(refine bkk ?_;intro h))))
  refine WL.call c18 rfl rfl rfl rfl ((disk_Fuse (b := d1) (D := D) fu W0 _).pre (fun w hs => hs.front (i := 2) rfl)) ?_
  rintro _ _ ⟨rfl, rfl⟩
  have hK1 := hK.light (n := fu) (by omega)
  have hd1 : (D.light fu).down = false := hd
  generalize D.light fu = D1 at hK1 hd1 ⊢
  clear hA hK hd
  repeat' (first|refine bk ?_|refine bkc ?_|refine bks ?_|refine bkd ?_|refine bkq (fun q => ?_)|(refine bk2 ?_ ?_<;>(first|exact bkn|(refine bkk ?_;intro h))))
  refine WL.call c14 rfl rfl rfl rfl (askd u huo W0 _ (hR2 u hum).cons.cons.cons.cons.cons) ?_
  rintro _ G2 ⟨rfl, hG2⟩
  rw [hG2]; clear hG2 G2
  have hq := askd_size u huo
  generalize askM u.kind u.epoch u.l ⟨u.xn, u.xs⟩ u.raw = s at hq ⊢
  repeat' (first|refine bk ?_|refine bkc ?_|refine bkd ?_|refine bkq (fun q => ?_)|(refine bk2 ?_ ?_<;>(first|exact bkn|(refine bkk ?_;intro h))))
  have hok := hand_jok hK1.ok hK1.disk (bs s)
  have hst := hand_keep hK1 ha hd1 (bs s)
  have hc := j_Handle b d1 J hK1.ok _ hK1.disk s hq W0 (row q10 44 (deedC u) :: row q8 49 [.int .i64 J.e, .slice A0 J.xs.length c0] :: slc entE 41 A0 c0 J.xs :: G)
  generalize handJ J D1 (bs s) = r at hok hst hc
  obtain ⟨a, J1, D2⟩ := r
  simp only at hok hst hc
  refine WL.call c13 rfl rfl rfl rfl (hc.pre (fun w hs => hs.front (i := 2) rfl)) ?_
  clear hc
  rintro _ _ ⟨rfl, rfl⟩
  repeat' (first|refine bk ?_|refine bkc ?_|refine bkd ?_|refine bkq (fun q => ?_)|(refine bk2 ?_ ?_<;>(first|exact bkn|(refine bkk ?_;intro h))))
  refine CS.seq ?_
  refine CS.cut (X := Jn × Disk × Nat) (fun y => [(0, .slice A ls.length c), (3, .bool true), (4, .pointer (some ⟨d1, 0, none⟩)), (5, .pointer (some ⟨y.2.2, 0, none⟩)), (7, .int .i64 J.p), (8, .pointer (some ⟨q8, 0, none⟩)), (9, .int .i64 (i : Int)), (10, .pointer (some ⟨q10, 0, none⟩))])
    (fun y => jA y.2.2 d1 y.1 :: diskA d1 y.2.1 :: row q10 44 (deedC u) :: row q8 49 [.int .i64 J.e, .slice A0 J.xs.length c0] :: slc entE 41 A0 c0 J.xs :: G)
    (fun y => JnOk y.1 ∧ (y.1.dead = true ∨ (Keep y.1 y.2.1 ∧ y.1.dead = false ∧ y.2.1.down = false ∧ Grown J y.1))) ?_ ?_
  · repeat' (first|refine bk ?_|refine bkc ?_|refine bks ?_|refine bkd ?_|refine bkq (fun q => ?_)|(refine bk2 ?_ ?_<;>(first|exact bkn|(refine bkk ?_;intro h))))
    refine WL.call c20 rfl rfl rfl rfl ((disk_Down (b := d1) (D := D2) W0 _).pre (fun w hs => hs.front (i := 1) rfl)) ?_
    rintro _ G2 ⟨rfl, hG2⟩
    rw [hG2]; clear hG2 G2
    cases hd2 : D2.down with
    | false =>
      repeat' (first|refine bk ?_|refine bkc ?_|refine bks ?_|refine bkd ?_|refine bkq (fun q => ?_)|(refine bk2 ?_ ?_<;>(first|exact bkn|(refine bkk ?_;intro h))))
      exact QS.met (J1, D2, b) ⟨hok.1, hst.elim (fun h => .inr ⟨h.2.2.1, h.1, h.2.1, h.2.2.2⟩) (fun h => .inl h.1)⟩ ⟨rfl, rfl, rfl, rfl, rfl, rfl, rfl, rfl, trivial⟩ (fun w hs => hs.front (i := 1) rfl)
    | true =>
      repeat' (first|refine bk ?_|refine bkc ?_|refine bks ?_|refine bkd ?_|refine bkq (fun q => ?_)|(refine bk2 ?_ ?_<;>(first|exact bkn|(refine bkk ?_;intro h))))
      obtain ⟨K, hKd, hKt, hKg⟩ : ∃ K : Jn, K.dead = false ∧ Torn K D2 ∧ Grown J K := hst.elim (fun h => by rw [h.2.1] at hd2; cases hd2) (fun h => h.2)
      have hkk := huo.keeps
      unfold maxLen at hkk
      refine WL.call c21 rfl rfl rfl rfl (disk_Crash (b := d1) hok.2 (A := u.keepsA) (c := u.keepsc) (keeps := u.keeps) hkk.2 (by omega) W0 _ (hR3 u hum).cons.cons.cons.cons) ?_
      rintro _ _ ⟨rfl, rfl⟩
      repeat' (first|refine bk ?_|refine bkc ?_|refine bks ?_|refine bkd ?_|refine bkq (fun q => ?_)|(refine bk2 ?_ ?_<;>(first|exact bkn|(refine bkk ?_;intro h))))
      obtain ⟨o1, o2, o3, o4, o5⟩ := open_keep hKt hKd u.keeps
      have hc := open_again d1 (D2.crash u.keeps) (crash_ok hok.2 u.keeps) o1 W0 (jA b d1 J1 :: row q10 44 (deedC u) :: row q8 49 [.int .i64 J.e, .slice A0 J.xs.length c0] :: slc entE 41 A0 c0 J.xs :: G)
      generalize openJ (D2.crash u.keeps) = r at o1 o2 o3 o4 o5 hc
      obtain ⟨_, J3, D3⟩ := r
      simp only at o2 o3 o4 o5 hc
      refine WL.call c11 rfl rfl rfl rfl hc ?_
      clear hc
      rintro _ _ ⟨b3, rfl, rfl⟩
      repeat' (first|refine bk ?_|refine bkc ?_|refine bks ?_|refine bkd ?_|refine bkq (fun q => ?_)|(refine bk2 ?_ ?_<;>(first|exact bkn|(refine bkk ?_;intro h))))
      exact QS.met (J3, D3, b3) ⟨o4.ok, .inr ⟨o4, o2, o3, hKg.trans o5⟩⟩ ⟨rfl, rfl, rfl, rfl, rfl, rfl, rfl, rfl, trivial⟩ (fun w hs => hs.kick (i := 2) rfl)
  rintro ⟨J2, D3, b2⟩ ⟨hJ2, hst2⟩
  simp only at hJ2 hst2 ⊢
  have hjl := hJ2.len
  repeat' (first|refine bk ?_|refine bkc ?_|refine bks ?_|refine bkd ?_|refine bkq (fun q => ?_)|(refine bk2 ?_ ?_<;>(first|exact bkn|(refine bkk ?_;intro h))))
  rcases hst2 with hdd | ⟨hK2, hdd, hd3, hG⟩
  · have hc := j_Log b2 d1 J2 (by omega) W0 (diskA d1 D3 :: row q10 44 (deedC u) :: row q8 49 [.int .i64 J.e, .slice A0 J.xs.length c0] :: slc entE 41 A0 c0 J.xs :: G)
    refine WL.call c22 rfl rfl rfl rfl hc ?_
    clear hc
    rintro _ _ ⟨A3, c3, rfl, rfl⟩
    repeat' (first|refine bk ?_|refine bkc ?_|refine bks ?_|refine bkd ?_|refine bkq (fun q => ?_)|(refine bk2 ?_ ?_<;>(first|exact bkn|(refine bkk ?_;intro h))))
    refine WL.call c23 rfl rfl rfl rfl ((j_Dead b2 d1 J2 W0 _).pre (fun w hs => hs.front (i := 2) rfl)) ?_
    rintro _ G2 ⟨rfl, hG2⟩
    rw [hG2]; clear hG2 G2
    rw [hdd]
    repeat' (first|refine bk ?_|refine bkc ?_|refine bks ?_|refine bkd ?_|refine bkq (fun q => ?_)|(refine bk2 ?_ ?_<;>(first|exact bkn|(refine bkk ?_;intro h))))
    exact QS.turn (G' := G) (fun w hs => hs.drop.drop.drop.drop.drop.drop.drop) (QS.retV Tryz.results4 rfl ⟨rfl, rfl⟩)
  · have hc := j_Log b2 d1 J2 (by omega) W0 (diskA d1 D3 :: row q10 44 (deedC u) :: row q8 49 [.int .i64 J.e, .slice A0 J.xs.length c0] :: slc entE 41 A0 c0 J.xs :: G)
    rw [if_neg (by rw [hdd]; decide), if_neg (by rw [hdd]; decide)] at hc
    refine WL.call c22 rfl rfl rfl rfl hc ?_
    clear hc
    rintro _ _ ⟨A3, c3, rfl, rfl⟩
    repeat' (first|refine bk ?_|refine bkc ?_|refine bks ?_|refine bkd ?_|refine bkq (fun q => ?_)|(refine bk2 ?_ ?_<;>(first|exact bkn|(refine bkk ?_;intro h))))
    revert q; intro q13
    refine WL.call c23 rfl rfl rfl rfl ((j_Dead b2 d1 J2 W0 _).pre (fun w hs => hs.front (i := 2) rfl)) ?_
    rintro _ G2 ⟨rfl, hG2⟩
    rw [hG2]; clear hG2 G2
    rw [hdd]
    repeat' (first|refine bk ?_|refine bkc ?_|refine bks ?_|refine bkq (fun q => ?_)|(refine bk2 ?_ ?_<;>(first|exact bkn|(refine bkk ?_;intro h))))
    have g1 := hG.p
    have g2 := hG.e
    have g3 := hK2.ep
    have hcP := j_Promised b2 d1 J2 W0 (row q13 49 [.int .i64 J2.e, .slice A3 J2.xs.length c3] :: slc entE 41 A3 c3 J2.xs :: diskA d1 D3 :: row q10 44 (deedC u) :: row q8 49 [.int .i64 J.e, .slice A0 J.xs.length c0] :: slc entE 41 A0 c0 J.xs :: G)
    rw [if_neg (by rw [hdd]; decide)] at hcP
    refine CS.drawA _ (fun w hs => hs) mixed (by kernel_rfl) rfl ?_
    repeat' (first|refine bka ?_|(refine bk2a ?_ ?_<;>(first|exact bkn|(refine bkk ?_;intro h))))
    refine WA.callAt 1 (by kernel_rfl) rfl (by kernel_rfl) rfl c24 rfl rfl rfl rfl (j_PromisedQ hdd) ?_
    refine WA.at 2 (by kernel_rfl) rfl (by kernel_rfl) rfl (op1_pure1 TT rfl) rfl ?_
    have hlt : decide (J2.p < J.p) = false := decide_eq_false (by omega)
    refine WA.at 3 (by kernel_rfl) rfl (by kernel_rfl) rfl (Eq.subst (motive := fun x => Op1 _ _ _ _ _ _ _ _ (.bool x)) hlt (op1_pure TT rfl)) rfl ?_
    refine WA.at 4 (by kernel_rfl) rfl (by kernel_rfl) rfl (op1_pure1 TT rfl) rfl ?_
    refine bka ?_
    refine WA.parts 84 rfl (fun h => absurd (of_decide_eq_true h) (by omega)) (fun _ => ?_)
    refine bka ?_
    have hl1 := hK1.ok.len
    refine WA.parts 90 rfl (fun he => ?_) (fun hne => ?_)
    · have he := of_decide_eq_true he
      have hbg := hG.xs he.symm
      refine bka ?_
      refine WA.callAt 22 (by kernel_rfl) rfl (by kernel_rfl) rfl c25 rfl rfl rfl rfl (fun G' hG' => law_begins A3 A0 _ c3 _ c0 J2.xs J.xs rfl rfl (by omega) (by omega) W0 G' ((Rd.slc (i := 2) rfl).of hG') ((Rd.slc (i := 6) rfl).of hG')) ?_
      rw [hbg]
      refine bka ?_
      refine WA.callAt 30 (by kernel_rfl) rfl (by kernel_rfl) rfl c24 rfl rfl rfl rfl (j_PromisedQ hdd) ?_
      refine bka ?_
      refine WA.parts 105 rfl (fun h => absurd (of_decide_eq_true h) (by omega)) (fun _ => ?_)
      refine WA.fin (by kernel_rfl) ?_
      repeat' (first|refine bk ?_|refine bkc ?_|refine bks ?_|refine bkq (fun q => ?_)|(refine bk2 ?_ ?_<;>(first|exact bkn|(refine bkk ?_;intro h))))
      refine WL.call c24 rfl rfl rfl rfl hcP ?_
      rintro _ G2 ⟨rfl, hG2⟩
      rw [hG2]; clear hG2 G2
      repeat' (first|refine bk ?_|refine bkc ?_|refine bks ?_|refine bkq (fun q => ?_)|(refine bk2 ?_ ?_<;>(first|exact bkn|(refine bkk ?_;intro h))))
      refine QS.again (J2, D3, i + 1, b2, A3, c3) ⟨hK2, hdd, hd3, by show i + 1 ≤ ls.length; omega⟩ (by show ls.length - (i + 1) < ls.length - i; omega) ⟨rfl, rfl, rfl, rfl, rfl, rfl, rfl, trivial⟩ (fun w hs => ?_)
      exact (((hs.kick (i := 1) rfl).kick (i := 3) rfl).kick (i := 4) rfl).perm (List.Perm.cons _ ((List.Perm.swap ..).trans (List.Perm.cons _ (List.Perm.swap ..))))
    · refine bka ?_
      refine WA.callAt 30 (by kernel_rfl) rfl (by kernel_rfl) rfl c24 rfl rfl rfl rfl (j_PromisedQ hdd) ?_
      refine bka ?_
      refine WA.parts 105 rfl (fun h => absurd (of_decide_eq_true h) (by omega)) (fun _ => ?_)
      refine WA.fin (by kernel_rfl) ?_
      repeat' (first|refine bk ?_|refine bkc ?_|refine bks ?_|refine bkq (fun q => ?_)|(refine bk2 ?_ ?_<;>(first|exact bkn|(refine bkk ?_;intro h))))
      refine WL.call c24 rfl rfl rfl rfl hcP ?_
      rintro _ G2 ⟨rfl, hG2⟩
      rw [hG2]; clear hG2 G2
      repeat' (first|refine bk ?_|refine bkc ?_|refine bks ?_|refine bkq (fun q => ?_)|(refine bk2 ?_ ?_<;>(first|exact bkn|(refine bkk ?_;intro h))))
      refine QS.again (J2, D3, i + 1, b2, A3, c3) ⟨hK2, hdd, hd3, by show i + 1 ≤ ls.length; omega⟩ (by show ls.length - (i + 1) < ls.length - i; omega) ⟨rfl, rfl, rfl, rfl, rfl, rfl, rfl, trivial⟩ (fun w hs => ?_)
      exact (((hs.kick (i := 1) rfl).kick (i := 3) rfl).kick (i := 4) rfl).perm (List.Perm.cons _ ((List.Perm.swap ..).trans (List.Perm.cons _ (List.Perm.swap ..))))
end Go.Proofs.YtejdkcnbflpfaaaGreat.B

set_option linter.unusedVariables false
set_option linter.unusedSimpArgs false
set_option maxRecDepth 8000
/-! The disk's list, what is used, and whether it is down. -/
namespace Go.Proofs.YtejdkcnbflpfaaaGreat.B
open Go Go.Proofs
attribute [local irreducible] WL CS QS WQ WH WS Fn Op1 row Sat
attribute [local irreducible] diskA mapb slc

theorem disk_List {b : Nat} {D : Disk} (hD : DiskOk D) (W0 : World) (F : List SL) :
    Fn Tryz.prog 65 [.pointer (some ⟨b, 0, none⟩)] W0 (diskA b D :: F)
      (Ret fun v G' => ∃ A c, v = .slice A D.list.length c ∧ G' = slc strE 9 A c D.list :: diskA b D :: F) := by
  refine Fn.ex (fun w hs => diskA_open w hs) (fun m => ?_)
  refine Fn.enter Tryz.func65 rfl Tryz.ntmps65 rfl ?_
  simp only [diskCells]
  repeat' (first|refine bk ?_|refine bkc ?_|refine bks ?_|refine bkd ?_|refine bkq (fun q => ?_)|(refine bk2 ?_ ?_<;>(first|exact bkn|(refine bkk ?_;intro h))))
  · refine QS.turn (G' := slc strE 9 none 0 D.list :: diskA b D :: F) (fun w hs => ?_) (QS.retV Tryz.results65 rfl ⟨none, 0, ?_, rfl⟩)
    · rw [Disk.list, if_pos h]
      exact (diskA_shut (m := m) w hs).slcNil strE _
    · rw [Disk.list, if_pos h]; rfl
  · refine WL.call c69 rfl rfl rfl rfl (disk_names (m := m) (b := b) hD.nodup (fun x hx => (hD.keys x hx).2) hD.count W0 F) ?_
    rintro _ _ ⟨A, c, rfl, rfl⟩
    repeat' (first|refine bk ?_|refine bkc ?_|refine bks ?_|refine bkd ?_|refine bkq (fun q => ?_)|(refine bk2 ?_ ?_<;>(first|exact bkn|(refine bkk ?_;intro h))))
    refine QS.turn (G' := slc strE 9 A c D.list :: diskA b D :: F) (fun w hs => ?_) (QS.retV Tryz.results65 rfl ⟨A, c, ?_, rfl⟩)
    · rw [Disk.list, if_neg (by rw [h]; decide)]
      exact (diskA_shut (m := m) w ((hs.front (i := 2) rfl).front (i := 2) rfl)).front (i := 1) rfl
    · rw [Disk.list, if_neg (by rw [h]; decide)]; rfl

theorem disk_Used {b : Nat} {D : Disk} (W0 : World) (F : List SL) :
    Fn Tryz.prog 67 [.pointer (some ⟨b, 0, none⟩)] W0 (diskA b D :: F) (Ret fun v G' => v = .int .i64 D.usedOf ∧ G' = diskA b D :: F) := by
  refine Fn.ex (fun w hs => diskA_open w hs) (fun m => ?_)
  refine Fn.enter Tryz.func67 rfl Tryz.ntmps67 rfl ?_
  simp only [diskCells]
  repeat' (first|refine bk ?_|refine bkc ?_|refine bks ?_|refine bkd ?_|refine bkq (fun q => ?_)|(refine bk2 ?_ ?_<;>(first|exact bkn|(refine bkk ?_;intro h))))
  all_goals
    refine QS.turn (G' := diskA b D :: F) (fun w hs => diskA_shut (m := m) w hs) (QS.retV Tryz.results67 rfl ⟨?_, rfl⟩)
    simp [Disk.usedOf, resV, *]
end Go.Proofs.YtejdkcnbflpfaaaGreat.B

set_option linter.unusedVariables false
set_option linter.unusedSimpArgs false
set_option linter.unusedSectionVars false
set_option maxRecDepth 8000
/-! What the document's disk does with its blocks: Crash. -/
namespace Go.Proofs.YtejdkcnbflpfaaaGreat.B
open Go Go.Proofs
attribute [local irreducible] WL CS QS WQ WH WS Fn Op1 row Sat
attribute [local irreducible] refA slc

theorem crE_len (x : RFile) (c : Int) : (crE x c).length ≤ 1 := by unfold crE; split <;> simp
theorem crT_len (keeps : List Int) (l : List RFile) : ∀ i, (crT keeps l i).length ≤ i
  | 0 => Nat.le_refl _
  | i + 1 => by
    have := crT_len keeps l i
    rw [crT, List.length_append]
    cases hl : l[i]? with
    | none => simp only [List.length_nil]; omega
    | some x => have := crE_len x (keepN keeps i); simp only; omega

set_option maxHeartbeats 4000000 in
theorem rdisk_Crash (b : Nat) (R : RDisk) (hR : ROk R) (hsy : ∀ f ∈ R.files, FileOk ⟨f.data, f.syn⟩) {B : Option Addr} {cB : Nat} {keeps : List Int} (hk : ∀ x ∈ keeps, I64 x) (hkl : keeps.length ≤ 9223372036854775807) (W0 : World) (F : List SL) (hRd : Rd W0 F intE B keeps) :
    Fn Tryz.prog 27 [.pointer (some ⟨b, 0, none⟩), .slice B keeps.length cB] W0 (refA b R :: F) (Ret fun v G' => v = .tuple #[] ∧ G' = refA b (R.crash keeps) :: F) := by
  have hcn := hR.count
  refine Fn.ex (fun w hs => refA_open w hs) (fun x => ?_)
  obtain ⟨A, c⟩ := x
  simp only
  refine Fn.enter Tryz.func27 rfl Tryz.ntmps27 rfl ?_
  simp only [refCells]
  repeat' (first|refine bk ?_|refine bkc ?_|refine bks ?_|refine bkd ?_|refine bkq (fun q => ?_)|(refine bk2 ?_ ?_<;>(first|exact bkn|(refine bkk ?_;intro h))))
  refine CS.loop (X := Nat × Option Addr × Nat) (fun y => [(0, .pointer (some ⟨b, 0, none⟩)), (1, .slice B keeps.length cB), (4, .slice y.2.1 (crT keeps R.files y.1).length y.2.2), (5, .int .i64 (y.1 : Int))])
    (fun y => slc rfE 73 y.2.1 y.2.2 (crT keeps R.files y.1) :: row b 66 (refCells A c R) :: slc rfE 73 A c R.files :: F)
    (fun y => y.1 ≤ R.files.length) (fun y => R.files.length - y.1) (0, none, 0) ⟨rfl, rfl, rfl, rfl, trivial⟩ (fun w hs => hs.slcNil rfE 73) (Nat.zero_le _) ?_
  rintro ⟨i, A2, c2⟩ hi
  simp only [refCells] at hi ⊢
  have hcl := crT_len keeps R.files i
  generalize hX : crT keeps R.files i = X at hcl ⊢
  repeat' (first|refine bk ?_|refine bkc ?_|refine bks ?_|refine bkd ?_|refine bkq (fun q => ?_)|(refine bk2 ?_ ?_<;>(first|exact bkn|(refine bkk ?_;intro h))))
  · obtain ⟨f, hf⟩ : ∃ x, R.files[i]? = some x := ⟨R.files[i]'(by omega), List.getElem?_eq_getElem (by omega)⟩
    have hfo := hsy f (List.mem_of_getElem? hf)
    have hf0 := hfo.s0
    have hf1 := hfo.s1
    have hfm := hfo.most
    simp only at hf0 hf1 hfm
    refine WL.idx TT (Rd.slc (i := 2) rfl) rfl rfl rfl (by omega) (by rw [Int.toNat_natCast]; exact hf) rfl rfl rfl rfl (fun b2 o hA => ?_)
    refine WL.s (op1_at TT hA rfl rfl rfl rfl) rfl ?_
    repeat' (first|refine bk ?_|refine bkc ?_|refine bkd ?_|refine bkq (fun q => ?_)|(refine bk2 ?_ ?_<;>(first|exact bkn|(refine bkk ?_;intro h))))
    refine CS.seq ?_
    repeat' (first|refine bk ?_|refine bkc ?_|refine bkd ?_|refine bkq (fun q => ?_)|(refine bk2 ?_ ?_<;>(first|exact bkn|(refine bkk ?_;intro h))))
    refine CS.seq ?_
    refine CS.cut (X := Unit) (fun _ => [(0, .pointer (some ⟨b, 0, none⟩)), (1, .slice B keeps.length cB), (4, .slice A2 X.length c2), (5, .int .i64 (i : Int)), (6, .pointer (some ⟨q, 0, none⟩)), (7, .int .i64 (keeps.getD i 0))]) (fun _ => row q 73 [.string f.name, .string f.data, .int .i64 f.syn] :: slc rfE 73 A2 c2 X :: row b 66 [.int .i64 R.room, .slice A R.files.length c, .int .i64 R.left, .bool R.off] :: slc rfE 73 A c R.files :: F) (fun _ => True) ?_ ?_
    · repeat' (first|refine bk ?_|refine bkc ?_|refine bks ?_|refine bkd ?_|refine bkq (fun q => ?_)|(refine bk2 ?_ ?_<;>(first|exact bkn|(refine bkk ?_;intro h))))
      · refine WL.idx TT hRd.cons.cons.cons.cons rfl rfl rfl (by omega) (x := keeps.getD i 0) (by rw [Int.toNat_natCast, List.getD_eq_getElem?_getD, List.getElem?_eq_getElem (by omega)]; rfl) rfl rfl rfl rfl (fun b3 o3 hA3 => ?_)
        refine WL.s (op1_at TT hA3 rfl rfl rfl rfl) rfl ?_
        repeat' (first|refine bk ?_|refine bkc ?_|refine bks ?_|refine bkd ?_|refine bkq (fun q => ?_)|(refine bk2 ?_ ?_<;>(first|exact bkn|(refine bkk ?_;intro h))))
        exact QS.met () trivial ⟨rfl, rfl, rfl, rfl, rfl, rfl, trivial⟩ (fun w hs => hs)
      · refine QS.met () trivial ⟨rfl, rfl, rfl, rfl, rfl, ?_, trivial⟩ (fun w hs => hs)
        rw [List.getD_eq_getElem?_getD, List.getElem?_eq_none (by omega)]; rfl
    rintro _ _
    have hz : I64 (keeps.getD i 0) := by
      rw [List.getD_eq_getElem?_getD]
      cases hg : keeps[i]? with
      | none => exact ⟨by simp, by simp⟩
      | some x => exact hk x (List.mem_of_getElem? hg)
    have hz1 := hz.1
    have hz2 := hz.2
    refine QS.then ?_
    refine CS.seq ?_
    refine CS.cut (X := Unit) (fun _ => [(0, .pointer (some ⟨b, 0, none⟩)), (1, .slice B keeps.length cB), (4, .slice A2 X.length c2), (5, .int .i64 (i : Int)), (6, .pointer (some ⟨q, 0, none⟩)), (7, .int .i64 (keepN keeps i))]) (fun _ => row q 73 [.string f.name, .string f.data, .int .i64 f.syn] :: slc rfE 73 A2 c2 X :: row b 66 [.int .i64 R.room, .slice A R.files.length c, .int .i64 R.left, .bool R.off] :: slc rfE 73 A c R.files :: F) (fun _ => True) ?_ ?_
    · repeat' (first|refine bk ?_|refine bkc ?_|refine bks ?_|refine bkd ?_|refine bkq (fun q => ?_)|(refine bk2 ?_ ?_<;>(first|exact bkn|(refine bkk ?_;intro h))))
      · refine QS.met () trivial ⟨rfl, rfl, rfl, rfl, rfl, ?_, trivial⟩ (fun w hs => hs)
        rw [keepN, if_pos h, show -keeps.getD i 0 - 1 = -(keeps.getD i 0 + 1) from by omega]; rfl
      · refine QS.met () trivial ⟨rfl, rfl, rfl, rfl, rfl, ?_, trivial⟩ (fun w hs => hs)
        rw [keepN, if_neg h]; rfl
    rintro _ _
    have hkn := keepN_nonneg keeps i
    obtain ⟨hc1, hc2⟩ := crashN_ok hfo hkn
    simp only at hc1 hc2
    have e0 : crashN ⟨f.data, f.syn⟩ (keepN keeps i) = f.syn + keepN keeps i % ((f.data.size : Int) - f.syn + 1) := rfl
    repeat' (first|refine bk ?_|refine bkc ?_|refine bks ?_|refine bkd ?_|refine bkq (fun q => ?_)|(refine bk2 ?_ ?_<;>(first|exact bkn|(refine bkk ?_;intro h))))
    refine WL.s (op1_remE TT rfl rfl (by omega)) rfl ?_
    repeat' (first|refine bk ?_|refine bkc ?_|refine bks ?_|refine bkd ?_|refine bkq (fun q => ?_)|(refine bk2 ?_ ?_<;>(first|exact bkn|(refine bkk ?_;intro h))))
    rw [← e0]
    refine WL.s (op1_slice TT (l := 0) (r := crashN ⟨f.data, f.syn⟩ (keepN keeps i)) (s := f.data) rfl rfl rfl rfl ⟨by omega, by omega, by omega⟩) rfl ?_
    have hes : (f.data.extract (Int.toNat 0) (crashN ⟨f.data, f.syn⟩ (keepN keeps i)).toNat).size = (crashN ⟨f.data, f.syn⟩ (keepN keeps i)).toNat := extract0_size _ _ (by omega)
    generalize he : f.data.extract (Int.toNat 0) (crashN ⟨f.data, f.syn⟩ (keepN keeps i)).toNat = E at hes ⊢
    repeat' (first|refine bk ?_|refine bkc ?_|refine bks ?_|refine bkd ?_|refine bkq (fun q => ?_)|(refine bk2 ?_ ?_<;>(first|exact bkn|(refine bkk ?_;intro h))))
    · have hcf : crashF ⟨f.data, f.syn⟩ (keepN keeps i) = some ⟨E, (E.size : Int)⟩ := by
        unfold crashF
        rw [if_neg (fun e => by have := e.1; omega)]
        have : (E.size : Int) = crashN ⟨f.data, f.syn⟩ (keepN keeps i) := by omega
        rw [this, ← he]; rfl
      have hnext : crT keeps R.files (i + 1) = X ++ [⟨f.name, E, (E.size : Int)⟩] := by
        rw [crT, hX, hf]; simp only [crE, hcf]
      refine WL.buildSlice TT rfl rfl rfl rfl rfl rfl rfl rfl (fun qs => ?_)
      refine WL.append TT (E := rfE) (xs := X) (ys := [⟨f.name, E, (E.size : Int)⟩]) 2 rfl rfl rfl rfl rfl (Rd.row (i := 0) rfl rfl) rfl rfl rfl rfl rfl (by decide) (by simp only [List.length_cons, List.length_nil]; omega) (fun _ _ => rfl) rfl (fun A3 c3 => ?_)
      rw [← hnext]
      repeat' (first|refine bk ?_|refine bkc ?_|refine bks ?_|refine bkd ?_|refine bkq (fun q => ?_)|(refine bk2 ?_ ?_<;>(first|exact bkn|(refine bkk ?_;intro h))))
      refine QS.again (i + 1, A3, c3) (by simp only; omega) (by simp only; omega) ⟨rfl, rfl, rfl, ?_, trivial⟩ (fun w hs => hs.drop.drop)
      rw [show ((i + 1 : Nat) : Int) = (i : Int) + 1 from by omega]; rfl
    · have hcf : crashF ⟨f.data, f.syn⟩ (keepN keeps i) = none := by
        unfold crashF
        rw [if_pos ⟨by omega, by simp only; omega⟩]
      have hnext : crT keeps R.files (i + 1) = X := by
        rw [crT, hX, hf]; simp only [crE, hcf, List.append_nil]
      refine QS.again (i + 1, A2, c2) (by simp only; omega) (by simp only; omega) ⟨rfl, rfl, ?_, ?_, trivial⟩ (fun w hs => by rw [hnext]; exact hs.drop)
      · rw [hnext]; rfl
      · rw [show ((i + 1 : Nat) : Int) = (i : Int) + 1 from by omega]; rfl
  · have hin : i = R.files.length := by omega
    rw [hin] at hX
    have hcr : R.crash keeps = ⟨R.room, X, 0, false⟩ := by rw [RDisk.crash, hX]
    rw [hcr]
    exact QS.turn (G' := refA b ⟨R.room, X, 0, false⟩ :: F) (fun w hs => refA_shut (A := A2) (c := c2) w ((hs.kick (i := 2) rfl).front (i := 1) rfl)) (QS.endV Tryz.results27 rfl ⟨rfl, rfl⟩)
end Go.Proofs.YtejdkcnbflpfaaaGreat.B
