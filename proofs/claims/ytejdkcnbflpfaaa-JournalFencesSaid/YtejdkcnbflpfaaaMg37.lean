import Derived.Test.YtejdkcnbflpfaaaMg36
set_option linter.unusedVariables false
set_option linter.unusedSimpArgs false
set_option maxRecDepth 8000
/-! JournalFences: the walk. -/
namespace Go.Proofs.Ytejdkcnbflpfaaa.B
open Go Go.Proofs
attribute [local irreducible] WL CS QS WQ WH WS Fn Op1 row Sat
attribute [local irreducible] slc diskA jA

theorem hand_len (J : Jn) (D : Disk) (s : List UInt8) : (handJ J D s).1.length ≤ 4010010 := by
  have hs : ∀ e, I64 e → (saidB e).length ≤ 4010010 := fun e h => joinB_len (saidL_ok h)
  have ht : ∀ e xs, (toldB e xs).length ≤ 4010010 := fun e xs => joinB_len (toldL_ok e xs)
  have i0 : I64 0 ∧ I64 2 ∧ I64 10 ∧ I64 11 ∧ I64 12 := by unfold I64; decide
  unfold handJ
  split
  · exact hs 12 i0.2.2.2.2
  · cases readQ s with
    | none => exact hs 2 i0.2.1
    | some q =>
      simp only
      unfold ansJ
      split
      · rename_i h
        rcases h with h | h <;> rw [h]
        · exact hs 10 i0.2.2.1
        · exact hs 11 i0.2.2.2.1
      · split
        · exact hs 12 i0.2.2.2.2
        · split
          · exact ht _ _
          · exact hs 0 i0.1
def seenE (J : Jn) : Int := if J.dead = true then 0 else J.e
def seenX (J : Jn) : List Ent := if J.dead = true then [] else J.xs
theorem seenX_len {J : Jn} (h : JnOk J) : (seenX J).length ≤ 300 := by
  unfold seenX; split
  · exact Nat.zero_le _
  · exact h.len
def seenP (J : Jn) : Int := if J.dead = true then 0 else J.p
theorem j_Seen (b bd : Nat) (J : Jn) (hJ : JnOk J) (W0 : World) (F : List SL) :
    Fn Try.prog 20 [.pointer (some ⟨b, 0, none⟩)] W0 (jA b bd J :: F) (Ret fun v G' => ∃ A c, v = logV (seenE J) A (seenX J).length c ∧ G' = slc entE 24 A c (seenX J) :: jA b bd J :: F) :=
  j_Log b bd J (by have := hJ.len; omega) W0 F
theorem j_SeenP (b bd : Nat) (J : Jn) (W0 : World) (F : List SL) :
    Fn Try.prog 21 [.pointer (some ⟨b, 0, none⟩)] W0 (jA b bd J :: F) (Ret fun v G' => v = .int .i64 (seenP J) ∧ G' = jA b bd J :: F) := j_Promised b bd J W0 F
abbrev lateC (k e : Int) (u : DeedJ) : List Value := [.int .i64 k, .int .i64 e, .slice u.lA u.l.length u.lc, .int .i64 u.xn, .string u.xs, .string u.raw, .int .i64 u.n, .slice u.keepsA u.keeps.length u.keepsc]
set_option maxHeartbeats 8000000 in
theorem law_JournalFences (A : Option Addr) (k c : Nat) (ls : List DeedJ) (hk : k = ls.length) (hL : ∀ x ∈ ls, DeedJOk x) (ep : Int) (hep : I64 ep) (late : DeedJ) (hlate : DeedJOk late) (W0 : World) (G : List SL) (hR : Rd W0 G djE A ls) (hR2 : ∀ x ∈ ls, Rd W0 G entE x.lA x.l) (hR3 : Rd W0 G entE late.lA late.l) :
    Fn Try.prog 4 [.slice A k c, .int .i64 ep, .agg ⟨djE.enc late⟩] W0 G (Ret fun v G' => v = .bool true ∧ G' = G) := by
  subst hk
  have sz : ∀ {l : List ByteArray}, joinOk l = true → (mk (joinB l)).size ≤ 9223372036854775807 := fun h => by rw [mk_size]; have := joinB_len h; omega
  have ok0 : DiskOk (jD 400000 jn0) := jD_ok (by decide) (by decide)
  show Fn Try.prog 4 [.slice A ls.length c, .int .i64 ep, .agg ⟨lateC late.kind late.epoch late⟩] W0 G (Ret fun v G' => v = .bool true ∧ G' = G)
  refine Fn.enter Try.func4 rfl Try.ntmps4 rfl ?_
  repeat' (first|refine bk ?_|refine bkc ?_|refine bks ?_|refine bkd ?_|refine bkq (fun q => ?_)|(refine bk2 ?_ ?_<;>(first|exact bkn|(refine bkk ?_;intro h))))
  revert q; intro q5
  refine WL.call c6 rfl rfl rfl rfl (law_examples W0 _) ?_
  rintro _ G2 ⟨rfl, hG2⟩
  rw [hG2]; clear hG2 G2
  repeat' (first|refine bk ?_|refine bkc ?_|refine bks ?_|refine bkd ?_|refine bkq (fun q => ?_)|(refine bk2 ?_ ?_<;>(first|exact bkn|(refine bkk ?_;intro h))))
  refine WL.call c17 rfl rfl rfl rfl (disk_New 400000 W0 _) ?_
  rintro _ _ ⟨d1, rfl, rfl⟩
  repeat' (first|refine bk ?_|refine bkc ?_|refine bks ?_|refine bkd ?_|refine bkq (fun q => ?_)|(refine bk2 ?_ ?_<;>(first|exact bkn|(refine bkk ?_;intro h))))
  refine WL.call c16 rfl rfl rfl rfl (open_fresh d1 400000 (by decide) (by decide) W0 _) ?_
  rintro _ _ ⟨b1, rfl, rfl⟩
  repeat' (first|refine bk ?_|refine bkc ?_|refine bks ?_|refine bkd ?_|refine bkq (fun q => ?_)|(refine bk2 ?_ ?_<;>(first|exact bkn|(refine bkk ?_;intro h))))
  refine CS.loop (X := Jn × Disk × Nat) (fun y => [(0, .slice A ls.length c), (1, .int .i64 ep), (5, .pointer (some ⟨q5, 0, none⟩)), (7, .bool true), (8, .pointer (some ⟨b1, 0, none⟩)), (10, .int .i64 (y.2.2 : Int))])
    (fun y => jA b1 d1 y.1 :: diskA d1 y.2.1 :: row q5 45 (lateC late.kind late.epoch late) :: G) (fun y => JnOk y.1 ∧ DiskOk y.2.1 ∧ y.2.2 ≤ ls.length) (fun y => ls.length - y.2.2) (jn0, jD 400000 jn0, 0) ⟨rfl, rfl, rfl, rfl, rfl, rfl, trivial⟩ (fun w hs => hs) ⟨well0.ok, ok0, Nat.zero_le _⟩ ?_
  rintro ⟨J, D, i⟩ ⟨hJ, hD, hi⟩
  simp only at hJ hD hi ⊢
  repeat' (first|refine bk ?_|refine bkc ?_|refine bks ?_|refine bkd ?_|refine bkq (fun q => ?_)|(refine bk2 ?_ ?_<;>(first|exact bkn|(refine bkk ?_;intro h))))
  · obtain ⟨u, hu⟩ : ∃ x, ls[i]? = some x := ⟨ls[i]'(by omega), List.getElem?_eq_getElem (by omega)⟩
    have hum := List.mem_of_getElem? hu
    have huo := hL u hum
    refine WL.idx TT hR.cons.cons.cons rfl rfl rfl (by omega) (by rw [Int.toNat_natCast]; exact hu) rfl rfl rfl rfl (fun bb o hA => ?_)
    refine WL.s (op1_at TT hA rfl rfl rfl rfl) rfl ?_
    repeat' (first|refine bk ?_|refine bkc ?_|refine bks ?_|refine bkd ?_|refine bkq (fun q => ?_)|(refine bk2 ?_ ?_<;>(first|exact bkn|(refine bkk ?_;intro h))))
    refine WL.call c19 rfl rfl rfl rfl (askd u huo W0 _ (hR2 u hum).cons.cons.cons) ?_
    rintro _ G2 ⟨rfl, hG2⟩
    rw [hG2]; clear hG2 G2
    repeat' (first|refine bk ?_|refine bkc ?_|refine bks ?_|refine bkd ?_|refine bkq (fun q => ?_)|(refine bk2 ?_ ?_<;>(first|exact bkn|(refine bkk ?_;intro h))))
    have hq := askd_size u huo
    obtain ⟨s, hsE⟩ : ∃ s, s = askM u.kind u.epoch u.l ⟨u.xn, u.xs⟩ u.raw := ⟨_, rfl⟩
    rw [← hsE] at hq ⊢
    have hok := hand_jok hJ hD (bs s)
    have hag := hand_again (D := D) (bs s) hJ
    have hc := j_Handle b1 d1 J hJ _ hD s hq W0 (row q5 45 (lateC late.kind late.epoch late) :: G)
    generalize handJ J D (bs s) = r at hok hag hc
    obtain ⟨a, J1, D1⟩ := r
    simp only at hok hag hc
    refine WL.call c18 rfl rfl rfl rfl hc ?_
    clear hc
    rintro _ _ ⟨rfl, rfl⟩
    repeat' (first|refine bk ?_|refine bkc ?_|refine bks ?_|refine bkd ?_|refine bkq (fun q => ?_)|(refine bk2 ?_ ?_<;>(first|exact bkn|(refine bkk ?_;intro h))))
    have hxl := seenX_len hok.1
    refine WL.call c20 rfl rfl rfl rfl (j_Seen b1 d1 J1 hok.1 W0 _) ?_
    rintro _ _ ⟨A1, c1, rfl, rfl⟩
    repeat' (first|refine bk ?_|refine bkc ?_|refine bks ?_|refine bkd ?_|refine bkq (fun q => ?_)|(refine bk2 ?_ ?_<;>(first|exact bkn|(refine bkk ?_;intro h))))
    revert q; intro q1
    refine WL.call c21 rfl rfl rfl rfl ((j_SeenP b1 d1 J1 W0 _).pre (fun w hs => hs.front (i := 2) rfl)) ?_
    rintro _ G2 ⟨rfl, hG2⟩
    rw [hG2]; clear hG2 G2
    repeat' (first|refine bk ?_|refine bkc ?_|refine bks ?_|refine bkd ?_|refine bkq (fun q => ?_)|(refine bk2 ?_ ?_<;>(first|exact bkn|(refine bkk ?_;intro h))))
    refine WL.idx TT hR.cons.cons.cons.cons.cons rfl rfl rfl (by omega) (by rw [Int.toNat_natCast]; exact hu) rfl rfl rfl rfl (fun bb o hA => ?_)
    refine WL.s (op1_at TT hA rfl rfl rfl rfl) rfl ?_
    repeat' (first|refine bk ?_|refine bkc ?_|refine bks ?_|refine bkd ?_|refine bkq (fun q => ?_)|(refine bk2 ?_ ?_<;>(first|exact bkn|(refine bkk ?_;intro h))))
    refine WL.call c19 rfl rfl rfl rfl (askd u huo W0 _ (hR2 u hum).cons.cons.cons.cons.cons) ?_
    rintro _ G2 ⟨rfl, hG2⟩
    rw [hG2]; clear hG2 G2
    rw [← hsE]
    repeat' (first|refine bk ?_|refine bkc ?_|refine bks ?_|refine bkd ?_|refine bkq (fun q => ?_)|(refine bk2 ?_ ?_<;>(first|exact bkn|(refine bkk ?_;intro h))))
    have hc := j_Handle b1 d1 J1 hok.1 _ hok.2 s hq W0 (row q1 34 [.int .i64 (seenE J1), .slice A1 (seenX J1).length c1] :: slc entE 24 A1 c1 (seenX J1) :: row q5 45 (lateC late.kind late.epoch late) :: G)
    rw [hag] at hc
    refine WL.call c18 rfl rfl rfl rfl (hc.pre (fun w hs => (hs.front (i := 3) rfl).front (i := 1) rfl)) ?_
    clear hc
    rintro _ _ ⟨rfl, rfl⟩
    repeat' (first|refine bk ?_|refine bkc ?_|refine bks ?_|refine bkd ?_|refine bkq (fun q => ?_)|(refine bk2 ?_ ?_<;>(first|exact bkn|(refine bkk ?_;intro h))))
    refine WL.call c20 rfl rfl rfl rfl (j_Seen b1 d1 J1 hok.1 W0 _) ?_
    rintro _ _ ⟨A2, c2, rfl, rfl⟩
    repeat' (first|refine bk ?_|refine bkc ?_|refine bks ?_|refine bkd ?_|refine bkq (fun q => ?_)|(refine bk2 ?_ ?_<;>(first|exact bkn|(refine bkk ?_;intro h))))
    revert q; intro q2
    refine WL.call c22 rfl rfl rfl rfl (law_begins A2 A1 (seenX J1).length c2 (seenX J1).length c1 (seenX J1) (seenX J1) rfl rfl (by omega) (by omega) W0 _ (Rd.slc (i := 1) rfl) (Rd.slc (i := 5) rfl)) ?_
    rintro _ G2 ⟨rfl, hG2⟩
    rw [hG2]; clear hG2 G2
    rw [beg_refl]
    have t1 : decide ((seenX J1).length = (seenX J1).length) = true := decide_eq_true rfl
    repeat' (first|refine bk ?_|refine bkc ?_|refine bks ?_|refine bkd ?_|refine bkq (fun q => ?_)|(refine bk2 ?_ ?_<;>(first|exact bkn|(refine bkk ?_;intro h))))
    refine WL.call c21 rfl rfl rfl rfl ((j_SeenP b1 d1 J1 W0 _).pre (fun w hs => hs.front (i := 2) rfl)) ?_
    rintro _ G2 ⟨rfl, hG2⟩
    rw [hG2]; clear hG2 G2
    repeat' (first|refine bk ?_|refine bkc ?_|refine bks ?_|refine bkd ?_|refine bkq (fun q => ?_)|(refine bk2 ?_ ?_<;>(first|exact bkn|(refine bkk ?_;intro h))))
    all_goals first
      | exact absurd trivial (by assumption)
      | (refine QS.again (J1, D1, i + 1) ⟨hok.1, hok.2, by simp only; omega⟩ (by simp only; omega) ⟨rfl, rfl, rfl, rfl, rfl, ?_, trivial⟩ (fun w hs => (((hs.kick (i := 1) rfl).kick (i := 1) rfl).kick (i := 2) rfl).kick (i := 2) rfl)
         rw [show ((i + 1 : Nat) : Int) = (i : Int) + 1 from by omega]; rfl)
  all_goals
    refine WL.call c14 rfl rfl rfl rfl (j_Promise ep hep W0 _) ?_
    rintro _ G2 ⟨rfl, hG2⟩
    rw [hG2]; clear hG2 G2
    repeat' (first|refine bk ?_|refine bkc ?_|refine bks ?_|refine bkd ?_|refine bkq (fun q => ?_)|(refine bk2 ?_ ?_<;>(first|exact bkn|(refine bkk ?_;intro h))))
    have hok := hand_jok hJ hD (joinB (promL ep))
    have hpr := hand_prom (D := D) hJ hep
    have hal := hand_len J D (joinB (promL ep))
    have hc := j_Handle b1 d1 J hJ _ hD (mk (joinB (promL ep))) (sz (promL_ok hep)) W0 (row q5 45 (lateC late.kind late.epoch late) :: G)
    rw [bs_mk] at hc
    generalize handJ J D (joinB (promL ep)) = r at hok hpr hc hal
    obtain ⟨a, J1, D1⟩ := r
    simp only at hok hpr hc hal
    refine WL.call c18 rfl rfl rfl rfl hc ?_
    clear hc
    rintro _ _ ⟨rfl, rfl⟩
    repeat' (first|refine bk ?_|refine bkc ?_|refine bks ?_|refine bkd ?_|refine bkq (fun q => ?_)|(refine bk2 ?_ ?_<;>(first|exact bkn|(refine bkk ?_;intro h))))
    have hc := law_said (mk a) (by rw [mk_size]; omega) W0 (jA b1 d1 J1 :: diskA d1 D1 :: row q5 45 (lateC late.kind late.epoch late) :: G)
    rw [bs_mk] at hc
    refine WL.call c23 rfl rfl rfl rfl hc ?_
    clear hc
    rintro _ G2 ⟨rfl, hG2⟩
    rw [hG2]; clear hG2 G2
    generalize (toldM a).2.2 = e at hpr ⊢
    by_cases he : e = 0
    · obtain ⟨hp1, hp2⟩ := hpr he
      have hxl := seenX_len hok.1
      have hse : seenP J1 = ep := by unfold seenP; rw [if_neg (by rw [hp2]; decide)]; exact hp1
      have hp0 := hok.1.p0
      repeat' (first|refine bk ?_|refine bkc ?_|refine bkd ?_|refine bkq (fun q => ?_)|(refine bk2 ?_ ?_<;>(first|exact bkn|(refine bkk ?_;intro h))))
      rotate_left 1
      all_goals try exact absurd he (by assumption)
      refine CS.seq ?_
      repeat' (first|refine bk ?_|refine bkc ?_|refine bkd ?_|refine bkq (fun q => ?_)|(refine bk2 ?_ ?_<;>(first|exact bkn|(refine bkk ?_;intro h))))
      refine WL.call c20 rfl rfl rfl rfl (j_Seen b1 d1 J1 hok.1 W0 _) ?_
      rintro _ _ ⟨A1, c1, rfl, rfl⟩
      repeat' (first|refine bk ?_|refine bkc ?_|refine bkd ?_|refine bkq (fun q => ?_)|(refine bk2 ?_ ?_<;>(first|exact bkn|(refine bkk ?_;intro h))))
      revert q; intro q1
      refine CS.seq ?_
      refine CS.cut (X := Int) (fun _ => [(1, .int .i64 ep), (5, .pointer (some ⟨q5, 0, none⟩)), (7, .bool true), (8, .pointer (some ⟨b1, 0, none⟩)), (14, .pointer (some ⟨q1, 0, none⟩))])
        (fun e' => row q5 45 (lateC late.kind e' late) :: row q1 34 [.int .i64 (seenE J1), .slice A1 (seenX J1).length c1] :: slc entE 24 A1 c1 (seenX J1) :: jA b1 d1 J1 :: diskA d1 D1 :: G) (fun e' => e' < ep ∧ I64 e') ?_ ?_
      · have hle := hlate.epoch
        unfold I64 at hle hep
        by_cases h7 : ep ≤ late.epoch
        · repeat' (first|refine bk ?_|refine bkc ?_|refine bks ?_|refine bkd ?_|refine bkq (fun q => ?_)|(refine bk2 ?_ ?_<;>(first|exact bkn|(refine bkk ?_;intro h))))
          all_goals first
            | exact absurd h7 (by assumption)
            | exact QS.met (ep - 1) ⟨by omega, by unfold I64; omega⟩ ⟨rfl, rfl, rfl, rfl, rfl, trivial⟩ (fun w hs => hs.front (i := 4) rfl)
        · repeat' (first|refine bk ?_|refine bkc ?_|refine bks ?_|refine bkd ?_|refine bkq (fun q => ?_)|(refine bk2 ?_ ?_<;>(first|exact bkn|(refine bkk ?_;intro h))))
          all_goals first
            | exact absurd (by assumption) h7
            | exact QS.met late.epoch ⟨by omega, by unfold I64; omega⟩ ⟨rfl, rfl, rfl, rfl, rfl, trivial⟩ (fun w hs => hs.front (i := 4) rfl)
      rintro e' ⟨he1, he2⟩
      repeat' (first|refine bk ?_|refine bkc ?_|refine bkd ?_|refine bkq (fun q => ?_)|(refine bk2 ?_ ?_<;>(first|exact bkn|(refine bkk ?_;intro h))))
      refine CS.seq ?_
      refine CS.cut (X := Int) (fun _ => [(1, .int .i64 ep), (5, .pointer (some ⟨q5, 0, none⟩)), (7, .bool true), (8, .pointer (some ⟨b1, 0, none⟩)), (14, .pointer (some ⟨q1, 0, none⟩))])
        (fun k' => row q5 45 (lateC k' e' late) :: row q1 34 [.int .i64 (seenE J1), .slice A1 (seenX J1).length c1] :: slc entE 24 A1 c1 (seenX J1) :: jA b1 d1 J1 :: diskA d1 D1 :: G) (fun k' => pickM k' 8 ≤ 4 ∧ I64 k') ?_ ?_
      · repeat' (first|refine bk ?_|refine bkc ?_|refine bks ?_|refine bkd ?_|refine bkq (fun q => ?_)|(refine bk2 ?_ ?_<;>(first|exact bkn|(refine bkk ?_;intro h))))
        refine WL.call c24 rfl rfl rfl rfl (law_pick late.kind 8 hlate.kind (by decide) W0 _) ?_
        rintro _ G2 ⟨rfl, hG2⟩
        rw [hG2]; clear hG2 G2
        by_cases h7 : 4 < pickM late.kind 8
        · repeat' (first|refine bk ?_|refine bkc ?_|refine bks ?_|refine bkd ?_|refine bkq (fun q => ?_)|(refine bk2 ?_ ?_<;>(first|exact bkn|(refine bkk ?_;intro h))))
          all_goals first
            | exact absurd h7 (by assumption)
            | exact QS.met 2 ⟨by decide, by unfold I64; decide⟩ ⟨rfl, rfl, rfl, rfl, rfl, trivial⟩ (fun w hs => hs)
        · repeat' (first|refine bk ?_|refine bkc ?_|refine bks ?_|refine bkd ?_|refine bkq (fun q => ?_)|(refine bk2 ?_ ?_<;>(first|exact bkn|(refine bkk ?_;intro h))))
          all_goals first
            | exact absurd (by assumption) h7
            | exact QS.met late.kind ⟨by omega, hlate.kind⟩ ⟨rfl, rfl, rfl, rfl, rfl, trivial⟩ (fun w hs => hs)
      rintro k' ⟨hk1, hk2⟩
      repeat' (first|refine bk ?_|refine bkc ?_|refine bks ?_|refine bkd ?_|refine bkq (fun q => ?_)|(refine bk2 ?_ ?_<;>(first|exact bkn|(refine bkk ?_;intro h))))
      refine WL.call c19 rfl rfl rfl rfl (law_asked k' e' late.lA _ late.lc late.l ⟨late.xn, late.xs⟩ late.raw late.n late.keepsA _ late.keepsc hk2 he2 rfl (by have := hlate.l.1; unfold maxLen at this; omega) W0 _ hR3.cons.cons.cons.cons.cons) ?_
      rintro _ G2 ⟨rfl, hG2⟩
      rw [hG2]; clear hG2 G2
      have hq := ask_size (kind := k') (l := late.l) (x := ⟨late.xn, late.xs⟩) he2 (by have := hlate.raw; unfold maxLen at this; omega : late.raw.size ≤ 9223372036854775807)
      have hqe := fun q => ask_epoch (kind := k') (l := late.l) (x := ⟨late.xn, late.xs⟩) (raw := late.raw) he2 hk1 (q := q)
      generalize askM k' e' late.l ⟨late.xn, late.xs⟩ late.raw = s at hq hqe ⊢
      have hla := hand_late (J := J1) (D := D1) (s := bs s) (fun q h => by rw [hqe q h, hp1]; exact he1)
      repeat' (first|refine bk ?_|refine bkc ?_|refine bks ?_|refine bkd ?_|refine bkq (fun q => ?_)|(refine bk2 ?_ ?_<;>(first|exact bkn|(refine bkk ?_;intro h))))
      have hc := j_Handle b1 d1 J1 hok.1 _ hok.2 s hq W0 (row q5 45 (lateC k' e' late) :: row q1 34 [.int .i64 (seenE J1), .slice A1 (seenX J1).length c1] :: slc entE 24 A1 c1 (seenX J1) :: G)
      rw [hla] at hc
      refine WL.call c18 rfl rfl rfl rfl (hc.pre (fun w hs => (hs.front (i := 4) rfl).front (i := 4) rfl)) ?_
      clear hc
      rintro _ _ ⟨rfl, rfl⟩
      repeat' (first|refine bk ?_|refine bkc ?_|refine bks ?_|refine bkd ?_|refine bkq (fun q => ?_)|(refine bk2 ?_ ?_<;>(first|exact bkn|(refine bkk ?_;intro h))))
      refine WL.call c20 rfl rfl rfl rfl (j_Seen b1 d1 J1 hok.1 W0 _) ?_
      rintro _ _ ⟨A2, c2, rfl, rfl⟩
      repeat' (first|refine bk ?_|refine bkc ?_|refine bks ?_|refine bkd ?_|refine bkq (fun q => ?_)|(refine bk2 ?_ ?_<;>(first|exact bkn|(refine bkk ?_;intro h))))
      revert q; intro q2
      refine WL.call c22 rfl rfl rfl rfl (law_begins A2 A1 (seenX J1).length c2 (seenX J1).length c1 (seenX J1) (seenX J1) rfl rfl (by omega) (by omega) W0 _ (Rd.slc (i := 1) rfl) (Rd.slc (i := 6) rfl)) ?_
      rintro _ G2 ⟨rfl, hG2⟩
      rw [hG2]; clear hG2 G2
      rw [beg_refl]
      have hc := j_SeenP b1 d1 J1 W0 (row q2 34 [.int .i64 (seenE J1), .slice A2 (seenX J1).length c2] :: slc entE 24 A2 c2 (seenX J1) :: diskA d1 D1 :: row q5 45 (lateC k' e' late) :: row q1 34 [.int .i64 (seenE J1), .slice A1 (seenX J1).length c1] :: slc entE 24 A1 c1 (seenX J1) :: G)
      rw [hse] at hc
      repeat' (first|refine bk ?_|refine bkc ?_|refine bks ?_|refine bkd ?_|refine bkq (fun q => ?_)|(refine bk2 ?_ ?_<;>(first|exact bkn|(refine bkk ?_;intro h))))
      all_goals try exact absurd trivial (by assumption)
      refine WL.call c21 rfl rfl rfl rfl (hc.pre (fun w hs => hs.front (i := 2) rfl)) ?_
      rintro _ G2 ⟨rfl, hG2⟩
      rw [hG2]; clear hG2 G2
      repeat' (first|refine bk ?_|refine bkc ?_|refine bks ?_|refine bkd ?_|refine bkq (fun q => ?_)|(refine bk2 ?_ ?_<;>(first|exact bkn|(refine bkk ?_;intro h))))
      all_goals first
        | exact absurd trivial (by assumption)
        | exact QS.turn (G' := G) (fun w hs => hs.drop.drop.drop.drop.drop.drop.drop) (QS.retV Try.results4 rfl ⟨congrArg Value.bool (decide_eq_true rfl), rfl⟩)
    · repeat' (first|refine bk ?_|refine bkc ?_|refine bks ?_|refine bkd ?_|refine bkq (fun q => ?_)|(refine bk2 ?_ ?_<;>(first|exact bkn|(refine bkk ?_;intro h))))
      all_goals first
        | exact absurd (by assumption) he
        | exact QS.turn (G' := G) (fun w hs => hs.drop.drop.drop) (QS.retV Try.results4 rfl ⟨rfl, rfl⟩)
end Go.Proofs.Ytejdkcnbflpfaaa.B

set_option linter.unusedVariables false
set_option maxRecDepth 8000
/-! Opening a deed handed in by itself. -/
namespace Go.Proofs.Ytejdkcnbflpfaaa.B
open Go Go.Proofs Go.ChangeShapes Go.WideShapes Go.ChangeAt Go.RowKit
section
variable {H : Type} {enc : TypeId × Value → H} {w : World} {sp : Nat → Bool} {held : Bool}
theorem open_DeedJV {base : Nat} {r : Reach} {v : Value} {d : DataW H} {ps : List MemPlace} (hval : Value.okWide Try.prog w r base 45 v) (h : DataW.Trod enc Try.prog w 0 sp held 45 v d ps) :
    ∃ u : DeedJ, v = .agg ⟨djE.enc u⟩ ∧ DeedJOk u ∧ DeedJRd w u := by
  obtain ⟨cs, rfl, hcs⟩ := okWide_struct Try.underlying45 hval
  rw [show Try.prog.cellsOf 45 = 8 from by kernel_rfl] at hcs
  obtain ⟨fuel, hf⟩ := h
  obtain ⟨cl⟩ := cs
  obtain ⟨u, hu, h1⟩ := open_DeedJC (cs := cl) hcs hf
  exact ⟨u, by rw [hu], h1⟩
theorem open_EntV {base : Nat} {r : Reach} {v : Value} {d : DataW H} {ps : List MemPlace} (hval : Value.okWide Try.prog w r base 24 v) (h : DataW.Trod enc Try.prog w 0 sp held 24 v d ps) :
    ∃ u : Ent, v = .agg ⟨entE.enc u⟩ ∧ EntOk u := by
  obtain ⟨cs, rfl, hcs⟩ := okWide_struct Try.underlying24 hval
  rw [show Try.prog.cellsOf 24 = 2 from by kernel_rfl] at hcs
  obtain ⟨fuel, hf⟩ := h
  obtain ⟨cl⟩ := cs
  obtain ⟨u, hu, h1⟩ := open_EntC (cs := cl) hcs hf
  exact ⟨u, by rw [hu], h1⟩
end
end Go.Proofs.Ytejdkcnbflpfaaa.B
