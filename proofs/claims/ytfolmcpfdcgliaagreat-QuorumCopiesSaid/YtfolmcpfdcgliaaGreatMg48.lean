import Derived.Test.YtfolmcpfdcgliaaGreatMg47
import Derived.Test.YtfolmcpfdcgliaaGreatMg28
import Derived.Test.YtfolmcpfdcgliaaGreatMg41
set_option linter.unusedVariables false
set_option linter.unusedSimpArgs false
set_option maxRecDepth 8000
/-! The document's own node is opened. -/
namespace Go.Proofs.YtfolmcpfdcgliaaGreat.B
open Go Go.Proofs
attribute [local irreducible] WL CS QS WQ WH WS Fn Op1 row Sat
attribute [local irreducible] slc rjA refA
def openS (bx : Nat) (r : Int × Jn × Disk) (F : List SL) (v : Value) (G' : List SL) : Prop :=
  if r.1 = 0 then ∃ b, v = .tuple #[.pointer (some ⟨b, 0, none⟩), .int .i64 0] ∧ G' = rjA b bx r.2.1 :: refA bx (toR r.2.2) :: F
  else v = .tuple #[.pointer none, .int .i64 r.1] ∧ G' = refA bx (toR r.2.2) :: F
theorem openS_ok {bx b : Nat} {J : Jn} {D : Disk} {F : List SL} : openS bx (0, J, D) F (.tuple #[.pointer (some ⟨b, 0, none⟩), .int .i64 0]) (rjA b bx J :: refA bx (toR D) :: F) := by
  unfold openS; rw [if_pos rfl]; exact ⟨b, rfl, rfl⟩
theorem openS_bad {bx : Nat} {er : Int} {J : Jn} {D : Disk} {F : List SL} (h : er ≠ 0) : openS bx (er, J, D) F (.tuple #[.pointer none, .int .i64 er]) (refA bx (toR D) :: F) := by
  unfold openS; rw [if_neg h]; exact ⟨rfl, rfl⟩
theorem load_five (t : List UInt8) (er : Int) : (loadM t er).2.2.2 = 5 → (loadM t er).1 = 0 ∧ (loadM t er).2.1 = [] := by
  by_cases h : er = 0
  · rw [load_parse h]
    split
    · intro h2; simp at h2
    · intro _; exact ⟨rfl, rfl⟩
  · rw [loadM, if_neg h]; intro _; exact ⟨rfl, rfl⟩
set_option maxHeartbeats 16000000 in
theorem r_Open (bx : Nat) (D : Disk) (hD : DiskOk D) (W0 : World) (F : List SL) :
    Fn Tryz.prog 30 [.pointer (some ⟨bx, 0, none⟩)] W0 (refA bx (toR D) :: F)
      (Ret (openS bx (openJ D) F)) := by
  refine Fn.enter Tryz.func30 rfl Tryz.ntmps30 rfl ?_
  refine CS.seq ?_
  repeat' (first|refine bk ?_|refine bkc ?_|refine bkd ?_|refine bkq (fun q => ?_)|(refine bk2 ?_ ?_<;>(first|exact bkn|(refine bkk ?_;intro h))))
  refine CS.seq ?_
  repeat' (first|refine bk ?_|refine bkc ?_|refine bkd ?_|refine bkq (fun q => ?_)|(refine bk2 ?_ ?_<;>(first|exact bkn|(refine bkk ?_;intro h))))
  revert q; intro b
  repeat' (first|refine bk ?_|refine bkc ?_|refine bks ?_|refine bkd ?_|refine bkq (fun q => ?_)|(refine bk2 ?_ ?_<;>(first|exact bkn|(refine bkk ?_;intro h))))
  refine WL.turn (fun w hs => hs.front (i := 1) rfl) ?_
  refine WL.call c67 rfl rfl rfl rfl (rdisk_Read bx (toR D) (toR_len hD) jProm W0 _) ?_
  rw [toR_read hD]
  rintro _ G2 ⟨rfl, hG2⟩
  rw [hG2]; clear hG2 G2
  refine WL.turn (fun w hs => hs.front (i := 1) rfl) ?_
  have hts := read_small hD jProm
  have hJ0 : openJ D = if (D.read jProm).2 = 5 then open2 0 D
      else if (D.read jProm).2 = 0 then (match promP (D.read jProm).1 with | some n => open2 n D | none => (2, ⟨0, 0, [], false⟩, D))
      else ((D.read jProm).2, ⟨0, 0, [], false⟩, D) := rfl
  have hErr := read_errs D jProm
  generalize D.read jProm = te at hts hJ0 hErr ⊢
  obtain ⟨t, er⟩ := te
  simp only at hts hJ0 hErr ⊢
  rcases hErr with rfl | rfl | rfl
  · rw [if_neg (by decide), if_neg (by decide)] at hJ0
    repeat' (first|refine bk ?_|refine bkc ?_|refine bks ?_|refine bkd ?_|refine bkq (fun q => ?_)|(refine bk2 ?_ ?_<;>(first|exact bkn|(refine bkk ?_;intro h))))
    refine QS.turn (G' := refA bx (toR D) :: F) (fun w hs => hs.drop) (QS.retV Tryz.results30 rfl ?_)
    rw [hJ0]
    exact openS_bad (by decide)
  · rw [if_neg (by decide), if_pos rfl] at hJ0
    have hP : promP t = match openB (bs t) with
      | (e, x, r) => if e = 0 ∧ r = [] then (match numP (mk x) with | some n => if 1 ≤ n ∧ n ≤ 9007199254740991 then some n else none | none => none) else none := rfl
    repeat' (first|refine bk ?_|refine bkc ?_|refine bks ?_|refine bkd ?_|refine bkq (fun q => ?_)|(refine bk2 ?_ ?_<;>(first|exact bkn|(refine bkk ?_;intro h))))
    refine WL.call c68 rfl rfl rfl rfl (ref_Open t (by omega) W0 _) ?_
    rintro _ G2 ⟨rfl, hG2⟩
    rw [hG2]; clear hG2 G2
    have hol : (openB (bs t)).2.1.length ≤ 4000 := by
      cases hO : openB (bs t) with
      | mk e p =>
        obtain ⟨x, r⟩ := p
        rw [openB] at hO
        cases ht : takeText (bs t) with
        | none => rw [ht] at hO; simp only [openT, Prod.mk.injEq] at hO; simp [← hO.2.1]
        | some q =>
          obtain ⟨y, r2⟩ := q
          have := (takeText_some ht).2
          rw [ht] at hO
          simp only [openT] at hO
          split at hO
          · simp only [Prod.mk.injEq] at hO; simp [← hO.2.1]
          · split at hO
            · simp only [Prod.mk.injEq] at hO; rw [← hO.2.1]; exact this
            · simp only [Prod.mk.injEq] at hO; simp [← hO.2.1]
    generalize openB (bs t) = oB at hP hol ⊢
    obtain ⟨e0, x, r⟩ := oB
    simp only [openV] at hP hol ⊢
    have hmx := mk_size x
    repeat' (first|refine bk ?_|refine bkc ?_|refine bks ?_|refine bkd ?_|refine bkq (fun q => ?_)|(refine bk2 ?_ ?_<;>(first|exact bkn|(refine bkk ?_;intro h))))
    refine WL.call c69 rfl rfl rfl rfl (r_number (mk x) (by omega) W0 _) ?_
    rintro _ G2 ⟨⟨n, rfl, hnn⟩, hG2⟩
    rw [hG2]; clear hG2 G2
    by_cases hgood : e0 = 0 ∧ r = [] ∧ numP (mk x) = some n ∧ 1 ≤ n ∧ n ≤ 9007199254740991
    · obtain ⟨rfl, rfl, hN, hn1, hn2⟩ := hgood
      have hp : openJ D = open2 n D := by
        rw [hJ0, hP, if_pos ⟨rfl, rfl⟩, hN]
        simp only
        rw [if_pos ⟨hn1, hn2⟩]
      rw [hN]
      clear hJ0 hP hnn
      revert hp hn1 hn2
      generalize n = p
      intro hn1 hn2 hp
      simp only [Option.isSome_some]
      repeat' (first|refine bk ?_|refine bkc ?_|refine bks ?_|refine bkd ?_|refine bkq (fun q => ?_)|(refine bk2 ?_ ?_<;>(first|exact bkn|(refine bkk ?_;intro h))))
      refine WL.turn (fun w hs => hs.front (i := 1) rfl) ?_
      refine WL.call c70 rfl rfl rfl rfl (ref_Load bx (toR D) (toR_len hD) jLog (by rw [toR_read hD]; have := read_small hD jLog; omega) W0 _) ?_
      rw [toR_read hD]
      have hO : open2 p D = match loadM (bs (D.read jLog).1) (D.read jLog).2 with
        | (e, xs, w, er) => if er = 5 then (0, ⟨p, 0, [], false⟩, D) else if er ≠ 0 then (er, ⟨p, 0, [], false⟩, D)
          else if w = true then (0, ⟨p, e, xs, false⟩, D) else ((storeM D e xs jLog).1, ⟨p, e, xs, false⟩, (storeM D e xs jLog).2) := rfl
      have h5f := load_five (bs (D.read jLog).1) (D.read jLog).2
      generalize loadM (bs (D.read jLog).1) (D.read jLog).2 = M at hO h5f ⊢
      obtain ⟨e, xs, wh, er⟩ := M
      simp only at hO h5f
      rintro _ _ ⟨A, c, rfl, rfl⟩
      simp only
      by_cases h5 : er = 5
      · obtain ⟨rfl, rfl⟩ := h5f h5
        subst h5
        rw [if_pos rfl] at hO
        rw [hO] at hp
        repeat' (first|refine bk ?_|refine bkc ?_|refine bks ?_|refine bkd ?_|refine bkq (fun q => ?_)|(refine bk2 ?_ ?_<;>(first|exact bkn|(refine bkk ?_;intro h))))
        refine QS.turn (G' := rjA b bx ⟨p, 0, [], false⟩ :: refA bx (toR D) :: F) (fun w hs => rjA_shut (A := A) (c := c) w (hs.drop.front (i := 2) rfl)) (QS.retV Tryz.results30 rfl ?_)
        rw [hp]
        exact openS_ok
      rw [if_neg h5] at hO
      by_cases h0 : er = 0
      rotate_left 1
      · rw [if_pos h0] at hO
        rw [hO] at hp
        repeat' (first|refine bk ?_|refine bkc ?_|refine bks ?_|refine bkd ?_|refine bkq (fun q => ?_)|(refine bk2 ?_ ?_<;>(first|exact bkn|(refine bkk ?_;intro h))))
        refine QS.turn (G' := refA bx (toR D) :: F) (fun w hs => hs.drop.drop.kick (i := 1) rfl) (QS.retV Tryz.results30 rfl ?_)
        rw [hp]
        exact openS_bad h0
      subst h0
      rw [if_neg (by decide)] at hO
      cases wh with
      | true =>
        rw [if_pos rfl] at hO
        rw [hO] at hp
        repeat' (first|refine bk ?_|refine bkc ?_|refine bks ?_|refine bkd ?_|refine bkq (fun q => ?_)|(refine bk2 ?_ ?_<;>(first|exact bkn|(refine bkk ?_;intro h))))
        refine QS.turn (G' := rjA b bx ⟨p, e, xs, false⟩ :: refA bx (toR D) :: F) (fun w hs => rjA_shut (A := A) (c := c) w (hs.drop.front (i := 2) rfl)) (QS.retV Tryz.results30 rfl ?_)
        rw [hp]
        exact openS_ok
      | false =>
        rw [if_neg (by decide)] at hO
        rw [hO] at hp
        repeat' (first|refine bk ?_|refine bkc ?_|refine bks ?_|refine bkd ?_|refine bkq (fun q => ?_)|(refine bk2 ?_ ?_<;>(first|exact bkn|(refine bkk ?_;intro h))))
        refine WL.call c71 rfl rfl rfl rfl ((ref_Store bx D hD jLog e A _ c xs rfl W0 _ (Rd.slc (i := 2) rfl)).pre (fun w hs => hs.front (i := 2) rfl)) ?_
        rintro _ _ ⟨rfl, rfl⟩
        by_cases hs0 : (storeM D e xs jLog).1 = 0
        · rw [hs0] at hp ⊢
          repeat' (first|refine bk ?_|refine bkc ?_|refine bks ?_|refine bkd ?_|refine bkq (fun q => ?_)|(refine bk2 ?_ ?_<;>(first|exact bkn|(refine bkk ?_;intro h))))
          refine QS.turn (G' := rjA b bx ⟨p, e, xs, false⟩ :: refA bx (toR (storeM D e xs jLog).2) :: F) (fun w hs => rjA_shut (A := A) (c := c) w (((hs.kick (i := 1) rfl).front (i := 1) rfl).front (i := 2) rfl)) (QS.retV Tryz.results30 rfl ?_)
          rw [hp]
          exact openS_ok
        · repeat' (first|refine bk ?_|refine bkc ?_|refine bks ?_|refine bkd ?_|refine bkq (fun q => ?_)|(refine bk2 ?_ ?_<;>(first|exact bkn|(refine bkk ?_;intro h))))
          refine QS.turn (G' := refA bx (toR (storeM D e xs jLog).2) :: F) (fun w hs => ((hs.kick (i := 1) rfl).kick (i := 1) rfl).kick (i := 1) rfl) (QS.retV Tryz.results30 rfl ?_)
          rw [hp]
          exact openS_bad hs0
    · have hP2 : promP t = none := by
        rw [hP]
        by_cases h1 : e0 = 0 ∧ r = []
        · rw [if_pos h1]
          cases hN : numP (mk x) with
          | none => rfl
          | some m =>
            simp only
            rw [if_neg (fun h3 => hgood ⟨h1.1, h1.2, by rw [hN, hnn m hN], by rw [hnn m hN]; exact h3.1, by rw [hnn m hN]; exact h3.2⟩)]
        · rw [if_neg h1]
      rw [hP2] at hJ0
      have hbad : numP (mk x) = none ∨ numP (mk x) = some n := by
        cases hN : numP (mk x) with
        | none => exact .inl rfl
        | some m => exact .inr (by rw [hnn m hN])
      rcases hbad with hN | hN
      all_goals
        rw [hN]
        simp only [Option.isSome_none, Option.isSome_some]
        repeat' (first|refine bk ?_|refine bkc ?_|refine bks ?_|refine bkd ?_|refine bkq (fun q => ?_)|(refine bk2 ?_ ?_<;>(first|exact bkn|(refine bkk ?_;intro h))))
      all_goals first
        | (exfalso; exact hgood ⟨by omega, congrArg bs ‹mk r = _›, hN, by omega, by omega⟩)
        | (refine QS.turn (G' := refA bx (toR D) :: F) (fun w hs => hs.drop) (QS.retV Tryz.results30 rfl ?_)
           rw [hJ0]
           exact openS_bad (by decide))
  · rw [if_pos rfl] at hJ0
    have hp : openJ D = open2 0 D := hJ0
    clear hJ0
    repeat' (first|refine bk ?_|refine bkc ?_|refine bks ?_|refine bkd ?_|refine bkq (fun q => ?_)|(refine bk2 ?_ ?_<;>(first|exact bkn|(refine bkk ?_;intro h))))
    refine WL.turn (fun w hs => hs.front (i := 1) rfl) ?_
    refine WL.call c70 rfl rfl rfl rfl (ref_Load bx (toR D) (toR_len hD) jLog (by rw [toR_read hD]; have := read_small hD jLog; omega) W0 _) ?_
    rw [toR_read hD]
    have hO : open2 0 D = match loadM (bs (D.read jLog).1) (D.read jLog).2 with
      | (e, xs, w, er) => if er = 5 then (0, ⟨0, 0, [], false⟩, D) else if er ≠ 0 then (er, ⟨0, 0, [], false⟩, D)
        else if w = true then (0, ⟨0, e, xs, false⟩, D) else ((storeM D e xs jLog).1, ⟨0, e, xs, false⟩, (storeM D e xs jLog).2) := rfl
    have h5f := load_five (bs (D.read jLog).1) (D.read jLog).2
    generalize loadM (bs (D.read jLog).1) (D.read jLog).2 = M at hO h5f ⊢
    obtain ⟨e, xs, wh, er⟩ := M
    simp only at hO h5f
    rintro _ _ ⟨A, c, rfl, rfl⟩
    simp only
    by_cases h5 : er = 5
    · obtain ⟨rfl, rfl⟩ := h5f h5
      subst h5
      rw [if_pos rfl] at hO
      rw [hO] at hp
      repeat' (first|refine bk ?_|refine bkc ?_|refine bks ?_|refine bkd ?_|refine bkq (fun q => ?_)|(refine bk2 ?_ ?_<;>(first|exact bkn|(refine bkk ?_;intro h))))
      refine QS.turn (G' := rjA b bx ⟨0, 0, [], false⟩ :: refA bx (toR D) :: F) (fun w hs => rjA_shut (A := A) (c := c) w (hs.drop.front (i := 2) rfl)) (QS.retV Tryz.results30 rfl ?_)
      rw [hp]
      exact openS_ok
    rw [if_neg h5] at hO
    by_cases h0 : er = 0
    rotate_left 1
    · rw [if_pos h0] at hO
      rw [hO] at hp
      repeat' (first|refine bk ?_|refine bkc ?_|refine bks ?_|refine bkd ?_|refine bkq (fun q => ?_)|(refine bk2 ?_ ?_<;>(first|exact bkn|(refine bkk ?_;intro h))))
      refine QS.turn (G' := refA bx (toR D) :: F) (fun w hs => hs.drop.drop.kick (i := 1) rfl) (QS.retV Tryz.results30 rfl ?_)
      rw [hp]
      exact openS_bad h0
    subst h0
    rw [if_neg (by decide)] at hO
    cases wh with
    | true =>
      rw [if_pos rfl] at hO
      rw [hO] at hp
      repeat' (first|refine bk ?_|refine bkc ?_|refine bks ?_|refine bkd ?_|refine bkq (fun q => ?_)|(refine bk2 ?_ ?_<;>(first|exact bkn|(refine bkk ?_;intro h))))
      refine QS.turn (G' := rjA b bx ⟨0, e, xs, false⟩ :: refA bx (toR D) :: F) (fun w hs => rjA_shut (A := A) (c := c) w (hs.drop.front (i := 2) rfl)) (QS.retV Tryz.results30 rfl ?_)
      rw [hp]
      exact openS_ok
    | false =>
      rw [if_neg (by decide)] at hO
      rw [hO] at hp
      repeat' (first|refine bk ?_|refine bkc ?_|refine bks ?_|refine bkd ?_|refine bkq (fun q => ?_)|(refine bk2 ?_ ?_<;>(first|exact bkn|(refine bkk ?_;intro h))))
      refine WL.call c71 rfl rfl rfl rfl ((ref_Store bx D hD jLog e A _ c xs rfl W0 _ (Rd.slc (i := 2) rfl)).pre (fun w hs => hs.front (i := 2) rfl)) ?_
      rintro _ _ ⟨rfl, rfl⟩
      by_cases hs0 : (storeM D e xs jLog).1 = 0
      · rw [hs0] at hp ⊢
        repeat' (first|refine bk ?_|refine bkc ?_|refine bks ?_|refine bkd ?_|refine bkq (fun q => ?_)|(refine bk2 ?_ ?_<;>(first|exact bkn|(refine bkk ?_;intro h))))
        refine QS.turn (G' := rjA b bx ⟨0, e, xs, false⟩ :: refA bx (toR (storeM D e xs jLog).2) :: F) (fun w hs => rjA_shut (A := A) (c := c) w (((hs.kick (i := 1) rfl).front (i := 1) rfl).front (i := 2) rfl)) (QS.retV Tryz.results30 rfl ?_)
        rw [hp]
        exact openS_ok
      · repeat' (first|refine bk ?_|refine bkc ?_|refine bks ?_|refine bkd ?_|refine bkq (fun q => ?_)|(refine bk2 ?_ ?_<;>(first|exact bkn|(refine bkk ?_;intro h))))
        refine QS.turn (G' := refA bx (toR (storeM D e xs jLog).2) :: F) (fun w hs => ((hs.kick (i := 1) rfl).kick (i := 1) rfl).kick (i := 1) rfl) (QS.retV Tryz.results30 rfl ?_)
        rw [hp]
        exact openS_bad hs0
end Go.Proofs.YtfolmcpfdcgliaaGreat.B
