import Derived.Test.YtejdkcnbflpfaaaGreatMg38
import Derived.Test.YtejdkcnbflpfaaaGreatMg21
import Derived.Test.YtejdkcnbflpfaaaGreatMg22
import Derived.Test.YtejdkcnbflpfaaaGreatMg40
import Derived.Test.YtejdkcnbflpfaaaGreatMg30
set_option linter.unusedVariables false
set_option linter.unusedSimpArgs false
set_option maxRecDepth 8000
/-! A journal node is opened. -/
namespace Go.Proofs.YtejdkcnbflpfaaaGreat.B
open Go Go.Proofs
attribute [local irreducible] WL CS QS WQ WH WS Fn Op1 row Sat
attribute [local irreducible] slc diskA jA

theorem takeNum_nil : takeNum [] = none := by
  cases h : takeNum [] with
  | none => rfl
  | some p =>
    have := (takeNum_some h).2
    have h2 := num_pos p.1
    have h3 := congrArg List.length this
    rw [List.length_append] at h3
    simp at h3
    omega
theorem read_errs (D : Disk) (nm : ByteArray) : (D.read nm).2 = 12 ∨ (D.read nm).2 = 0 ∨ (D.read nm).2 = 5 := by
  unfold Disk.read; (repeat' split) <;> simp
theorem read_small {D : Disk} (hD : DiskOk D) (nm : ByteArray) : (D.read nm).1.size ≤ 400000 := by
  have h := (hD.at_ok nm).most
  unfold Disk.read
  split
  · simp [noStr_size]
  · split
    · simp [noStr_size]
    · simpa using h
def openO (bd : Nat) (r : Int × Jn × Disk) (F : List SL) (v : Value) (G' : List SL) : Prop :=
  if r.1 = 0 then ∃ b, v = .tuple #[.pointer (some ⟨b, 0, none⟩), .int .i64 0] ∧ G' = jA b bd r.2.1 :: diskA bd r.2.2 :: F
  else v = .tuple #[.pointer none, .int .i64 r.1] ∧ G' = diskA bd r.2.2 :: F
theorem openO_ok {bd b : Nat} {J : Jn} {D : Disk} {F : List SL} : openO bd (0, J, D) F (.tuple #[.pointer (some ⟨b, 0, none⟩), .int .i64 0]) (jA b bd J :: diskA bd D :: F) := by
  unfold openO; rw [if_pos rfl]; exact ⟨b, rfl, rfl⟩
theorem openO_bad {bd : Nat} {er : Int} {J : Jn} {D : Disk} {F : List SL} (h : er ≠ 0) : openO bd (er, J, D) F (.tuple #[.pointer none, .int .i64 er]) (diskA bd D :: F) := by
  unfold openO; rw [if_neg h]; exact ⟨rfl, rfl⟩
set_option maxHeartbeats 8000000 in
theorem j_Open (bd : Nat) (D : Disk) (hD : DiskOk D) (W0 : World) (F : List SL) :
    Fn Tryz.prog 11 [.pointer (some ⟨bd, 0, none⟩)] W0 (diskA bd D :: F)
      (Ret (openO bd (openJ D) F)) := by
  refine Fn.enter Tryz.func11 rfl Tryz.ntmps11 rfl ?_
  refine CS.seq ?_
  repeat' (first|refine bk ?_|refine bkc ?_|refine bkd ?_|refine bkq (fun q => ?_)|(refine bk2 ?_ ?_<;>(first|exact bkn|(refine bkk ?_;intro h))))
  refine CS.seq ?_
  repeat' (first|refine bk ?_|refine bkc ?_|refine bkd ?_|refine bkq (fun q => ?_)|(refine bk2 ?_ ?_<;>(first|exact bkn|(refine bkk ?_;intro h))))
  revert q; intro b
  refine CS.seq ?_
  have hrm := (hD.at_ok jProm).most
  refine CS.cut (X := Int) (fun _ => [(0, .pointer (some ⟨bd, 0, none⟩)), (4, .pointer (some ⟨b, 0, none⟩))])
    (fun p => row b 76 [.pointer (some ⟨bd, 0, none⟩), .int .i64 p, .int .i64 0, .slice none 0 0, .bool false] :: diskA bd D :: F) (fun p => openJ D = open2 p D) ?_ ?_
  · repeat' (first|refine bk ?_|refine bkc ?_|refine bks ?_|refine bkd ?_|refine bkq (fun q => ?_)|(refine bk2 ?_ ?_<;>(first|exact bkn|(refine bkk ?_;intro h))))
    refine WL.call c39 rfl rfl rfl rfl ((disk_Read bd D jProm W0 _).pre (fun w hs => hs.front (i := 1) rfl)) ?_
    rintro _ _ ⟨rfl, rfl⟩
    have hts := read_small hD jProm
    have hJ0 : openJ D = if (D.read jProm).2 = 5 then open2 0 D
        else if (D.read jProm).2 = 0 then (match promP (D.read jProm).1 with | some n => open2 n D | none => (2, ⟨0, 0, [], false⟩, D))
        else ((D.read jProm).2, ⟨0, 0, [], false⟩, D) := rfl
    have hErr := read_errs D jProm
    generalize D.read jProm = te at hts hJ0 hErr ⊢
    obtain ⟨t, er⟩ := te
    simp only at hts hJ0 hErr ⊢
    rcases hErr with rfl | rfl | rfl
    · rw [if_neg (by decide), if_neg (by decide)] at hJ0
      repeat' (first|refine bk ?_|refine bkc ?_|refine bks ?_|refine bkd ?_|refine bkq (fun q => ?_)|(refine bk2 ?_ ?_<;>(first|exact bkn|(refine bkk ?_;intro h))))
      refine QS.turn (G' := diskA bd D :: F) (fun w hs => hs.kick (i := 1) rfl) (QS.retV Tryz.results11 rfl ?_)
      rw [hJ0]
      exact openO_bad (by decide)
    · rw [if_neg (by decide), if_pos rfl] at hJ0
      have hP : promP t = match openB (bs t) with
        | (e, x, r) => if e = 0 ∧ r = [] then (match numP (mk x) with | some n => if 1 ≤ n ∧ n ≤ 9007199254740991 then some n else none | none => none) else none := rfl
      repeat' (first|refine bk ?_|refine bkc ?_|refine bks ?_|refine bkd ?_|refine bkq (fun q => ?_)|(refine bk2 ?_ ?_<;>(first|exact bkn|(refine bkk ?_;intro h))))
      refine WL.call c40 rfl rfl rfl rfl (sum_Open t (by omega) W0 _) ?_
      rintro _ G2 ⟨rfl, hG2⟩
      rw [hG2]; clear hG2 G2
      have hol : (openB (bs t)).2.1.length ≤ 4000 := by
        cases hO : openB (bs t) with
        | mk e p =>
          obtain ⟨x, r⟩ := p
          rw [openB] at hO
          cases ht : takeText (bs t) with
          | none => rw [ht] at hO; simp only [openT, Prod.mk.injEq] at hO; simp [← hO.2.1]
          | some q =>
            obtain ⟨y, r2⟩ := q
            have := (takeText_some ht).2
            rw [ht] at hO
            simp only [openT] at hO
            split at hO
            · simp only [Prod.mk.injEq] at hO; simp [← hO.2.1]
            · split at hO
              · simp only [Prod.mk.injEq] at hO; rw [← hO.2.1]; exact this
              · simp only [Prod.mk.injEq] at hO; simp [← hO.2.1]
      generalize openB (bs t) = oB at hP hol ⊢
      obtain ⟨e, x, r⟩ := oB
      simp only [openV] at hP hol ⊢
      have hmx := mk_size x
      repeat' (first|refine bk ?_|refine bkc ?_|refine bks ?_|refine bkd ?_|refine bkq (fun q => ?_)|(refine bk2 ?_ ?_<;>(first|exact bkn|(refine bkk ?_;intro h))))
      refine WL.call c41 rfl rfl rfl rfl (wire_TakeNum (mk x) (by omega) W0 _) ?_
      rintro _ G2 ⟨rfl, hG2⟩
      rw [hG2, bs_mk]; clear hG2 G2
      have hN : numP (mk x) = match takeNum x with | some (n, r) => if r = [] then some n else none | none => none := by rw [numP, bs_mk]; cases takeNum x <;> rfl
      cases htn : takeNum x with
      | none =>
        rw [htn] at hN
        simp only at hN ⊢
        rw [hN] at hP
        have hP2 : promP t = none := by rw [hP]; split <;> rfl
        rw [hP2] at hJ0
        repeat' (first|refine bk ?_|refine bkc ?_|refine bks ?_|refine bkd ?_|refine bkq (fun q => ?_)|(refine bk2 ?_ ?_<;>(first|exact bkn|(refine bkk ?_;intro h))))
        all_goals
          refine QS.turn (G' := diskA bd D :: F) (fun w hs => hs.kick (i := 1) rfl) (QS.retV Tryz.results11 rfl ?_)
          rw [hJ0]
          exact openO_bad (by decide)
      | some q =>
        obtain ⟨n, y⟩ := q
        rw [htn] at hN
        simp only at hN ⊢
        rw [hN] at hP
        by_cases hgood : e = 0 ∧ r = [] ∧ y = [] ∧ 1 ≤ n ∧ n ≤ 9007199254740991
        · obtain ⟨rfl, rfl, rfl, hn1, hn2⟩ := hgood
          have hP2 : promP t = some n := by rw [hP, if_pos ⟨rfl, rfl⟩, if_pos rfl]; simp only; rw [if_pos ⟨hn1, hn2⟩]
          rw [hP2] at hJ0
          repeat' (first|refine bk ?_|refine bkc ?_|refine bks ?_|refine bkd ?_|refine bkq (fun q => ?_)|(refine bk2 ?_ ?_<;>(first|exact bkn|(refine bkk ?_;intro h))))
          exact QS.met n hJ0 ⟨rfl, rfl, trivial⟩ (fun w hs => hs.front (i := 1) rfl)
        · have hP2 : promP t = none := by
            rw [hP]
            by_cases h1 : e = 0 ∧ r = []
            · rw [if_pos h1]
              by_cases h2 : y = []
              · rw [if_pos h2]
                simp only
                rw [if_neg (fun h3 => hgood ⟨h1.1, h1.2, h2, h3⟩)]
              · rw [if_neg h2]
            · rw [if_neg h1]
          rw [hP2] at hJ0
          repeat' (first|refine bk ?_|refine bkc ?_|refine bks ?_|refine bkd ?_|refine bkq (fun q => ?_)|(refine bk2 ?_ ?_<;>(first|exact bkn|(refine bkk ?_;intro h))))
          all_goals first
            | (exfalso; exact hgood ⟨by omega, congrArg bs ‹mk r = _›, congrArg bs ‹mk y = _›, by omega, by omega⟩)
            | (refine QS.turn (G' := diskA bd D :: F) (fun w hs => hs.kick (i := 1) rfl) (QS.retV Tryz.results11 rfl ?_)
               rw [hJ0]
               exact openO_bad (by decide))
    · rw [if_pos rfl] at hJ0
      repeat' (first|refine bk ?_|refine bkc ?_|refine bks ?_|refine bkd ?_|refine bkq (fun q => ?_)|(refine bk2 ?_ ?_<;>(first|exact bkn|(refine bkk ?_;intro h))))
      exact QS.met 0 hJ0 ⟨rfl, rfl, trivial⟩ (fun w hs => hs.front (i := 1) rfl)
  · intro p hp
    repeat' (first|refine bk ?_|refine bkc ?_|refine bks ?_|refine bkd ?_|refine bkq (fun q => ?_)|(refine bk2 ?_ ?_<;>(first|exact bkn|(refine bkk ?_;intro h))))
    refine WL.call c42 rfl rfl rfl rfl ((log_Load bd D jLog (by have := read_small hD jLog; omega) W0 _).pre (fun w hs => hs.front (i := 1) rfl)) ?_
    have hO : open2 p D = match loadM (bs (D.read jLog).1) (D.read jLog).2 with
      | (e, xs, w, er) => if er = 5 then (0, ⟨p, 0, [], false⟩, D) else if er ≠ 0 then (er, ⟨p, 0, [], false⟩, D)
        else if w = true then (0, ⟨p, e, xs, false⟩, D) else ((storeM D e xs jLog).1, ⟨p, e, xs, false⟩, (storeM D e xs jLog).2) := rfl
    generalize loadM (bs (D.read jLog).1) (D.read jLog).2 = M at hO ⊢
    obtain ⟨e, xs, wh, er⟩ := M
    simp only at hO
    rintro _ _ ⟨A, c, rfl, rfl⟩
    simp only
    by_cases h5 : er = 5
    · subst h5
      rw [if_pos rfl] at hO
      rw [hO] at hp
      repeat' (first|refine bk ?_|refine bkc ?_|refine bks ?_|refine bkd ?_|refine bkq (fun q => ?_)|(refine bk2 ?_ ?_<;>(first|exact bkn|(refine bkk ?_;intro h))))
      refine QS.turn (G' := jA b bd ⟨p, 0, [], false⟩ :: diskA bd D :: F) (fun w hs => jA_shut (A := none) (c := 0) w (((((hs.drop.drop).front (i := 1) rfl).slcNil entE 41)).perm (List.Perm.swap ..))) (QS.retV Tryz.results11 rfl ?_)
      rw [hp]
      exact openO_ok
    rw [if_neg h5] at hO
    by_cases h0 : er = 0
    rotate_left 1
    · rw [if_pos h0] at hO
      rw [hO] at hp
      repeat' (first|refine bk ?_|refine bkc ?_|refine bks ?_|refine bkd ?_|refine bkq (fun q => ?_)|(refine bk2 ?_ ?_<;>(first|exact bkn|(refine bkk ?_;intro h))))
      refine QS.turn (G' := diskA bd D :: F) (fun w hs => hs.drop.drop.kick (i := 1) rfl) (QS.retV Tryz.results11 rfl ?_)
      rw [hp]
      exact openO_bad h0
    subst h0
    rw [if_neg (by decide)] at hO
    cases wh with
    | true =>
      rw [if_pos rfl] at hO
      rw [hO] at hp
      repeat' (first|refine bk ?_|refine bkc ?_|refine bks ?_|refine bkd ?_|refine bkq (fun q => ?_)|(refine bk2 ?_ ?_<;>(first|exact bkn|(refine bkk ?_;intro h))))
      refine QS.turn (G' := jA b bd ⟨p, e, xs, false⟩ :: diskA bd D :: F) (fun w hs => jA_shut (A := A) (c := c) w (((hs.drop.front (i := 0) rfl).front (i := 2) rfl))) (QS.retV Tryz.results11 rfl ?_)
      rw [hp]
      exact openO_ok
    | false =>
      rw [if_neg (by decide)] at hO
      rw [hO] at hp
      repeat' (first|refine bk ?_|refine bkc ?_|refine bks ?_|refine bkd ?_|refine bkq (fun q => ?_)|(refine bk2 ?_ ?_<;>(first|exact bkn|(refine bkk ?_;intro h))))
      refine WL.call c43 rfl rfl rfl rfl ((log_Store bd D hD jLog e A _ c xs rfl W0 _ (Rd.slc (i := 2) rfl)).pre (fun w hs => hs.front (i := 2) rfl)) ?_
      rintro _ _ ⟨rfl, rfl⟩
      by_cases hs0 : (storeM D e xs jLog).1 = 0
      · rw [hs0] at hp ⊢
        repeat' (first|refine bk ?_|refine bkc ?_|refine bks ?_|refine bkd ?_|refine bkq (fun q => ?_)|(refine bk2 ?_ ?_<;>(first|exact bkn|(refine bkk ?_;intro h))))
        refine QS.turn (G' := jA b bd ⟨p, e, xs, false⟩ :: diskA bd (storeM D e xs jLog).2 :: F) (fun w hs => jA_shut (A := A) (c := c) w (((hs.kick (i := 1) rfl).front (i := 1) rfl).front (i := 2) rfl)) (QS.retV Tryz.results11 rfl ?_)
        rw [hp]
        exact openO_ok
      · repeat' (first|refine bk ?_|refine bkc ?_|refine bks ?_|refine bkd ?_|refine bkq (fun q => ?_)|(refine bk2 ?_ ?_<;>(first|exact bkn|(refine bkk ?_;intro h))))
        refine QS.turn (G' := diskA bd (storeM D e xs jLog).2 :: F) (fun w hs => ((hs.kick (i := 1) rfl).kick (i := 1) rfl).kick (i := 1) rfl) (QS.retV Tryz.results11 rfl ?_)
        rw [hp]
        exact openO_bad hs0
end Go.Proofs.YtejdkcnbflpfaaaGreat.B

set_option linter.unusedVariables false
set_option linter.unusedSimpArgs false
set_option maxRecDepth 8000
/-! The document's own node is opened. -/
namespace Go.Proofs.YtejdkcnbflpfaaaGreat.B
open Go Go.Proofs
attribute [local irreducible] WL CS QS WQ WH WS Fn Op1 row Sat
attribute [local irreducible] slc rjA refA
def openS (bx : Nat) (r : Int × Jn × Disk) (F : List SL) (v : Value) (G' : List SL) : Prop :=
  if r.1 = 0 then ∃ b, v = .tuple #[.pointer (some ⟨b, 0, none⟩), .int .i64 0] ∧ G' = rjA b bx r.2.1 :: refA bx (toR r.2.2) :: F
  else v = .tuple #[.pointer none, .int .i64 r.1] ∧ G' = refA bx (toR r.2.2) :: F
theorem openS_ok {bx b : Nat} {J : Jn} {D : Disk} {F : List SL} : openS bx (0, J, D) F (.tuple #[.pointer (some ⟨b, 0, none⟩), .int .i64 0]) (rjA b bx J :: refA bx (toR D) :: F) := by
  unfold openS; rw [if_pos rfl]; exact ⟨b, rfl, rfl⟩
theorem openS_bad {bx : Nat} {er : Int} {J : Jn} {D : Disk} {F : List SL} (h : er ≠ 0) : openS bx (er, J, D) F (.tuple #[.pointer none, .int .i64 er]) (refA bx (toR D) :: F) := by
  unfold openS; rw [if_neg h]; exact ⟨rfl, rfl⟩
theorem load_five (t : List UInt8) (er : Int) : (loadM t er).2.2.2 = 5 → (loadM t er).1 = 0 ∧ (loadM t er).2.1 = [] := by
  by_cases h : er = 0
  · rw [load_parse h]
    split
    · intro h2; simp at h2
    · intro _; exact ⟨rfl, rfl⟩
  · rw [loadM, if_neg h]; intro _; exact ⟨rfl, rfl⟩
set_option maxHeartbeats 16000000 in
theorem r_Open (bx : Nat) (D : Disk) (hD : DiskOk D) (W0 : World) (F : List SL) :
    Fn Tryz.prog 12 [.pointer (some ⟨bx, 0, none⟩)] W0 (refA bx (toR D) :: F)
      (Ret (openS bx (openJ D) F)) := by
  refine Fn.enter Tryz.func12 rfl Tryz.ntmps12 rfl ?_
  refine CS.seq ?_
  repeat' (first|refine bk ?_|refine bkc ?_|refine bkd ?_|refine bkq (fun q => ?_)|(refine bk2 ?_ ?_<;>(first|exact bkn|(refine bkk ?_;intro h))))
  refine CS.seq ?_
  repeat' (first|refine bk ?_|refine bkc ?_|refine bkd ?_|refine bkq (fun q => ?_)|(refine bk2 ?_ ?_<;>(first|exact bkn|(refine bkk ?_;intro h))))
  revert q; intro b
  repeat' (first|refine bk ?_|refine bkc ?_|refine bks ?_|refine bkd ?_|refine bkq (fun q => ?_)|(refine bk2 ?_ ?_<;>(first|exact bkn|(refine bkk ?_;intro h))))
  refine WL.turn (fun w hs => hs.front (i := 1) rfl) ?_
  refine WL.call c44 rfl rfl rfl rfl (rdisk_Read bx (toR D) (toR_len hD) jProm W0 _) ?_
  rw [toR_read hD]
  rintro _ G2 ⟨rfl, hG2⟩
  rw [hG2]; clear hG2 G2
  refine WL.turn (fun w hs => hs.front (i := 1) rfl) ?_
  have hts := read_small hD jProm
  have hJ0 : openJ D = if (D.read jProm).2 = 5 then open2 0 D
      else if (D.read jProm).2 = 0 then (match promP (D.read jProm).1 with | some n => open2 n D | none => (2, ⟨0, 0, [], false⟩, D))
      else ((D.read jProm).2, ⟨0, 0, [], false⟩, D) := rfl
  have hErr := read_errs D jProm
  generalize D.read jProm = te at hts hJ0 hErr ⊢
  obtain ⟨t, er⟩ := te
  simp only at hts hJ0 hErr ⊢
  rcases hErr with rfl | rfl | rfl
  · rw [if_neg (by decide), if_neg (by decide)] at hJ0
    repeat' (first|refine bk ?_|refine bkc ?_|refine bks ?_|refine bkd ?_|refine bkq (fun q => ?_)|(refine bk2 ?_ ?_<;>(first|exact bkn|(refine bkk ?_;intro h))))
    refine QS.turn (G' := refA bx (toR D) :: F) (fun w hs => hs.drop) (QS.retV Tryz.results12 rfl ?_)
    rw [hJ0]
    exact openS_bad (by decide)
  · rw [if_neg (by decide), if_pos rfl] at hJ0
    have hP : promP t = match openB (bs t) with
      | (e, x, r) => if e = 0 ∧ r = [] then (match numP (mk x) with | some n => if 1 ≤ n ∧ n ≤ 9007199254740991 then some n else none | none => none) else none := rfl
    repeat' (first|refine bk ?_|refine bkc ?_|refine bks ?_|refine bkd ?_|refine bkq (fun q => ?_)|(refine bk2 ?_ ?_<;>(first|exact bkn|(refine bkk ?_;intro h))))
    refine WL.call c45 rfl rfl rfl rfl (ref_Open t (by omega) W0 _) ?_
    rintro _ G2 ⟨rfl, hG2⟩
    rw [hG2]; clear hG2 G2
    have hol : (openB (bs t)).2.1.length ≤ 4000 := by
      cases hO : openB (bs t) with
      | mk e p =>
        obtain ⟨x, r⟩ := p
        rw [openB] at hO
        cases ht : takeText (bs t) with
        | none => rw [ht] at hO; simp only [openT, Prod.mk.injEq] at hO; simp [← hO.2.1]
        | some q =>
          obtain ⟨y, r2⟩ := q
          have := (takeText_some ht).2
          rw [ht] at hO
          simp only [openT] at hO
          split at hO
          · simp only [Prod.mk.injEq] at hO; simp [← hO.2.1]
          · split at hO
            · simp only [Prod.mk.injEq] at hO; rw [← hO.2.1]; exact this
            · simp only [Prod.mk.injEq] at hO; simp [← hO.2.1]
    generalize openB (bs t) = oB at hP hol ⊢
    obtain ⟨e0, x, r⟩ := oB
    simp only [openV] at hP hol ⊢
    have hmx := mk_size x
    repeat' (first|refine bk ?_|refine bkc ?_|refine bks ?_|refine bkd ?_|refine bkq (fun q => ?_)|(refine bk2 ?_ ?_<;>(first|exact bkn|(refine bkk ?_;intro h))))
    refine WL.call c46 rfl rfl rfl rfl (r_number (mk x) (by omega) W0 _) ?_
    rintro _ G2 ⟨⟨n, rfl, hnn⟩, hG2⟩
    rw [hG2]; clear hG2 G2
    by_cases hgood : e0 = 0 ∧ r = [] ∧ numP (mk x) = some n ∧ 1 ≤ n ∧ n ≤ 9007199254740991
    · obtain ⟨rfl, rfl, hN, hn1, hn2⟩ := hgood
      have hp : openJ D = open2 n D := by
        rw [hJ0, hP, if_pos ⟨rfl, rfl⟩, hN]
        simp only
        rw [if_pos ⟨hn1, hn2⟩]
      rw [hN]
      clear hJ0 hP hnn
      revert hp hn1 hn2
      generalize n = p
      intro hn1 hn2 hp
      simp only [Option.isSome_some]
      repeat' (first|refine bk ?_|refine bkc ?_|refine bks ?_|refine bkd ?_|refine bkq (fun q => ?_)|(refine bk2 ?_ ?_<;>(first|exact bkn|(refine bkk ?_;intro h))))
      refine WL.turn (fun w hs => hs.front (i := 1) rfl) ?_
      refine WL.call c47 rfl rfl rfl rfl (ref_Load bx (toR D) (toR_len hD) jLog (by rw [toR_read hD]; have := read_small hD jLog; omega) W0 _) ?_
      rw [toR_read hD]
      have hO : open2 p D = match loadM (bs (D.read jLog).1) (D.read jLog).2 with
        | (e, xs, w, er) => if er = 5 then (0, ⟨p, 0, [], false⟩, D) else if er ≠ 0 then (er, ⟨p, 0, [], false⟩, D)
          else if w = true then (0, ⟨p, e, xs, false⟩, D) else ((storeM D e xs jLog).1, ⟨p, e, xs, false⟩, (storeM D e xs jLog).2) := rfl
      have h5f := load_five (bs (D.read jLog).1) (D.read jLog).2
      generalize loadM (bs (D.read jLog).1) (D.read jLog).2 = M at hO h5f ⊢
      obtain ⟨e, xs, wh, er⟩ := M
      simp only at hO h5f
      rintro _ _ ⟨A, c, rfl, rfl⟩
      simp only
      by_cases h5 : er = 5
      · obtain ⟨rfl, rfl⟩ := h5f h5
        subst h5
        rw [if_pos rfl] at hO
        rw [hO] at hp
        repeat' (first|refine bk ?_|refine bkc ?_|refine bks ?_|refine bkd ?_|refine bkq (fun q => ?_)|(refine bk2 ?_ ?_<;>(first|exact bkn|(refine bkk ?_;intro h))))
        refine QS.turn (G' := rjA b bx ⟨p, 0, [], false⟩ :: refA bx (toR D) :: F) (fun w hs => rjA_shut (A := A) (c := c) w (hs.drop.front (i := 2) rfl)) (QS.retV Tryz.results12 rfl ?_)
        rw [hp]
        exact openS_ok
      rw [if_neg h5] at hO
      by_cases h0 : er = 0
      rotate_left 1
      · rw [if_pos h0] at hO
        rw [hO] at hp
        repeat' (first|refine bk ?_|refine bkc ?_|refine bks ?_|refine bkd ?_|refine bkq (fun q => ?_)|(refine bk2 ?_ ?_<;>(first|exact bkn|(refine bkk ?_;intro h))))
        refine QS.turn (G' := refA bx (toR D) :: F) (fun w hs => hs.drop.drop.kick (i := 1) rfl) (QS.retV Tryz.results12 rfl ?_)
        rw [hp]
        exact openS_bad h0
      subst h0
      rw [if_neg (by decide)] at hO
      cases wh with
      | true =>
        rw [if_pos rfl] at hO
        rw [hO] at hp
        repeat' (first|refine bk ?_|refine bkc ?_|refine bks ?_|refine bkd ?_|refine bkq (fun q => ?_)|(refine bk2 ?_ ?_<;>(first|exact bkn|(refine bkk ?_;intro h))))
        refine QS.turn (G' := rjA b bx ⟨p, e, xs, false⟩ :: refA bx (toR D) :: F) (fun w hs => rjA_shut (A := A) (c := c) w (hs.drop.front (i := 2) rfl)) (QS.retV Tryz.results12 rfl ?_)
        rw [hp]
        exact openS_ok
      | false =>
        rw [if_neg (by decide)] at hO
        rw [hO] at hp
        repeat' (first|refine bk ?_|refine bkc ?_|refine bks ?_|refine bkd ?_|refine bkq (fun q => ?_)|(refine bk2 ?_ ?_<;>(first|exact bkn|(refine bkk ?_;intro h))))
        refine WL.call c48 rfl rfl rfl rfl ((ref_Store bx D hD jLog e A _ c xs rfl W0 _ (Rd.slc (i := 2) rfl)).pre (fun w hs => hs.front (i := 2) rfl)) ?_
        rintro _ _ ⟨rfl, rfl⟩
        by_cases hs0 : (storeM D e xs jLog).1 = 0
        · rw [hs0] at hp ⊢
          repeat' (first|refine bk ?_|refine bkc ?_|refine bks ?_|refine bkd ?_|refine bkq (fun q => ?_)|(refine bk2 ?_ ?_<;>(first|exact bkn|(refine bkk ?_;intro h))))
          refine QS.turn (G' := rjA b bx ⟨p, e, xs, false⟩ :: refA bx (toR (storeM D e xs jLog).2) :: F) (fun w hs => rjA_shut (A := A) (c := c) w (((hs.kick (i := 1) rfl).front (i := 1) rfl).front (i := 2) rfl)) (QS.retV Tryz.results12 rfl ?_)
          rw [hp]
          exact openS_ok
        · repeat' (first|refine bk ?_|refine bkc ?_|refine bks ?_|refine bkd ?_|refine bkq (fun q => ?_)|(refine bk2 ?_ ?_<;>(first|exact bkn|(refine bkk ?_;intro h))))
          refine QS.turn (G' := refA bx (toR (storeM D e xs jLog).2) :: F) (fun w hs => ((hs.kick (i := 1) rfl).kick (i := 1) rfl).kick (i := 1) rfl) (QS.retV Tryz.results12 rfl ?_)
          rw [hp]
          exact openS_bad hs0
    · have hP2 : promP t = none := by
        rw [hP]
        by_cases h1 : e0 = 0 ∧ r = []
        · rw [if_pos h1]
          cases hN : numP (mk x) with
          | none => rfl
          | some m =>
            simp only
            rw [if_neg (fun h3 => hgood ⟨h1.1, h1.2, by rw [hN, hnn m hN], by rw [hnn m hN]; exact h3.1, by rw [hnn m hN]; exact h3.2⟩)]
        · rw [if_neg h1]
      rw [hP2] at hJ0
      have hbad : numP (mk x) = none ∨ numP (mk x) = some n := by
        cases hN : numP (mk x) with
        | none => exact .inl rfl
        | some m => exact .inr (by rw [hnn m hN])
      rcases hbad with hN | hN
      all_goals
        rw [hN]
        simp only [Option.isSome_none, Option.isSome_some]
        repeat' (first|refine bk ?_|refine bkc ?_|refine bks ?_|refine bkd ?_|refine bkq (fun q => ?_)|(refine bk2 ?_ ?_<;>(first|exact bkn|(refine bkk ?_;intro h))))
      all_goals first
        | (exfalso; exact hgood ⟨by omega, congrArg bs ‹mk r = _›, hN, by omega, by omega⟩)
        | (refine QS.turn (G' := refA bx (toR D) :: F) (fun w hs => hs.drop) (QS.retV Tryz.results12 rfl ?_)
           rw [hJ0]
           exact openS_bad (by decide))
  · rw [if_pos rfl] at hJ0
    have hp : openJ D = open2 0 D := hJ0
    clear hJ0
    repeat' (first|refine bk ?_|refine bkc ?_|refine bks ?_|refine bkd ?_|refine bkq (fun q => ?_)|(refine bk2 ?_ ?_<;>(first|exact bkn|(refine bkk ?_;intro h))))
    refine WL.turn (fun w hs => hs.front (i := 1) rfl) ?_
    refine WL.call c47 rfl rfl rfl rfl (ref_Load bx (toR D) (toR_len hD) jLog (by rw [toR_read hD]; have := read_small hD jLog; omega) W0 _) ?_
    rw [toR_read hD]
    have hO : open2 0 D = match loadM (bs (D.read jLog).1) (D.read jLog).2 with
      | (e, xs, w, er) => if er = 5 then (0, ⟨0, 0, [], false⟩, D) else if er ≠ 0 then (er, ⟨0, 0, [], false⟩, D)
        else if w = true then (0, ⟨0, e, xs, false⟩, D) else ((storeM D e xs jLog).1, ⟨0, e, xs, false⟩, (storeM D e xs jLog).2) := rfl
    have h5f := load_five (bs (D.read jLog).1) (D.read jLog).2
    generalize loadM (bs (D.read jLog).1) (D.read jLog).2 = M at hO h5f ⊢
    obtain ⟨e, xs, wh, er⟩ := M
    simp only at hO h5f
    rintro _ _ ⟨A, c, rfl, rfl⟩
    simp only
    by_cases h5 : er = 5
    · obtain ⟨rfl, rfl⟩ := h5f h5
      subst h5
      rw [if_pos rfl] at hO
      rw [hO] at hp
      repeat' (first|refine bk ?_|refine bkc ?_|refine bks ?_|refine bkd ?_|refine bkq (fun q => ?_)|(refine bk2 ?_ ?_<;>(first|exact bkn|(refine bkk ?_;intro h))))
      refine QS.turn (G' := rjA b bx ⟨0, 0, [], false⟩ :: refA bx (toR D) :: F) (fun w hs => rjA_shut (A := A) (c := c) w (hs.drop.front (i := 2) rfl)) (QS.retV Tryz.results12 rfl ?_)
      rw [hp]
      exact openS_ok
    rw [if_neg h5] at hO
    by_cases h0 : er = 0
    rotate_left 1
    · rw [if_pos h0] at hO
      rw [hO] at hp
      repeat' (first|refine bk ?_|refine bkc ?_|refine bks ?_|refine bkd ?_|refine bkq (fun q => ?_)|(refine bk2 ?_ ?_<;>(first|exact bkn|(refine bkk ?_;intro h))))
      refine QS.turn (G' := refA bx (toR D) :: F) (fun w hs => hs.drop.drop.kick (i := 1) rfl) (QS.retV Tryz.results12 rfl ?_)
      rw [hp]
      exact openS_bad h0
    subst h0
    rw [if_neg (by decide)] at hO
    cases wh with
    | true =>
      rw [if_pos rfl] at hO
      rw [hO] at hp
      repeat' (first|refine bk ?_|refine bkc ?_|refine bks ?_|refine bkd ?_|refine bkq (fun q => ?_)|(refine bk2 ?_ ?_<;>(first|exact bkn|(refine bkk ?_;intro h))))
      refine QS.turn (G' := rjA b bx ⟨0, e, xs, false⟩ :: refA bx (toR D) :: F) (fun w hs => rjA_shut (A := A) (c := c) w (hs.drop.front (i := 2) rfl)) (QS.retV Tryz.results12 rfl ?_)
      rw [hp]
      exact openS_ok
    | false =>
      rw [if_neg (by decide)] at hO
      rw [hO] at hp
      repeat' (first|refine bk ?_|refine bkc ?_|refine bks ?_|refine bkd ?_|refine bkq (fun q => ?_)|(refine bk2 ?_ ?_<;>(first|exact bkn|(refine bkk ?_;intro h))))
      refine WL.call c48 rfl rfl rfl rfl ((ref_Store bx D hD jLog e A _ c xs rfl W0 _ (Rd.slc (i := 2) rfl)).pre (fun w hs => hs.front (i := 2) rfl)) ?_
      rintro _ _ ⟨rfl, rfl⟩
      by_cases hs0 : (storeM D e xs jLog).1 = 0
      · rw [hs0] at hp ⊢
        repeat' (first|refine bk ?_|refine bkc ?_|refine bks ?_|refine bkd ?_|refine bkq (fun q => ?_)|(refine bk2 ?_ ?_<;>(first|exact bkn|(refine bkk ?_;intro h))))
        refine QS.turn (G' := rjA b bx ⟨0, e, xs, false⟩ :: refA bx (toR (storeM D e xs jLog).2) :: F) (fun w hs => rjA_shut (A := A) (c := c) w (((hs.kick (i := 1) rfl).front (i := 1) rfl).front (i := 2) rfl)) (QS.retV Tryz.results12 rfl ?_)
        rw [hp]
        exact openS_ok
      · repeat' (first|refine bk ?_|refine bkc ?_|refine bks ?_|refine bkd ?_|refine bkq (fun q => ?_)|(refine bk2 ?_ ?_<;>(first|exact bkn|(refine bkk ?_;intro h))))
        refine QS.turn (G' := refA bx (toR (storeM D e xs jLog).2) :: F) (fun w hs => ((hs.kick (i := 1) rfl).kick (i := 1) rfl).kick (i := 1) rfl) (QS.retV Tryz.results12 rfl ?_)
        rw [hp]
        exact openS_bad hs0
end Go.Proofs.YtejdkcnbflpfaaaGreat.B
