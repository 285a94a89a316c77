import Derived.Test.YtfolmcpfdcgliaaGreatMg41
import Derived.Test.YtfolmcpfdcgliaaGreatMg44
import Derived.Test.YtfolmcpfdcgliaaGreatMg42
import Derived.Test.YtfolmcpfdcgliaaGreatMg22
import Derived.Test.YtfolmcpfdcgliaaGreatMg25
import Derived.Test.YtfolmcpfdcgliaaGreatMg26
import Derived.Test.YtfolmcpfdcgliaaGreatMg27
import Derived.Test.YtfolmcpfdcgliaaGreatMg36
import Derived.Test.YtfolmcpfdcgliaaGreatMg40
import Derived.Test.YtfolmcpfdcgliaaGreatMg32
import Derived.Test.YtfolmcpfdcgliaaGreatMg13
import Derived.Test.YtfolmcpfdcgliaaGreatMg33
import Derived.Test.YtfolmcpfdcgliaaGreatMg11
set_option linter.unusedVariables false
set_option linter.unusedSimpArgs false
set_option maxRecDepth 8000
/-! The document's own journal node: its blocks, answer, promise. -/
namespace Go.Proofs.YtfolmcpfdcgliaaGreat.B
open Go Go.Proofs
attribute [local irreducible] WL CS QS WQ WH WS Fn Op1 row Sat
def rjC (bx : Nat) (A : Option Addr) (c : Nat) (J : Jn) : List Value := [.pointer (some ⟨bx, 0, none⟩), .int .i64 J.p, .int .i64 J.e, .slice A J.xs.length c, .bool J.dead]
def rjA (b bx : Nat) (J : Jn) : SL := fun h => ∃ x : Option Addr × Nat, star (row b 112 (rjC bx x.1 x.2 J)) (slc entE 49 x.1 x.2 J.xs) h
section
variable {W0 : World} {F : List SL} {b bx : Nat} {J : Jn}
theorem rjA_shut {A : Option Addr} {c : Nat} : ∀ w, Sat W0 (row b 112 (rjC bx A c J) :: slc entE 49 A c J.xs :: F) w → Sat W0 (rjA b bx J :: F) w := fun w hs =>
  hs.join.imp fun hp h => ⟨(A, c), h⟩
end
attribute [local irreducible] slc rjA refA
end Go.Proofs.YtfolmcpfdcgliaaGreat.B

set_option linter.unusedVariables false
set_option linter.unusedSimpArgs false
set_option maxRecDepth 8000
/-! The document's own reading of a request. -/
namespace Go.Proofs.YtfolmcpfdcgliaaGreat.B
open Go Go.Proofs
noncomputable def readR (s : List UInt8) (F : List SL) (v : Value) (G' : List SL) : Prop := match readQ s with
  | some q => ∃ tx A c, v = .tuple #[.agg #[.string q.kind, .int .i64 q.epoch, .int .i64 tx, .slice A q.xs.length c], .bool true] ∧ (q.kind = kW → tx = (q.xs.headD ⟨0, ⟨#[]⟩⟩).n ∧ q.xs.length = 1) ∧ G' = slc entE 49 A c q.xs :: F
  | none => ∃ k e t A n c, v = .tuple #[.agg #[.string k, .int .i64 e, .int .i64 t, .slice A n c], .bool false] ∧ G' = F
attribute [local irreducible] WL CS QS WQ WH WS Fn Op1 row Sat
attribute [local irreducible] slc rjA refA
end Go.Proofs.YtfolmcpfdcgliaaGreat.B

set_option linter.unusedVariables false
set_option linter.unusedSimpArgs false
set_option maxRecDepth 8000
/-! What the document's own node does with a request. -/
namespace Go.Proofs.YtfolmcpfdcgliaaGreat.B
open Go Go.Proofs
attribute [local irreducible] WL CS QS WQ WH WS Fn Op1 row Sat
attribute [local irreducible] slc rjA refA
end Go.Proofs.YtfolmcpfdcgliaaGreat.B

set_option linter.unusedVariables false
set_option linter.unusedSimpArgs false
set_option maxRecDepth 8000
/-! The document's own node handles a request. -/
namespace Go.Proofs.YtfolmcpfdcgliaaGreat.B
open Go Go.Proofs
attribute [local irreducible] WL CS QS WQ WH WS Fn Op1 row Sat
attribute [local irreducible] slc rjA refA
end Go.Proofs.YtfolmcpfdcgliaaGreat.B

set_option linter.unusedVariables false
set_option linter.unusedSimpArgs false
set_option maxRecDepth 8000
/-! The document's own node is opened. -/
namespace Go.Proofs.YtfolmcpfdcgliaaGreat.B
open Go Go.Proofs
attribute [local irreducible] WL CS QS WQ WH WS Fn Op1 row Sat
attribute [local irreducible] slc rjA refA
def openS (bx : Nat) (r : Int × Jn × Disk) (F : List SL) (v : Value) (G' : List SL) : Prop :=
  if r.1 = 0 then ∃ b, v = .tuple #[.pointer (some ⟨b, 0, none⟩), .int .i64 0] ∧ G' = rjA b bx r.2.1 :: refA bx (toR r.2.2) :: F
  else v = .tuple #[.pointer none, .int .i64 r.1] ∧ G' = refA bx (toR r.2.2) :: F
theorem openS_ok {bx b : Nat} {J : Jn} {D : Disk} {F : List SL} : openS bx (0, J, D) F (.tuple #[.pointer (some ⟨b, 0, none⟩), .int .i64 0]) (rjA b bx J :: refA bx (toR D) :: F) := by
  unfold openS; rw [if_pos rfl]; exact ⟨b, rfl, rfl⟩
theorem openS_bad {bx : Nat} {er : Int} {J : Jn} {D : Disk} {F : List SL} (h : er ≠ 0) : openS bx (er, J, D) F (.tuple #[.pointer none, .int .i64 er]) (refA bx (toR D) :: F) := by
  unfold openS; rw [if_neg h]; exact ⟨rfl, rfl⟩
theorem load_five (t : List UInt8) (er : Int) : (loadM t er).2.2.2 = 5 → (loadM t er).1 = 0 ∧ (loadM t er).2.1 = [] := by
  by_cases h : er = 0
  · rw [load_parse h]
    split
    · intro h2; simp at h2
    · intro _; exact ⟨rfl, rfl⟩
  · rw [loadM, if_neg h]; intro _; exact ⟨rfl, rfl⟩
set_option maxHeartbeats 16000000 in
theorem r_Open (bx : Nat) (D : Disk) (hD : DiskOk D) (W0 : World) (F : List SL) :
    Fn Tryz.prog 30 [.pointer (some ⟨bx, 0, none⟩)] W0 (refA bx (toR D) :: F)
      (Ret (openS bx (openJ D) F)) := by
  refine Fn.enter Tryz.func30 rfl Tryz.ntmps30 rfl ?_
  refine CS.seq ?_
  repeat' (first|refine bk ?_|refine bkc ?_|refine bkd ?_|refine bkq (fun q => ?_)|(refine bk2 ?_ ?_<;>(first|exact bkn|(refine bkk ?_;intro h))))
  refine CS.seq ?_
  repeat' (first|refine bk ?_|refine bkc ?_|refine bkd ?_|refine bkq (fun q => ?_)|(refine bk2 ?_ ?_<;>(first|exact bkn|(refine bkk ?_;intro h))))
  revert q; intro b
  repeat' (first|refine bk ?_|refine bkc ?_|refine bks ?_|refine bkd ?_|refine bkq (fun q => ?_)|(refine bk2 ?_ ?_<;>(first|exact bkn|(refine bkk ?_;intro h))))
  refine WL.turn (fun w hs => hs.front (i := 1) rfl) ?_
  refine WL.call c67 rfl rfl rfl rfl (rdisk_Read bx (toR D) (toR_len hD) jProm W0 _) ?_
  rw [toR_read hD]
  rintro _ G2 ⟨rfl, hG2⟩
  rw [hG2]; clear hG2 G2
  refine WL.turn (fun w hs => hs.front (i := 1) rfl) ?_
  have hts := read_small hD jProm
  have hJ0 : openJ D = if (D.read jProm).2 = 5 then open2 0 D
      else if (D.read jProm).2 = 0 then (match promP (D.read jProm).1 with | some n => open2 n D | none => (2, ⟨0, 0, [], false⟩, D))
      else ((D.read jProm).2, ⟨0, 0, [], false⟩, D) := rfl
  have hErr := read_errs D jProm
  generalize D.read jProm = te at hts hJ0 hErr ⊢
  obtain ⟨t, er⟩ := te
  simp only at hts hJ0 hErr ⊢
  rcases hErr with rfl | rfl | rfl
  · rw [if_neg (by decide), if_neg (by decide)] at hJ0
    repeat' (first|refine bk ?_|refine bkc ?_|refine bks ?_|refine bkd ?_|refine bkq (fun q => ?_)|(refine bk2 ?_ ?_<;>(first|exact bkn|(refine bkk ?_;intro h))))
    refine QS.turn (G' := refA bx (toR D) :: F) (fun w hs => hs.drop) (QS.retV Tryz.results30 rfl ?_)
    rw [hJ0]
    exact openS_bad (by decide)
  · rw [if_neg (by decide), if_pos rfl] at hJ0
    have hP : promP t = match openB (bs t) with
      | (e, x, r) => if e = 0 ∧ r = [] then (match numP (mk x) with | some n => if 1 ≤ n ∧ n ≤ 9007199254740991 then some n else none | none => none) else none := rfl
    repeat' (first|refine bk ?_|refine bkc ?_|refine bks ?_|refine bkd ?_|refine bkq (fun q => ?_)|(refine bk2 ?_ ?_<;>(first|exact bkn|(refine bkk ?_;intro h))))
    refine WL.call c68 rfl rfl rfl rfl (ref_Open t (by omega) W0 _) ?_
    rintro _ G2 ⟨rfl, hG2⟩
    rw [hG2]; clear hG2 G2
    have hol : (openB (bs t)).2.1.length ≤ 4000 := by
      cases hO : openB (bs t) with
      | mk e p =>
        obtain ⟨x, r⟩ := p
        rw [openB] at hO
        cases ht : takeText (bs t) with
        | none => rw [ht] at hO; simp only [openT, Prod.mk.injEq] at hO; simp [← hO.2.1]
        | some q =>
          obtain ⟨y, r2⟩ := q
          have := (takeText_some ht).2
          rw [ht] at hO
          simp only [openT] at hO
          split at hO
          · simp only [Prod.mk.injEq] at hO; simp [← hO.2.1]
          · split at hO
            · simp only [Prod.mk.injEq] at hO; rw [← hO.2.1]; exact this
            · simp only [Prod.mk.injEq] at hO; simp [← hO.2.1]
    generalize openB (bs t) = oB at hP hol ⊢
    obtain ⟨e0, x, r⟩ := oB
    simp only [openV] at hP hol ⊢
    have hmx := mk_size x
    repeat' (first|refine bk ?_|refine bkc ?_|refine bks ?_|refine bkd ?_|refine bkq (fun q => ?_)|(refine bk2 ?_ ?_<;>(first|exact bkn|(refine bkk ?_;intro h))))
    refine WL.call c69 rfl rfl rfl rfl (r_number (mk x) (by omega) W0 _) ?_
    rintro _ G2 ⟨⟨n, rfl, hnn⟩, hG2⟩
    rw [hG2]; clear hG2 G2
    by_cases hgood : e0 = 0 ∧ r = [] ∧ numP (mk x) = some n ∧ 1 ≤ n ∧ n ≤ 9007199254740991
    · obtain ⟨rfl, rfl, hN, hn1, hn2⟩ := hgood
      have hp : openJ D = open2 n D := by
        rw [hJ0, hP, if_pos ⟨rfl, rfl⟩, hN]
        simp only
        rw [if_pos ⟨hn1, hn2⟩]
      rw [hN]
      clear hJ0 hP hnn
      revert hp hn1 hn2
      generalize n = p
      intro hn1 hn2 hp
      simp only [Option.isSome_some]
      repeat' (first|refine bk ?_|refine bkc ?_|refine bks ?_|refine bkd ?_|refine bkq (fun q => ?_)|(refine bk2 ?_ ?_<;>(first|exact bkn|(refine bkk ?_;intro h))))
      refine WL.turn (fun w hs => hs.front (i := 1) rfl) ?_
      refine WL.call c70 rfl rfl rfl rfl (ref_Load bx (toR D) (toR_len hD) jLog (by rw [toR_read hD]; have := read_small hD jLog; omega) W0 _) ?_
      rw [toR_read hD]
      have hO : open2 p D = match loadM (bs (D.read jLog).1) (D.read jLog).2 with
        | (e, xs, w, er) => if er = 5 then (0, ⟨p, 0, [], false⟩, D) else if er ≠ 0 then (er, ⟨p, 0, [], false⟩, D)
          else if w = true then (0, ⟨p, e, xs, false⟩, D) else ((storeM D e xs jLog).1, ⟨p, e, xs, false⟩, (storeM D e xs jLog).2) := rfl
      have h5f := load_five (bs (D.read jLog).1) (D.read jLog).2
      generalize loadM (bs (D.read jLog).1) (D.read jLog).2 = M at hO h5f ⊢
      obtain ⟨e, xs, wh, er⟩ := M
      simp only at hO h5f
      rintro _ _ ⟨A, c, rfl, rfl⟩
      simp only
      by_cases h5 : er = 5
      · obtain ⟨rfl, rfl⟩ := h5f h5
        subst h5
        rw [if_pos rfl] at hO
        rw [hO] at hp
        repeat' (first|refine bk ?_|refine bkc ?_|refine bks ?_|refine bkd ?_|refine bkq (fun q => ?_)|(refine bk2 ?_ ?_<;>(first|exact bkn|(refine bkk ?_;intro h))))
        refine QS.turn (G' := rjA b bx ⟨p, 0, [], false⟩ :: refA bx (toR D) :: F) (fun w hs => rjA_shut (A := A) (c := c) w (hs.drop.front (i := 2) rfl)) (QS.retV Tryz.results30 rfl ?_)
        rw [hp]
        exact openS_ok
      rw [if_neg h5] at hO
      by_cases h0 : er = 0
      rotate_left 1
      · rw [if_pos h0] at hO
        rw [hO] at hp
        repeat' (first|refine bk ?_|refine bkc ?_|refine bks ?_|refine bkd ?_|refine bkq (fun q => ?_)|(refine bk2 ?_ ?_<;>(first|exact bkn|(refine bkk ?_;intro h))))
        refine QS.turn (G' := refA bx (toR D) :: F) (fun w hs => hs.drop.drop.kick (i := 1) rfl) (QS.retV Tryz.results30 rfl ?_)
        rw [hp]
        exact openS_bad h0
      subst h0
      rw [if_neg (by decide)] at hO
      cases wh with
      | true =>
        rw [if_pos rfl] at hO
        rw [hO] at hp
        repeat' (first|refine bk ?_|refine bkc ?_|refine bks ?_|refine bkd ?_|refine bkq (fun q => ?_)|(refine bk2 ?_ ?_<;>(first|exact bkn|(refine bkk ?_;intro h))))
        refine QS.turn (G' := rjA b bx ⟨p, e, xs, false⟩ :: refA bx (toR D) :: F) (fun w hs => rjA_shut (A := A) (c := c) w (hs.drop.front (i := 2) rfl)) (QS.retV Tryz.results30 rfl ?_)
        rw [hp]
        exact openS_ok
      | false =>
        rw [if_neg (by decide)] at hO
        rw [hO] at hp
        repeat' (first|refine bk ?_|refine bkc ?_|refine bks ?_|refine bkd ?_|refine bkq (fun q => ?_)|(refine bk2 ?_ ?_<;>(first|exact bkn|(refine bkk ?_;intro h))))
        refine WL.call c71 rfl rfl rfl rfl ((ref_Store bx D hD jLog e A _ c xs rfl W0 _ (Rd.slc (i := 2) rfl)).pre (fun w hs => hs.front (i := 2) rfl)) ?_
        rintro _ _ ⟨rfl, rfl⟩
        by_cases hs0 : (storeM D e xs jLog).1 = 0
        · rw [hs0] at hp ⊢
          repeat' (first|refine bk ?_|refine bkc ?_|refine bks ?_|refine bkd ?_|refine bkq (fun q => ?_)|(refine bk2 ?_ ?_<;>(first|exact bkn|(refine bkk ?_;intro h))))
          refine QS.turn (G' := rjA b bx ⟨p, e, xs, false⟩ :: refA bx (toR (storeM D e xs jLog).2) :: F) (fun w hs => rjA_shut (A := A) (c := c) w (((hs.kick (i := 1) rfl).front (i := 1) rfl).front (i := 2) rfl)) (QS.retV Tryz.results30 rfl ?_)
          rw [hp]
          exact openS_ok
        · repeat' (first|refine bk ?_|refine bkc ?_|refine bks ?_|refine bkd ?_|refine bkq (fun q => ?_)|(refine bk2 ?_ ?_<;>(first|exact bkn|(refine bkk ?_;intro h))))
          refine QS.turn (G' := refA bx (toR (storeM D e xs jLog).2) :: F) (fun w hs => ((hs.kick (i := 1) rfl).kick (i := 1) rfl).kick (i := 1) rfl) (QS.retV Tryz.results30 rfl ?_)
          rw [hp]
          exact openS_bad hs0
    · have hP2 : promP t = none := by
        rw [hP]
        by_cases h1 : e0 = 0 ∧ r = []
        · rw [if_pos h1]
          cases hN : numP (mk x) with
          | none => rfl
          | some m =>
            simp only
            rw [if_neg (fun h3 => hgood ⟨h1.1, h1.2, by rw [hN, hnn m hN], by rw [hnn m hN]; exact h3.1, by rw [hnn m hN]; exact h3.2⟩)]
        · rw [if_neg h1]
      rw [hP2] at hJ0
      have hbad : numP (mk x) = none ∨ numP (mk x) = some n := by
        cases hN : numP (mk x) with
        | none => exact .inl rfl
        | some m => exact .inr (by rw [hnn m hN])
      rcases hbad with hN | hN
      all_goals
        rw [hN]
        simp only [Option.isSome_none, Option.isSome_some]
        repeat' (first|refine bk ?_|refine bkc ?_|refine bks ?_|refine bkd ?_|refine bkq (fun q => ?_)|(refine bk2 ?_ ?_<;>(first|exact bkn|(refine bkk ?_;intro h))))
      all_goals first
        | (exfalso; exact hgood ⟨by omega, congrArg bs ‹mk r = _›, hN, by omega, by omega⟩)
        | (refine QS.turn (G' := refA bx (toR D) :: F) (fun w hs => hs.drop) (QS.retV Tryz.results30 rfl ?_)
           rw [hJ0]
           exact openS_bad (by decide))
  · rw [if_pos rfl] at hJ0
    have hp : openJ D = open2 0 D := hJ0
    clear hJ0
    repeat' (first|refine bk ?_|refine bkc ?_|refine bks ?_|refine bkd ?_|refine bkq (fun q => ?_)|(refine bk2 ?_ ?_<;>(first|exact bkn|(refine bkk ?_;intro h))))
    refine WL.turn (fun w hs => hs.front (i := 1) rfl) ?_
    refine WL.call c70 rfl rfl rfl rfl (ref_Load bx (toR D) (toR_len hD) jLog (by rw [toR_read hD]; have := read_small hD jLog; omega) W0 _) ?_
    rw [toR_read hD]
    have hO : open2 0 D = match loadM (bs (D.read jLog).1) (D.read jLog).2 with
      | (e, xs, w, er) => if er = 5 then (0, ⟨0, 0, [], false⟩, D) else if er ≠ 0 then (er, ⟨0, 0, [], false⟩, D)
        else if w = true then (0, ⟨0, e, xs, false⟩, D) else ((storeM D e xs jLog).1, ⟨0, e, xs, false⟩, (storeM D e xs jLog).2) := rfl
    have h5f := load_five (bs (D.read jLog).1) (D.read jLog).2
    generalize loadM (bs (D.read jLog).1) (D.read jLog).2 = M at hO h5f ⊢
    obtain ⟨e, xs, wh, er⟩ := M
    simp only at hO h5f
    rintro _ _ ⟨A, c, rfl, rfl⟩
    simp only
    by_cases h5 : er = 5
    · obtain ⟨rfl, rfl⟩ := h5f h5
      subst h5
      rw [if_pos rfl] at hO
      rw [hO] at hp
      repeat' (first|refine bk ?_|refine bkc ?_|refine bks ?_|refine bkd ?_|refine bkq (fun q => ?_)|(refine bk2 ?_ ?_<;>(first|exact bkn|(refine bkk ?_;intro h))))
      refine QS.turn (G' := rjA b bx ⟨0, 0, [], false⟩ :: refA bx (toR D) :: F) (fun w hs => rjA_shut (A := A) (c := c) w (hs.drop.front (i := 2) rfl)) (QS.retV Tryz.results30 rfl ?_)
      rw [hp]
      exact openS_ok
    rw [if_neg h5] at hO
    by_cases h0 : er = 0
    rotate_left 1
    · rw [if_pos h0] at hO
      rw [hO] at hp
      repeat' (first|refine bk ?_|refine bkc ?_|refine bks ?_|refine bkd ?_|refine bkq (fun q => ?_)|(refine bk2 ?_ ?_<;>(first|exact bkn|(refine bkk ?_;intro h))))
      refine QS.turn (G' := refA bx (toR D) :: F) (fun w hs => hs.drop.drop.kick (i := 1) rfl) (QS.retV Tryz.results30 rfl ?_)
      rw [hp]
      exact openS_bad h0
    subst h0
    rw [if_neg (by decide)] at hO
    cases wh with
    | true =>
      rw [if_pos rfl] at hO
      rw [hO] at hp
      repeat' (first|refine bk ?_|refine bkc ?_|refine bks ?_|refine bkd ?_|refine bkq (fun q => ?_)|(refine bk2 ?_ ?_<;>(first|exact bkn|(refine bkk ?_;intro h))))
      refine QS.turn (G' := rjA b bx ⟨0, e, xs, false⟩ :: refA bx (toR D) :: F) (fun w hs => rjA_shut (A := A) (c := c) w (hs.drop.front (i := 2) rfl)) (QS.retV Tryz.results30 rfl ?_)
      rw [hp]
      exact openS_ok
    | false =>
      rw [if_neg (by decide)] at hO
      rw [hO] at hp
      repeat' (first|refine bk ?_|refine bkc ?_|refine bks ?_|refine bkd ?_|refine bkq (fun q => ?_)|(refine bk2 ?_ ?_<;>(first|exact bkn|(refine bkk ?_;intro h))))
      refine WL.call c71 rfl rfl rfl rfl ((ref_Store bx D hD jLog e A _ c xs rfl W0 _ (Rd.slc (i := 2) rfl)).pre (fun w hs => hs.front (i := 2) rfl)) ?_
      rintro _ _ ⟨rfl, rfl⟩
      by_cases hs0 : (storeM D e xs jLog).1 = 0
      · rw [hs0] at hp ⊢
        repeat' (first|refine bk ?_|refine bkc ?_|refine bks ?_|refine bkd ?_|refine bkq (fun q => ?_)|(refine bk2 ?_ ?_<;>(first|exact bkn|(refine bkk ?_;intro h))))
        refine QS.turn (G' := rjA b bx ⟨0, e, xs, false⟩ :: refA bx (toR (storeM D e xs jLog).2) :: F) (fun w hs => rjA_shut (A := A) (c := c) w (((hs.kick (i := 1) rfl).front (i := 1) rfl).front (i := 2) rfl)) (QS.retV Tryz.results30 rfl ?_)
        rw [hp]
        exact openS_ok
      · repeat' (first|refine bk ?_|refine bkc ?_|refine bks ?_|refine bkd ?_|refine bkq (fun q => ?_)|(refine bk2 ?_ ?_<;>(first|exact bkn|(refine bkk ?_;intro h))))
        refine QS.turn (G' := refA bx (toR (storeM D e xs jLog).2) :: F) (fun w hs => ((hs.kick (i := 1) rfl).kick (i := 1) rfl).kick (i := 1) rfl) (QS.retV Tryz.results30 rfl ?_)
        rw [hp]
        exact openS_bad hs0
end Go.Proofs.YtfolmcpfdcgliaaGreat.B

set_option linter.unusedVariables false
set_option linter.unusedSimpArgs false
set_option maxRecDepth 8000
/-! The statements' own functions: numbers, lists, nodes begun. -/
namespace Go.Proofs.YtfolmcpfdcgliaaGreat.B
open Go Go.Proofs
def rmsgE : EncK Msg := ⟨fun x => [.int .i64 x.1, .string x.2], 2, fun _ => rfl, by decide, fun _ u hu => by simp only [List.mem_cons, List.not_mem_nil, or_false] at hu; rcases hu with rfl | rfl <;> rfl⟩
def rmailA (bm : Nat) (m : List Msg) : SL := fun h => ∃ x : Option Addr × Nat × Option Addr × Nat, star (row bm 84 [.slice x.1 m.length x.2.1, .slice x.2.2.1 m.length x.2.2.2]) (star (slc rmsgE 72 x.1 x.2.1 m) (slc intE 3 x.2.2.1 x.2.2.2 (List.replicate m.length 0))) h
section
variable {W0 : World} {F : List SL} {bm : Nat} {m : List Msg}
theorem rmailA_shut {A A2 : Option Addr} {c c2 : Nat} : ∀ w, Sat W0 (row bm 84 [.slice A m.length c, .slice A2 m.length c2] :: slc rmsgE 72 A c m :: slc intE 3 A2 c2 (List.replicate m.length 0) :: F) w → Sat W0 (rmailA bm m :: F) w := fun w hs => by
  have h1 : Sat W0 (slc rmsgE 72 A c m :: slc intE 3 A2 c2 (List.replicate m.length 0) :: row bm 84 [.slice A m.length c, .slice A2 m.length c2] :: F) w := (hs.front (i := 1) rfl).front (i := 2) rfl |>.front (i := 1) rfl
  exact (h1.join.front (i := 1) rfl).join.imp fun hp h => ⟨(A, c, A2, c2), h⟩
end
/-- The document's nodes and disks beside the real ones. -/
def rndA (y : Nat × Nat) (x : Nd) : SL := star (rjA y.1 y.2 x.J) (refA y.2 (toR x.D))
def rnodesA (ys : List (Nat × Nat)) (xs : List Nd) : SL := bagA (List.zipWith rndA ys xs)
def rnodesX (ys : List (Nat × Nat)) (xs : List Nd) (i : Nat) : SL := bagA ((List.zipWith rndA ys xs).eraseIdx i)
section
variable {W0 : World} {G : List SL} {xs : List Nd} {ys : List (Nat × Nat)} {x : Nd} {y : Nat × Nat} {i : Nat}
theorem rnodes_none : ∀ w, Sat W0 G w → Sat W0 (rnodesA [] [] :: G) w := fun w s => bag_none s
theorem rnodes_snoc (hl : ys.length = xs.length) : ∀ w, Sat W0 (rjA y.1 y.2 x.J :: refA y.2 (toR x.D) :: rnodesA ys xs :: G) w → Sat W0 (rnodesA (ys ++ [y]) (xs ++ [x]) :: G) w := fun w s => by
  have := bag_snoc (P := rndA y x) s.join
  rw [rnodesA, List.zipWith_append hl]
  exact this
end
abbrev rlC (Ad Aj : Option Addr) (n cd cj bm : Nat) : List Value := [.slice Ad n cd, .slice Aj n cj, .pointer (some ⟨bm, 0, none⟩)]
attribute [local irreducible] WL CS QS WQ WH WS Fn Op1 row Sat
attribute [local irreducible] slc jA diskA mailA nodesA nodesX rjA refA rnodesA rnodesX rmailA
theorem law_pick (n m : Int) (hn : I64 n) (hm : 0 < m) (W0 : World) (G : List SL) :
    Fn Tryz.prog 9 [.int .i64 n, .int .i64 m] W0 G (Ret fun v G' => v = .int .i64 (pickM n m) ∧ G' = G) := by
  refine Fn.enter Tryz.func9 rfl Tryz.ntmps9 rfl ?_
  unfold I64 at hn
  have hm0 : decide (m = 0) = false := decide_eq_false (by omega)
  repeat' (first|refine bk ?_|refine bkc ?_|refine bks ?_|refine bkd ?_|refine bkq (fun q => ?_)|(refine bk2 ?_ ?_<;>(first|exact bkn|(refine bkk ?_;intro h))))
  all_goals
    refine WL.s (op1_rem TT rfl rfl (by omega)) rfl ?_
    repeat' (first|refine bk ?_|refine bkc ?_|refine bks ?_|refine bkd ?_|refine bkq (fun q => ?_)|(refine bk2 ?_ ?_<;>(first|exact bkn|(refine bkk ?_;intro h))))
    refine QS.retV Tryz.results9 rfl ⟨?_, rfl⟩
    first
      | (rw [pickM, if_pos (by assumption)]; exact congrArg (fun z => Value.int .i64 (Int.tmod z m)) (by omega))
      | (rw [pickM, if_neg (by assumption)]; rfl)
theorem ents17 (A B : Option Addr) (k c k2 c2 : Nat) (xs ys : List Ent) (hk : k = xs.length) (hk2 : k2 = ys.length) (hkb : k ≤ 9223372036854775807) (W0 : World) (G : List SL) (hR : Rd W0 G entE A xs) (hR2 : Rd W0 G entE B ys) :
    Fn Tryz.prog 42 [.slice A k c, .slice B k2 c2] W0 G (Ret fun v G' => v = .bool (decide (xs = ys)) ∧ G' = G) := by
  refine Fn.enter Tryz.func42 rfl Tryz.ntmps42 rfl ?_
  repeat' (first|refine bk ?_|refine bkc ?_|refine bks ?_|refine bkd ?_|refine bkq (fun q => ?_)|(refine bk2 ?_ ?_<;>(first|exact bkn|(refine bkk ?_;intro h))))
  · refine QS.retV Tryz.results42 rfl ⟨?_, rfl⟩
    rw [decide_eq_false (fun e => by subst e; omega)]; rfl
  have hkk : xs.length = ys.length := by omega
  refine CS.loop (X := Nat) (fun i => [(0, .slice A k c), (1, .slice B k2 c2), (5, .int .i64 (i : Int))]) (fun i => G)
    (fun i => i ≤ k ∧ xs.take i = ys.take i) (fun i => k - i) 0 ⟨rfl, rfl, rfl, trivial⟩ (fun w hs => hs) ⟨Nat.zero_le _, rfl⟩ ?_
  rintro i ⟨hi, he⟩
  refine CS.world fun hw => ?_
  repeat' (first|refine bk ?_|refine bkc ?_|refine bks ?_|refine bkd ?_|refine bkq (fun q => ?_)|(refine bk2 ?_ ?_<;>(first|exact bkn|(refine bkk ?_;intro h))))
  · obtain ⟨x, hx⟩ : ∃ x, xs[i]? = some x := ⟨xs[i]'(by omega), List.getElem?_eq_getElem (by omega)⟩
    obtain ⟨y, hy⟩ : ∃ y, ys[i]? = some y := ⟨ys[i]'(by omega), List.getElem?_eq_getElem (by omega)⟩
    refine WQ.idx TT hR rfl rfl hk (by omega) (by rw [Int.toNat_natCast]; exact hx) rfl rfl rfl rfl hw (fun b2 o hA => ?_)
    refine WQ.s (op1_at TT hA rfl rfl rfl rfl) rfl ?_
    repeat' (first|refine bk ?_|refine bkc ?_|refine bks ?_|refine bkd ?_|refine bkq (fun q => ?_)|(refine bk2 ?_ ?_<;>(first|exact bkn|(refine bkk ?_;intro h))))
    refine WQ.idx TT hR2 rfl rfl hk2 (by omega) (by rw [Int.toNat_natCast]; exact hy) rfl rfl rfl rfl hw (fun b3 o3 hA3 => ?_)
    refine WQ.s (op1_at TT hA3 rfl rfl rfl rfl) rfl ?_
    refine WQ.s (op1_neS TT cmp49 rfl rfl rfl rfl (eqEnt x y)) rfl ?_
    by_cases hxy : x = y
    · rw [decide_eq_true hxy]
      repeat' (first|refine bk ?_|refine bkc ?_|refine bks ?_|refine bkd ?_|refine bkq (fun q => ?_)|(refine bk2 ?_ ?_<;>(first|exact bkn|(refine bkk ?_;intro h))))
      refine QS.again (i + 1) ⟨by omega, ?_⟩ (by omega) ⟨rfl, rfl, ?_, trivial⟩ (fun w hs => hs)
      · rw [List.take_add_one, List.take_add_one, hx, hy, he, hxy]
      · rw [show ((i + 1 : Nat) : Int) = (i : Int) + 1 from by omega]; rfl
    · rw [decide_eq_false hxy]
      repeat' (first|refine bk ?_|refine bkc ?_|refine bks ?_|refine bkd ?_|refine bkq (fun q => ?_)|(refine bk2 ?_ ?_<;>(first|exact bkn|(refine bkk ?_;intro h))))
      refine QS.retV Tryz.results42 rfl ⟨?_, rfl⟩
      rw [decide_eq_false (fun e => hxy (by rw [e, hy] at hx; exact (Option.some.inj hx).symm))]; rfl
  · refine QS.retV Tryz.results42 rfl ⟨?_, rfl⟩
    rw [decide_eq_true (by rw [List.take_of_length_le (by omega), List.take_of_length_le (by omega)] at he; exact he)]; rfl
/-- What is laid before a statement: n nodes, each new, and none of them has anything. -/
abbrev J00 : Jn := ⟨0, 0, [], false⟩
def New0 (xs : List Nd) : Prop := ∀ x ∈ xs, x.J = J00 ∧ x.D = jD 2000000 J00
def realA (br : Nat) (Ad Aj : Option Addr) (cd cj bm : Nat) (xs : List Nd) : List SL :=
  [row br 35 (rlC Ad Aj xs.length cd cj bm), slc bpE 76 Ad cd (xs.map (·.d)), slc bpE 46 Aj cj (xs.map (·.b)), nodesA xs]
structure Bg where
  xs : List Nd
  ys : List (Nat × Nat)
  Ad : Option Addr
  cd : Nat
  Aj : Option Addr
  cj : Nat
  Ax : Option Addr
  cx : Nat
  Ay : Option Addr
  cy : Nat
abbrev bgA (br bm bs bn : Nat) (s : Bg) (F : List SL) : List SL :=
  row br 35 (rlC s.Ad s.Aj s.xs.length s.cd s.cj bm) :: slc bpE 76 s.Ad s.cd (s.xs.map (·.d)) :: slc bpE 46 s.Aj s.cj (s.xs.map (·.b)) :: nodesA s.xs :: mailA bm [] ::
  row bs 62 (rlC s.Ax s.Ay s.xs.length s.cx s.cy bn) :: slc bpE 86 s.Ax s.cx (s.ys.map (·.2)) :: slc bpE 88 s.Ay s.cy (s.ys.map (·.1)) :: rnodesA s.ys s.xs :: rmailA bn [] :: F
set_option maxHeartbeats 8000000 in
theorem law_begun (n : Nat) (hn : n ≤ 5) (W0 : World) (F : List SL) :
    Fn Tryz.prog 10 [.int .i64 (n : Int)] W0 F
      (Ret fun v G' => ∃ br bm bs bn s, New0 s.xs ∧ s.xs.length = n ∧ s.ys.length = n ∧ v = .tuple #[.pointer (some ⟨br, 0, none⟩), .pointer (some ⟨bs, 0, none⟩), .bool true] ∧ G' = bgA br bm bs bn s F) := by
  refine Fn.enter Tryz.func10 rfl Tryz.ntmps10 rfl ?_
  repeat' (first|refine bk ?_|refine bkc ?_|refine bks ?_|refine bkd ?_|refine bkq (fun q => ?_)|(refine bk2 ?_ ?_<;>(first|exact bkn|(refine bkk ?_;intro h))))
  refine WL.call c27 rfl rfl rfl rfl (mail_New W0 _) ?_
  rintro _ _ ⟨bm, rfl, rfl⟩
  repeat' (first|refine bk ?_|refine bkc ?_|refine bks ?_|refine bkd ?_|refine bkq (fun q => ?_)|(refine bk2 ?_ ?_<;>(first|exact bkn|(refine bkk ?_;intro h))))
  rename_i br bn
  revert q
  intro bs
  refine CS.loop (X := Bg) (fun s => [(0, .int .i64 (n : Int)), (5, .pointer (some ⟨br, 0, none⟩)), (6, .pointer (some ⟨bs, 0, none⟩)), (7, .int .i64 (s.xs.length : Int))])
    (fun s => bgA br bm bs bn s F) (fun s => New0 s.xs ∧ s.xs.length ≤ n ∧ s.ys.length = s.xs.length) (fun s => n - s.xs.length) ⟨[], [], none, 0, none, 0, none, 0, none, 0⟩ ⟨rfl, rfl, rfl, rfl, trivial⟩ (fun w hs => ?_) ⟨(fun x hx => by cases hx), Nat.zero_le _, rfl⟩ ?_
  · -- the start
    have h1 : Sat W0 (row bn 84 [.slice none 0 0, .slice none 0 0] :: slc rmsgE 72 none 0 [] :: slc intE 3 none 0 [] :: row bs 62 [.slice none 0 0, .slice none 0 0, .pointer (some ⟨bn, 0, none⟩)] :: row br 35 [.slice none 0 0, .slice none 0 0, .pointer (some ⟨bm, 0, none⟩)] :: mailA bm [] :: F) w :=
      ((hs.slcNil intE 3).slcNil rmsgE 72).front (i := 3) rfl
    have h2 := rnodes_none w (rmailA_shut (m := []) (A := none) (A2 := none) (c := 0) (c2 := 0) w h1)
    have h3 := (h2.slcNil bpE 88).slcNil bpE 86
    have h4 := (h3.front (i := 4) rfl).front (i := 6) rfl
    have h5 := ((nodes_none w h4).slcNil bpE 46).slcNil bpE 76
    exact h5.front (i := 9) rfl
  rintro ⟨xs, ys, Ad, cd, Aj, cj, Ax, cx, Ay, cy⟩ ⟨hN, hl, hly⟩
  simp only at hN hl hly ⊢
  have hJ0 : JnOk J00 := ⟨by decide, by decide, by decide⟩
  have hD0 := new_ok 2000000 (by decide)
  have ho : openJ (Disk.new 2000000) = (0, J00, jD 2000000 J00) := open_new 2000000 (by decide)
  by_cases hi : xs.length < n
  rotate_left 1
  · obtain rfl : xs.length = n := by omega
    repeat' (first|refine bk ?_|refine bkc ?_|refine bks ?_|refine bkd ?_|refine bkq (fun q => ?_)|(refine bk2 ?_ ?_<;>(first|exact bkn|(refine bkk ?_;intro h))))
    exact QS.retV Tryz.results10 rfl ⟨br, bm, bs, bn, _, hN, rfl, hly, rfl, rfl⟩
  · repeat' (first|refine bk ?_|refine bkc ?_|refine bks ?_|refine bkd ?_|refine bkq (fun q => ?_)|(refine bk2 ?_ ?_<;>(first|exact bkn|(refine bkk ?_;intro h))))
    refine WL.call c28 rfl rfl rfl rfl (disk_New 2000000 W0 _) ?_
    rintro _ _ ⟨d1, rfl, rfl⟩
    repeat' (first|refine bk ?_|refine bkc ?_|refine bks ?_|refine bkd ?_|refine bkq (fun q => ?_)|(refine bk2 ?_ ?_<;>(first|exact bkn|(refine bkk ?_;intro h))))
    refine WL.call c29 rfl rfl rfl rfl (rdisk_New 2000000 W0 _) ?_
    rintro _ _ ⟨x1, rfl, rfl⟩
    rw [← toR_new]
    repeat' (first|refine bk ?_|refine bkc ?_|refine bks ?_|refine bkd ?_|refine bkq (fun q => ?_)|(refine bk2 ?_ ?_<;>(first|exact bkn|(refine bkk ?_;intro h))))
    have hc := fun F => j_Open d1 (Disk.new 2000000) hD0 W0 F
    simp only [openO, ho, if_true] at hc
    try dsimp only at hc
    refine WL.call c26 rfl rfl rfl rfl ((hc _).pre (fun w hs => hs.front (i := 1) rfl)) ?_
    clear hc
    rintro _ _ ⟨b1, rfl, rfl⟩
    repeat' (first|refine bk ?_|refine bkc ?_|refine bks ?_|refine bkd ?_|refine bkq (fun q => ?_)|(refine bk2 ?_ ?_<;>(first|exact bkn|(refine bkk ?_;intro h))))
    have hc := fun F => r_Open x1 (Disk.new 2000000) hD0 W0 F
    simp only [openS, ho, if_true] at hc
    try dsimp only at hc
    refine WL.call c30 rfl rfl rfl rfl ((hc _).pre (fun w hs => hs.front (i := 2) rfl)) ?_
    clear hc
    rintro _ _ ⟨b2, rfl, rfl⟩
    repeat' (first|refine bk ?_|refine bkc ?_|refine bks ?_|refine bkd ?_|refine bkq (fun q => ?_)|(refine bk2 ?_ ?_<;>(first|exact bkn|(refine bkk ?_;intro h))))
    obtain ⟨x, hx⟩ : ∃ x : Nd, x = ⟨b1, d1, J00, jD 2000000 J00⟩ := ⟨_, rfl⟩
    obtain ⟨y, hy⟩ : ∃ y : Nat × Nat, y = (b2, x1) := ⟨_, rfl⟩
    have e1 : xs.map (·.d) ++ [d1] = (xs ++ [x]).map (·.d) := by rw [hx]; simp
    have e2 : xs.map (·.b) ++ [b1] = (xs ++ [x]).map (·.b) := by rw [hx]; simp
    have e3 : ys.map (·.2) ++ [x1] = (ys ++ [y]).map (·.2) := by rw [hy]; simp
    have e4 : ys.map (·.1) ++ [b2] = (ys ++ [y]).map (·.1) := by rw [hy]; simp
    have ly : (ys ++ [y]).length = (xs ++ [x]).length := by simp [hly]
    have lx : (xs ++ [x]).length = xs.length + 1 := by simp
    refine WL.turn (G' := row br 35 (rlC Ad Aj xs.length cd cj bm) :: row bs 62 (rlC Ax Ay xs.length cx cy bn) :: slc bpE 76 Ad cd (xs.map (·.d)) :: slc bpE 46 Aj cj (xs.map (·.b)) ::
      slc bpE 86 Ax cx (ys.map (·.2)) :: slc bpE 88 Ay cy (ys.map (·.1)) :: nodesA (xs ++ [x]) :: rnodesA (ys ++ [y]) (xs ++ [x]) :: mailA bm [] :: rmailA bn [] :: F) (fun w hs => ?_) ?_
    · have hs : Sat W0 (rjA b2 x1 J00 :: refA x1 (toR (jD 2000000 J00)) :: jA b1 d1 J00 :: diskA d1 (jD 2000000 J00) :: row br 35 (rlC Ad Aj xs.length cd cj bm) :: slc bpE 76 Ad cd (xs.map (·.d)) :: slc bpE 46 Aj cj (xs.map (·.b)) :: nodesA xs :: mailA bm [] ::
        row bs 62 (rlC Ax Ay xs.length cx cy bn) :: slc bpE 86 Ax cx (ys.map (·.2)) :: slc bpE 88 Ay cy (ys.map (·.1)) :: rnodesA ys xs :: rmailA bn [] :: F) w := hs
      have h1 := rnodes_snoc (x := x) (y := y) hly w (by rw [hx, hy]; exact hs.ord 14 [0, 1, 12, 2, 3, 7, 4, 5, 6, 8, 9, 10, 11, 13] rfl)
      have h2 := nodes_snoc w (h1.ord 12 [1, 2, 3, 0, 4, 5, 6, 7, 8, 9, 10, 11] rfl)
      rw [← hx] at h2
      -- nodes', rnodes', br, dA, jA, mail, bs, dX, jY, rmail
      exact h2.ord 10 [2, 6, 3, 4, 7, 8, 0, 1, 5, 9] rfl
    repeat' (first|refine bk ?_|refine bkc ?_|refine bks ?_|refine bkd ?_|refine bkq (fun q => ?_)|(refine bk2 ?_ ?_<;>(first|exact bkn|(refine bkk ?_;intro h))))
    refine WL.buildSlice TT rfl rfl rfl rfl rfl rfl rfl rfl (fun q2 => ?_)
    refine WL.append TT 3 (E := bpE) (xs := xs.map (·.d)) (ys := [d1]) rfl (by simp only [List.length_map] <;> omega) rfl rfl rfl (Rd.row (i := 0) rfl rfl) rfl rfl rfl rfl rfl (by decide) (by simp only [List.length_map, List.length_cons, List.length_nil]; omega) (fun _ _ => rfl) rfl (fun A2 c2 => ?_)
    refine WL.turn (fun w hs => hs.drop) ?_
    rw [e1, List.length_map]
    revert A2 c2
    intro A5 c5
    repeat' (first|refine bk ?_|refine bkc ?_|refine bks ?_|refine bkd ?_|refine bkq (fun q => ?_)|(refine bk2 ?_ ?_<;>(first|exact bkn|(refine bkk ?_;intro h))))
    refine WL.buildSlice TT rfl rfl rfl rfl rfl rfl rfl rfl (fun q2 => ?_)
    refine WL.append TT 4 (E := bpE) (xs := xs.map (·.b)) (ys := [b1]) rfl (by simp only [List.length_map] <;> omega) rfl rfl rfl (Rd.row (i := 0) rfl rfl) rfl rfl rfl rfl rfl (by decide) (by simp only [List.length_map, List.length_cons, List.length_nil]; omega) (fun _ _ => rfl) rfl (fun A2 c2 => ?_)
    refine WL.turn (fun w hs => hs.drop) ?_
    rw [e2, List.length_map]
    revert A2 c2
    intro A6 c6
    repeat' (first|refine bk ?_|refine bkc ?_|refine bks ?_|refine bkd ?_|refine bkq (fun q => ?_)|(refine bk2 ?_ ?_<;>(first|exact bkn|(refine bkk ?_;intro h))))
    refine WL.buildSlice TT rfl rfl rfl rfl rfl rfl rfl rfl (fun q2 => ?_)
    refine WL.append TT 5 (E := bpE) (xs := ys.map (·.2)) (ys := [x1]) rfl (by simp only [List.length_map] <;> omega) rfl rfl rfl (Rd.row (i := 0) rfl rfl) rfl rfl rfl rfl rfl (by decide) (by simp only [List.length_map, List.length_cons, List.length_nil]; omega) (fun _ _ => rfl) rfl (fun A2 c2 => ?_)
    refine WL.turn (fun w hs => hs.drop) ?_
    rw [e3, List.length_map, ly]
    revert A2 c2
    intro A7 c7
    repeat' (first|refine bk ?_|refine bkc ?_|refine bks ?_|refine bkd ?_|refine bkq (fun q => ?_)|(refine bk2 ?_ ?_<;>(first|exact bkn|(refine bkk ?_;intro h))))
    refine WL.buildSlice TT rfl rfl rfl rfl rfl rfl rfl rfl (fun q2 => ?_)
    refine WL.append TT 6 (E := bpE) (xs := ys.map (·.1)) (ys := [b2]) rfl (by simp only [List.length_map] <;> omega) rfl rfl rfl (Rd.row (i := 0) rfl rfl) rfl rfl rfl rfl rfl (by decide) (by simp only [List.length_map, List.length_cons, List.length_nil]; omega) (fun _ _ => rfl) rfl (fun A2 c2 => ?_)
    refine WL.turn (fun w hs => hs.drop) ?_
    rw [e4, List.length_map, ly]
    revert A2 c2
    intro A8 c8
    repeat' (first|refine bk ?_|refine bkc ?_|refine bks ?_|refine bkd ?_|refine bkq (fun q => ?_)|(refine bk2 ?_ ?_<;>(first|exact bkn|(refine bkk ?_;intro h))))
    refine QS.again ⟨xs ++ [x], ys ++ [y], A5, c5, A6, c6, A7, c7, A8, c8⟩ ⟨?_, by simp only; omega, ly⟩ (by simp only; omega) ⟨rfl, rfl, rfl, ?_, trivial⟩ (fun w hs => ?_)
    · intro z hz
      rcases List.mem_append.1 hz with hz | hz
      · exact hN z hz
      · rw [List.mem_singleton] at hz
        rw [hz, hx]; exact ⟨rfl, rfl⟩
    · simp only [lx]
      rw [show ((xs.length + 1 : Nat) : Int) = (xs.length : Int) + 1 from by omega]; rfl
    · exact hs.ord 10 [0, 2, 3, 6, 8, 1, 4, 5, 7, 9] rfl
end Go.Proofs.YtfolmcpfdcgliaaGreat.B

set_option linter.unusedVariables false
set_option linter.unusedSimpArgs false
set_option maxRecDepth 8000
/-! A writer begins with nodes that are not alike; the chapter's example. -/
namespace Go.Proofs.YtfolmcpfdcgliaaGreat.B
open Go Go.Proofs
theorem range_map {α β : Type} {f : Nat → Option β} {g : α → β} : ∀ (xs : List α), (∀ (i : Nat) x, xs[i]? = some x → f i = some (g x)) → (List.range xs.length).filterMap f = xs.map g := fun xs h => by
  have key : ∀ n, n ≤ xs.length → (List.range n).filterMap f = (xs.take n).map g := fun n => by
    induction n with
    | zero => intro _; simp
    | succ n ih =>
      intro hn
      obtain ⟨x, hx⟩ : ∃ x, xs[n]? = some x := ⟨xs[n]'(by omega), List.getElem?_eq_getElem (by omega)⟩
      rw [List.range_succ, List.filterMap_append, ih (by omega), List.take_add_one, hx]
      simp [h n x hx]
  have := key xs.length (Nat.le_refl _)
  rwa [List.take_length] at this
/-- All nodes answer OK. -/
theorem all_each {xs : List Nd} {s : ByteArray} {q : Rq} (h : ∀ x ∈ xs, NW x ∧ (pureJ x.J q).1 = 0) (hq : readQ (bs s) = some q) (w : Wr) (m : List Msg) (hn : 1 ≤ xs.length) :
    ∃ m', allM w xs m s [] = ⟨xs.map (fun x => toldQ x.J q), 0, w, ndsM [] s xs xs.length, m'⟩ ∧
      ∀ (i : Nat) y, (ndsM [] s xs xs.length)[i]? = some y → ∃ x, xs[i]? = some x ∧ NW y ∧ y.J = (pureJ x.J q).2 := by
  have hl : (gotsM [] s xs m xs.length).logs = xs.map (fun x => toldQ x.J q) := by
    rw [logs_are]
    refine range_map xs fun i x hx => ?_
    obtain ⟨h1, h2⟩ := h x (List.mem_of_getElem? hx)
    have t1 := (h1.told hq).1
    rw [if_pos h2] at t1
    unfold respM
    rw [hx]
    simp [fateM, t1]
  refine ⟨(gotsM [] s xs m xs.length).m, ?_, fun i y hy => ?_⟩
  · unfold allM
    simp only
    rw [if_neg (by rw [hl, List.length_map, most_pos hn]; omega), hl]
  · have hi := (List.getElem?_eq_some_iff.1 hy).1
    rw [ndsM_len] at hi
    rw [nds_at hi] at hy
    obtain ⟨x, hx, rfl⟩ := Option.map_eq_some_iff.1 hy
    obtain ⟨h1, h2⟩ := h x (List.mem_of_getElem? hx)
    refine ⟨x, hx, h1.step _ _, ?_⟩
    have e : ndM (fateM [] i) s x = x.hand (bs s) := by simp [ndM, fateM]
    rw [e, (h1.told hq).2]
/-- A writer begins: all nodes answer. -/
theorem begin_all {xs : List Nd} {ep : Int} (h : ∀ x ∈ xs, NW x ∧ x.J.p < ep) (h2 : 1 ≤ ep) (h3 : ep ≤ 9007199254740991) (m : List Msg) (hn : 1 ≤ xs.length) {L : List Ent} (hL : bestL (xs.map fun x => (x.J.e, x.J.xs)) = L) (hlog : logOk ep L = true) :
    ∃ xs' m', beginM ⟨0, 0, false⟩ xs m ep [] = ⟨L, 0, ⟨ep, L.length, false⟩, xs', m'⟩ ∧ Hu ⟨ep, ep, L, false⟩ 0 xs' ∧ xs'.length = xs.length := by
  obtain ⟨m1, a1, a2⟩ := all_each (q := ⟨kP, ep, []⟩) (fun x hx => ⟨(h x hx).1, by rw [pure_prom (h x hx).2]⟩) (read_prom ⟨h2, h3⟩) ⟨0, 0, false⟩ m hn
  have e1 : xs.map (fun x => toldQ x.J ⟨kP, ep, []⟩) = xs.map (fun x => (x.J.e, x.J.xs)) := by
    refine List.map_congr_left fun x hx => ?_
    unfold toldQ; rw [if_pos rfl, pure_prom (h x hx).2]
  rw [e1] at a1
  have hlen := ndsM_len [] (promS ep) xs xs.length
  have hy : ∀ y ∈ ndsM [] (promS ep) xs xs.length, NW y ∧ y.J.p = ep ∧ y.J.e < ep := fun y hy => by
    obtain ⟨i, hi⟩ := List.mem_iff_getElem?.1 hy
    obtain ⟨x, hx, b1, b2⟩ := a2 i y hi
    have hxm := h x (List.mem_of_getElem? hx)
    rw [pure_prom hxm.2] at b2
    have := hxm.1.J.ep
    exact ⟨b1, by rw [b2], by rw [b2]; simp only; omega⟩
  clear a2
  generalize ndsM [] (promS ep) xs xs.length = ys at a1 hlen hy
  obtain ⟨m2, b1, b2⟩ := all_each (q := ⟨kA, ep, L⟩) (fun y hym => ⟨(hy y hym).1, by rw [pure_acc (hy y hym).2.1 (hy y hym).2.2]⟩) (read_acc h2 hlog) ⟨0, 0, false⟩ m1 (by omega)
  refine ⟨ndsM [] (accS ep L) ys ys.length, m2, ?_, fun i y hyi => ?_, by rw [ndsM_len, hlen]⟩
  · unfold beginM
    rw [if_neg (by simp), if_neg (by omega)]
    simp only [a1]
    rw [if_neg (by simp), hL]
    unfold begin2
    simp only [List.drop_nil, b1]
    rw [if_neg (by simp)]
  · obtain ⟨x, hx, c1, c2⟩ := b2 i y hyi
    obtain ⟨d1, d2, d3⟩ := hy x (List.mem_of_getElem? hx)
    rw [pure_acc d2 d3] at c2
    refine ⟨c1, fun _ => ?_⟩
    rw [c2, d1.J.alive]
abbrev qx : ByteArray := ⟨#[120]⟩
abbrev qy : ByteArray := ⟨#[121]⟩
/-- The chapter's example. -/
theorem example_q {xs : List Nd} (h : Hu ⟨0, 0, [], false⟩ 0 xs) (hl : xs.length = 3) : ∃ x1 m1 x2 m2 x3 m3 x4 m4,
    beginM ⟨0, 0, false⟩ xs [] 1 [] = ⟨[], 0, ⟨1, 0, false⟩, x1, m1⟩ ∧ x1.length = 3 ∧
    writeM ⟨1, 0, false⟩ x1 m1 qx [] = ⟨[], 0, ⟨1, 1, false⟩, x2, m2⟩ ∧ x2.length = 3 ∧
    writeM ⟨1, 1, false⟩ x2 m2 qy [1, 1] = ⟨[], 12, ⟨0, 0, true⟩, x3, m3⟩ ∧ x3.length = 3 ∧
    beginM ⟨0, 0, false⟩ x3 m3 2 [] = ⟨[⟨1, qx⟩, ⟨2, qy⟩], 0, ⟨2, 2, false⟩, x4, m4⟩ := by
  obtain ⟨x1, m1, a1, a2, a3⟩ := begin_ok h (FD.nil _) (by simpa using FD.nil xs.length) (ep := 1) (by decide) (by decide) (by decide) [] (by omega) (by omega)
  rw [hl] at a3
  obtain ⟨x2, m2, b1, b2, b3⟩ := write_ok a2 (FD.nil _) (ep := 1) rfl rfl (by decide) (s := qx) (by decide) (by decide) m1 (by omega) (by omega)
  rw [a3] at b3
  have hf : FD [1, 1] 2 x2.length := fun i hi => by
    rw [b3] at hi
    have : i = 0 ∨ i = 1 ∨ i = 2 := by omega
    rcases this with rfl | rfl | rfl <;> rfl
  have b2' : Hu ⟨1, 1, [⟨1, qx⟩], false⟩ 0 x2 := b2
  have b22 : Hu ⟨1, 1, [⟨1, qx⟩], false⟩ 2 x2 := fun i x hx => ⟨(b2' i x hx).1, fun _ => (b2' i x hx).2 (Nat.zero_le _)⟩
  have hpa : pureJ ⟨1, 1, [⟨1, qx⟩], false⟩ ⟨kW, 1, [⟨2, qy⟩]⟩ = (0, ⟨1, 1, [⟨1, qx⟩, ⟨2, qy⟩], false⟩) := pure_add (J := ⟨1, 1, [⟨1, qx⟩], false⟩) (s := qy) rfl rfl
  have hq := read_add (ep := 1) (n := 2) (s := qy) (by decide) (by decide) (by decide)
  obtain ⟨m3, c1⟩ := all_few b22 hf hq (by rw [hpa]) ⟨1, 1, false⟩ m2 (by omega) (by omega)
  have c2 := hu_next b22 hf hq
  rw [hpa] at c2
  have c3 : ∀ (i : Nat) y, (ndsM [1, 1] (addS 1 2 qy) x2 x2.length)[i]? = some y → i < 2 → y.J = ⟨1, 1, [⟨1, qx⟩], false⟩ := fun i y hy hi2 => by
    have hi := (List.getElem?_eq_some_iff.1 hy).1
    rw [ndsM_len] at hi
    rw [nds_at hi] at hy
    obtain ⟨x, hx, rfl⟩ := Option.map_eq_some_iff.1 hy
    have e : fateM [1, 1] i = 1 := by rw [hf i hi, if_pos hi2]
    rw [e]
    have : ndM 1 (addS 1 2 qy) x = x := by simp [ndM]
    rw [this]
    exact (b2' i x hx).2 (Nat.zero_le _)
  have c4 := ndsM_len [1, 1] (addS 1 2 qy) x2 x2.length
  rw [b3] at c4
  have hw : writeM ⟨1, 1, false⟩ x2 m2 qy [1, 1] = ⟨[], 12, ⟨0, 0, true⟩, ndsM [1, 1] (addS 1 2 qy) x2 x2.length, m3⟩ := by
    unfold writeM
    rw [if_neg (by simp), if_neg (by decide), if_neg (by decide)]
    have : (1 : Int) + 1 = 2 := rfl
    simp only [this, c1]
    rw [if_neg (by decide)]
  rw [b3] at hw c1 c2 c3
  generalize ndsM [1, 1] (addS 1 2 qy) x2 3 = x3 at hw c2 c3 c4
  obtain ⟨n0, n1, n2, rfl⟩ : ∃ n0 n1 n2, x3 = [n0, n1, n2] := by
    match x3, c4 with
    | [n0, n1, n2], _ => exact ⟨n0, n1, n2, rfl⟩
  have j0 := c3 0 n0 rfl (by decide)
  have j1 := c3 1 n1 rfl (by decide)
  have j2 := (c2 2 n2 rfl).2 (Nat.le_refl _)
  have hL : bestL ([n0, n1, n2].map fun x => (x.J.e, x.J.xs)) = [⟨1, qx⟩, ⟨2, qy⟩] := by
    simp only [List.map_cons, List.map_nil, j0, j1, j2]; rfl
  obtain ⟨x4, m4, d1, d2, d3⟩ := begin_all (ep := 2) (xs := [n0, n1, n2]) (fun x hx => by
    obtain ⟨i, hi⟩ := List.mem_iff_getElem?.1 hx
    refine ⟨(c2 i x hi).1, ?_⟩
    simp only [List.mem_cons, List.not_mem_nil, or_false] at hx
    rcases hx with rfl | rfl | rfl
    · rw [j0]; decide
    · rw [j1]; decide
    · rw [j2]; decide) (by decide) (by decide) m3 (Nat.le_add_left 1 2) hL (by decide)
  exact ⟨x1, m1, x2, m2, _, m3, x4, m4, a1, a3, b1, b3, hw, rfl, d1⟩
end Go.Proofs.YtfolmcpfdcgliaaGreat.B

set_option linter.unusedVariables false
set_option linter.unusedSimpArgs false
set_option maxRecDepth 8000
/-! The chapter's example. -/
namespace Go.Proofs.YtfolmcpfdcgliaaGreat.B
open Go Go.Proofs
theorem new0_hu {xs : List Nd} (h : New0 xs) : Hu J00 0 xs := fun i x hx => by
  obtain ⟨h1, h2⟩ := h x (List.mem_of_getElem? hx)
  have hD := new_ok 2000000 (by decide)
  have e : Disk.new 2000000 = jD 2000000 J00 := new_jD (by decide)
  rw [e] at hD
  refine ⟨⟨by rw [h1]; exact well0, by rw [h2, h1], ⟨by rw [h1]; exact well0.ok, by rw [h2]; exact hD⟩⟩, fun _ => h1⟩
theorem Hu.oks {J : Jn} {d : Nat} {xs : List Nd} (h : Hu J d xs) : ∀ x ∈ xs, NdOk x := fun x hx => (h.mem x hx).ok
theorem begin_ok2 {w : Wr} {xs : List Nd} (hok : ∀ x ∈ xs, NdOk x) {m : List Msg} (hm : m.length ≤ 50) (ep : Int) (fs : List Int) : (∀ x ∈ (beginM w xs m ep fs).xs, NdOk x) ∧ (beginM w xs m ep fs).xs.length = xs.length ∧ (beginM w xs m ep fs).xs.map (·.b) = xs.map (·.b) ∧ (beginM w xs m ep fs).m.length ≤ 50 ∧ (beginM w xs m ep fs).xs.map (·.d) = xs.map (·.d) := by
  unfold beginM
  split
  · exact ⟨hok, rfl, rfl, hm, rfl⟩
  · split
    · exact ⟨hok, rfl, rfl, hm, rfl⟩
    · obtain ⟨f1, f2, f3, f4, _, _, f7⟩ := all_facts (w := w) hok hm (promS ep) fs
      simp only
      split
      · exact ⟨f1, f2, f3, f4, f7.symm⟩
      · unfold begin2
        obtain ⟨g1, g2, g3, g4, _, _, g7⟩ := all_facts (w := (allM w xs m (promS ep) fs).w) f1 f4 (accS ep (bestL (allM w xs m (promS ep) fs).logs)) (fs.drop (min fs.length (allM w xs m (promS ep) fs).xs.length))
        simp only
        split
        · exact ⟨g1, g2.trans f2, g3.trans f3, g4, (f7.trans g7).symm⟩
        · exact ⟨g1, g2.trans f2, g3.trans f3, g4, (f7.trans g7).symm⟩
theorem write_ok2 {w : Wr} {xs : List Nd} (hok : ∀ x ∈ xs, NdOk x) {m : List Msg} (hm : m.length ≤ 50) (s : ByteArray) (fs : List Int) : (∀ x ∈ (writeM w xs m s fs).xs, NdOk x) ∧ (writeM w xs m s fs).xs.length = xs.length ∧ (writeM w xs m s fs).xs.map (·.b) = xs.map (·.b) ∧ (writeM w xs m s fs).m.length ≤ 50 ∧ (writeM w xs m s fs).xs.map (·.d) = xs.map (·.d) := by
  unfold writeM
  split
  · exact ⟨hok, rfl, rfl, hm, rfl⟩
  · split
    · exact ⟨hok, rfl, rfl, hm, rfl⟩
    · split
      · exact ⟨hok, rfl, rfl, hm, rfl⟩
      · obtain ⟨f1, f2, f3, f4, _, _, f7⟩ := all_facts (w := w) hok hm (addS w.e (w.n + 1) s) fs
        exact ⟨f1, f2, f3, f4, f7.symm⟩
attribute [local irreducible] WL CS QS WQ WH WS Fn Op1 row Sat
attribute [local irreducible] slc jA diskA mailA nodesA nodesX rjA refA rnodesA rnodesX rmailA
/-- Nodes that are begun, one writer of them; a call's contract, told of a state. -/
abbrev jsA (Aj : Option Addr) (cj bm : Nat) (xs : List Nd) (m : List Msg) (F : List SL) : List SL := slc bpE 46 Aj cj (xs.map (·.b)) :: nodesA xs :: mailA bm m :: F
theorem q_Begin2 {bq : Nat} {Aj : Option Addr} {cj bm n : Nat} {w : Wr} {xs : List Nd} {m : List Msg} {ep : Int} {fs : List Int} {o : Out1} (h : beginM w xs m ep fs = o) (hl : xs.length = n) (hok : ∀ x ∈ xs, NdOk x) (hn : n ≤ 5) (hm : m.length ≤ 50) (hep : I64 ep) {A : Option Addr} {k c : Nat} (hk : k = fs.length) (hkc : k ≤ c) (hkb : k ≤ 9223372036854775807) (hI : ∀ x ∈ fs, I64 x) (W0 : World) (F : List SL) (hR : Rd W0 F intE A fs) :
    Fn Tryz.prog 12 [.pointer (some ⟨bq, 0, none⟩), .int .i64 ep, .slice A k c] W0 (row bq 92 (wrC Aj n cj bm w) :: jsA Aj cj bm xs m F)
      (Ret fun v G' => ∃ Al cl, v = .tuple #[.slice Al o.l.length cl, .int .i64 o.err] ∧ G' = slc entE 49 Al cl o.l :: row bq 92 (wrC Aj n cj bm o.w) :: jsA Aj cj bm o.xs o.m F) := by
  subst h; subst hl
  have h1 := (begin_ok2 (w := w) hok hm ep fs).2.2.1
  have := q_Begin bq Aj cj bm w xs hok hn m hm ep hep A k c fs hk hkc hkb hI W0 F hR
  simp only [jsA]
  rw [h1]
  exact this
theorem q_Write2 {bq : Nat} {Aj : Option Addr} {cj bm n : Nat} {w : Wr} {xs : List Nd} {m : List Msg} {s : ByteArray} {fs : List Int} {o : Out1} (h : writeM w xs m s fs = o) (hl : xs.length = n) (hok : ∀ x ∈ xs, NdOk x) (hn : n ≤ 5) (hm : m.length ≤ 50) (hw0 : 0 ≤ w.n ∧ w.n ≤ 9223372036854775807) (hwe : I64 w.e) (hs : s.size ≤ 9223372036854775807) {A : Option Addr} {k c : Nat} (hk : k = fs.length) (hI : ∀ x ∈ fs, I64 x) (W0 : World) (F : List SL) (hR : Rd W0 F intE A fs) :
    Fn Tryz.prog 13 [.pointer (some ⟨bq, 0, none⟩), .string s, .slice A k c] W0 (row bq 92 (wrC Aj n cj bm w) :: jsA Aj cj bm xs m F)
      (Ret fun v G' => v = .int .i64 o.err ∧ G' = row bq 92 (wrC Aj n cj bm o.w) :: jsA Aj cj bm o.xs o.m F) := by
  subst h; subst hl
  have h1 := (write_ok2 (w := w) hok hm s fs).2.2.1
  have := q_Write bq Aj cj bm w hw0 hwe xs hok hn m hm s hs A k c fs hk hI W0 F hR
  simp only [jsA]
  rw [h1]
  exact this
set_option maxHeartbeats 8000000 in
theorem law_examples (W0 : World) (F : List SL) : Fn Tryz.prog 8 [] W0 F (Ret fun v G' => v = .bool true ∧ G' = F) := by
  refine Fn.enter Tryz.func8 rfl Tryz.ntmps8 rfl ?_
  repeat' (first|refine bk ?_|refine bkc ?_|refine bks ?_|refine bkd ?_|refine bkq (fun q => ?_)|(refine bk2 ?_ ?_<;>(first|exact bkn|(refine bkk ?_;intro h))))
  refine WL.call c10 rfl rfl rfl rfl (law_begun 3 (by decide) W0 _) ?_
  rintro _ _ ⟨br, bm, bs, bn, ⟨xs, ys, Ad, cd, Aj, cj, Ax, cx, Ay, cy⟩, hN, hl, hly, rfl, rfl⟩
  simp only at hN hl hly ⊢
  refine WL.turn (G' := row br 35 (rlC Ad Aj 3 cd cj bm) :: jsA Aj cj bm xs [] F) (fun w hs => by rw [← hl]; exact hs.ord 10 [0, 2, 3, 4] rfl) ?_
  refine WL.fact (p := 3 ≤ cj) (fun w hs => by have := slc_cap (i := 1) rfl w hs; rw [List.length_map] at this; omega) (fun hcj => ?_)
  obtain ⟨x1, m1, x2, m2, x3, m3, x4, m4, p1, l1, p2, l2, p3, l3, p4⟩ := example_q (new0_hu hN) hl
  have k0 := (new0_hu hN).oks
  have k1 := begin_ok2 (w := ⟨0, 0, false⟩) k0 (m := []) (by decide) 1 []
  rw [p1] at k1
  have k2 := write_ok2 (w := ⟨1, 0, false⟩) k1.1 k1.2.2.2.1 qx []
  rw [p2] at k2
  have k3 := write_ok2 (w := ⟨1, 1, false⟩) k2.1 k2.2.2.2.1 qy [1, 1]
  rw [p3] at k3
  repeat' (first|refine bk ?_|refine bkc ?_|refine bks ?_|refine bkq (fun q => ?_)|(refine bk2 ?_ ?_<;>(first|exact bkn|(refine bkk ?_;intro h))))
  refine CS.drawT 8 mixed (by kernel_rfl) rfl ?_
  repeat' (first|refine bk ?_|refine bkc ?_|refine bks ?_|refine bkd ?_|refine bkh ?_|refine bkq (fun q => ?_)|((first|refine bk2 ?_ ?_|refine bk2h ?_ ?_)<;>(first|exact bkn|(refine bkk ?_;intro h))))
  refine WL.call c11 rfl rfl rfl rfl (q_New Aj 3 cj bm (by decide) hcj W0 _) ?_
  rintro _ _ ⟨bq, rfl, rfl⟩
  repeat' (first|refine bk ?_|refine bkc ?_|refine bks ?_|refine bkq (fun q => ?_)|(refine bk2 ?_ ?_<;>(first|exact bkn|(refine bkk ?_;intro h))))
  refine CS.drawT 8 mixed (by kernel_rfl) rfl ?_
  repeat' (first|refine bk ?_|refine bkc ?_|refine bks ?_|refine bkd ?_|refine bkh ?_|refine bkq (fun q => ?_)|((first|refine bk2 ?_ ?_|refine bk2h ?_ ?_)<;>(first|exact bkn|(refine bkk ?_;intro h))))
  refine WL.call c11 rfl rfl rfl rfl (q_New Aj 3 cj bm (by decide) hcj W0 _) ?_
  rintro _ _ ⟨bp, rfl, rfl⟩
  repeat' (first|refine bk ?_|refine bkc ?_|refine bks ?_|refine bkd ?_|refine bkq (fun q => ?_)|(refine bk2 ?_ ?_<;>(first|exact bkn|(refine bkk ?_;intro h))))
  refine WL.call c12 rfl rfl rfl rfl ((q_Begin2 (bq := bq) (Aj := Aj) (cj := cj) (bm := bm) (n := 3) p1 hl k0 (by decide) (by decide) (by unfold I64; decide) (A := none) (k := 0) (c := 0) rfl (by decide) (by decide) (fun x hx => by cases hx) W0 (row bp 92 (wrC Aj 3 cj bm ⟨0, 0, false⟩) :: F) Rd.nil).pre (fun w hs => hs.ord 6 [1, 3, 4, 5, 0] rfl)) ?_
  rintro _ _ ⟨Al, cl, rfl, rfl⟩
  repeat' (first|refine bk ?_|refine bkc ?_|refine bks ?_|refine bkd ?_|refine bkq (fun q => ?_)|(refine bk2 ?_ ?_<;>(first|exact bkn|(refine bkk ?_;intro h))))
  refine WL.call c13 rfl rfl rfl rfl ((q_Write2 (bq := bq) (Aj := Aj) (cj := cj) (bm := bm) (n := 3) p2 l1 k1.1 (by decide) k1.2.2.2.1 (by decide) (by unfold I64; decide) (by decide) (A := none) (k := 0) (c := 0) rfl (fun x hx => by cases hx) W0 (row bp 92 (wrC Aj 3 cj bm ⟨0, 0, false⟩) :: F) Rd.nil).pre (fun w hs => hs.drop)) ?_
  rintro _ _ ⟨rfl, rfl⟩
  repeat' (first|refine bk ?_|refine bkc ?_|refine bks ?_|refine bkd ?_|refine bkq (fun q => ?_)|(refine bk2 ?_ ?_<;>(first|exact bkn|(refine bkk ?_;intro h))))
  refine WL.buildSlice TT rfl rfl rfl rfl rfl rfl rfl rfl (fun q2 => ?_)
  refine WL.call c13 rfl rfl rfl rfl ((q_Write2 (bq := bq) (Aj := Aj) (cj := cj) (bm := bm) (n := 3) p3 l2 k2.1 (by decide) k2.2.2.2.1 (by decide) (by unfold I64; decide) (by decide) (A := some ⟨q2, 0, none⟩) (k := 2) (c := 2) rfl (fun x hx => by simp only [List.mem_cons, List.not_mem_nil, or_false] at hx; unfold I64; omega) W0 (row q2 3 [.int .i64 1, .int .i64 1] :: row bp 92 (wrC Aj 3 cj bm ⟨0, 0, false⟩) :: F) (Rd.row (i := 0) rfl rfl)).pre (fun w hs => hs.ord 6 [1, 2, 3, 4, 0, 5] rfl)) ?_
  rintro _ _ ⟨rfl, rfl⟩
  repeat' (first|refine bk ?_|refine bkc ?_|refine bks ?_|refine bkd ?_|refine bkq (fun q => ?_)|(refine bk2 ?_ ?_<;>(first|exact bkn|(refine bkk ?_;intro h))))
  refine WL.call c12 rfl rfl rfl rfl ((q_Begin2 (bq := bp) (Aj := Aj) (cj := cj) (bm := bm) (n := 3) p4 l3 k3.1 (by decide) k3.2.2.2.1 (by unfold I64; decide) (A := none) (k := 0) (c := 0) rfl (by decide) (by decide) (fun x hx => by cases hx) W0 (row bq 92 (wrC Aj 3 cj bm ⟨0, 0, true⟩) :: F) Rd.nil).pre (fun w hs => hs.ord 6 [5, 1, 2, 3, 0] rfl)) ?_
  rintro _ _ ⟨Al2, cl2, rfl, rfl⟩
  repeat' (first|refine bk ?_|refine bkc ?_|refine bks ?_|refine bkd ?_|refine bkq (fun q => ?_)|(refine bk2 ?_ ?_<;>(first|exact bkn|(refine bkk ?_;intro h))))
  refine WL.idx TT (E := entE) (xs := [⟨1, qx⟩, ⟨2, qy⟩]) (Rd.slc (i := 0) rfl) rfl rfl rfl (by decide) (x := ⟨2, qy⟩) rfl rfl rfl rfl rfl (fun b3 o3 hA3 => ?_)
  repeat' (first|refine bk ?_|refine bkc ?_|refine bks ?_|refine bkd ?_|refine bkq (fun q => ?_)|(refine bk2 ?_ ?_<;>(first|exact bkn|(refine bkk ?_;intro h))))
  refine WL.s (op1_atF TT 1 hA3 rfl rfl rfl rfl rfl) rfl ?_
  repeat' (first|refine bk ?_|refine bkc ?_|refine bks ?_|refine bkd ?_|refine bkq (fun q => ?_)|(refine bk2 ?_ ?_<;>(first|exact bkn|(refine bkk ?_;intro h))))
  refine WL.call c15 rfl rfl rfl rfl ((q_Epoch bq Aj 3 cj bm ⟨0, 0, true⟩ W0 _).pre (fun w hs => hs.ord 6 [5, 0, 1, 2, 3, 4] rfl)) ?_
  rintro _ _ ⟨rfl, rfl⟩
  repeat' (first|refine bk ?_|refine bkc ?_|refine bks ?_|refine bkd ?_|refine bkq (fun q => ?_)|(refine bk2 ?_ ?_<;>(first|exact bkn|(refine bkk ?_;intro h))))
  refine WL.call c14 rfl rfl rfl rfl ((q_Many bp Aj 3 cj bm ⟨2, 2, false⟩ W0 _).pre (fun w hs => hs.ord 6 [2, 0, 1, 3, 4, 5] rfl)) ?_
  rintro _ _ ⟨rfl, rfl⟩
  repeat' (first|refine bk ?_|refine bkc ?_|refine bks ?_|refine bkd ?_|refine bkq (fun q => ?_)|(refine bk2 ?_ ?_<;>(first|exact bkn|(refine bkk ?_;intro h))))
  exact QS.turn (G' := F) (fun w hs => hs.ord 6 [] rfl) (QS.retV Tryz.results8 rfl ⟨rfl, rfl⟩)
end Go.Proofs.YtfolmcpfdcgliaaGreat.B

set_option linter.unusedVariables false
set_option linter.unusedSimpArgs false
set_option maxRecDepth 8000
/-! QuorumCopies: the walk. -/
namespace Go.Proofs.YtfolmcpfdcgliaaGreat.B
open Go Go.Proofs
theorem He.oks {ep : Int} {xs : List Nd} (h : He ep xs) : ∀ x ∈ xs, NdOk x := fun x hx => (h x hx).1.ok
attribute [local irreducible] WL CS QS WQ WH WS Fn Op1 row Sat
attribute [local irreducible] slc jA diskA mailA nodesA nodesX rjA refA rnodesA rnodesX rmailA
theorem q_Log {ys : List Nd} {i : Nat} {x : Nd} (hx : ys[i]? = some x) (hxo : NdOk x) (ha : x.J.dead = false) (W0 : World) (F : List SL) :
    Fn Tryz.prog 16 [.pointer (some ⟨x.b, 0, none⟩)] W0 (nodesA ys :: F) (Ret fun v G' => ∃ A c, v = logV x.J.e A x.J.xs.length c ∧ G' = slc entE 49 A c x.J.xs :: nodesA ys :: F) := by
  have h := j_Log x.b x.d x.J (by have := hxo.J.len; omega) W0 (diskA x.d x.D :: nodesX ys i :: F)
  rw [if_neg (by rw [ha]; decide), if_neg (by rw [ha]; decide)] at h
  refine Fn.post (h.pre (nodes_open hx)) (Ret.post fun v G' ⟨A, c, h1, h2⟩ => ⟨slc entE 49 A c x.J.xs :: nodesA ys :: F, fun w hw => ?_, A, c, h1, rfl⟩)
  rw [h2] at hw
  have h3 := nodes_shut hx w (hw.ord 4 [1, 2, 3, 0] rfl)
  rw [set_self hx] at h3
  exact h3.front (i := 1) rfl
end Go.Proofs.YtfolmcpfdcgliaaGreat.B

set_option linter.unusedVariables false
set_option linter.unusedSimpArgs false
set_option maxRecDepth 8000
/-! A copy of entries. -/
namespace Go.Proofs.YtfolmcpfdcgliaaGreat.B
open Go Go.Proofs
attribute [local irreducible] WL CS QS WQ WH WS Fn Op1 row Sat
attribute [local irreducible] slc
set_option maxHeartbeats 1000000 in
theorem ent_Clone2 (A : Option Addr) (k c : Nat) (xs : List Ent) (hk : k = xs.length) (hkb : k ≤ 5864062014805) (W0 : World) (G : List SL) (hR : Rd W0 G entE A xs) :
    Fn Tryz.prog 35 [.slice A k c] W0 G
      (Ret fun v G' => ∃ A' c', v = .slice A' k c' ∧ G' = slc entE 49 A' c' xs :: G) := by
  refine Fn.fact (p := A = none → xs = []) (fun w hs hA => ?_) (fun hnil => ?_)
  · rcases hR w hs with h | ⟨b, o, h, _⟩
    · exact List.eq_nil_of_length_eq_zero (by
        have := congrArg List.length h
        rw [flat_len] at this
        have e2 : entE.sz = 2 := rfl
        rw [e2] at this
        simp only [List.length_nil] at this; omega)
    · rw [hA] at h; cases h
  refine Fn.enter Tryz.func35 rfl Tryz.ntmps35 rfl ?_
  repeat' (first|refine bk ?_|refine bkc ?_|refine bks ?_|refine bkd ?_|refine bkq (fun q => ?_)|(refine bk2 ?_ ?_<;>(first|exact bkn|(refine bkk ?_;intro h))))
  refine WL.s (op1_eqNil TT rfl rfl rfl) rfl ?_
  cases A with
  | none =>
    have hx := hnil rfl
    subst hx
    simp only [Option.isNone_none]
    repeat' (first|refine bk ?_|refine bkc ?_|refine bks ?_|refine bkd ?_|refine bkq (fun q => ?_)|(refine bk2 ?_ ?_<;>(first|exact bkn|(refine bkk ?_;intro h))))
    exact QS.turn (fun w hs => hs.slcNil entE 49) (QS.retV Tryz.results35 rfl ⟨none, 0, by rw [hk]; rfl, rfl⟩)
  | some a =>
    simp only [Option.isNone_some]
    repeat' (first|refine bk ?_|refine bkc ?_|refine bks ?_|refine bkd ?_|refine bkq (fun q => ?_)|(refine bk2 ?_ ?_<;>(first|exact bkn|(refine bkk ?_;intro h))))
    refine WL.buildSlice TT rfl rfl rfl rfl rfl rfl rfl rfl (fun qs => ?_)
    refine WL.turn (fun w hs => row_slc entE (b := qs) (t := 49) hs) ?_
    repeat' (first|refine bk ?_|refine bkc ?_|refine bks ?_|refine bkd ?_|refine bkq (fun q => ?_)|(refine bk2 ?_ ?_<;>(first|exact bkn|(refine bkk ?_;intro h))))
    refine WL.append TT (E := entE) (xs := ([] : List Ent)) (ys := xs) 0 rfl rfl rfl hk rfl hR.cons rfl rfl rfl rfl rfl (by decide) (by simp only [List.length_nil]; omega) (fun _ _ => rfl) rfl (fun A' c2 => ?_)
    rw [List.nil_append]
    repeat' (first|refine bk ?_|refine bkc ?_|refine bks ?_|refine bkd ?_|refine bkq (fun q => ?_)|(refine bk2 ?_ ?_<;>(first|exact bkn|(refine bkk ?_;intro h))))
    exact QS.retV Tryz.results35 rfl ⟨A', c2, by rw [hk]; rfl, rfl⟩

end Go.Proofs.YtfolmcpfdcgliaaGreat.B
