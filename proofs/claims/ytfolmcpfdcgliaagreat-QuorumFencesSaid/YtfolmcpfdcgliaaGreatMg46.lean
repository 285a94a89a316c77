import Derived.Test.YtfolmcpfdcgliaaGreatMg45
import Derived.Test.YtfolmcpfdcgliaaGreatMg40
import Derived.Test.YtfolmcpfdcgliaaGreatMg28
import Derived.Test.YtfolmcpfdcgliaaGreatMg41
import Derived.Test.YtfolmcpfdcgliaaGreatMg32
import Derived.Test.YtfolmcpfdcgliaaGreatMg38
import Derived.Test.YtfolmcpfdcgliaaGreatMg37
set_option linter.unusedVariables false
set_option linter.unusedSimpArgs false
set_option maxRecDepth 8000
/-! The document's own node handles a request. -/
namespace Go.Proofs.YtfolmcpfdcgliaaGreat.B
open Go Go.Proofs
attribute [local irreducible] WL CS QS WQ WH WS Fn Op1 row Sat
attribute [local irreducible] slc rjA refA
set_option maxHeartbeats 4000000 in
theorem r_Handle (b bx : Nat) (J : Jn) (hJ : JnOk J) (D : Disk) (hD : DiskOk D) (s : ByteArray) (hs : s.size ≤ 9223372036854775807) (W0 : World) (F : List SL) :
    Fn Tryz.prog 46 [.pointer (some ⟨b, 0, none⟩), .string s] W0 (rjA b bx J :: refA bx (toR D) :: F)
      (Ret fun v G' => v = .string (mk (handJ J D (bs s)).1) ∧ G' = rjA b bx (handJ J D (bs s)).2.1 :: refA bx (toR (handJ J D (bs s)).2.2) :: F) := by
  have i12 : I64 12 := by unfold I64; decide
  refine Fn.ex (fun w hs => rjA_open w hs) ?_
  rintro ⟨A1, c1⟩
  refine Fn.enter Tryz.func46 rfl Tryz.ntmps46 rfl ?_
  simp only [rjC]
  cases hd : J.dead with
  | true =>
    have hh : handJ J D (bs s) = (saidB 12, J, D) := by rw [handJ, if_pos hd]
    repeat' (first|refine bk ?_|refine bkc ?_|refine bks ?_|refine bkd ?_|refine bkq (fun q => ?_)|(refine bk2 ?_ ?_<;>(first|exact bkn|(refine bkk ?_;intro h))))
    refine WL.call c89 rfl rfl rfl rfl (r_answer 12 i12 W0 _) ?_
    rintro _ G2 ⟨rfl, hG2⟩
    rw [hG2]; clear hG2 G2
    repeat' (first|refine bk ?_|refine bkc ?_|refine bks ?_|refine bkd ?_|refine bkq (fun q => ?_)|(refine bk2 ?_ ?_<;>(first|exact bkn|(refine bkk ?_;intro h))))
    refine QS.turn (G' := rjA b bx J :: refA bx (toR D) :: F) (fun w hs => rjA_shut (A := A1) (c := c1) w (by rw [rjC, hd]; exact hs)) (QS.retV Tryz.results46 rfl ⟨?_, ?_⟩) <;> rw [hh] <;> rfl
  | false =>
    repeat' (first|refine bk ?_|refine bkc ?_|refine bks ?_|refine bkd ?_|refine bkq (fun q => ?_)|(refine bk2 ?_ ?_<;>(first|exact bkn|(refine bkk ?_;intro h))))
    refine WL.turn (G' := rjA b bx J :: refA bx (toR D) :: F) (fun w hs => (rjA_shut (A := A1) (c := c1) w (by rw [rjC, hd]; exact hs))) ?_
    refine WL.call c90 rfl rfl rfl rfl (r_read s hs W0 _) ?_
    intro v G2 hv
    unfold readR at hv
    cases hq : readQ (bs s) with
    | none =>
      rw [hq] at hv
      obtain ⟨k, e, t, A, n, c, rfl, hG2⟩ := hv
      rw [hG2]; clear hG2 G2
      have hh : handJ J D (bs s) = (saidB 2, J, D) := by rw [handJ, if_neg (by rw [hd]; decide), hq]
      repeat' (first|refine bk ?_|refine bkc ?_|refine bks ?_|refine bkd ?_|refine bkq (fun q => ?_)|(refine bk2 ?_ ?_<;>(first|exact bkn|(refine bkk ?_;intro h))))
      refine WL.call c89 rfl rfl rfl rfl (r_answer 2 (by unfold I64; decide) W0 _) ?_
      rintro _ G2 ⟨rfl, hG2⟩
      rw [hG2]; clear hG2 G2
      repeat' (first|refine bk ?_|refine bkc ?_|refine bks ?_|refine bkd ?_|refine bkq (fun q => ?_)|(refine bk2 ?_ ?_<;>(first|exact bkn|(refine bkk ?_;intro h))))
      refine QS.turn (G' := rjA b bx J :: refA bx (toR D) :: F) (fun w hs => hs.drop) (QS.retV Tryz.results46 rfl ⟨?_, ?_⟩) <;> rw [hh] <;> rfl
    | some r0 =>
      rw [hq] at hv
      obtain ⟨tx, A, c, rfl, htx, hG2⟩ := hv
      rw [hG2]; clear hG2 G2
      have hqo : RqOk r0 := by
        rw [readQ] at hq
        obtain ⟨l, _, h2⟩ := Option.bind_eq_some_iff.1 hq
        exact readL_ok h2
      have hh : handJ J D (bs s) = ansJ r0 (doJ J D r0) := by rw [handJ, if_neg (by rw [hd]; decide), hq]
      repeat' (first|refine bk ?_|refine bkc ?_|refine bks ?_|refine bkd ?_|refine bkq (fun q => ?_)|(refine bk2 ?_ ?_<;>(first|exact bkn|(refine bkk ?_;intro h))))
      refine WL.call c91 rfl rfl rfl rfl ((r_does b bx J hJ D hD r0 hqo tx htx A c W0 (row q 171 [.string r0.kind, .int .i64 r0.epoch, .int .i64 tx, .slice A r0.xs.length c] :: F)).pre (fun w hs => (((hs.front (i := 0) rfl).front (i := 3) rfl).front (i := 3) rfl).front (i := 3) rfl)) ?_
      rintro _ _ ⟨rfl, rfl⟩
      clear hq
      generalize doJ J D r0 = r at hh ⊢
      obtain ⟨er, J1, D1⟩ := r
      rw [ansJ] at hh
      simp only at hh ⊢
      by_cases h10 : er = 10 ∨ er = 11
      · rw [if_pos h10] at hh
        rcases h10 with rfl | rfl
        all_goals
          repeat' (first|refine bk ?_|refine bkc ?_|refine bks ?_|refine bkd ?_|refine bkq (fun q => ?_)|(refine bk2 ?_ ?_<;>(first|exact bkn|(refine bkk ?_;intro h))))
          refine WL.call c89 rfl rfl rfl rfl (r_answer _ (by unfold I64; decide) W0 _) ?_
          rintro _ G2 ⟨rfl, hG2⟩
          rw [hG2]; clear hG2 G2
          repeat' (first|refine bk ?_|refine bkc ?_|refine bks ?_|refine bkd ?_|refine bkq (fun q => ?_)|(refine bk2 ?_ ?_<;>(first|exact bkn|(refine bkk ?_;intro h))))
          refine QS.turn (G' := rjA b bx J1 :: refA bx (toR D1) :: F) (fun w hs => hs.kick (i := 2) rfl) (QS.retV Tryz.results46 rfl ⟨?_, ?_⟩) <;> rw [hh] <;> rfl
      rw [if_neg h10] at hh
      simp only [not_or] at h10
      obtain ⟨h10, h11⟩ := h10
      by_cases h0 : er = 0
      rotate_left 1
      · rw [if_pos h0] at hh
        refine WL.ex (fun w hs => rjA_open w hs) ?_
        rintro ⟨A2, c2⟩
        simp only [rjC]
        repeat' (first|refine bk ?_|refine bkc ?_|refine bks ?_|refine bkd ?_|refine bkq (fun q => ?_)|(refine bk2 ?_ ?_<;>(first|exact bkn|(refine bkk ?_;intro h))))
        refine WL.call c89 rfl rfl rfl rfl (r_answer 12 i12 W0 _) ?_
        rintro _ G2 ⟨rfl, hG2⟩
        rw [hG2]; clear hG2 G2
        repeat' (first|refine bk ?_|refine bkc ?_|refine bks ?_|refine bkd ?_|refine bkq (fun q => ?_)|(refine bk2 ?_ ?_<;>(first|exact bkn|(refine bkk ?_;intro h))))
        refine QS.turn (G' := rjA b bx { J1 with dead := true } :: refA bx (toR D1) :: F) (fun w hs => rjA_shut (A := A2) (c := c2) w (hs.kick (i := 3) rfl)) (QS.retV Tryz.results46 rfl ⟨?_, ?_⟩) <;> rw [hh] <;> rfl
      subst h0
      rw [if_neg (by decide)] at hh
      obtain ⟨kind, ep, xs⟩ := r0
      obtain ⟨_, _, hkind⟩ := hqo
      simp only at hkind hh ⊢
      rcases hkind with ⟨rfl, _⟩ | ⟨rfl, _⟩ | ⟨rfl, _⟩
      · rw [if_pos rfl] at hh
        refine WL.ex (fun w hs => rjA_open w hs) ?_
        rintro ⟨A2, c2⟩
        simp only [rjC]
        repeat' (first|refine bk ?_|refine bkc ?_|refine bks ?_|refine bkd ?_|refine bkq (fun q => ?_)|(refine bk2 ?_ ?_<;>(first|exact bkn|(refine bkk ?_;intro h))))
        refine WL.call c92 rfl rfl rfl rfl (r_told J1.e A2 _ c2 J1.xs rfl W0 _ (Rd.slc (i := 1) rfl)) ?_
        rintro _ G2 ⟨rfl, hG2⟩
        rw [hG2]; clear hG2 G2
        repeat' (first|refine bk ?_|refine bkc ?_|refine bks ?_|refine bkd ?_|refine bkq (fun q => ?_)|(refine bk2 ?_ ?_<;>(first|exact bkn|(refine bkk ?_;intro h))))
        refine QS.turn (G' := rjA b bx J1 :: refA bx (toR D1) :: F) (fun w hs => rjA_shut (A := A2) (c := c2) w (hs.kick (i := 3) rfl)) (QS.retV Tryz.results46 rfl ⟨?_, ?_⟩) <;> rw [hh] <;> rfl
      · rw [if_neg kAP] at hh
        repeat' (first|refine bk ?_|refine bkc ?_|refine bks ?_|refine bkd ?_|refine bkq (fun q => ?_)|(refine bk2 ?_ ?_<;>(first|exact bkn|(refine bkk ?_;intro h))))
        refine WL.call c89 rfl rfl rfl rfl (r_answer 0 (by unfold I64; decide) W0 _) ?_
        rintro _ G2 ⟨rfl, hG2⟩
        rw [hG2]; clear hG2 G2
        repeat' (first|refine bk ?_|refine bkc ?_|refine bks ?_|refine bkd ?_|refine bkq (fun q => ?_)|(refine bk2 ?_ ?_<;>(first|exact bkn|(refine bkk ?_;intro h))))
        refine QS.turn (G' := rjA b bx J1 :: refA bx (toR D1) :: F) (fun w hs => hs.kick (i := 2) rfl) (QS.retV Tryz.results46 rfl ⟨?_, ?_⟩) <;> rw [hh] <;> rfl
      · rw [if_neg kWP] at hh
        repeat' (first|refine bk ?_|refine bkc ?_|refine bks ?_|refine bkd ?_|refine bkq (fun q => ?_)|(refine bk2 ?_ ?_<;>(first|exact bkn|(refine bkk ?_;intro h))))
        refine WL.call c89 rfl rfl rfl rfl (r_answer 0 (by unfold I64; decide) W0 _) ?_
        rintro _ G2 ⟨rfl, hG2⟩
        rw [hG2]; clear hG2 G2
        repeat' (first|refine bk ?_|refine bkc ?_|refine bks ?_|refine bkd ?_|refine bkq (fun q => ?_)|(refine bk2 ?_ ?_<;>(first|exact bkn|(refine bkk ?_;intro h))))
        refine QS.turn (G' := rjA b bx J1 :: refA bx (toR D1) :: F) (fun w hs => hs.kick (i := 2) rfl) (QS.retV Tryz.results46 rfl ⟨?_, ?_⟩) <;> rw [hh] <;> rfl
end Go.Proofs.YtfolmcpfdcgliaaGreat.B

set_option linter.unusedVariables false
set_option linter.unusedSimpArgs false
set_option maxRecDepth 8000
/-! The document's own node is opened. -/
namespace Go.Proofs.YtfolmcpfdcgliaaGreat.B
open Go Go.Proofs
attribute [local irreducible] WL CS QS WQ WH WS Fn Op1 row Sat
attribute [local irreducible] slc rjA refA
def openS (bx : Nat) (r : Int × Jn × Disk) (F : List SL) (v : Value) (G' : List SL) : Prop :=
  if r.1 = 0 then ∃ b, v = .tuple #[.pointer (some ⟨b, 0, none⟩), .int .i64 0] ∧ G' = rjA b bx r.2.1 :: refA bx (toR r.2.2) :: F
  else v = .tuple #[.pointer none, .int .i64 r.1] ∧ G' = refA bx (toR r.2.2) :: F
theorem openS_ok {bx b : Nat} {J : Jn} {D : Disk} {F : List SL} : openS bx (0, J, D) F (.tuple #[.pointer (some ⟨b, 0, none⟩), .int .i64 0]) (rjA b bx J :: refA bx (toR D) :: F) := by
  unfold openS; rw [if_pos rfl]; exact ⟨b, rfl, rfl⟩
theorem openS_bad {bx : Nat} {er : Int} {J : Jn} {D : Disk} {F : List SL} (h : er ≠ 0) : openS bx (er, J, D) F (.tuple #[.pointer none, .int .i64 er]) (refA bx (toR D) :: F) := by
  unfold openS; rw [if_neg h]; exact ⟨rfl, rfl⟩
theorem load_five (t : List UInt8) (er : Int) : (loadM t er).2.2.2 = 5 → (loadM t er).1 = 0 ∧ (loadM t er).2.1 = [] := by
  by_cases h : er = 0
  · rw [load_parse h]
    split
    · intro h2; simp at h2
    · intro _; exact ⟨rfl, rfl⟩
  · rw [loadM, if_neg h]; intro _; exact ⟨rfl, rfl⟩
set_option maxHeartbeats 16000000 in
theorem r_Open (bx : Nat) (D : Disk) (hD : DiskOk D) (W0 : World) (F : List SL) :
    Fn Tryz.prog 30 [.pointer (some ⟨bx, 0, none⟩)] W0 (refA bx (toR D) :: F)
      (Ret (openS bx (openJ D) F)) := by
  refine Fn.enter Tryz.func30 rfl Tryz.ntmps30 rfl ?_
  refine CS.seq ?_
  repeat' (first|refine bk ?_|refine bkc ?_|refine bkd ?_|refine bkq (fun q => ?_)|(refine bk2 ?_ ?_<;>(first|exact bkn|(refine bkk ?_;intro h))))
  refine CS.seq ?_
  repeat' (first|refine bk ?_|refine bkc ?_|refine bkd ?_|refine bkq (fun q => ?_)|(refine bk2 ?_ ?_<;>(first|exact bkn|(refine bkk ?_;intro h))))
  revert q; intro b
  repeat' (first|refine bk ?_|refine bkc ?_|refine bks ?_|refine bkd ?_|refine bkq (fun q => ?_)|(refine bk2 ?_ ?_<;>(first|exact bkn|(refine bkk ?_;intro h))))
  refine WL.turn (fun w hs => hs.front (i := 1) rfl) ?_
  refine WL.call c67 rfl rfl rfl rfl (rdisk_Read bx (toR D) (toR_len hD) jProm W0 _) ?_
  rw [toR_read hD]
  rintro _ G2 ⟨rfl, hG2⟩
  rw [hG2]; clear hG2 G2
  refine WL.turn (fun w hs => hs.front (i := 1) rfl) ?_
  have hts := read_small hD jProm
  have hJ0 : openJ D = if (D.read jProm).2 = 5 then open2 0 D
      else if (D.read jProm).2 = 0 then (match promP (D.read jProm).1 with | some n => open2 n D | none => (2, ⟨0, 0, [], false⟩, D))
      else ((D.read jProm).2, ⟨0, 0, [], false⟩, D) := rfl
  have hErr := read_errs D jProm
  generalize D.read jProm = te at hts hJ0 hErr ⊢
  obtain ⟨t, er⟩ := te
  simp only at hts hJ0 hErr ⊢
  rcases hErr with rfl | rfl | rfl
  · rw [if_neg (by decide), if_neg (by decide)] at hJ0
    repeat' (first|refine bk ?_|refine bkc ?_|refine bks ?_|refine bkd ?_|refine bkq (fun q => ?_)|(refine bk2 ?_ ?_<;>(first|exact bkn|(refine bkk ?_;intro h))))
    refine QS.turn (G' := refA bx (toR D) :: F) (fun w hs => hs.drop) (QS.retV Tryz.results30 rfl ?_)
    rw [hJ0]
    exact openS_bad (by decide)
  · rw [if_neg (by decide), if_pos rfl] at hJ0
    have hP : promP t = match openB (bs t) with
      | (e, x, r) => if e = 0 ∧ r = [] then (match numP (mk x) with | some n => if 1 ≤ n ∧ n ≤ 9007199254740991 then some n else none | none => none) else none := rfl
    repeat' (first|refine bk ?_|refine bkc ?_|refine bks ?_|refine bkd ?_|refine bkq (fun q => ?_)|(refine bk2 ?_ ?_<;>(first|exact bkn|(refine bkk ?_;intro h))))
    refine WL.call c68 rfl rfl rfl rfl (ref_Open t (by omega) W0 _) ?_
    rintro _ G2 ⟨rfl, hG2⟩
    rw [hG2]; clear hG2 G2
    have hol : (openB (bs t)).2.1.length ≤ 4000 := by
      cases hO : openB (bs t) with
      | mk e p =>
        obtain ⟨x, r⟩ := p
        rw [openB] at hO
        cases ht : takeText (bs t) with
        | none => rw [ht] at hO; simp only [openT, Prod.mk.injEq] at hO; simp [← hO.2.1]
        | some q =>
          obtain ⟨y, r2⟩ := q
          have := (takeText_some ht).2
          rw [ht] at hO
          simp only [openT] at hO
          split at hO
          · simp only [Prod.mk.injEq] at hO; simp [← hO.2.1]
          · split at hO
            · simp only [Prod.mk.injEq] at hO; rw [← hO.2.1]; exact this
            · simp only [Prod.mk.injEq] at hO; simp [← hO.2.1]
    generalize openB (bs t) = oB at hP hol ⊢
    obtain ⟨e0, x, r⟩ := oB
    simp only [openV] at hP hol ⊢
    have hmx := mk_size x
    repeat' (first|refine bk ?_|refine bkc ?_|refine bks ?_|refine bkd ?_|refine bkq (fun q => ?_)|(refine bk2 ?_ ?_<;>(first|exact bkn|(refine bkk ?_;intro h))))
    refine WL.call c69 rfl rfl rfl rfl (r_number (mk x) (by omega) W0 _) ?_
    rintro _ G2 ⟨⟨n, rfl, hnn⟩, hG2⟩
    rw [hG2]; clear hG2 G2
    by_cases hgood : e0 = 0 ∧ r = [] ∧ numP (mk x) = some n ∧ 1 ≤ n ∧ n ≤ 9007199254740991
    · obtain ⟨rfl, rfl, hN, hn1, hn2⟩ := hgood
      have hp : openJ D = open2 n D := by
        rw [hJ0, hP, if_pos ⟨rfl, rfl⟩, hN]
        simp only
        rw [if_pos ⟨hn1, hn2⟩]
      rw [hN]
      clear hJ0 hP hnn
      revert hp hn1 hn2
      generalize n = p
      intro hn1 hn2 hp
      simp only [Option.isSome_some]
      repeat' (first|refine bk ?_|refine bkc ?_|refine bks ?_|refine bkd ?_|refine bkq (fun q => ?_)|(refine bk2 ?_ ?_<;>(first|exact bkn|(refine bkk ?_;intro h))))
      refine WL.turn (fun w hs => hs.front (i := 1) rfl) ?_
      refine WL.call c70 rfl rfl rfl rfl (ref_Load bx (toR D) (toR_len hD) jLog (by rw [toR_read hD]; have := read_small hD jLog; omega) W0 _) ?_
      rw [toR_read hD]
      have hO : open2 p D = match loadM (bs (D.read jLog).1) (D.read jLog).2 with
        | (e, xs, w, er) => if er = 5 then (0, ⟨p, 0, [], false⟩, D) else if er ≠ 0 then (er, ⟨p, 0, [], false⟩, D)
          else if w = true then (0, ⟨p, e, xs, false⟩, D) else ((storeM D e xs jLog).1, ⟨p, e, xs, false⟩, (storeM D e xs jLog).2) := rfl
      have h5f := load_five (bs (D.read jLog).1) (D.read jLog).2
      generalize loadM (bs (D.read jLog).1) (D.read jLog).2 = M at hO h5f ⊢
      obtain ⟨e, xs, wh, er⟩ := M
      simp only at hO h5f
      rintro _ _ ⟨A, c, rfl, rfl⟩
      simp only
      by_cases h5 : er = 5
      · obtain ⟨rfl, rfl⟩ := h5f h5
        subst h5
        rw [if_pos rfl] at hO
        rw [hO] at hp
        repeat' (first|refine bk ?_|refine bkc ?_|refine bks ?_|refine bkd ?_|refine bkq (fun q => ?_)|(refine bk2 ?_ ?_<;>(first|exact bkn|(refine bkk ?_;intro h))))
        refine QS.turn (G' := rjA b bx ⟨p, 0, [], false⟩ :: refA bx (toR D) :: F) (fun w hs => rjA_shut (A := A) (c := c) w (hs.drop.front (i := 2) rfl)) (QS.retV Tryz.results30 rfl ?_)
        rw [hp]
        exact openS_ok
      rw [if_neg h5] at hO
      by_cases h0 : er = 0
      rotate_left 1
      · rw [if_pos h0] at hO
        rw [hO] at hp
        repeat' (first|refine bk ?_|refine bkc ?_|refine bks ?_|refine bkd ?_|refine bkq (fun q => ?_)|(refine bk2 ?_ ?_<;>(first|exact bkn|(refine bkk ?_;intro h))))
        refine QS.turn (G' := refA bx (toR D) :: F) (fun w hs => hs.drop.drop.kick (i := 1) rfl) (QS.retV Tryz.results30 rfl ?_)
        rw [hp]
        exact openS_bad h0
      subst h0
      rw [if_neg (by decide)] at hO
      cases wh with
      | true =>
        rw [if_pos rfl] at hO
        rw [hO] at hp
        repeat' (first|refine bk ?_|refine bkc ?_|refine bks ?_|refine bkd ?_|refine bkq (fun q => ?_)|(refine bk2 ?_ ?_<;>(first|exact bkn|(refine bkk ?_;intro h))))
        refine QS.turn (G' := rjA b bx ⟨p, e, xs, false⟩ :: refA bx (toR D) :: F) (fun w hs => rjA_shut (A := A) (c := c) w (hs.drop.front (i := 2) rfl)) (QS.retV Tryz.results30 rfl ?_)
        rw [hp]
        exact openS_ok
      | false =>
        rw [if_neg (by decide)] at hO
        rw [hO] at hp
        repeat' (first|refine bk ?_|refine bkc ?_|refine bks ?_|refine bkd ?_|refine bkq (fun q => ?_)|(refine bk2 ?_ ?_<;>(first|exact bkn|(refine bkk ?_;intro h))))
        refine WL.call c71 rfl rfl rfl rfl ((ref_Store bx D hD jLog e A _ c xs rfl W0 _ (Rd.slc (i := 2) rfl)).pre (fun w hs => hs.front (i := 2) rfl)) ?_
        rintro _ _ ⟨rfl, rfl⟩
        by_cases hs0 : (storeM D e xs jLog).1 = 0
        · rw [hs0] at hp ⊢
          repeat' (first|refine bk ?_|refine bkc ?_|refine bks ?_|refine bkd ?_|refine bkq (fun q => ?_)|(refine bk2 ?_ ?_<;>(first|exact bkn|(refine bkk ?_;intro h))))
          refine QS.turn (G' := rjA b bx ⟨p, e, xs, false⟩ :: refA bx (toR (storeM D e xs jLog).2) :: F) (fun w hs => rjA_shut (A := A) (c := c) w (((hs.kick (i := 1) rfl).front (i := 1) rfl).front (i := 2) rfl)) (QS.retV Tryz.results30 rfl ?_)
          rw [hp]
          exact openS_ok
        · repeat' (first|refine bk ?_|refine bkc ?_|refine bks ?_|refine bkd ?_|refine bkq (fun q => ?_)|(refine bk2 ?_ ?_<;>(first|exact bkn|(refine bkk ?_;intro h))))
          refine QS.turn (G' := refA bx (toR (storeM D e xs jLog).2) :: F) (fun w hs => ((hs.kick (i := 1) rfl).kick (i := 1) rfl).kick (i := 1) rfl) (QS.retV Tryz.results30 rfl ?_)
          rw [hp]
          exact openS_bad hs0
    · have hP2 : promP t = none := by
        rw [hP]
        by_cases h1 : e0 = 0 ∧ r = []
        · rw [if_pos h1]
          cases hN : numP (mk x) with
          | none => rfl
          | some m =>
            simp only
            rw [if_neg (fun h3 => hgood ⟨h1.1, h1.2, by rw [hN, hnn m hN], by rw [hnn m hN]; exact h3.1, by rw [hnn m hN]; exact h3.2⟩)]
        · rw [if_neg h1]
      rw [hP2] at hJ0
      have hbad : numP (mk x) = none ∨ numP (mk x) = some n := by
        cases hN : numP (mk x) with
        | none => exact .inl rfl
        | some m => exact .inr (by rw [hnn m hN])
      rcases hbad with hN | hN
      all_goals
        rw [hN]
        simp only [Option.isSome_none, Option.isSome_some]
        repeat' (first|refine bk ?_|refine bkc ?_|refine bks ?_|refine bkd ?_|refine bkq (fun q => ?_)|(refine bk2 ?_ ?_<;>(first|exact bkn|(refine bkk ?_;intro h))))
      all_goals first
        | (exfalso; exact hgood ⟨by omega, congrArg bs ‹mk r = _›, hN, by omega, by omega⟩)
        | (refine QS.turn (G' := refA bx (toR D) :: F) (fun w hs => hs.drop) (QS.retV Tryz.results30 rfl ?_)
           rw [hJ0]
           exact openS_bad (by decide))
  · rw [if_pos rfl] at hJ0
    have hp : openJ D = open2 0 D := hJ0
    clear hJ0
    repeat' (first|refine bk ?_|refine bkc ?_|refine bks ?_|refine bkd ?_|refine bkq (fun q => ?_)|(refine bk2 ?_ ?_<;>(first|exact bkn|(refine bkk ?_;intro h))))
    refine WL.turn (fun w hs => hs.front (i := 1) rfl) ?_
    refine WL.call c70 rfl rfl rfl rfl (ref_Load bx (toR D) (toR_len hD) jLog (by rw [toR_read hD]; have := read_small hD jLog; omega) W0 _) ?_
    rw [toR_read hD]
    have hO : open2 0 D = match loadM (bs (D.read jLog).1) (D.read jLog).2 with
      | (e, xs, w, er) => if er = 5 then (0, ⟨0, 0, [], false⟩, D) else if er ≠ 0 then (er, ⟨0, 0, [], false⟩, D)
        else if w = true then (0, ⟨0, e, xs, false⟩, D) else ((storeM D e xs jLog).1, ⟨0, e, xs, false⟩, (storeM D e xs jLog).2) := rfl
    have h5f := load_five (bs (D.read jLog).1) (D.read jLog).2
    generalize loadM (bs (D.read jLog).1) (D.read jLog).2 = M at hO h5f ⊢
    obtain ⟨e, xs, wh, er⟩ := M
    simp only at hO h5f
    rintro _ _ ⟨A, c, rfl, rfl⟩
    simp only
    by_cases h5 : er = 5
    · obtain ⟨rfl, rfl⟩ := h5f h5
      subst h5
      rw [if_pos rfl] at hO
      rw [hO] at hp
      repeat' (first|refine bk ?_|refine bkc ?_|refine bks ?_|refine bkd ?_|refine bkq (fun q => ?_)|(refine bk2 ?_ ?_<;>(first|exact bkn|(refine bkk ?_;intro h))))
      refine QS.turn (G' := rjA b bx ⟨0, 0, [], false⟩ :: refA bx (toR D) :: F) (fun w hs => rjA_shut (A := A) (c := c) w (hs.drop.front (i := 2) rfl)) (QS.retV Tryz.results30 rfl ?_)
      rw [hp]
      exact openS_ok
    rw [if_neg h5] at hO
    by_cases h0 : er = 0
    rotate_left 1
    · rw [if_pos h0] at hO
      rw [hO] at hp
      repeat' (first|refine bk ?_|refine bkc ?_|refine bks ?_|refine bkd ?_|refine bkq (fun q => ?_)|(refine bk2 ?_ ?_<;>(first|exact bkn|(refine bkk ?_;intro h))))
      refine QS.turn (G' := refA bx (toR D) :: F) (fun w hs => hs.drop.drop.kick (i := 1) rfl) (QS.retV Tryz.results30 rfl ?_)
      rw [hp]
      exact openS_bad h0
    subst h0
    rw [if_neg (by decide)] at hO
    cases wh with
    | true =>
      rw [if_pos rfl] at hO
      rw [hO] at hp
      repeat' (first|refine bk ?_|refine bkc ?_|refine bks ?_|refine bkd ?_|refine bkq (fun q => ?_)|(refine bk2 ?_ ?_<;>(first|exact bkn|(refine bkk ?_;intro h))))
      refine QS.turn (G' := rjA b bx ⟨0, e, xs, false⟩ :: refA bx (toR D) :: F) (fun w hs => rjA_shut (A := A) (c := c) w (hs.drop.front (i := 2) rfl)) (QS.retV Tryz.results30 rfl ?_)
      rw [hp]
      exact openS_ok
    | false =>
      rw [if_neg (by decide)] at hO
      rw [hO] at hp
      repeat' (first|refine bk ?_|refine bkc ?_|refine bks ?_|refine bkd ?_|refine bkq (fun q => ?_)|(refine bk2 ?_ ?_<;>(first|exact bkn|(refine bkk ?_;intro h))))
      refine WL.call c71 rfl rfl rfl rfl ((ref_Store bx D hD jLog e A _ c xs rfl W0 _ (Rd.slc (i := 2) rfl)).pre (fun w hs => hs.front (i := 2) rfl)) ?_
      rintro _ _ ⟨rfl, rfl⟩
      by_cases hs0 : (storeM D e xs jLog).1 = 0
      · rw [hs0] at hp ⊢
        repeat' (first|refine bk ?_|refine bkc ?_|refine bks ?_|refine bkd ?_|refine bkq (fun q => ?_)|(refine bk2 ?_ ?_<;>(first|exact bkn|(refine bkk ?_;intro h))))
        refine QS.turn (G' := rjA b bx ⟨0, e, xs, false⟩ :: refA bx (toR (storeM D e xs jLog).2) :: F) (fun w hs => rjA_shut (A := A) (c := c) w (((hs.kick (i := 1) rfl).front (i := 1) rfl).front (i := 2) rfl)) (QS.retV Tryz.results30 rfl ?_)
        rw [hp]
        exact openS_ok
      · repeat' (first|refine bk ?_|refine bkc ?_|refine bks ?_|refine bkd ?_|refine bkq (fun q => ?_)|(refine bk2 ?_ ?_<;>(first|exact bkn|(refine bkk ?_;intro h))))
        refine QS.turn (G' := refA bx (toR (storeM D e xs jLog).2) :: F) (fun w hs => ((hs.kick (i := 1) rfl).kick (i := 1) rfl).kick (i := 1) rfl) (QS.retV Tryz.results30 rfl ?_)
        rw [hp]
        exact openS_bad hs0
end Go.Proofs.YtfolmcpfdcgliaaGreat.B

set_option linter.unusedVariables false
set_option linter.unusedSimpArgs false
set_option maxRecDepth 8000
/-! The statements' own functions: numbers, lists, nodes begun. -/
namespace Go.Proofs.YtfolmcpfdcgliaaGreat.B
open Go Go.Proofs
def rmsgE : EncK Msg := ⟨fun x => [.int .i64 x.1, .string x.2], 2, fun _ => rfl, by decide, fun _ u hu => by simp only [List.mem_cons, List.not_mem_nil, or_false] at hu; rcases hu with rfl | rfl <;> rfl⟩
def rmailA (bm : Nat) (m : List Msg) : SL := fun h => ∃ x : Option Addr × Nat × Option Addr × Nat, star (row bm 84 [.slice x.1 m.length x.2.1, .slice x.2.2.1 m.length x.2.2.2]) (star (slc rmsgE 72 x.1 x.2.1 m) (slc intE 3 x.2.2.1 x.2.2.2 (List.replicate m.length 0))) h
section
variable {W0 : World} {F : List SL} {bm : Nat} {m : List Msg}
theorem rmailA_open : ∀ w, Sat W0 (rmailA bm m :: F) w → ∃ x : Option Addr × Nat × Option Addr × Nat, Sat W0 (row bm 84 [.slice x.1 m.length x.2.1, .slice x.2.2.1 m.length x.2.2.2] :: slc rmsgE 72 x.1 x.2.1 m :: slc intE 3 x.2.2.1 x.2.2.2 (List.replicate m.length 0) :: F) w := fun w hs => by
  obtain ⟨x, hx⟩ := Sat.ex hs
  refine ⟨x, ?_⟩
  exact ((hx.split.front (i := 1) rfl).split.front (i := 2) rfl)
theorem rmailA_shut {A A2 : Option Addr} {c c2 : Nat} : ∀ w, Sat W0 (row bm 84 [.slice A m.length c, .slice A2 m.length c2] :: slc rmsgE 72 A c m :: slc intE 3 A2 c2 (List.replicate m.length 0) :: F) w → Sat W0 (rmailA bm m :: F) w := fun w hs => by
  have h1 : Sat W0 (slc rmsgE 72 A c m :: slc intE 3 A2 c2 (List.replicate m.length 0) :: row bm 84 [.slice A m.length c, .slice A2 m.length c2] :: F) w := (hs.front (i := 1) rfl).front (i := 2) rfl |>.front (i := 1) rfl
  exact (h1.join.front (i := 1) rfl).join.imp fun hp h => ⟨(A, c, A2, c2), h⟩
end
/-- The document's nodes and disks beside the real ones. -/
def rndA (y : Nat × Nat) (x : Nd) : SL := star (rjA y.1 y.2 x.J) (refA y.2 (toR x.D))
def rnodesA (ys : List (Nat × Nat)) (xs : List Nd) : SL := bagA (List.zipWith rndA ys xs)
def rnodesX (ys : List (Nat × Nat)) (xs : List Nd) (i : Nat) : SL := bagA ((List.zipWith rndA ys xs).eraseIdx i)
section
variable {W0 : World} {G : List SL} {xs : List Nd} {ys : List (Nat × Nat)} {x : Nd} {y : Nat × Nat} {i : Nat}
theorem rnodes_none : ∀ w, Sat W0 G w → Sat W0 (rnodesA [] [] :: G) w := fun w s => bag_none s
theorem rnodes_snoc (hl : ys.length = xs.length) : ∀ w, Sat W0 (rjA y.1 y.2 x.J :: refA y.2 (toR x.D) :: rnodesA ys xs :: G) w → Sat W0 (rnodesA (ys ++ [y]) (xs ++ [x]) :: G) w := fun w s => by
  have := bag_snoc (P := rndA y x) s.join
  rw [rnodesA, List.zipWith_append hl]
  exact this
theorem rnodes_open (hx : xs[i]? = some x) (hy : ys[i]? = some y) : ∀ w, Sat W0 (rnodesA ys xs :: G) w → Sat W0 (rjA y.1 y.2 x.J :: refA y.2 (toR x.D) :: rnodesX ys xs i :: G) w := fun w s =>
  (bag_at (P := rndA y x) (by rw [List.getElem?_zipWith, hx, hy]) s).split
theorem rnodes_shut (hx : xs[i]? = some x) (hy : ys[i]? = some y) {x' : Nd} {y' : Nat × Nat} : ∀ w, Sat W0 (rjA y'.1 y'.2 x'.J :: refA y'.2 (toR x'.D) :: rnodesX ys xs i :: G) w → Sat W0 (rnodesA (ys.set i y') (xs.set i x') :: G) w := fun w s => by
  have h1 : i < (List.zipWith rndA ys xs).length := by
    have := (List.getElem?_eq_some_iff.1 hx).1; have := (List.getElem?_eq_some_iff.1 hy).1
    rw [List.length_zipWith]; omega
  have h2 := bag_set (P := rndA y' x') h1 s.join
  have e : List.zipWith rndA (ys.set i y') (xs.set i x') = (List.zipWith rndA ys xs).set i (rndA y' x') := by
    refine List.ext_getElem? fun j => ?_
    rw [List.getElem?_zipWith, List.getElem?_set, List.getElem?_set, List.getElem?_set, List.getElem?_zipWith]
    have h3 := (List.getElem?_eq_some_iff.1 hx).1
    have h4 := (List.getElem?_eq_some_iff.1 hy).1
    by_cases hj : i = j
    · subst hj
      simp [h3, h4]; omega
    · simp [hj]
  rw [rnodesA, e]
  exact h2
end
abbrev rlC (Ad Aj : Option Addr) (n cd cj bm : Nat) : List Value := [.slice Ad n cd, .slice Aj n cj, .pointer (some ⟨bm, 0, none⟩)]
attribute [local irreducible] WL CS QS WQ WH WS Fn Op1 row Sat
attribute [local irreducible] slc jA diskA mailA nodesA nodesX rjA refA rnodesA rnodesX rmailA
theorem law_pick (n m : Int) (hn : I64 n) (hm : 0 < m) (W0 : World) (G : List SL) :
    Fn Tryz.prog 9 [.int .i64 n, .int .i64 m] W0 G (Ret fun v G' => v = .int .i64 (pickM n m) ∧ G' = G) := by
  refine Fn.enter Tryz.func9 rfl Tryz.ntmps9 rfl ?_
  unfold I64 at hn
  have hm0 : decide (m = 0) = false := decide_eq_false (by omega)
  repeat' (first|refine bk ?_|refine bkc ?_|refine bks ?_|refine bkd ?_|refine bkq (fun q => ?_)|(refine bk2 ?_ ?_<;>(first|exact bkn|(refine bkk ?_;intro h))))
  all_goals
    refine WL.s (op1_rem TT rfl rfl (by omega)) rfl ?_
    repeat' (first|refine bk ?_|refine bkc ?_|refine bks ?_|refine bkd ?_|refine bkq (fun q => ?_)|(refine bk2 ?_ ?_<;>(first|exact bkn|(refine bkk ?_;intro h))))
    refine QS.retV Tryz.results9 rfl ⟨?_, rfl⟩
    first
      | (rw [pickM, if_pos (by assumption)]; exact congrArg (fun z => Value.int .i64 (Int.tmod z m)) (by omega))
      | (rw [pickM, if_neg (by assumption)]; rfl)
theorem ents17 (A B : Option Addr) (k c k2 c2 : Nat) (xs ys : List Ent) (hk : k = xs.length) (hk2 : k2 = ys.length) (hkb : k ≤ 9223372036854775807) (W0 : World) (G : List SL) (hR : Rd W0 G entE A xs) (hR2 : Rd W0 G entE B ys) :
    Fn Tryz.prog 42 [.slice A k c, .slice B k2 c2] W0 G (Ret fun v G' => v = .bool (decide (xs = ys)) ∧ G' = G) := by
  refine Fn.enter Tryz.func42 rfl Tryz.ntmps42 rfl ?_
  repeat' (first|refine bk ?_|refine bkc ?_|refine bks ?_|refine bkd ?_|refine bkq (fun q => ?_)|(refine bk2 ?_ ?_<;>(first|exact bkn|(refine bkk ?_;intro h))))
  · refine QS.retV Tryz.results42 rfl ⟨?_, rfl⟩
    rw [decide_eq_false (fun e => by subst e; omega)]; rfl
  have hkk : xs.length = ys.length := by omega
  refine CS.loop (X := Nat) (fun i => [(0, .slice A k c), (1, .slice B k2 c2), (5, .int .i64 (i : Int))]) (fun i => G)
    (fun i => i ≤ k ∧ xs.take i = ys.take i) (fun i => k - i) 0 ⟨rfl, rfl, rfl, trivial⟩ (fun w hs => hs) ⟨Nat.zero_le _, rfl⟩ ?_
  rintro i ⟨hi, he⟩
  refine CS.world fun hw => ?_
  repeat' (first|refine bk ?_|refine bkc ?_|refine bks ?_|refine bkd ?_|refine bkq (fun q => ?_)|(refine bk2 ?_ ?_<;>(first|exact bkn|(refine bkk ?_;intro h))))
  · obtain ⟨x, hx⟩ : ∃ x, xs[i]? = some x := ⟨xs[i]'(by omega), List.getElem?_eq_getElem (by omega)⟩
    obtain ⟨y, hy⟩ : ∃ y, ys[i]? = some y := ⟨ys[i]'(by omega), List.getElem?_eq_getElem (by omega)⟩
    refine WQ.idx TT hR rfl rfl hk (by omega) (by rw [Int.toNat_natCast]; exact hx) rfl rfl rfl rfl hw (fun b2 o hA => ?_)
    refine WQ.s (op1_at TT hA rfl rfl rfl rfl) rfl ?_
    repeat' (first|refine bk ?_|refine bkc ?_|refine bks ?_|refine bkd ?_|refine bkq (fun q => ?_)|(refine bk2 ?_ ?_<;>(first|exact bkn|(refine bkk ?_;intro h))))
    refine WQ.idx TT hR2 rfl rfl hk2 (by omega) (by rw [Int.toNat_natCast]; exact hy) rfl rfl rfl rfl hw (fun b3 o3 hA3 => ?_)
    refine WQ.s (op1_at TT hA3 rfl rfl rfl rfl) rfl ?_
    refine WQ.s (op1_neS TT cmp49 rfl rfl rfl rfl (eqEnt x y)) rfl ?_
    by_cases hxy : x = y
    · rw [decide_eq_true hxy]
      repeat' (first|refine bk ?_|refine bkc ?_|refine bks ?_|refine bkd ?_|refine bkq (fun q => ?_)|(refine bk2 ?_ ?_<;>(first|exact bkn|(refine bkk ?_;intro h))))
      refine QS.again (i + 1) ⟨by omega, ?_⟩ (by omega) ⟨rfl, rfl, ?_, trivial⟩ (fun w hs => hs)
      · rw [List.take_add_one, List.take_add_one, hx, hy, he, hxy]
      · rw [show ((i + 1 : Nat) : Int) = (i : Int) + 1 from by omega]; rfl
    · rw [decide_eq_false hxy]
      repeat' (first|refine bk ?_|refine bkc ?_|refine bks ?_|refine bkd ?_|refine bkq (fun q => ?_)|(refine bk2 ?_ ?_<;>(first|exact bkn|(refine bkk ?_;intro h))))
      refine QS.retV Tryz.results42 rfl ⟨?_, rfl⟩
      rw [decide_eq_false (fun e => hxy (by rw [e, hy] at hx; exact (Option.some.inj hx).symm))]; rfl
  · refine QS.retV Tryz.results42 rfl ⟨?_, rfl⟩
    rw [decide_eq_true (by rw [List.take_of_length_le (by omega), List.take_of_length_le (by omega)] at he; exact he)]; rfl
/-- What is laid before a statement: n nodes, each new, and none of them has anything. -/
abbrev J00 : Jn := ⟨0, 0, [], false⟩
def New0 (xs : List Nd) : Prop := ∀ x ∈ xs, x.J = J00 ∧ x.D = jD 2000000 J00
def realA (br : Nat) (Ad Aj : Option Addr) (cd cj bm : Nat) (xs : List Nd) : List SL :=
  [row br 35 (rlC Ad Aj xs.length cd cj bm), slc bpE 76 Ad cd (xs.map (·.d)), slc bpE 46 Aj cj (xs.map (·.b)), nodesA xs]
structure Bg where
  xs : List Nd
  ys : List (Nat × Nat)
  Ad : Option Addr
  cd : Nat
  Aj : Option Addr
  cj : Nat
  Ax : Option Addr
  cx : Nat
  Ay : Option Addr
  cy : Nat
abbrev bgA (br bm bs bn : Nat) (s : Bg) (F : List SL) : List SL :=
  row br 35 (rlC s.Ad s.Aj s.xs.length s.cd s.cj bm) :: slc bpE 76 s.Ad s.cd (s.xs.map (·.d)) :: slc bpE 46 s.Aj s.cj (s.xs.map (·.b)) :: nodesA s.xs :: mailA bm [] ::
  row bs 62 (rlC s.Ax s.Ay s.xs.length s.cx s.cy bn) :: slc bpE 86 s.Ax s.cx (s.ys.map (·.2)) :: slc bpE 88 s.Ay s.cy (s.ys.map (·.1)) :: rnodesA s.ys s.xs :: rmailA bn [] :: F
set_option maxHeartbeats 8000000 in
theorem law_begun (n : Nat) (hn : n ≤ 5) (W0 : World) (F : List SL) :
    Fn Tryz.prog 10 [.int .i64 (n : Int)] W0 F
      (Ret fun v G' => ∃ br bm bs bn s, New0 s.xs ∧ s.xs.length = n ∧ s.ys.length = n ∧ v = .tuple #[.pointer (some ⟨br, 0, none⟩), .pointer (some ⟨bs, 0, none⟩), .bool true] ∧ G' = bgA br bm bs bn s F) := by
  refine Fn.enter Tryz.func10 rfl Tryz.ntmps10 rfl ?_
  repeat' (first|refine bk ?_|refine bkc ?_|refine bks ?_|refine bkd ?_|refine bkq (fun q => ?_)|(refine bk2 ?_ ?_<;>(first|exact bkn|(refine bkk ?_;intro h))))
  refine WL.call c27 rfl rfl rfl rfl (mail_New W0 _) ?_
  rintro _ _ ⟨bm, rfl, rfl⟩
  repeat' (first|refine bk ?_|refine bkc ?_|refine bks ?_|refine bkd ?_|refine bkq (fun q => ?_)|(refine bk2 ?_ ?_<;>(first|exact bkn|(refine bkk ?_;intro h))))
  rename_i br bn
  revert q
  intro bs
  refine CS.loop (X := Bg) (fun s => [(0, .int .i64 (n : Int)), (5, .pointer (some ⟨br, 0, none⟩)), (6, .pointer (some ⟨bs, 0, none⟩)), (7, .int .i64 (s.xs.length : Int))])
    (fun s => bgA br bm bs bn s F) (fun s => New0 s.xs ∧ s.xs.length ≤ n ∧ s.ys.length = s.xs.length) (fun s => n - s.xs.length) ⟨[], [], none, 0, none, 0, none, 0, none, 0⟩ ⟨rfl, rfl, rfl, rfl, trivial⟩ (fun w hs => ?_) ⟨(fun x hx => by cases hx), Nat.zero_le _, rfl⟩ ?_
  · -- the start
    have h1 : Sat W0 (row bn 84 [.slice none 0 0, .slice none 0 0] :: slc rmsgE 72 none 0 [] :: slc intE 3 none 0 [] :: row bs 62 [.slice none 0 0, .slice none 0 0, .pointer (some ⟨bn, 0, none⟩)] :: row br 35 [.slice none 0 0, .slice none 0 0, .pointer (some ⟨bm, 0, none⟩)] :: mailA bm [] :: F) w :=
      ((hs.slcNil intE 3).slcNil rmsgE 72).front (i := 3) rfl
    have h2 := rnodes_none w (rmailA_shut (m := []) (A := none) (A2 := none) (c := 0) (c2 := 0) w h1)
    have h3 := (h2.slcNil bpE 88).slcNil bpE 86
    have h4 := (h3.front (i := 4) rfl).front (i := 6) rfl
    have h5 := ((nodes_none w h4).slcNil bpE 46).slcNil bpE 76
    exact h5.front (i := 9) rfl
  rintro ⟨xs, ys, Ad, cd, Aj, cj, Ax, cx, Ay, cy⟩ ⟨hN, hl, hly⟩
  simp only at hN hl hly ⊢
  have hJ0 : JnOk J00 := ⟨by decide, by decide, by decide⟩
  have hD0 := new_ok 2000000 (by decide)
  have ho : openJ (Disk.new 2000000) = (0, J00, jD 2000000 J00) := open_new 2000000 (by decide)
  by_cases hi : xs.length < n
  rotate_left 1
  · obtain rfl : xs.length = n := by omega
    repeat' (first|refine bk ?_|refine bkc ?_|refine bks ?_|refine bkd ?_|refine bkq (fun q => ?_)|(refine bk2 ?_ ?_<;>(first|exact bkn|(refine bkk ?_;intro h))))
    exact QS.retV Tryz.results10 rfl ⟨br, bm, bs, bn, _, hN, rfl, hly, rfl, rfl⟩
  · repeat' (first|refine bk ?_|refine bkc ?_|refine bks ?_|refine bkd ?_|refine bkq (fun q => ?_)|(refine bk2 ?_ ?_<;>(first|exact bkn|(refine bkk ?_;intro h))))
    refine WL.call c28 rfl rfl rfl rfl (disk_New 2000000 W0 _) ?_
    rintro _ _ ⟨d1, rfl, rfl⟩
    repeat' (first|refine bk ?_|refine bkc ?_|refine bks ?_|refine bkd ?_|refine bkq (fun q => ?_)|(refine bk2 ?_ ?_<;>(first|exact bkn|(refine bkk ?_;intro h))))
    refine WL.call c29 rfl rfl rfl rfl (rdisk_New 2000000 W0 _) ?_
    rintro _ _ ⟨x1, rfl, rfl⟩
    rw [← toR_new]
    repeat' (first|refine bk ?_|refine bkc ?_|refine bks ?_|refine bkd ?_|refine bkq (fun q => ?_)|(refine bk2 ?_ ?_<;>(first|exact bkn|(refine bkk ?_;intro h))))
    have hc := fun F => j_Open d1 (Disk.new 2000000) hD0 W0 F
    simp only [openO, ho, if_true] at hc
    try dsimp only at hc
    refine WL.call c26 rfl rfl rfl rfl ((hc _).pre (fun w hs => hs.front (i := 1) rfl)) ?_
    clear hc
    rintro _ _ ⟨b1, rfl, rfl⟩
    repeat' (first|refine bk ?_|refine bkc ?_|refine bks ?_|refine bkd ?_|refine bkq (fun q => ?_)|(refine bk2 ?_ ?_<;>(first|exact bkn|(refine bkk ?_;intro h))))
    have hc := fun F => r_Open x1 (Disk.new 2000000) hD0 W0 F
    simp only [openS, ho, if_true] at hc
    try dsimp only at hc
    refine WL.call c30 rfl rfl rfl rfl ((hc _).pre (fun w hs => hs.front (i := 2) rfl)) ?_
    clear hc
    rintro _ _ ⟨b2, rfl, rfl⟩
    repeat' (first|refine bk ?_|refine bkc ?_|refine bks ?_|refine bkd ?_|refine bkq (fun q => ?_)|(refine bk2 ?_ ?_<;>(first|exact bkn|(refine bkk ?_;intro h))))
    obtain ⟨x, hx⟩ : ∃ x : Nd, x = ⟨b1, d1, J00, jD 2000000 J00⟩ := ⟨_, rfl⟩
    obtain ⟨y, hy⟩ : ∃ y : Nat × Nat, y = (b2, x1) := ⟨_, rfl⟩
    have e1 : xs.map (·.d) ++ [d1] = (xs ++ [x]).map (·.d) := by rw [hx]; simp
    have e2 : xs.map (·.b) ++ [b1] = (xs ++ [x]).map (·.b) := by rw [hx]; simp
    have e3 : ys.map (·.2) ++ [x1] = (ys ++ [y]).map (·.2) := by rw [hy]; simp
    have e4 : ys.map (·.1) ++ [b2] = (ys ++ [y]).map (·.1) := by rw [hy]; simp
    have ly : (ys ++ [y]).length = (xs ++ [x]).length := by simp [hly]
    have lx : (xs ++ [x]).length = xs.length + 1 := by simp
    refine WL.turn (G' := row br 35 (rlC Ad Aj xs.length cd cj bm) :: row bs 62 (rlC Ax Ay xs.length cx cy bn) :: slc bpE 76 Ad cd (xs.map (·.d)) :: slc bpE 46 Aj cj (xs.map (·.b)) ::
      slc bpE 86 Ax cx (ys.map (·.2)) :: slc bpE 88 Ay cy (ys.map (·.1)) :: nodesA (xs ++ [x]) :: rnodesA (ys ++ [y]) (xs ++ [x]) :: mailA bm [] :: rmailA bn [] :: F) (fun w hs => ?_) ?_
    · have hs : Sat W0 (rjA b2 x1 J00 :: refA x1 (toR (jD 2000000 J00)) :: jA b1 d1 J00 :: diskA d1 (jD 2000000 J00) :: row br 35 (rlC Ad Aj xs.length cd cj bm) :: slc bpE 76 Ad cd (xs.map (·.d)) :: slc bpE 46 Aj cj (xs.map (·.b)) :: nodesA xs :: mailA bm [] ::
        row bs 62 (rlC Ax Ay xs.length cx cy bn) :: slc bpE 86 Ax cx (ys.map (·.2)) :: slc bpE 88 Ay cy (ys.map (·.1)) :: rnodesA ys xs :: rmailA bn [] :: F) w := hs
      have h1 := rnodes_snoc (x := x) (y := y) hly w (by rw [hx, hy]; exact hs.ord 14 [0, 1, 12, 2, 3, 7, 4, 5, 6, 8, 9, 10, 11, 13] rfl)
      have h2 := nodes_snoc w (h1.ord 12 [1, 2, 3, 0, 4, 5, 6, 7, 8, 9, 10, 11] rfl)
      rw [← hx] at h2
      -- nodes', rnodes', br, dA, jA, mail, bs, dX, jY, rmail
      exact h2.ord 10 [2, 6, 3, 4, 7, 8, 0, 1, 5, 9] rfl
    repeat' (first|refine bk ?_|refine bkc ?_|refine bks ?_|refine bkd ?_|refine bkq (fun q => ?_)|(refine bk2 ?_ ?_<;>(first|exact bkn|(refine bkk ?_;intro h))))
    refine WL.buildSlice TT rfl rfl rfl rfl rfl rfl rfl rfl (fun q2 => ?_)
    refine WL.append TT 3 (E := bpE) (xs := xs.map (·.d)) (ys := [d1]) rfl (by simp only [List.length_map] <;> omega) rfl rfl rfl (Rd.row (i := 0) rfl rfl) rfl rfl rfl rfl rfl (by decide) (by simp only [List.length_map, List.length_cons, List.length_nil]; omega) (fun _ _ => rfl) rfl (fun A2 c2 => ?_)
    refine WL.turn (fun w hs => hs.drop) ?_
    rw [e1, List.length_map]
    revert A2 c2
    intro A5 c5
    repeat' (first|refine bk ?_|refine bkc ?_|refine bks ?_|refine bkd ?_|refine bkq (fun q => ?_)|(refine bk2 ?_ ?_<;>(first|exact bkn|(refine bkk ?_;intro h))))
    refine WL.buildSlice TT rfl rfl rfl rfl rfl rfl rfl rfl (fun q2 => ?_)
    refine WL.append TT 4 (E := bpE) (xs := xs.map (·.b)) (ys := [b1]) rfl (by simp only [List.length_map] <;> omega) rfl rfl rfl (Rd.row (i := 0) rfl rfl) rfl rfl rfl rfl rfl (by decide) (by simp only [List.length_map, List.length_cons, List.length_nil]; omega) (fun _ _ => rfl) rfl (fun A2 c2 => ?_)
    refine WL.turn (fun w hs => hs.drop) ?_
    rw [e2, List.length_map]
    revert A2 c2
    intro A6 c6
    repeat' (first|refine bk ?_|refine bkc ?_|refine bks ?_|refine bkd ?_|refine bkq (fun q => ?_)|(refine bk2 ?_ ?_<;>(first|exact bkn|(refine bkk ?_;intro h))))
    refine WL.buildSlice TT rfl rfl rfl rfl rfl rfl rfl rfl (fun q2 => ?_)
    refine WL.append TT 5 (E := bpE) (xs := ys.map (·.2)) (ys := [x1]) rfl (by simp only [List.length_map] <;> omega) rfl rfl rfl (Rd.row (i := 0) rfl rfl) rfl rfl rfl rfl rfl (by decide) (by simp only [List.length_map, List.length_cons, List.length_nil]; omega) (fun _ _ => rfl) rfl (fun A2 c2 => ?_)
    refine WL.turn (fun w hs => hs.drop) ?_
    rw [e3, List.length_map, ly]
    revert A2 c2
    intro A7 c7
    repeat' (first|refine bk ?_|refine bkc ?_|refine bks ?_|refine bkd ?_|refine bkq (fun q => ?_)|(refine bk2 ?_ ?_<;>(first|exact bkn|(refine bkk ?_;intro h))))
    refine WL.buildSlice TT rfl rfl rfl rfl rfl rfl rfl rfl (fun q2 => ?_)
    refine WL.append TT 6 (E := bpE) (xs := ys.map (·.1)) (ys := [b2]) rfl (by simp only [List.length_map] <;> omega) rfl rfl rfl (Rd.row (i := 0) rfl rfl) rfl rfl rfl rfl rfl (by decide) (by simp only [List.length_map, List.length_cons, List.length_nil]; omega) (fun _ _ => rfl) rfl (fun A2 c2 => ?_)
    refine WL.turn (fun w hs => hs.drop) ?_
    rw [e4, List.length_map, ly]
    revert A2 c2
    intro A8 c8
    repeat' (first|refine bk ?_|refine bkc ?_|refine bks ?_|refine bkd ?_|refine bkq (fun q => ?_)|(refine bk2 ?_ ?_<;>(first|exact bkn|(refine bkk ?_;intro h))))
    refine QS.again ⟨xs ++ [x], ys ++ [y], A5, c5, A6, c6, A7, c7, A8, c8⟩ ⟨?_, by simp only; omega, ly⟩ (by simp only; omega) ⟨rfl, rfl, rfl, ?_, trivial⟩ (fun w hs => ?_)
    · intro z hz
      rcases List.mem_append.1 hz with hz | hz
      · exact hN z hz
      · rw [List.mem_singleton] at hz
        rw [hz, hx]; exact ⟨rfl, rfl⟩
    · simp only [lx]
      rw [show ((xs.length + 1 : Nat) : Int) = (xs.length : Int) + 1 from by omega]; rfl
    · exact hs.ord 10 [0, 2, 3, 6, 8, 1, 4, 5, 7, 9] rfl
end Go.Proofs.YtfolmcpfdcgliaaGreat.B

set_option linter.unusedVariables false
set_option linter.unusedSimpArgs false
set_option maxRecDepth 8000
/-! What a writer does with nodes of which the first ones answer nothing, and the others are alike. -/
namespace Go.Proofs.YtfolmcpfdcgliaaGreat.B
open Go Go.Proofs
theorem filter_range {α : Type} {f : Nat → Option α} {c : α} {d : Nat} : ∀ (n : Nat), (∀ i, i < n → f i = if i < d then none else some c) → (List.range n).filterMap f = List.replicate (n - d) c
  | 0, _ => by simp
  | n + 1, h => by
    rw [List.range_succ, List.filterMap_append, filter_range n (fun i hi => h i (by omega))]
    simp only [List.filterMap_cons, List.filterMap_nil, h n (by omega)]
    by_cases hd : n < d
    · rw [if_pos hd, show n + 1 - d = 0 from by omega, show n - d = 0 from by omega]; rfl
    · rw [if_neg hd, show n + 1 - d = (n - d) + 1 from by omega, List.replicate_succ']
theorem best_same (T : Lg) (k : Nat) : ∀ i, 1 ≤ i → i ≤ k → bestQ (List.replicate k T) i = 0
  | 0, h, _ => by omega
  | 1, _, _ => by simp [bestQ]
  | i + 2, _, h => by
    have ih := best_same T k (i + 1) (by omega) (by omega)
    rw [bestQ, ih, if_neg (by decide)]
    have h1 : (List.replicate k T)[i + 1]? = some T := by rw [List.getElem?_replicate, if_pos (by omega)]
    have h2 : (List.replicate k T)[(0 : Int).toNat]? = some T := by rw [List.getElem?_replicate, if_pos (by show 0 < k; omega)]
    rw [h1, h2]
    simp [betterQ]
theorem bestL_same (T : Lg) (k : Nat) (hk : 1 ≤ k) : bestL (List.replicate k T) = T.2 := by
  unfold bestL
  rw [List.length_replicate, best_same T k k hk (Nat.le_refl _)]
  have h2 : (List.replicate k T)[(0 : Int).toNat]? = some T := by rw [List.getElem?_replicate, if_pos (by show 0 < k; omega)]
  rw [h2]
/-- The nodes from the d-th on are alike. -/
def Hu (J : Jn) (d : Nat) (xs : List Nd) : Prop := ∀ i x, xs[i]? = some x → NW x ∧ (d ≤ i → x.J = J)
/-- .. and the first d answer nothing. -/
def FD (fs : List Int) (d n : Nat) : Prop := ∀ i, i < n → fateM fs i = if i < d then 1 else 0
theorem FD.nil (n : Nat) : FD [] 0 n := fun i _ => by simp [fateM]
theorem Hu.mem {J : Jn} {d : Nat} {xs : List Nd} (h : Hu J d xs) : ∀ x ∈ xs, NW x := fun x hx => by
  obtain ⟨i, hi⟩ := List.mem_iff_getElem?.1 hx
  exact (h i x hi).1
abbrev toldQ (J : Jn) (q : Rq) : Lg := if q.kind = kP then ((pureJ J q).2.e, (pureJ J q).2.xs) else (0, [])
theorem NW.told {x : Nd} (h : NW x) {s : ByteArray} {q : Rq} (hq : readQ (bs s) = some q) :
    toldM (x.ans (bs s)) = (if (pureJ x.J q).1 = 0 then ((toldQ x.J q).1, (toldQ x.J q).2, 0) else (0, [], (pureJ x.J q).1)) ∧ (x.hand (bs s)).J = (pureJ x.J q).2 := by
  obtain ⟨h1, h2, h3⟩ := h.hand (bs s)
  have h4 : JWell (pureJ x.J q).2 := by have hh := (hand_pure (R := 2000000) (by decide) h.J (bs s)).2; rw [hand_of hq] at hh; exact hh
  refine ⟨?_, by rw [h2, hand_of hq]⟩
  rw [h3, told_ans h4 hq]
  unfold toldQ
  split
  · split <;> rfl
  · rfl
theorem resp_hu {J : Jn} {d : Nat} {xs : List Nd} (h : Hu J d xs) {fs : List Int} (hf : FD fs d xs.length) {s : ByteArray} {q : Rq} (hq : readQ (bs s) = some q) (h0 : (pureJ J q).1 = 0) :
    ∀ i, i < xs.length → respM fs s xs i = if i < d then none else some (toldQ J q) := fun i hi => by
  obtain ⟨x, hx⟩ : ∃ x, xs[i]? = some x := ⟨xs[i]'hi, List.getElem?_eq_getElem hi⟩
  obtain ⟨h1, h2⟩ := h i x hx
  obtain ⟨t1, t2⟩ := h1.told hq
  unfold respM
  rw [hx, hf i hi]
  by_cases hd : i < d
  · simp [hd]
  · have hJ := h2 (by omega)
    rw [hJ] at t1
    rw [if_pos h0] at t1
    simp only [hd, if_false, true_or, true_and, t1, if_true]
theorem hu_next {J : Jn} {d : Nat} {xs : List Nd} (h : Hu J d xs) {fs : List Int} (hf : FD fs d xs.length) {s : ByteArray} {q : Rq} (hq : readQ (bs s) = some q) : Hu (pureJ J q).2 d (ndsM fs s xs xs.length) := fun i x hx => by
  have hi := (List.getElem?_eq_some_iff.1 hx).1
  rw [ndsM_len] at hi
  rw [nds_at hi] at hx
  obtain ⟨y, hy, rfl⟩ := Option.map_eq_some_iff.1 hx
  obtain ⟨h1, h2⟩ := h i y hy
  refine ⟨h1.step _ _, fun hd => ?_⟩
  rw [hf i hi, if_neg (by omega)]
  have e : ndM 0 s y = y.hand (bs s) := by unfold ndM; simp
  rw [e, (h1.told hq).2, h2 hd]
theorem most_pos {n : Nat} (h : 1 ≤ n) : mostM n = (n : Int) / 2 + 1 := by unfold mostM; rw [if_neg (by omega)]
/-- Enough of them answer. -/
theorem all_ok {J : Jn} {d : Nat} {xs : List Nd} (h : Hu J d xs) {fs : List Int} (hf : FD fs d xs.length) {s : ByteArray} {q : Rq} (hq : readQ (bs s) = some q) (h0 : (pureJ J q).1 = 0) (w : Wr) (m : List Msg)
    (hn : 1 ≤ xs.length) (he : xs.length / 2 + 1 ≤ xs.length - d) :
    ∃ m', allM w xs m s fs = ⟨List.replicate (xs.length - d) (toldQ J q), 0, w, ndsM fs s xs xs.length, m'⟩ ∧ Hu (pureJ J q).2 d (ndsM fs s xs xs.length) := by
  refine ⟨(gotsM fs s xs m xs.length).m, ?_, hu_next h hf hq⟩
  have hl := logs_are fs s xs m xs.length
  rw [filter_range _ (resp_hu h hf hq h0)] at hl
  unfold allM
  simp only
  rw [if_neg (by rw [hl, List.length_replicate, most_pos hn]; omega), hl]
/-- Too few of them do. -/
theorem all_few {J : Jn} {d : Nat} {xs : List Nd} (h : Hu J d xs) {fs : List Int} (hf : FD fs d xs.length) {s : ByteArray} {q : Rq} (hq : readQ (bs s) = some q) (h0 : (pureJ J q).1 = 0) (w : Wr) (m : List Msg)
    (hn : 1 ≤ xs.length) (he : xs.length - d < xs.length / 2 + 1) : ∃ m', allM w xs m s fs = ⟨[], 12, ⟨0, 0, true⟩, ndsM fs s xs xs.length, m'⟩ := by
  refine ⟨(gotsM fs s xs m xs.length).m, ?_⟩
  have hl := logs_are fs s xs m xs.length
  rw [filter_range _ (resp_hu h hf hq h0)] at hl
  have hb : (gotsM fs s xs m xs.length).bad = 12 := bad_no fs s xs m (fun i x hx hfi => by
    have hi := (List.getElem?_eq_some_iff.1 hx).1
    rw [hf i hi] at hfi
    have hd : ¬ i < d := fun hd => by rw [if_pos hd] at hfi; omega
    obtain ⟨h1, h2⟩ := h i x hx
    have t1 := (h1.told hq).1
    rw [h2 (by omega), if_pos h0] at t1
    rw [t1]; simp) xs.length
  unfold allM
  simp only
  rw [if_pos (.inr (by rw [hl, List.length_replicate, most_pos hn]; omega)), hb]
/-- None of them does. -/
theorem all_no {J : Jn} {xs : List Nd} (h : Hu J 0 xs) (fs : List Int) {s : ByteArray} {q : Rq} (hq : readQ (bs s) = some q) (h0 : (pureJ J q).1 ≠ 0) (hJ : (pureJ J q).2 = J) (w : Wr) (m : List Msg) :
    ∃ e m', (e = 12 ∨ e = 10) ∧ allM w xs m s fs = ⟨[], e, ⟨0, 0, true⟩, ndsM fs s xs xs.length, m'⟩ ∧ Hu J 0 (ndsM fs s xs xs.length) := by
  have hl : (gotsM fs s xs m xs.length).logs = [] := by
    rw [logs_are]
    refine List.filterMap_eq_nil_iff.2 fun i hi => ?_
    have hi' := List.mem_range.1 hi
    obtain ⟨x, hx⟩ : ∃ x, xs[i]? = some x := ⟨xs[i]'hi', List.getElem?_eq_getElem hi'⟩
    obtain ⟨h1, h2⟩ := h i x hx
    have t1 := (h1.told hq).1
    rw [h2 (by omega), if_neg h0] at t1
    unfold respM
    rw [hx]
    simp only [t1]
    rw [if_neg (fun hh => h0 hh.2)]
  refine ⟨(gotsM fs s xs m xs.length).bad, (gotsM fs s xs m xs.length).m, bad_is fs s xs m _, ?_, fun i x hx => ?_⟩
  · unfold allM
    simp only
    rw [if_pos ?_]
    by_cases hn : xs.length = 0
    · exact .inl hn
    · refine .inr ?_
      rw [hl, most_pos (by omega)]
      simp only [List.length_nil]; omega
  · have hi := (List.getElem?_eq_some_iff.1 hx).1
    rw [ndsM_len] at hi
    rw [nds_at hi] at hx
    obtain ⟨y, hy, rfl⟩ := Option.map_eq_some_iff.1 hx
    obtain ⟨h1, h2⟩ := h i y hy
    refine ⟨h1.step _ _, fun hd => ?_⟩
    have hyJ := h2 hd
    have e1 := (h1.told hq).2
    rw [hyJ, hJ] at e1
    have hh := (h1.hand (bs s)).1
    have e2 := (hh.told hq).2
    rw [e1, hJ] at e2
    unfold ndM
    split
    · exact hyJ
    · split
      · exact e2
      · exact e1
theorem FD.drop {fs : List Int} {d n : Nat} (h : ∀ i, i < n → fateM fs (n + i) = if i < d then 1 else 0) (hl : fs = [] ∨ n ≤ fs.length) (hd : fs = [] → d = 0) : FD (fs.drop (min fs.length n)) d n := fun i hi => by
  rcases hl with rfl | hl
  · rw [hd rfl]; simp [fateM]
  · have := h i hi
    rw [Nat.min_eq_right hl]
    unfold fateM at this ⊢
    rw [List.getElem?_drop]
    exact this
theorem Hu.well {J : Jn} {d : Nat} {xs : List Nd} (h : Hu J d xs) (hd : d < xs.length) : JWell J := by
  obtain ⟨x, hx⟩ : ∃ x, xs[d]? = some x := ⟨xs[d]'hd, List.getElem?_eq_getElem hd⟩
  obtain ⟨h1, h2⟩ := h d x hx
  rw [← h2 (Nat.le_refl _)]; exact h1.J
theorem pure_prom {J : Jn} {ep : Int} (h : J.p < ep) : pureJ J ⟨kP, ep, []⟩ = (0, { J with p := ep }) := by
  unfold pureJ
  rw [if_pos rfl, if_neg (by simp only; omega)]
theorem pure_acc {J : Jn} {ep : Int} {l : List Ent} (h : J.p = ep) (h2 : J.e < ep) : pureJ J ⟨kA, ep, l⟩ = (0, ⟨ep, ep, l, J.dead⟩) := by
  unfold pureJ
  rw [if_neg kAP, if_neg (fun hh => hh.elim (fun hh => by simp only at hh; omega) (fun hh => kAW hh.1)), if_neg kAW, if_neg (by simp only; omega)]
theorem pure_add {J : Jn} {ep : Int} {s : ByteArray} (h : J.p = ep) (h2 : J.e = ep) : pureJ J ⟨kW, ep, [⟨(J.xs.length : Int) + 1, s⟩]⟩ = (0, { J with xs := J.xs ++ [⟨(J.xs.length : Int) + 1, s⟩] }) := by
  unfold pureJ
  rw [if_neg kWP, if_neg (fun hh => hh.elim (fun hh => by simp only at hh; omega) (fun hh => by simp only at hh; omega)), if_pos rfl]
  show pureW J ⟨(J.xs.length : Int) + 1, s⟩ = _
  unfold pureW
  rw [if_neg (fun hh => hh.elim (fun hh => by simp only at hh; omega) (fun hh => by have := hh.1; simp only at this; omega)), if_neg (by simp only; omega)]
/-- A writer begins. -/
theorem begin_ok {J : Jn} {d : Nat} {xs : List Nd} (h : Hu J d xs) {fs : List Int} (hf : FD fs d xs.length) (hf2 : FD (fs.drop (min fs.length xs.length)) d xs.length) {ep : Int} (h1 : J.p < ep) (h2 : 1 ≤ ep) (h3 : ep ≤ 9007199254740991) (m : List Msg)
    (hn : 1 ≤ xs.length) (he : xs.length / 2 + 1 ≤ xs.length - d) :
    ∃ xs' m', beginM ⟨0, 0, false⟩ xs m ep fs = ⟨J.xs, 0, ⟨ep, J.xs.length, false⟩, xs', m'⟩ ∧ Hu ⟨ep, ep, J.xs, J.dead⟩ d xs' ∧ xs'.length = xs.length := by
  have hw := h.well (by omega)
  obtain ⟨m1, a1, a2⟩ := all_ok h hf (read_prom ⟨h2, h3⟩) (by rw [pure_prom h1]) ⟨0, 0, false⟩ m hn he
  rw [pure_prom h1] at a2
  have hT : toldQ J ⟨kP, ep, []⟩ = (J.e, J.xs) := by unfold toldQ; rw [if_pos rfl, pure_prom h1]
  rw [hT] at a1
  have hlen := ndsM_len fs (promS ep) xs xs.length
  have hlog : logOk ep J.xs = true := by
    obtain ⟨⟨_, _, l3⟩, l4⟩ := logOk_iff.1 hw.ok.log
    exact logOk_iff.2 ⟨⟨by omega, h3, l3⟩, l4⟩
  generalize ndsM fs (promS ep) xs xs.length = ys at a1 a2 hlen
  have hpa : pureJ { J with p := ep } ⟨kA, ep, J.xs⟩ = (0, ⟨ep, ep, J.xs, J.dead⟩) := pure_acc rfl (by have := hw.ep; simp only; omega)
  obtain ⟨m2, b1, b2⟩ := all_ok a2 (fs := fs.drop (min fs.length xs.length)) (by rw [hlen]; exact hf2) (read_acc h2 hlog) (by rw [hpa]) ⟨0, 0, false⟩ m1 (by omega) (by omega)
  rw [hpa] at b2
  refine ⟨_, m2, ?_, b2, by rw [ndsM_len, hlen]⟩
  unfold beginM
  rw [if_neg (by simp), if_neg (by omega)]
  simp only [a1]
  rw [if_neg (by simp), bestL_same _ _ (by omega)]
  unfold begin2
  simp only [hlen, b1]
  rw [if_neg (by simp)]
/-- .. or does not. -/
theorem begin_few {J : Jn} {d : Nat} {xs : List Nd} (h : Hu J d xs) {fs : List Int} (hf : FD fs d xs.length) {ep : Int} (h1 : J.p < ep) (h2 : 1 ≤ ep) (h3 : ep ≤ 9007199254740991) (m : List Msg)
    (hn : 1 ≤ xs.length) (he : xs.length - d < xs.length / 2 + 1) :
    ∃ xs' m', beginM ⟨0, 0, false⟩ xs m ep fs = ⟨[], 12, ⟨0, 0, true⟩, xs', m'⟩ := by
  obtain ⟨m1, a1⟩ := all_few h hf (read_prom ⟨h2, h3⟩) (by rw [pure_prom h1]) ⟨0, 0, false⟩ m hn he
  refine ⟨ndsM fs (promS ep) xs xs.length, m1, ?_⟩
  unfold beginM
  rw [if_neg (by simp), if_neg (by omega)]
  simp only [a1]
  rw [if_pos (by simp)]
/-- .. for somebody has begun with that epoch. -/
theorem begin_late {J : Jn} {xs : List Nd} (h : Hu J 0 xs) (fs : List Int) {ep : Int} (h1 : ep ≤ J.p) (h2 : 1 ≤ ep) (h3 : ep ≤ 9007199254740991) (m : List Msg) :
    ∃ e xs' m', (e = 12 ∨ e = 10) ∧ beginM ⟨0, 0, false⟩ xs m ep fs = ⟨[], e, ⟨0, 0, true⟩, xs', m'⟩ ∧ Hu J 0 xs' ∧ xs'.length = xs.length := by
  have hp : pureJ J ⟨kP, ep, []⟩ = (10, J) := by unfold pureJ; rw [if_pos rfl, if_pos (by simp only; omega)]
  obtain ⟨e, m1, he, a1, a2⟩ := all_no h fs (read_prom ⟨h2, h3⟩) (by rw [hp]; simp) (by rw [hp]) ⟨0, 0, false⟩ m
  refine ⟨e, _, m1, he, ?_, a2, ndsM_len _ _ _ _⟩
  unfold beginM
  rw [if_neg (by simp), if_neg (by omega)]
  simp only [a1]
  rw [if_pos (by omega)]
/-- A writer writes. -/
theorem write_ok {J : Jn} {d : Nat} {xs : List Nd} (h : Hu J d xs) {fs : List Int} (hf : FD fs d xs.length) {ep : Int} (h1 : J.p = ep) (h2 : J.e = ep) (h3 : 1 ≤ ep) {s : ByteArray} (hs : s.size ≤ 600) (hl : J.xs.length < 300) (m : List Msg)
    (hn : 1 ≤ xs.length) (he : xs.length / 2 + 1 ≤ xs.length - d) :
    ∃ xs' m', writeM ⟨ep, J.xs.length, false⟩ xs m s fs = ⟨[], 0, ⟨ep, (J.xs.length : Int) + 1, false⟩, xs', m'⟩ ∧ Hu { J with xs := J.xs ++ [⟨(J.xs.length : Int) + 1, s⟩] } d xs' ∧ xs'.length = xs.length := by
  have hw := h.well (by omega)
  have hp1 := hw.ok.p1
  obtain ⟨m1, a1, a2⟩ := all_ok h hf (read_add (ep := ep) (n := (J.xs.length : Int) + 1) ⟨h3, by omega⟩ ⟨by omega, by omega⟩ hs) (by rw [pure_add h1 h2]) ⟨ep, J.xs.length, false⟩ m hn he
  rw [pure_add h1 h2] at a2
  refine ⟨_, m1, ?_, a2, ndsM_len _ _ _ _⟩
  unfold writeM
  rw [if_neg (by simp; omega), if_neg (by omega), if_neg (by simp only; omega)]
  simp only [a1]
  rw [if_pos trivial]
/-- .. or is behind another one. -/
theorem write_late {J : Jn} {xs : List Nd} (h : Hu J 0 xs) (fs : List Int) {ep n : Int} (h1 : ep < J.p) (h3 : 1 ≤ ep) (hn : 0 ≤ n ∧ n < 300) {s : ByteArray} (hs : s.size ≤ 600) (hl : xs ≠ []) (m : List Msg) :
    ∃ e xs' m', (e = 12 ∨ e = 10) ∧ writeM ⟨ep, n, false⟩ xs m s fs = ⟨[], e, ⟨0, 0, true⟩, xs', m'⟩ ∧ Hu J 0 xs' ∧ xs'.length = xs.length := by
  have hw := h.well (List.length_pos_iff.2 hl)
  have hp1 := hw.ok.p1
  have hp : pureJ J ⟨kW, ep, [⟨n + 1, s⟩]⟩ = (10, J) := by unfold pureJ; rw [if_neg kWP, if_pos (.inl (by simp only; omega))]
  obtain ⟨e, m1, he, a1, a2⟩ := all_no h fs (read_add (ep := ep) (n := n + 1) ⟨h3, by omega⟩ ⟨by omega, by omega⟩ hs) (by rw [hp]; simp) (by rw [hp]) ⟨ep, n, false⟩ m
  refine ⟨e, _, m1, he, ?_, a2, ndsM_len _ _ _ _⟩
  unfold writeM
  rw [if_neg (by simp; omega), if_neg (by omega), if_neg (by simp only; omega)]
  simp only [a1]
  rw [if_neg (by omega)]
end Go.Proofs.YtfolmcpfdcgliaaGreat.B
