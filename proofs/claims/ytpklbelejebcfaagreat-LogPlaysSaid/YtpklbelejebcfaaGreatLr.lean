import Derived.Test.YtpklbelejebcfaaGreatEl
import Derived.Test.YtpklbelejebcfaaGreatWr
import Derived.Test.YtpklbelejebcfaaGreatLd
set_option linter.unusedVariables false
set_option linter.unusedSimpArgs false
set_option maxRecDepth 8000
/-! The document's reading of a log. -/
namespace Go.Proofs.YtpklbelejebcfaaGreat.B
open Go Go.Proofs
attribute [local irreducible] WL CS QS WQ WH WS Fn Op1 row Sat
attribute [local irreducible] refA slc

noncomputable def parseM (t : List UInt8) : Int × List Ent × Bool × Bool := match parseP t with | none => (0, [], false, false) | some (n, xs, r) => (n, xs, decide (r = []), true)
def toldP (m : Int × List Ent × Bool × Bool) (F : List SL) (v : Value) (G' : List SL) : Prop := ∃ A c, v = .tuple #[logV m.1 A m.2.1.length c, .bool m.2.2.1, .bool m.2.2.2] ∧ G' = slc entE 32 A c m.2.1 :: F

theorem openB_len {l x r : List UInt8} {e : Int} (h : openB l = (e, x, r)) : x.length ≤ 4000 ∧ r.length ≤ l.length := by
  unfold openB openT at h
  split at h
  · simp only [Prod.mk.injEq] at h; obtain ⟨_, rfl, rfl⟩ := h; simp
  · rename_i y s hy
    obtain ⟨h1, h2⟩ := takeText_some hy
    have h3 := congrArg List.length h1
    rw [List.length_append] at h3
    split at h
    · simp only [Prod.mk.injEq] at h; obtain ⟨_, rfl, rfl⟩ := h; simp
    · split at h
      · simp only [Prod.mk.injEq] at h; obtain ⟨_, rfl, rfl⟩ := h
        rw [List.length_drop]; omega
      · simp only [Prod.mk.injEq] at h; obtain ⟨_, rfl, rfl⟩ := h; simp
theorem openP_of {l x r : List UInt8} {e : Int} (h : openB l = (e, x, r)) : openP l = if e = 0 then (match takeNum x with | some (n, x') => some (n, x', r) | none => none) else none := by rw [openP, h]; rfl
set_option maxHeartbeats 4000000 in
theorem ref_Parse (t : ByteArray) (hsz : t.size ≤ 140737488355328) (W0 : World) (F : List SL) :
    Fn Tryz.prog 38 [.string t] W0 F (Ret (toldP (parseM (bs t)) F)) := by
  refine Fn.enter Tryz.func38 rfl Tryz.ntmps38 rfl ?_
  have hms := bs_len t
  repeat' (first|refine bk ?_|refine bkc ?_|refine bks ?_|refine bkd ?_|refine bkq (fun q => ?_)|(refine bk2 ?_ ?_<;>(first|exact bkn|(refine bkk ?_;intro h))))
  refine WL.call c68 rfl rfl rfl rfl (ref_Open t (by omega) W0 _) ?_
  rintro _ _ ⟨rfl, rfl⟩
  rcases hO : openB (bs t) with ⟨e, x, r⟩
  have hlen := openB_len hO
  have hP0 := openP_of hO
  simp only [openV]
  repeat' (first|refine bk ?_|refine bkc ?_|refine bks ?_|refine bkd ?_|refine bkq (fun q => ?_)|(refine bk2 ?_ ?_<;>(first|exact bkn|(refine bkk ?_;intro h))))
  refine WL.call c69 rfl rfl rfl rfl (ref_TakeNum (mk x) (by rw [mk_size]; omega) W0 _) ?_
  rintro _ _ ⟨rfl, rfl⟩
  rw [bs_mk]
  rcases hT : takeNum x with _ | ⟨n, y⟩
  · simp only [takeNumV]
    have hP : parseP (bs t) = none := by rw [parseP, hP0, hT]; simp
    have e1 : parseM (bs t) = (0, [], false, false) := by rw [parseM, hP]
    repeat' (first|refine bk ?_|refine bkc ?_|refine bks ?_|refine bkd ?_|refine bkq (fun q => ?_)|(refine bk2 ?_ ?_<;>(first|exact bkn|(refine bkk ?_;intro h))))
    all_goals
      refine QS.turn (G' := slc entE 32 none 0 ([] : List Ent) :: row q 30 [.int .i64 0, .slice none 0 0] :: F) (fun w hs => hs.slcNil _ _) ?_
      refine QS.turnR (G2 := slc entE 32 none 0 ([] : List Ent) :: F) (fun w hs => hs.kick (i := 1) rfl) ?_
      refine QS.retC TT 1 Tryz.results38 rfl rfl rfl rfl ⟨rfl, none, 0, ?_, ?_⟩ <;> rw [e1] <;> rfl
  · simp only [takeNumV]
    rw [hT] at hP0
    simp only at hP0
    repeat' (first|refine bk ?_|refine bkc ?_|refine bks ?_|refine bkd ?_|refine bkq (fun q => ?_)|(refine bk2 ?_ ?_<;>(first|exact bkn|(refine bkk ?_;intro h))))
    rotate_right
    · rw [if_pos (by assumption)] at hP0
      have hyn := mk_nil_iff.1 ‹mk y = _›
      have hP : parseP (bs t) = some (n, (ents 300 0 r).1, (ents 300 0 r).2) := by rw [parseP, hP0]; exact if_pos ⟨hyn, by omega, by omega⟩
      have e1 : parseM (bs t) = (n, (ents 300 0 r).1, decide ((ents 300 0 r).2 = []), true) := by rw [parseM, hP]
      rename_i q0 _ _ _
      refine CS.loop (X := List Ent × List UInt8 × Option Addr × Nat) (fun x => [(2, .pointer (some ⟨q0, 0, none⟩)), (6, .string (mk x.2.1)), (11, .pointer (some ⟨q, 0, none⟩))])
        (fun x => row q 30 [.int .i64 n, .slice x.2.2.1 x.1.length x.2.2.2] :: slc entE 32 x.2.2.1 x.2.2.2 x.1 :: row q0 30 [.int .i64 0, .slice none 0 0] :: F)
        (fun x => x.1.length ≤ 300 ∧ x.2.1.length ≤ t.size ∧ ents 300 0 r = (x.1 ++ (ents (300 - x.1.length) x.1.length x.2.1).1, (ents (300 - x.1.length) x.1.length x.2.1).2))
        (fun x => 300 - x.1.length) ([], r, none, 0) ⟨rfl, rfl, rfl, trivial⟩ (fun w hs => (hs.slcNil entE 32).front (i := 1) rfl) ⟨Nat.zero_le _, by simp only; omega, rfl⟩ ?_
      rintro ⟨xs, l, A, c⟩ ⟨hx1, hx2, hx3⟩
      simp only at *
      repeat' (first|refine bk ?_|refine bkc ?_|refine bks ?_|refine bkd ?_|refine bkq (fun q => ?_)|(refine bk2 ?_ ?_<;>(first|exact bkn|(refine bkk ?_;intro h))))
      focus
        refine WL.call c68 rfl rfl rfl rfl (ref_Open (mk l) (by rw [mk_size]; omega) W0 _) ?_
        rintro _ _ ⟨rfl, rfl⟩
        rw [bs_mk]
        rcases hO2 : openB l with ⟨e2, x2, r2⟩
        have hlen2 := openB_len hO2
        have hP2 := openP_of hO2
        simp only [openV]
        repeat' (first|refine bk ?_|refine bkc ?_|refine bks ?_|refine bkd ?_|refine bkq (fun q => ?_)|(refine bk2 ?_ ?_<;>(first|exact bkn|(refine bkk ?_;intro h))))
        refine WL.call c69 rfl rfl rfl rfl (ref_TakeNum (mk x2) (by rw [mk_size]; omega) W0 _) ?_
        rintro _ _ ⟨rfl, rfl⟩
        rw [bs_mk]
        rcases hT2 : takeNum x2 with _ | ⟨n2, y2⟩
        · simp only [takeNumV]
          repeat' (first|refine bk ?_|refine bkc ?_|refine bks ?_|refine bkd ?_|refine bkq (fun q => ?_)|(refine bk2 ?_ ?_<;>(first|exact bkn|(refine bkk ?_;intro h))))
          all_goals
            have hst : takeEnt xs.length l = none ∨ 300 - xs.length = 0 := by
              exact .inl (by rw [takeEnt, hP2, hT2]; simp)
            rw [ents_stop hst, List.append_nil] at hx3
            rw [hx3] at e1
            refine QS.turnR (G2 := slc entE 32 A c xs :: F) (fun w hs => hs.drop.kick (i := 1) rfl) ?_
            refine QS.retC TT 2 Tryz.results38 rfl rfl rfl rfl ⟨rfl, A, c, ?_, ?_⟩
            · rw [e1, dec_nil]; rfl
            · rw [e1]
        · simp only [takeNumV]
          rw [hT2] at hP2
          simp only at hP2
          have hys := mk_size y2
          have hE : takeEnt xs.length l = if e2 = 0 ∧ n2 = (xs.length : Int) + 1 ∧ y2.length ≤ 600 then some (⟨n2, mk y2⟩, r2) else none := by
            rw [takeEnt, hP2]
            by_cases h0 : e2 = 0
            · simp only [h0, if_true, true_and]
            · simp only [h0, if_false, false_and]
          repeat' (first|refine bk ?_|refine bkc ?_|refine bks ?_|refine bkd ?_|refine bkq (fun q => ?_)|(refine bk2 ?_ ?_<;>(first|exact bkn|(refine bkk ?_;intro h))))
          rotate_right
          · rw [if_pos (by omega)] at hE
            refine WL.buildSlice TT rfl rfl rfl rfl rfl rfl rfl rfl (fun qs => ?_)
            refine WL.append TT (E := entE) (xs := xs) (ys := [⟨n2, mk y2⟩]) 2 rfl rfl rfl rfl rfl (Rd.row (i := 0) rfl (flat_ent _)) rfl rfl rfl rfl rfl (by decide) (by simp only [List.length_cons, List.length_nil]; omega) (fun _ _ => rfl) rfl (fun A' c' => ?_)
            repeat' (first|refine bk ?_|refine bkc ?_|refine bks ?_|refine bkd ?_|refine bkq (fun q => ?_)|(refine bk2 ?_ ?_<;>(first|exact bkn|(refine bkk ?_;intro h))))
            have hlen3 : (xs ++ [(⟨n2, mk y2⟩ : Ent)]).length = xs.length + 1 := by simp
            obtain ⟨f, hf⟩ : ∃ f, 300 - xs.length = f + 1 := ⟨299 - xs.length, by omega⟩
            refine QS.again (xs ++ [⟨n2, mk y2⟩], r2, A', c') ⟨by simp only [hlen3]; omega, by simp only; omega, ?_⟩ (by simp only [hlen3]; omega) ⟨rfl, rfl, rfl, trivial⟩ (fun w hs => hs.drop)
            simp only
            rw [hx3, hf, ents, hE]
            simp only
            rw [hlen3, show 300 - (xs.length + 1) = f from by omega, List.append_assoc]; rfl
          all_goals
            have hst : takeEnt xs.length l = none ∨ 300 - xs.length = 0 := by
              exact .inl (hE.trans (if_neg (by omega)))
            rw [ents_stop hst, List.append_nil] at hx3
            rw [hx3] at e1
            refine QS.turnR (G2 := slc entE 32 A c xs :: F) (fun w hs => hs.drop.kick (i := 1) rfl) ?_
            refine QS.retC TT 2 Tryz.results38 rfl rfl rfl rfl ⟨rfl, A, c, ?_, ?_⟩
            · rw [e1, dec_nil]; rfl
            · rw [e1]
      all_goals
        have hst : takeEnt xs.length l = none ∨ 300 - xs.length = 0 := by
          first | exact .inr (by omega) | exact .inl (by rw [mk_nil_iff.1 ‹mk l = _›, takeEnt_nil])
        rw [ents_stop hst, List.append_nil] at hx3
        rw [hx3] at e1
        refine QS.turnR (G2 := slc entE 32 A c xs :: F) (fun w hs => hs.drop.kick (i := 1) rfl) ?_
        refine QS.retC TT 2 Tryz.results38 rfl rfl rfl rfl ⟨rfl, A, c, ?_, ?_⟩
        · rw [e1, dec_nil]; rfl
        · rw [e1]
    all_goals
      have hP : parseP (bs t) = none := by
        rw [parseP, hP0]
        first
          | rw [if_neg (by assumption)]
          | (rw [if_pos (by assumption)]; exact if_neg (fun h => ‹¬ mk y = _› (mk_nil_iff.2 h.1)))
          | (rw [if_pos (by assumption)]; exact if_neg (fun h => by omega))
      have e1 : parseM (bs t) = (0, [], false, false) := by rw [parseM, hP]
      refine QS.turn (G' := slc entE 32 none 0 ([] : List Ent) :: row q 30 [.int .i64 0, .slice none 0 0] :: F) (fun w hs => hs.slcNil _ _) ?_
      refine QS.turnR (G2 := slc entE 32 none 0 ([] : List Ent) :: F) (fun w hs => hs.kick (i := 1) rfl) ?_
      refine QS.retC TT 1 Tryz.results38 rfl rfl rfl rfl ⟨rfl, none, 0, ?_, ?_⟩ <;> rw [e1] <;> rfl
end Go.Proofs.YtpklbelejebcfaaGreat.B
