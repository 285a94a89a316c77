import Derived.Test.YtpklbelejebcfaaGreatLr
set_option linter.unusedVariables false
set_option linter.unusedSimpArgs false
set_option maxRecDepth 8000
/-! The document's Load. -/
namespace Go.Proofs.YtpklbelejebcfaaGreat.B
open Go Go.Proofs
attribute [local irreducible] WL CS QS WQ WH WS Fn Op1 row Sat
attribute [local irreducible] refA slc

theorem load_parse {t : List UInt8} {er : Int} (h : er = 0) : loadM t er = if (parseM t).2.2.2 = true then ((parseM t).1, (parseM t).2.1, (parseM t).2.2.1, 0) else (0, [], false, 2) := by
  rw [loadM, if_pos h, parseM]
  cases parseP t with
  | none => rfl
  | some p => rfl
theorem size_zero {s : ByteArray} (h : s.size = 0) : s = noStr := by
  have : bs s = [] := List.eq_nil_of_length_eq_zero (by rw [bs_len]; exact h)
  exact bs_inj this
set_option maxHeartbeats 2000000 in
theorem ref_Load (b : Nat) (R : RDisk) (hl : R.files.length ≤ 1000) (name : ByteArray) (hsz : (R.read name).1.size ≤ 140737488355328) (W0 : World) (F : List SL) :
    Fn Tryz.prog 17 [.pointer (some ⟨b, 0, none⟩), .string name] W0 (refA b R :: F) (Ret (toldR (loadM (bs (R.read name).1) (R.read name).2) (refA b R :: F))) := by
  refine Fn.enter Tryz.func17 rfl Tryz.ntmps17 rfl ?_
  repeat' (first|refine bk ?_|refine bkc ?_|refine bks ?_|refine bkd ?_|refine bkq (fun q => ?_)|(refine bk2 ?_ ?_<;>(first|exact bkn|(refine bkk ?_;intro h))))
  refine WL.turn (fun w hs => hs.front (i := 1) rfl) ?_
  refine WL.call c29 rfl rfl rfl rfl (rdisk_Read b R hl name W0 _) ?_
  rintro _ _ ⟨rfl, rfl⟩
  generalize hT : (R.read name).1 = t at *
  generalize hE : (R.read name).2 = er at *
  repeat' (first|refine bk ?_|refine bkc ?_|refine bks ?_|refine bkd ?_|refine bkq (fun q => ?_)|(refine bk2 ?_ ?_<;>(first|exact bkn|(refine bkk ?_;intro h))))
  · have e1 : loadM (bs t) er = (0, [], false, er) := by rw [loadM, if_neg (by assumption)]
    refine QS.turn (G' := slc entE 32 none 0 ([] : List Ent) :: refA b R :: row q 30 [.int .i64 0, .slice none 0 0] :: F) (fun w hs => hs.slcNil _ _) ?_
    refine QS.turnR (G2 := slc entE 32 none 0 ([] : List Ent) :: refA b R :: F) (fun w hs => hs.kick (i := 2) rfl) ?_
    refine QS.retC TT 2 Tryz.results17 rfl rfl rfl rfl ⟨rfl, none, 0, ?_, ?_⟩ <;> rw [e1] <;> rfl
  refine WL.call c38 rfl rfl rfl rfl (ref_Parse t hsz W0 _) ?_
  rintro _ _ ⟨A, c, rfl, rfl⟩
  obtain ⟨M, hM⟩ : ∃ M, M = parseM (bs t) := ⟨_, rfl⟩
  rw [← hM]
  repeat' (first|refine bk ?_|refine bkc ?_|refine bks ?_|refine bkd ?_|refine bkq (fun q => ?_)|(refine bk2 ?_ ?_<;>(first|exact bkn|(refine bkk ?_;intro h))))
  · have e1 : loadM (bs t) er = (0, [], false, 2) := by rw [load_parse (by assumption), ← hM, if_neg (by rw [‹M.2.2.2 = false›]; decide)]
    refine QS.turn (G' := slc entE 32 none 0 ([] : List Ent) :: row q 30 [.int .i64 M.1, .slice A M.2.1.length c] :: slc entE 32 A c M.2.1 :: refA b R :: row _ 30 [.int .i64 0, .slice none 0 0] :: F) (fun w hs => hs.slcNil _ _) ?_
    refine QS.turnR (G2 := slc entE 32 none 0 ([] : List Ent) :: refA b R :: F) (fun w hs => ((hs.kick (i := 4) rfl).kick (i := 2) rfl).kick (i := 1) rfl) ?_
    refine QS.retC TT 4 Tryz.results17 rfl rfl rfl rfl ⟨rfl, none, 0, ?_, ?_⟩ <;> rw [e1] <;> rfl
  · have e1 : loadM (bs t) er = (M.1, M.2.1, M.2.2.1, 0) := by rw [load_parse (by assumption), ← hM, if_pos (by assumption)]
    refine QS.turnR (G2 := slc entE 32 A c M.2.1 :: refA b R :: F) (fun w hs => (hs.drop.kick (i := 2) rfl)) ?_
    refine QS.retC TT 3 Tryz.results17 rfl rfl rfl rfl ⟨rfl, A, c, ?_, ?_⟩ <;> rw [e1] <;> rfl

end Go.Proofs.YtpklbelejebcfaaGreat.B
