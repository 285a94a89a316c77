import Derived.Test.YtfolmcpfdcgliaaGreatMg16
import Derived.Test.YtfolmcpfdcgliaaGreatMg21
import Derived.Test.YtfolmcpfdcgliaaGreatMg10
import Derived.Test.YtfolmcpfdcgliaaGreatMg20
import Derived.Test.YtfolmcpfdcgliaaGreatMg13
import Derived.Test.YtfolmcpfdcgliaaGreatMg22
set_option linter.unusedVariables false
set_option linter.unusedSimpArgs false
set_option maxRecDepth 8000
namespace Go.Proofs.YtfolmcpfdcgliaaGreat.B
open Go Go.Proofs
attribute [local irreducible] WL CS QS WQ WH WS Fn Op1 row Sat
attribute [local irreducible] slc
theorem ref_Join (A : Option Addr) (k c : Nat) (xs : List ByteArray) (hk : k = xs.length) (hx : ∀ s ∈ xs, s.size ≤ 9223372036854775807) (hl : xs.length ≤ 9223372036854775807) (W0 : World) (G : List SL) (hR : Rd W0 G strE A xs) :
    Fn Tryz.prog 175 [.slice A k c] W0 G (Ret fun v G' => v = (if joinOk xs then .tuple #[.string (mk (joinB xs)), .bool true] else .tuple #[.string ⟨#[]⟩, .bool false]) ∧ G' = G) := by
  subst hk
  refine Fn.enter Tryz.func175 rfl Tryz.ntmps175 rfl ?_
  repeat' (first|refine bA ?_|refine bkq fun q=>?_|(refine bk2 ?_ ?_<;>(first|exact bkn|(refine bkk ?_;intro h))))
  · refine QS.retV Tryz.results175 rfl ⟨?_, rfl⟩
    rw [if_neg (fun e => by have := (joinOk_iff.1 e).1; omega)]; rfl
  have hl2 : xs.length ≤ 1000 := by omega
  refine WL.call c152 rfl rfl rfl rfl (ref_Num (n := (xs.length : Int)) (by unfold I64; omega) W0 _) ?_
  rintro _ G2 ⟨rfl, hG2⟩
  rw [hG2]; clear hG2 G2
  have hnl := num_len (n := (xs.length : Int)) (by unfold I64; omega)
  repeat' (first|refine bA ?_|refine bkq fun q=>?_|(refine bk2 ?_ ?_<;>(first|exact bkn|(refine bkk ?_;intro h))))
  refine CS.loop (X := Nat) (fun i => [(0, .slice A xs.length c), (4, .string (mk (numB xs.length ++ joinT (xs.take i)))), (5, .int .i64 (i : Int))])
    (fun i => G) (fun i => i ≤ xs.length ∧ ∀ s ∈ xs.take i, s.size ≤ 4000) (fun i => xs.length - i) 0 ⟨rfl, by rw [List.take_zero, show joinT [] = [] from rfl, List.append_nil]; rfl, rfl, trivial⟩ (fun w hs => hs) ⟨Nat.zero_le _, fun s hs => by cases hs⟩ ?_
  rintro i ⟨hi, hs⟩
  have hjl := joinT_len hs
  rw [List.length_take] at hjl
  have hms := mk_size (numB xs.length ++ joinT (xs.take i))
  rw [List.length_append] at hms
  repeat' (first|refine bA ?_|refine bkq fun q=>?_|(refine bk2 ?_ ?_<;>(first|exact bkn|(refine bkk ?_;intro h))))
  · obtain ⟨s, hsx⟩ : ∃ x, xs[i]? = some x := ⟨xs[i]'(by omega), List.getElem?_eq_getElem (by omega)⟩
    refine WL.idx TT hR rfl rfl rfl (by omega) (by rw [Int.toNat_natCast]; exact hsx) rfl rfl rfl rfl (fun bb o hA => ?_)
    refine WL.s (op1_at TT hA rfl rfl rfl rfl) rfl ?_
    repeat' (first|refine bA ?_|refine bkq fun q=>?_|(refine bk2 ?_ ?_<;>(first|exact bkn|(refine bkk ?_;intro h))))
    refine WL.call c180 rfl rfl rfl rfl (ref_Text s (hx s (List.mem_of_getElem? hsx)) W0 _) ?_
    rintro _ G2 ⟨rfl, hG2⟩
    rw [hG2]; clear hG2 G2
    by_cases hb : 4000 < s.size
    · rw [if_pos hb]
      repeat' (first|refine bA ?_|refine bkq fun q=>?_|(refine bk2 ?_ ?_<;>(first|exact bkn|(refine bkk ?_;intro h))))
      refine QS.retV Tryz.results175 rfl ⟨?_, rfl⟩
      rw [if_neg (fun e => by have := (joinOk_iff.1 e).2 s (List.mem_of_getElem? hsx); omega)]; rfl
    · rw [if_neg hb]
      have htl := textB_len (s := s) (by omega)
      have hmt := mk_size (textB (bs s))
      repeat' (first|refine bA ?_|refine bkq fun q=>?_|(refine bk2 ?_ ?_<;>(first|exact bkn|(refine bkk ?_;intro h))))
      refine QS.again (i + 1) ⟨by omega, fun x hx => ?_⟩ (by omega) ⟨rfl, ?_, ?_, trivial⟩ (fun w hs => hs)
      · rw [List.take_add_one, hsx] at hx
        rcases List.mem_append.1 hx with h | h
        · exact hs x h
        · simp at h; subst h; omega
      · rw [List.take_add_one, hsx, Option.toList_some, joinT_snoc, ← List.append_assoc, ← mk_cat]; rfl
      · rw [show ((i + 1 : Nat) : Int) = (i : Int) + 1 from by omega]; rfl
  · have hix : i = xs.length := by omega
    subst hix
    rw [List.take_length] at hs ⊢
    repeat' (first|refine bA ?_|refine bkq fun q=>?_|(refine bk2 ?_ ?_<;>(first|exact bkn|(refine bkk ?_;intro h))))
    refine QS.retV Tryz.results175 rfl ⟨?_, rfl⟩
    rw [if_pos (joinOk_iff.2 ⟨hl2, hs⟩)]; rfl
set_option maxHeartbeats 1000000 in
theorem ref_Split (s : ByteArray) (hs : s.size ≤ 9223372036854775807) (W0 : World) (G : List SL) :
    Fn Tryz.prog 131 [.string s] W0 G (Ret fun v G' => match splitP (bs s) with
      | some l => ∃ A c, v = .tuple #[.slice A l.length c, .bool true] ∧ G' = slc strE 9 A c l :: G
      | none => v = .tuple #[.slice none 0 0, .bool false] ∧ G' = G) := by
  refine Fn.enter Tryz.func131 rfl Tryz.ntmps131 rfl ?_
  repeat' (first|refine bA ?_|refine bkq fun q=>?_|(refine bk2 ?_ ?_<;>(first|exact bkn|(refine bkk ?_;intro h))))
  refine WL.call c115 rfl rfl rfl rfl (ref_TakeNum s hs W0 _) ?_
  rintro _ G2 ⟨rfl, hG2⟩
  rw [hG2]; clear hG2 G2
  have hbl := bs_len s
  cases hn : takeNum (bs s) with
  | none =>
    simp only [takeNumV]
    repeat' (first|refine bA ?_|refine bkq fun q=>?_|(refine bk2 ?_ ?_<;>(first|exact bkn|(refine bkk ?_;intro h))))
    refine QS.retV Tryz.results131 rfl ?_
    rw [splitP, hn]
    exact ⟨rfl, rfl⟩
  | some p =>
    obtain ⟨n, r⟩ := p
    have hnr := takeNum_some hn
    have hI := hnr.1
    unfold I64 at hI
    have hrl : r.length ≤ s.size := by rw [← hbl, hnr.2, List.length_append]; omega
    simp only [takeNumV]
    repeat' (first|refine bA ?_|refine bkq fun q=>?_|(refine bk2 ?_ ?_<;>(first|exact bkn|(refine bkk ?_;intro h))))
    · refine QS.retV Tryz.results131 rfl ?_
      rw [splitP, hn]
      simp only
      rw [if_pos (by omega)]
      exact ⟨rfl, rfl⟩
    · refine QS.retV Tryz.results131 rfl ?_
      rw [splitP, hn]
      simp only
      rw [if_pos (by omega)]
      exact ⟨rfl, rfl⟩
    have hsp : splitP (bs s) = splitE (texts n.toNat r) := by
      rw [splitP, hn]
      simp only
      rw [if_neg (by omega)]
    refine CS.loop (X := Nat × Option Addr × Nat × List ByteArray × List UInt8) (fun y => [(2, .slice none 0 0), (3, .bool false), (4, .int .i64 n), (5, .string (mk y.2.2.2.2)), (7, .slice y.2.1 y.2.2.2.1.length y.2.2.1), (8, .int .i64 (y.1 : Int))])
      (fun y => slc strE 9 y.2.1 y.2.2.1 y.2.2.2.1 :: G) (fun y => (y.1 : Int) ≤ n ∧ y.2.2.2.1.length = y.1 ∧ y.2.2.2.2.length ≤ s.size ∧ texts n.toNat r = (texts (n.toNat - y.1) y.2.2.2.2).map fun p => (y.2.2.2.1 ++ p.1, p.2))
      (fun y => n.toNat - y.1) (0, none, 0, [], r) ⟨rfl, rfl, rfl, rfl, rfl, rfl, trivial⟩ (fun w hs => hs.slcNil _ _) ⟨by simp only; omega, rfl, hrl, by simp⟩ ?_
    rintro ⟨i, A, c, xs, r2⟩ ⟨hi, hxl, hr2, hT⟩
    simp only at hi hxl hr2 hT ⊢
    repeat' (first|refine bA ?_|refine bkq fun q=>?_|(refine bk2 ?_ ?_<;>(first|exact bkn|(refine bkk ?_;intro h))))
    · obtain ⟨m, hm⟩ : ∃ m, n.toNat - i = m + 1 := ⟨n.toNat - i - 1, by omega⟩
      rw [hm] at hT
      refine WL.call c112 rfl rfl rfl rfl (ref_TakeText (mk r2) (by rw [mk_size]; omega) W0 _) ?_
      rintro _ _ ⟨rfl, rfl⟩
      rw [bs_mk]
      cases ht : takeText r2 with
      | none =>
        simp only [takeTextV]
        repeat' (first|refine bA ?_|refine bkq fun q=>?_|(refine bk2 ?_ ?_<;>(first|exact bkn|(refine bkk ?_;intro h))))
        refine QS.turn (G' := G) (fun w hs => hs.drop) (QS.retV Tryz.results131 rfl ?_)
        rw [hsp, hT, texts_stop ht]
        simp only [Option.map_none, splitE]
        exact ⟨rfl, rfl⟩
      | some q =>
        obtain ⟨x, r3⟩ := q
        have hts := takeText_some ht
        have hr3 : r3.length ≤ r2.length := by rw [hts.1, List.length_append]; omega
        simp only [takeTextV]
        repeat' (first|refine bA ?_|refine bkq fun q=>?_|(refine bk2 ?_ ?_<;>(first|exact bkn|(refine bkk ?_;intro h))))
        refine WL.buildSlice TT rfl rfl rfl rfl rfl rfl rfl rfl (fun q => ?_)
        refine WL.append TT (E := strE) (xs := xs) (ys := [mk x]) 1 rfl rfl rfl rfl rfl (Rd.row (i := 0) rfl rfl) rfl rfl rfl rfl rfl (by decide) (by simp only [List.length_cons, List.length_nil]; omega) (fun _ _ => rfl) rfl (fun A5 c5 => ?_)
        repeat' (first|refine bA ?_|refine bkq fun q=>?_|(refine bk2 ?_ ?_<;>(first|exact bkn|(refine bkk ?_;intro h))))
        refine QS.again (i + 1, A5, c5, xs ++ [mk x], r3) ⟨by simp only; omega, by simp [hxl], by simp only; omega, ?_⟩ (by simp only; omega) ⟨rfl, rfl, rfl, rfl, rfl, ?_, trivial⟩ (fun w hs => hs.drop)
        · simp only
          rw [show n.toNat - (i + 1) = m from by omega]
          exact texts_go hT ht
        · rw [show ((i + 1 : Nat) : Int) = (i : Int) + 1 from by omega]; rfl
    all_goals
      rw [show n.toNat - i = 0 from by omega, texts] at hT
      simp only [Option.map_some, List.append_nil] at hT
      rw [hT, splitE] at hsp
    · refine QS.turn (G' := G) (fun w hs => hs.drop) (QS.retV Tryz.results131 rfl ?_)
      rw [hsp, if_neg (fun e => ‹¬ mk r2 = _› (by rw [e]))]
      exact ⟨rfl, rfl⟩
    · refine QS.retV Tryz.results131 rfl ?_
      rw [hsp, if_pos (by have := congrArg bs ‹mk r2 = _›; rw [bs_mk] at this; exact this)]
      exact ⟨A, c, rfl, rfl⟩
end Go.Proofs.YtfolmcpfdcgliaaGreat.B

namespace Go.Proofs.YtfolmcpfdcgliaaGreat.B
open Go Go.Proofs
attribute [local irreducible] WL CS QS WQ WH WS Fn Op1 row Sat
attribute [local irreducible] slc
noncomputable def parseM (t : List UInt8) : Int × List Ent × Bool × Bool := match parseP t with | none => (0, [], false, false) | some (n, xs, r) => (n, xs, decide (r = []), true)
def toldP (m : Int × List Ent × Bool × Bool) (F : List SL) (v : Value) (G' : List SL) : Prop := ∃ A c, v = .tuple #[logV m.1 A m.2.1.length c, .bool m.2.2.1, .bool m.2.2.2] ∧ G' = slc entE 49 A c m.2.1 :: F
theorem openB_len {l x r : List UInt8} {e : Int} (h : openB l = (e, x, r)) : x.length ≤ 4000 ∧ r.length ≤ l.length := by
  unfold openB openT at h
  split at h
  · simp only [Prod.mk.injEq] at h; obtain ⟨_, rfl, rfl⟩ := h; simp
  · rename_i y s hy
    obtain ⟨h1, h2⟩ := takeText_some hy
    have h3 := congrArg List.length h1
    rw [List.length_append] at h3
    split at h
    · simp only [Prod.mk.injEq] at h; obtain ⟨_, rfl, rfl⟩ := h; simp
    · split at h
      · simp only [Prod.mk.injEq] at h; obtain ⟨_, rfl, rfl⟩ := h
        rw [List.length_drop]; omega
      · simp only [Prod.mk.injEq] at h; obtain ⟨_, rfl, rfl⟩ := h; simp
theorem openP_of {l x r : List UInt8} {e : Int} (h : openB l = (e, x, r)) : openP l = if e = 0 then (match takeNum x with | some (n, x') => some (n, x', r) | none => none) else none := by rw [openP, h]; rfl
set_option maxHeartbeats 4000000 in
theorem ref_Parse (t : ByteArray) (hsz : t.size ≤ 140737488355328) (W0 : World) (F : List SL) :
    Fn Tryz.prog 116 [.string t] W0 F (Ret (toldP (parseM (bs t)) F)) := by
  refine Fn.enter Tryz.func116 rfl Tryz.ntmps116 rfl ?_
  have hms := bs_len t
  repeat' (first|refine bA ?_|refine bkq fun q=>?_|(refine bk2 ?_ ?_<;>(first|exact bkn|(refine bkk ?_;intro h))))
  refine WL.call c68 rfl rfl rfl rfl (ref_Open t (by omega) W0 _) ?_
  rintro _ _ ⟨rfl, rfl⟩
  rcases hO : openB (bs t) with ⟨e, x, r⟩
  have hlen := openB_len hO
  have hP0 := openP_of hO
  simp only [openV]
  repeat' (first|refine bA ?_|refine bkq fun q=>?_|(refine bk2 ?_ ?_<;>(first|exact bkn|(refine bkk ?_;intro h))))
  refine WL.call c115 rfl rfl rfl rfl (ref_TakeNum (mk x) (by rw [mk_size]; omega) W0 _) ?_
  rintro _ _ ⟨rfl, rfl⟩
  rw [bs_mk]
  rcases hT : takeNum x with _ | ⟨n, y⟩
  · simp only [takeNumV]
    have hP : parseP (bs t) = none := by rw [parseP, hP0, hT]; simp
    have e1 : parseM (bs t) = (0, [], false, false) := by rw [parseM, hP]
    repeat' (first|refine bA ?_|refine bkq fun q=>?_|(refine bk2 ?_ ?_<;>(first|exact bkn|(refine bkk ?_;intro h))))
    all_goals
      refine QS.turn (G' := slc entE 49 none 0 ([] : List Ent) :: row q 45 [.int .i64 0, .slice none 0 0] :: F) (fun w hs => hs.slcNil _ _) ?_
      refine QS.turnR (G2 := slc entE 49 none 0 ([] : List Ent) :: F) (fun w hs => hs.kick (i := 1) rfl) ?_
      refine QS.retC TT 1 Tryz.results116 rfl rfl rfl rfl ⟨rfl, none, 0, ?_, ?_⟩ <;> rw [e1] <;> rfl
  · simp only [takeNumV]
    rw [hT] at hP0
    simp only at hP0
    repeat' (first|refine bA ?_|refine bkq fun q=>?_|(refine bk2 ?_ ?_<;>(first|exact bkn|(refine bkk ?_;intro h))))
    rotate_right
    · rw [if_pos (by assumption)] at hP0
      have hyn := mk_nil_iff.1 ‹mk y = _›
      have hP : parseP (bs t) = some (n, (ents 300 0 r).1, (ents 300 0 r).2) := by rw [parseP, hP0]; exact if_pos ⟨hyn, by omega, by omega⟩
      have e1 : parseM (bs t) = (n, (ents 300 0 r).1, decide ((ents 300 0 r).2 = []), true) := by rw [parseM, hP]
      rename_i q0 _ _ _
      refine CS.loop (X := List Ent × List UInt8 × Option Addr × Nat) (fun x => [(2, .pointer (some ⟨q0, 0, none⟩)), (6, .string (mk x.2.1)), (11, .pointer (some ⟨q, 0, none⟩))])
        (fun x => row q 45 [.int .i64 n, .slice x.2.2.1 x.1.length x.2.2.2] :: slc entE 49 x.2.2.1 x.2.2.2 x.1 :: row q0 45 [.int .i64 0, .slice none 0 0] :: F)
        (fun x => x.1.length ≤ 300 ∧ x.2.1.length ≤ t.size ∧ ents 300 0 r = (x.1 ++ (ents (300 - x.1.length) x.1.length x.2.1).1, (ents (300 - x.1.length) x.1.length x.2.1).2))
        (fun x => 300 - x.1.length) ([], r, none, 0) ⟨rfl, rfl, rfl, trivial⟩ (fun w hs => (hs.slcNil entE 49).front (i := 1) rfl) ⟨Nat.zero_le _, by simp only; omega, rfl⟩ ?_
      rintro ⟨xs, l, A, c⟩ ⟨hx1, hx2, hx3⟩
      simp only at *
      repeat' (first|refine bA ?_|refine bkq fun q=>?_|(refine bk2 ?_ ?_<;>(first|exact bkn|(refine bkk ?_;intro h))))
      focus
        refine WL.call c68 rfl rfl rfl rfl (ref_Open (mk l) (by rw [mk_size]; omega) W0 _) ?_
        rintro _ _ ⟨rfl, rfl⟩
        rw [bs_mk]
        rcases hO2 : openB l with ⟨e2, x2, r2⟩
        have hlen2 := openB_len hO2
        have hP2 := openP_of hO2
        simp only [openV]
        repeat' (first|refine bA ?_|refine bkq fun q=>?_|(refine bk2 ?_ ?_<;>(first|exact bkn|(refine bkk ?_;intro h))))
        refine WL.call c115 rfl rfl rfl rfl (ref_TakeNum (mk x2) (by rw [mk_size]; omega) W0 _) ?_
        rintro _ _ ⟨rfl, rfl⟩
        rw [bs_mk]
        rcases hT2 : takeNum x2 with _ | ⟨n2, y2⟩
        · simp only [takeNumV]
          repeat' (first|refine bA ?_|refine bkq fun q=>?_|(refine bk2 ?_ ?_<;>(first|exact bkn|(refine bkk ?_;intro h))))
          all_goals
            have hst : takeEnt xs.length l = none ∨ 300 - xs.length = 0 := by
              exact .inl (by rw [takeEnt, hP2, hT2]; simp)
            rw [ents_stop hst, List.append_nil] at hx3
            rw [hx3] at e1
            refine QS.turnR (G2 := slc entE 49 A c xs :: F) (fun w hs => hs.drop.kick (i := 1) rfl) ?_
            refine QS.retC TT 2 Tryz.results116 rfl rfl rfl rfl ⟨rfl, A, c, ?_, ?_⟩
            · rw [e1, dec_nil]; rfl
            · rw [e1]
        · simp only [takeNumV]
          rw [hT2] at hP2
          simp only at hP2
          have hys := mk_size y2
          have hE : takeEnt xs.length l = if e2 = 0 ∧ n2 = (xs.length : Int) + 1 ∧ y2.length ≤ 600 then some (⟨n2, mk y2⟩, r2) else none := by
            rw [takeEnt, hP2]
            by_cases h0 : e2 = 0
            · simp only [h0, if_true, true_and]
            · simp only [h0, if_false, false_and]
          repeat' (first|refine bA ?_|refine bkq fun q=>?_|(refine bk2 ?_ ?_<;>(first|exact bkn|(refine bkk ?_;intro h))))
          rotate_right
          · rw [if_pos (by omega)] at hE
            refine WL.buildSlice TT rfl rfl rfl rfl rfl rfl rfl rfl (fun qs => ?_)
            refine WL.append TT (E := entE) (xs := xs) (ys := [⟨n2, mk y2⟩]) 2 rfl rfl rfl rfl rfl (Rd.row (i := 0) rfl (flat_ent _)) rfl rfl rfl rfl rfl (by decide) (by simp only [List.length_cons, List.length_nil]; omega) (fun _ _ => rfl) rfl (fun A' c' => ?_)
            repeat' (first|refine bA ?_|refine bkq fun q=>?_|(refine bk2 ?_ ?_<;>(first|exact bkn|(refine bkk ?_;intro h))))
            have hlen3 : (xs ++ [(⟨n2, mk y2⟩ : Ent)]).length = xs.length + 1 := by simp
            obtain ⟨f, hf⟩ : ∃ f, 300 - xs.length = f + 1 := ⟨299 - xs.length, by omega⟩
            refine QS.again (xs ++ [⟨n2, mk y2⟩], r2, A', c') ⟨by simp only [hlen3]; omega, by simp only; omega, ?_⟩ (by simp only [hlen3]; omega) ⟨rfl, rfl, rfl, trivial⟩ (fun w hs => hs.drop)
            simp only
            rw [hx3, hf, ents, hE]
            simp only
            rw [hlen3, show 300 - (xs.length + 1) = f from by omega, List.append_assoc]; rfl
          all_goals
            have hst : takeEnt xs.length l = none ∨ 300 - xs.length = 0 := by
              exact .inl (hE.trans (if_neg (by omega)))
            rw [ents_stop hst, List.append_nil] at hx3
            rw [hx3] at e1
            refine QS.turnR (G2 := slc entE 49 A c xs :: F) (fun w hs => hs.drop.kick (i := 1) rfl) ?_
            refine QS.retC TT 2 Tryz.results116 rfl rfl rfl rfl ⟨rfl, A, c, ?_, ?_⟩
            · rw [e1, dec_nil]; rfl
            · rw [e1]
      all_goals
        have hst : takeEnt xs.length l = none ∨ 300 - xs.length = 0 := by
          first | exact .inr (by omega) | exact .inl (by rw [mk_nil_iff.1 ‹mk l = _›, takeEnt_nil])
        rw [ents_stop hst, List.append_nil] at hx3
        rw [hx3] at e1
        refine QS.turnR (G2 := slc entE 49 A c xs :: F) (fun w hs => hs.drop.kick (i := 1) rfl) ?_
        refine QS.retC TT 2 Tryz.results116 rfl rfl rfl rfl ⟨rfl, A, c, ?_, ?_⟩
        · rw [e1, dec_nil]; rfl
        · rw [e1]
    all_goals
      have hP : parseP (bs t) = none := by
        rw [parseP, hP0]
        first
          | rw [if_neg (by assumption)]
          | (rw [if_pos (by assumption)]; exact if_neg (fun h => ‹¬ mk y = _› (mk_nil_iff.2 h.1)))
          | (rw [if_pos (by assumption)]; exact if_neg (fun h => by omega))
      have e1 : parseM (bs t) = (0, [], false, false) := by rw [parseM, hP]
      refine QS.turn (G' := slc entE 49 none 0 ([] : List Ent) :: row q 45 [.int .i64 0, .slice none 0 0] :: F) (fun w hs => hs.slcNil _ _) ?_
      refine QS.turnR (G2 := slc entE 49 none 0 ([] : List Ent) :: F) (fun w hs => hs.kick (i := 1) rfl) ?_
      refine QS.retC TT 1 Tryz.results116 rfl rfl rfl rfl ⟨rfl, none, 0, ?_, ?_⟩ <;> rw [e1] <;> rfl
end Go.Proofs.YtfolmcpfdcgliaaGreat.B

namespace Go.Proofs.YtfolmcpfdcgliaaGreat.B
open Go Go.Proofs
attribute [local irreducible] WL CS QS WQ WH WS Fn Op1 row Sat
attribute [local irreducible] slc
theorem r_join (A : Option Addr) (k c : Nat) (xs : List ByteArray) (hk : k = xs.length) (hx : joinOk xs = true) (W0 : World) (G : List SL) (hR : Rd W0 G strE A xs) :
    Fn Tryz.prog 126 [.slice A k c] W0 G (Ret fun v G' => v = .string (mk (joinB xs)) ∧ G' = G) := by
  obtain ⟨h1, h2⟩ := joinOk_iff.1 hx
  refine Fn.enter Tryz.func126 rfl Tryz.ntmps126 rfl ?_
  repeat' (first|refine bA ?_|refine bkq fun q=>?_|(refine bk2 ?_ ?_<;>(first|exact bkn|(refine bkk ?_;intro h))))
  refine WL.call c175 rfl rfl rfl rfl (ref_Join A k c xs hk (fun s hs => by have := h2 s hs; omega) (by omega) W0 _ hR) ?_
  rintro _ G2 ⟨rfl, hG2⟩
  rw [hG2]; clear hG2 G2
  rw [if_pos hx]
  repeat' (first|refine bA ?_|refine bkq fun q=>?_|(refine bk2 ?_ ?_<;>(first|exact bkn|(refine bkk ?_;intro h))))
  exact QS.retV Tryz.results126 rfl ⟨rfl, rfl⟩
theorem r_num (n : Int) (h : I64 n) (W0 : World) (G : List SL) :
    Fn Tryz.prog 127 [.int .i64 n] W0 G (Ret fun v G' => v = .string (mk (numB n)) ∧ G' = G) := by
  refine Fn.enter Tryz.func127 rfl Tryz.ntmps127 rfl ?_
  repeat' (first|refine bA ?_|refine bkq fun q=>?_|(refine bk2 ?_ ?_<;>(first|exact bkn|(refine bkk ?_;intro h))))
  refine WL.call c152 rfl rfl rfl rfl (ref_Num h W0 _) ?_
  rintro _ G2 ⟨rfl, hG2⟩
  rw [hG2]; clear hG2 G2
  repeat' (first|refine bA ?_|refine bkq fun q=>?_|(refine bk2 ?_ ?_<;>(first|exact bkn|(refine bkk ?_;intro h))))
  exact QS.retV Tryz.results127 rfl ⟨rfl, rfl⟩
theorem r_Promise (ep : Int) (h : I64 ep) (W0 : World) (G : List SL) :
    Fn Tryz.prog 81 [.int .i64 ep] W0 G (Ret fun v G' => v = .string (mk (joinB (promL ep))) ∧ G' = G) := by
  refine Fn.enter Tryz.func81 rfl Tryz.ntmps81 rfl ?_
  repeat' (first|refine bA ?_|refine bkq fun q=>?_|(refine bk2 ?_ ?_<;>(first|exact bkn|(refine bkk ?_;intro h))))
  refine WL.call c127 rfl rfl rfl rfl (r_num ep h W0 _) ?_
  rintro _ G2 ⟨rfl, hG2⟩
  rw [hG2]; clear hG2 G2
  repeat' (first|refine bA ?_|refine bkq fun q=>?_|(refine bk2 ?_ ?_<;>(first|exact bkn|(refine bkk ?_;intro h))))
  refine WL.buildSlice TT rfl rfl rfl rfl rfl rfl rfl rfl (fun q => ?_)
  refine WL.call c126 rfl rfl rfl rfl (r_join _ _ _ (promL ep) rfl (promL_ok h) W0 _ (Rd.row (i := 0) rfl rfl)) ?_
  rintro _ _ ⟨rfl, rfl⟩
  repeat' (first|refine bA ?_|refine bkq fun q=>?_|(refine bk2 ?_ ?_<;>(first|exact bkn|(refine bkk ?_;intro h))))
  exact QS.turn (G' := G) (fun w hs => hs.drop) (QS.retV Tryz.results81 rfl ⟨rfl, rfl⟩)
set_option maxHeartbeats 1000000 in
theorem r_Accept (ep : Int) (h : I64 ep) (A : Option Addr) (k c : Nat) (xs : List Ent) (hk : k = xs.length) (hl : xs.length ≤ 9223372036854775807) (W0 : World) (G : List SL) (hR : Rd W0 G entE A xs) :
    Fn Tryz.prog 85 [.int .i64 ep, .slice A k c] W0 G (Ret fun v G' => v = (if logOk ep xs = true then .tuple #[.string (mk (joinB (accL ep xs))), .bool true] else .tuple #[.string ⟨#[]⟩, .bool false]) ∧ G' = G) := by
  subst hk
  refine Fn.enter Tryz.func85 rfl Tryz.ntmps85 rfl ?_
  repeat' (first|refine bA ?_|refine bkq fun q=>?_|(refine bk2 ?_ ?_<;>(first|exact bkn|(refine bkk ?_;intro h))))
  refine WL.call c129 rfl rfl rfl rfl (ref_Right ep A _ c xs rfl W0 _ hR) ?_
  rintro _ G2 ⟨rfl, hG2⟩
  rw [hG2]; clear hG2 G2
  cases hok : logOk ep xs with
  | false =>
    repeat' (first|refine bA ?_|refine bkq fun q=>?_|(refine bk2 ?_ ?_<;>(first|exact bkn|(refine bkk ?_;intro h))))
    exact QS.retV Tryz.results85 rfl ⟨rfl, rfl⟩
  | true =>
    obtain ⟨⟨h1, h2, h3⟩, h4⟩ := logOk_iff.1 hok
    repeat' (first|refine bA ?_|refine bkq fun q=>?_|(refine bk2 ?_ ?_<;>(first|exact bkn|(refine bkk ?_;intro h))))
    refine WL.call c127 rfl rfl rfl rfl (r_num ep h W0 _) ?_
    rintro _ G2 ⟨rfl, hG2⟩
    rw [hG2]; clear hG2 G2
    repeat' (first|refine bA ?_|refine bkq fun q=>?_|(refine bk2 ?_ ?_<;>(first|exact bkn|(refine bkk ?_;intro h))))
    refine WL.buildSlice TT rfl rfl rfl rfl rfl rfl rfl rfl (fun q => ?_)
    repeat' (first|refine bA ?_|refine bkq fun q=>?_|(refine bk2 ?_ ?_<;>(first|exact bkn|(refine bkk ?_;intro h))))
    refine CS.loop (X := Nat × Option Addr × Nat) (fun y => [(1, .slice A xs.length c), (7, .slice y.2.1 (accL ep (xs.take y.1)).length y.2.2), (8, .int .i64 (y.1 : Int))])
      (fun y => slc strE 9 y.2.1 y.2.2 (accL ep (xs.take y.1)) :: G) (fun y => y.1 ≤ xs.length) (fun y => xs.length - y.1) (0, some ⟨q, 0, none⟩, 2) ⟨rfl, rfl, rfl, trivial⟩ (fun w hs => row_own strE (accL ep []) rfl (by simp [accL, maxLen]) hs) (Nat.zero_le _) ?_
    rintro ⟨i, A1, c1⟩ hi
    simp only at hi ⊢
    have hal : (accL ep (xs.take i)).length = i + 2 := by simp [accL]; omega
    repeat' (first|refine bA ?_|refine bkq fun q=>?_|(refine bk2 ?_ ?_<;>(first|exact bkn|(refine bkk ?_;intro h))))
    · obtain ⟨x, hx⟩ : ∃ x, xs[i]? = some x := ⟨xs[i]'(by omega), List.getElem?_eq_getElem (by omega)⟩
      refine WL.idx TT hR.cons rfl rfl rfl (by omega) (by rw [Int.toNat_natCast]; exact hx) rfl rfl rfl rfl (fun bb o hA => ?_)
      repeat' (first|refine bA ?_|refine bkq fun q=>?_|(refine bk2 ?_ ?_<;>(first|exact bkn|(refine bkk ?_;intro h))))
      refine WL.s (op1_atF TT 1 hA rfl rfl rfl rfl rfl) rfl ?_
      repeat' (first|refine bA ?_|refine bkq fun q=>?_|(refine bk2 ?_ ?_<;>(first|exact bkn|(refine bkk ?_;intro h))))
      refine WL.buildSlice TT rfl rfl rfl rfl rfl rfl rfl rfl (fun qs => ?_)
      refine WL.append TT (E := strE) (xs := accL ep (xs.take i)) (ys := [x.s]) 1 rfl rfl rfl rfl rfl (Rd.row (i := 0) rfl rfl) rfl rfl rfl rfl rfl (by decide) (by simp only [List.length_cons, List.length_nil]; omega) (fun _ _ => rfl) rfl (fun A5 c5 => ?_)
      have hsn : accL ep (xs.take i) ++ [x.s] = accL ep (xs.take (i + 1)) := by
        rw [List.take_add_one, hx]; simp [accL]
      rw [hsn]
      repeat' (first|refine bA ?_|refine bkq fun q=>?_|(refine bk2 ?_ ?_<;>(first|exact bkn|(refine bkk ?_;intro h))))
      refine QS.again (i + 1, A5, c5) (by simp only; omega) (by simp only; omega) ⟨rfl, rfl, ?_, trivial⟩ (fun w hs => hs.drop)
      rw [show ((i + 1 : Nat) : Int) = (i : Int) + 1 from by omega]; rfl
    · have hix : i = xs.length := by omega
      subst hix
      rw [List.take_length] at *
      refine WL.call c126 rfl rfl rfl rfl (r_join _ _ _ (accL ep xs) rfl (accL_ok hok) W0 _ (Rd.slc (i := 0) rfl)) ?_
      rintro _ _ ⟨rfl, rfl⟩
      repeat' (first|refine bA ?_|refine bkq fun q=>?_|(refine bk2 ?_ ?_<;>(first|exact bkn|(refine bkk ?_;intro h))))
      exact QS.turn (G' := G) (fun w hs => hs.drop) (QS.retV Tryz.results85 rfl ⟨rfl, rfl⟩)
def fitsR (n : Int) (s : ByteArray) : Bool := decide (1 ≤ n ∧ n ≤ 300 ∧ s.size ≤ 600)
set_option maxHeartbeats 1000000 in
theorem r_Add (ep : Int) (hep : I64 ep) (n : Int) (s : ByteArray) (W0 : World) (G : List SL) :
    Fn Tryz.prog 86 [.int .i64 ep, .agg #[.int .i64 n, .string s]] W0 G (Ret fun v G' => v = (if fitsR n s = true then .tuple #[.string (mk (joinB (addL ep ⟨n, s⟩))), .bool true] else .tuple #[.string ⟨#[]⟩, .bool false]) ∧ G' = G) := by
  refine Fn.enter Tryz.func86 rfl Tryz.ntmps86 rfl ?_
  by_cases hf : 1 ≤ n ∧ n ≤ 300 ∧ s.size ≤ 600
  · have hfb : fitsR n s = true := decide_eq_true hf
    have hI : I64 n := by unfold I64; omega
    rw [if_pos hfb]
    repeat' (first|refine bA ?_|refine bkq fun q=>?_|(refine bk2 ?_ ?_<;>(first|exact bkn|(refine bkk ?_;intro h))))
    refine CS.drawA _ (fun w hs => hs) mixed (by kernel_rfl) rfl ?_
    repeat' (first|refine bka ?_|(refine bk2a ?_ ?_<;>(first|exact bkn|(refine bkk ?_;intro h))))
    refine WA.call rfl rfl (by kernel_rfl) rfl c127 rfl rfl rfl rfl (fun G' _ => r_num ep hep W0 G') ?_
    repeat' (first|refine bka ?_|(refine bk2a ?_ ?_<;>(first|exact bkn|(refine bkk ?_;intro h))))
    refine WA.call rfl rfl (by kernel_rfl) rfl c127 rfl rfl rfl rfl (fun G' _ => r_num n hI W0 G') ?_
    repeat' (first|refine bka ?_|(refine bk2a ?_ ?_<;>(first|exact bkn|(refine bkk ?_;intro h))))
    refine WA.e1 7 (by kernel_rfl) (by kernel_rfl) rfl rfl (EffC.of (Eff.buildSlice TT rfl rfl rfl rfl rfl rfl rfl)) rfl ?_
    rintro _ _ ⟨q2, rfl, rfl⟩
    refine ⟨fun w hs => hs.drop, ?_⟩
    refine WA.e1 8 (by kernel_rfl) (by kernel_rfl) rfl rfl (EffC.call c126 rfl rfl rfl (r_join _ _ _ (addL ep ⟨n, s⟩) rfl (addL_ok hep hI hf.2.2) W0 _ (Rd.row (i := 0) rfl rfl))) rfl ?_
    rintro _ _ ⟨rfl, rfl⟩
    refine ⟨fun w hs => hs.drop, ?_⟩
    repeat' (first|refine bka ?_|(refine bk2a ?_ ?_<;>(first|exact bkn|(refine bkk ?_;intro h))))
    refine WA.fin rfl ?_
    repeat' (first|refine bA ?_|refine bkq fun q=>?_|(refine bk2 ?_ ?_<;>(first|exact bkn|(refine bkk ?_;intro h))))
    exact QS.turn (G' := G) (fun w hs => hs.drop.drop) (QS.retV Tryz.results86 rfl ⟨rfl, rfl⟩)
  · have hfb : fitsR n s = false := decide_eq_false hf
    rw [hfb]
    repeat' (first|refine bA ?_|refine bkq fun q=>?_|(refine bk2 ?_ ?_<;>(first|exact bkn|(refine bkk ?_;intro h))))
    all_goals exact QS.turn (G' := G) (fun w hs => hs.drop) (QS.retV Tryz.results86 rfl ⟨rfl, rfl⟩)
theorem r_number (s : ByteArray) (hs : s.size ≤ 9223372036854775807) (W0 : World) (G : List SL) : Fn Tryz.prog 69 [.string s] W0 G (Ret fun v G' => (∃ n, v = .tuple #[.int .i64 n, .bool (numP s).isSome] ∧ ∀ m, numP s = some m → n = m) ∧ G' = G) := by
  refine Fn.enter Tryz.func69 rfl Tryz.ntmps69 rfl ?_
  repeat' (first|refine bA ?_|refine bkq fun q=>?_|(refine bk2 ?_ ?_<;>(first|exact bkn|(refine bkk ?_;intro h))))
  refine WL.call c115 rfl rfl rfl rfl (ref_TakeNum s hs W0 _) ?_
  rintro _ G2 ⟨rfl, hG2⟩
  rw [hG2]; clear hG2 G2
  cases hn : takeNum (bs s) with
  | none =>
    simp only [takeNumV]
    repeat' (first|refine bA ?_|refine bkq fun q=>?_|(refine bk2 ?_ ?_<;>(first|exact bkn|(refine bkk ?_;intro h))))
    have e1 : numP s = none := by rw [numP, hn]
    exact QS.retV Tryz.results69 rfl ⟨⟨0, by rw [e1]; rfl, fun m hm => by rw [e1] at hm; cases hm⟩, rfl⟩
  | some p =>
    obtain ⟨n, r⟩ := p
    simp only [takeNumV]
    repeat' (first|refine bA ?_|refine bkq fun q=>?_|(refine bk2 ?_ ?_<;>(first|exact bkn|(refine bkk ?_;intro h))))
    have e1 : numP s = if r = [] then some n else none := by rw [numP, hn]
    refine QS.retV Tryz.results69 rfl ⟨⟨n, ?_, fun m hm => ?_⟩, rfl⟩
    · rw [show (numP s).isSome = decide (mk r = ⟨#[]⟩) from by
        rw [e1]
        by_cases hr : r = []
        · rw [if_pos hr, hr]; rfl
        · rw [if_neg hr, decide_eq_false (fun e => hr (congrArg bs e))]; rfl]
      rfl
    · rw [e1] at hm
      split at hm
      · exact Option.some.inj hm
      · cases hm
end Go.Proofs.YtfolmcpfdcgliaaGreat.B
