import Derived.Test.YtfolmcpfdcgliaaGreatMg13
import Derived.Test.YtfolmcpfdcgliaaGreatMg15
import Derived.Test.YtfolmcpfdcgliaaGreatMg22
import Derived.Test.YtfolmcpfdcgliaaGreatMg10
import Derived.Test.YtfolmcpfdcgliaaGreatMg17
import Derived.Test.YtfolmcpfdcgliaaGreatMg8
set_option linter.unusedVariables false
set_option linter.unusedSimpArgs false
set_option maxRecDepth 8000
/-! Texts as one, in the code. -/
namespace Go.Proofs.YtfolmcpfdcgliaaGreat.B
open Go Go.Proofs
attribute [local irreducible] WL CS QS WQ WH WS Fn Op1 row Sat
attribute [local irreducible] slc bldA

theorem wire_Join (A : Option Addr) (k c : Nat) (xs : List ByteArray) (hk : k = xs.length) (hx : ∀ s ∈ xs, s.size ≤ 9223372036854775807) (hl : xs.length ≤ 9223372036854775807) (W0 : World) (G : List SL) (hR : Rd W0 G strE A xs) :
    Fn Tryz.prog 121 [.slice A k c] W0 G (Ret fun v G' => v = (if joinOk xs then .tuple #[.string (mk (joinB xs)), .int .i64 0] else .tuple #[.string ⟨#[]⟩, .int .i64 4]) ∧ G' = G) := by
  subst hk
  refine Fn.enter Tryz.func121 rfl Tryz.ntmps121 rfl ?_
  repeat' (first|refine bk ?_|refine bkc ?_|refine bks ?_|refine bkd ?_|refine bkq (fun q => ?_)|(refine bk2 ?_ ?_<;>(first|exact bkn|(refine bkk ?_;intro h))))
  · refine QS.retV Tryz.results121 rfl ⟨?_, rfl⟩
    rw [if_neg (fun e => by have := (joinOk_iff.1 e).1; omega)]; rfl
  have hl2 : xs.length ≤ 1000 := by omega
  refine WL.turn (fun w hs => bldA_new w hs) ?_
  refine WL.call c75 rfl rfl rfl rfl (wire_Num (n := (xs.length : Int)) (by unfold I64; omega) W0 _) ?_
  rintro _ _ ⟨rfl, rfl⟩
  have hnl := num_len (n := (xs.length : Int)) (by unfold I64; omega)
  have hnp := num_pos (xs.length : Int)
  repeat' (first|refine bk ?_|refine bkc ?_|refine bks ?_|refine bkd ?_|refine bkq (fun q => ?_)|(refine bk2 ?_ ?_<;>(first|exact bkn|(refine bkk ?_;intro h))))
  refine WL.call c139 rfl rfl rfl rfl (bld_WriteString q [] (mk (numB xs.length)) (by rw [mk_size]; simp; omega) W0 _) ?_
  rintro _ _ ⟨rfl, rfl⟩
  rw [List.nil_append, bs_mk]
  repeat' (first|refine bk ?_|refine bkc ?_|refine bks ?_|refine bkd ?_|refine bkq (fun q => ?_)|(refine bk2 ?_ ?_<;>(first|exact bkn|(refine bkk ?_;intro h))))
  refine CS.loop (X := Nat) (fun i => [(2, .string ⟨#[]⟩), (3, .int .i64 0), (4, .pointer (some ⟨q, 0, none⟩)), (16, .slice A xs.length c), (17, .int .i64 (xs.length : Int)), (18, .int .i64 (i : Int))])
    (fun i => bldA q (numB xs.length ++ joinT (xs.take i)) :: G) (fun i => i ≤ xs.length ∧ ∀ s ∈ xs.take i, s.size ≤ 4000) (fun i => xs.length - i) 0 ⟨rfl, rfl, rfl, rfl, rfl, rfl, trivial⟩ (fun w hs => by rw [List.take_zero, show joinT [] = [] from rfl, List.append_nil]; exact hs) ⟨Nat.zero_le _, fun s hs => by cases hs⟩ ?_
  rintro i ⟨hi, hs⟩
  have hjl := joinT_len hs
  rw [List.length_take] at hjl
  repeat' (first|refine bk ?_|refine bkc ?_|refine bks ?_|refine bkd ?_|refine bkq (fun q => ?_)|(refine bk2 ?_ ?_<;>(first|exact bkn|(refine bkk ?_;intro h))))
  · obtain ⟨s, hsx⟩ : ∃ x, xs[i]? = some x := ⟨xs[i]'(by omega), List.getElem?_eq_getElem (by omega)⟩
    refine WL.idx TT hR.cons rfl rfl rfl (by omega) (by rw [Int.toNat_natCast]; exact hsx) rfl rfl rfl rfl (fun bb o hA => ?_)
    refine WL.s (op1_at TT hA rfl rfl rfl rfl) rfl ?_
    repeat' (first|refine bk ?_|refine bkc ?_|refine bks ?_|refine bkd ?_|refine bkq (fun q => ?_)|(refine bk2 ?_ ?_<;>(first|exact bkn|(refine bkk ?_;intro h))))
    refine WL.call c162 rfl rfl rfl rfl (wire_Text s (hx s (List.mem_of_getElem? hsx)) W0 _) ?_
    rintro _ _ ⟨rfl, rfl⟩
    by_cases hb : 4000 < s.size
    · rw [if_pos hb]
      repeat' (first|refine bk ?_|refine bkc ?_|refine bks ?_|refine bkd ?_|refine bkq (fun q => ?_)|(refine bk2 ?_ ?_<;>(first|exact bkn|(refine bkk ?_;intro h))))
      refine QS.turn (G' := G) (fun w hs => hs.drop) (QS.retV Tryz.results121 rfl ⟨?_, rfl⟩)
      rw [if_neg (fun e => by have := (joinOk_iff.1 e).2 s (List.mem_of_getElem? hsx); omega)]; rfl
    · rw [if_neg hb]
      have htl := textB_len (s := s) (by omega)
      repeat' (first|refine bk ?_|refine bkc ?_|refine bks ?_|refine bkd ?_|refine bkq (fun q => ?_)|(refine bk2 ?_ ?_<;>(first|exact bkn|(refine bkk ?_;intro h))))
      refine WL.call c139 rfl rfl rfl rfl (bld_WriteString q _ (mk (textB (bs s))) (by rw [mk_size, List.length_append]; omega) W0 _) ?_
      rintro _ _ ⟨rfl, rfl⟩
      repeat' (first|refine bk ?_|refine bkc ?_|refine bks ?_|refine bkd ?_|refine bkq (fun q => ?_)|(refine bk2 ?_ ?_<;>(first|exact bkn|(refine bkk ?_;intro h))))
      refine QS.again (i + 1) ⟨by omega, fun x hx => ?_⟩ (by omega) ⟨rfl, rfl, rfl, rfl, rfl, ?_, trivial⟩ (fun w hs => ?_)
      · rw [List.take_add_one, hsx] at hx
        rcases List.mem_append.1 hx with h | h
        · exact hs x h
        · simp at h; subst h; omega
      · rw [show ((i + 1 : Nat) : Int) = (i : Int) + 1 from by omega]; rfl
      · rw [List.take_add_one, hsx, Option.toList_some, joinT_snoc, ← List.append_assoc]; rw [bs_mk] at hs; exact hs
  · have hix : i = xs.length := by omega
    subst hix
    rw [List.take_length] at hs ⊢
    refine WL.call c141 rfl rfl rfl rfl (bld_String q _ (fun e => by rw [List.append_eq_nil_iff] at e; rw [e.1] at hnp; simp at hnp) W0 _) ?_
    rintro _ _ ⟨rfl, rfl⟩
    repeat' (first|refine bk ?_|refine bkc ?_|refine bks ?_|refine bkd ?_|refine bkq (fun q => ?_)|(refine bk2 ?_ ?_<;>(first|exact bkn|(refine bkk ?_;intro h))))
    refine QS.retV Tryz.results121 rfl ⟨?_, rfl⟩
    rw [if_pos (joinOk_iff.2 ⟨hl2, hs⟩)]; rfl

set_option maxHeartbeats 1000000 in
theorem wire_Split (s : ByteArray) (hs : s.size ≤ 9223372036854775807) (W0 : World) (G : List SL) :
    Fn Tryz.prog 96 [.string s] W0 G (Ret fun v G' => match splitP (bs s) with
      | some l => ∃ A c, v = .tuple #[.slice A l.length c, .int .i64 0] ∧ G' = slc strE 9 A c l :: G
      | none => v = .tuple #[.slice none 0 0, .int .i64 2] ∧ G' = G) := by
  refine Fn.enter Tryz.func96 rfl Tryz.ntmps96 rfl ?_
  repeat' (first|refine bk ?_|refine bkc ?_|refine bks ?_|refine bkd ?_|refine bkq (fun q => ?_)|(refine bk2 ?_ ?_<;>(first|exact bkn|(refine bkk ?_;intro h))))
  refine WL.call c64 rfl rfl rfl rfl (wire_TakeNum s hs W0 _) ?_
  rintro _ G2 ⟨rfl, hG2⟩
  rw [hG2]; clear hG2 G2
  have hbl := bs_len s
  cases hn : takeNum (bs s) with
  | none =>
    simp only
    repeat' (first|refine bk ?_|refine bkc ?_|refine bks ?_|refine bkd ?_|refine bkq (fun q => ?_)|(refine bk2 ?_ ?_<;>(first|exact bkn|(refine bkk ?_;intro h))))
    refine QS.retV Tryz.results96 rfl ?_
    rw [splitP, hn]
    exact ⟨rfl, rfl⟩
  | some p =>
    obtain ⟨n, r⟩ := p
    have hnr := takeNum_some hn
    have hI := hnr.1
    unfold I64 at hI
    have hrl : r.length ≤ s.size := by rw [← hbl, hnr.2, List.length_append]; omega
    simp only
    repeat' (first|refine bk ?_|refine bkc ?_|refine bks ?_|refine bkd ?_|refine bkq (fun q => ?_)|(refine bk2 ?_ ?_<;>(first|exact bkn|(refine bkk ?_;intro h))))
    · refine QS.retV Tryz.results96 rfl ?_
      rw [splitP, hn]
      simp only
      rw [if_pos (by omega)]
      exact ⟨rfl, rfl⟩
    · refine QS.retV Tryz.results96 rfl ?_
      rw [splitP, hn]
      simp only
      rw [if_pos (by omega)]
      exact ⟨rfl, rfl⟩
    have hsp : splitP (bs s) = splitE (texts n.toNat r) := by
      rw [splitP, hn]
      simp only
      rw [if_neg (by omega)]
    refine CS.loop (X := Nat × Option Addr × Nat × List ByteArray × List UInt8) (fun y => [(2, .slice none 0 0), (3, .int .i64 0), (5, .string (mk y.2.2.2.2)), (7, .slice y.2.1 y.2.2.2.1.length y.2.2.1), (25, .int .i64 n), (26, .int .i64 (y.1 : Int))])
      (fun y => slc strE 9 y.2.1 y.2.2.1 y.2.2.2.1 :: G) (fun y => (y.1 : Int) ≤ n ∧ y.2.2.2.1.length = y.1 ∧ y.2.2.2.2.length ≤ s.size ∧ texts n.toNat r = (texts (n.toNat - y.1) y.2.2.2.2).map fun p => (y.2.2.2.1 ++ p.1, p.2))
      (fun y => n.toNat - y.1) (0, none, 0, [], r) ⟨rfl, rfl, rfl, rfl, rfl, rfl, trivial⟩ (fun w hs => hs.slcNil _ _) ⟨by simp only; omega, rfl, hrl, by simp⟩ ?_
    rintro ⟨i, A, c, xs, r2⟩ ⟨hi, hxl, hr2, hT⟩
    simp only at hi hxl hr2 hT ⊢
    repeat' (first|refine bk ?_|refine bkc ?_|refine bks ?_|refine bkd ?_|refine bkq (fun q => ?_)|(refine bk2 ?_ ?_<;>(first|exact bkn|(refine bkk ?_;intro h))))
    · obtain ⟨m, hm⟩ : ∃ m, n.toNat - i = m + 1 := ⟨n.toNat - i - 1, by omega⟩
      rw [hm] at hT
      refine WL.call c103 rfl rfl rfl rfl (wire_TakeText (mk r2) (by rw [mk_size]; omega) W0 _) ?_
      rintro _ _ ⟨rfl, rfl⟩
      rw [bs_mk]
      cases ht : takeText r2 with
      | none =>
        simp only [takeTextV]
        repeat' (first|refine bk ?_|refine bkc ?_|refine bks ?_|refine bkd ?_|refine bkq (fun q => ?_)|(refine bk2 ?_ ?_<;>(first|exact bkn|(refine bkk ?_;intro h))))
        refine QS.turn (G' := G) (fun w hs => hs.drop) (QS.retV Tryz.results96 rfl ?_)
        rw [hsp, hT, texts_stop ht]
        simp only [Option.map_none, splitE]
        exact ⟨rfl, rfl⟩
      | some q =>
        obtain ⟨x, r3⟩ := q
        have hts := takeText_some ht
        have hr3 : r3.length ≤ r2.length := by rw [hts.1, List.length_append]; omega
        simp only [takeTextV]
        repeat' (first|refine bk ?_|refine bkc ?_|refine bks ?_|refine bkd ?_|refine bkq (fun q => ?_)|(refine bk2 ?_ ?_<;>(first|exact bkn|(refine bkk ?_;intro h))))
        refine WL.buildSlice TT rfl rfl rfl rfl rfl rfl rfl rfl (fun q => ?_)
        refine WL.append TT (E := strE) (xs := xs) (ys := [mk x]) 1 rfl rfl rfl rfl rfl (Rd.row (i := 0) rfl rfl) rfl rfl rfl rfl rfl (by decide) (by simp only [List.length_cons, List.length_nil]; omega) (fun _ _ => rfl) rfl (fun A5 c5 => ?_)
        repeat' (first|refine bk ?_|refine bkc ?_|refine bks ?_|refine bkd ?_|refine bkq (fun q => ?_)|(refine bk2 ?_ ?_<;>(first|exact bkn|(refine bkk ?_;intro h))))
        refine QS.again (i + 1, A5, c5, xs ++ [mk x], r3) ⟨by simp only; omega, by simp [hxl], by simp only; omega, ?_⟩ (by simp only; omega) ⟨rfl, rfl, rfl, rfl, rfl, ?_, trivial⟩ (fun w hs => hs.drop)
        · simp only
          rw [show n.toNat - (i + 1) = m from by omega]
          exact texts_go hT ht
        · rw [show ((i + 1 : Nat) : Int) = (i : Int) + 1 from by omega]; rfl
    all_goals
      rw [show n.toNat - i = 0 from by omega, texts] at hT
      simp only [Option.map_some, List.append_nil] at hT
      rw [hT, splitE] at hsp
    · refine QS.turn (G' := G) (fun w hs => hs.drop) (QS.retV Tryz.results96 rfl ?_)
      rw [hsp, if_neg (fun e => ‹¬ mk r2 = _› (by rw [e]))]
      exact ⟨rfl, rfl⟩
    · refine QS.retV Tryz.results96 rfl ?_
      rw [hsp, if_pos (by have := congrArg bs ‹mk r2 = _›; rw [bs_mk] at this; exact this)]
      exact ⟨A, c, rfl, rfl⟩
end Go.Proofs.YtfolmcpfdcgliaaGreat.B

set_option linter.unusedVariables false
set_option linter.unusedSimpArgs false
set_option maxRecDepth 8000
/-! A journal's texts. -/
namespace Go.Proofs.YtfolmcpfdcgliaaGreat.B
open Go Go.Proofs
attribute [local irreducible] WL CS QS WQ WH WS Fn Op1 row Sat
attribute [local irreducible] slc

theorem j_join (A : Option Addr) (k c : Nat) (xs : List ByteArray) (hk : k = xs.length) (hx : joinOk xs = true) (W0 : World) (G : List SL) (hR : Rd W0 G strE A xs) :
    Fn Tryz.prog 74 [.slice A k c] W0 G (Ret fun v G' => v = .string (mk (joinB xs)) ∧ G' = G) := by
  obtain ⟨h1, h2⟩ := joinOk_iff.1 hx
  refine Fn.enter Tryz.func74 rfl Tryz.ntmps74 rfl ?_
  repeat' (first|refine bk ?_|refine bkc ?_|refine bks ?_|refine bkd ?_|refine bkq (fun q => ?_)|(refine bk2 ?_ ?_<;>(first|exact bkn|(refine bkk ?_;intro h))))
  refine WL.call c121 rfl rfl rfl rfl (wire_Join A k c xs hk (fun s hs => by have := h2 s hs; omega) (by omega) W0 _ hR) ?_
  rintro _ G2 ⟨rfl, hG2⟩
  rw [hG2]; clear hG2 G2
  rw [if_pos hx]
  repeat' (first|refine bk ?_|refine bkc ?_|refine bks ?_|refine bkd ?_|refine bkq (fun q => ?_)|(refine bk2 ?_ ?_<;>(first|exact bkn|(refine bkk ?_;intro h))))
  exact QS.retV Tryz.results74 rfl ⟨rfl, rfl⟩
theorem j_Promise (ep : Int) (h : I64 ep) (W0 : World) (G : List SL) :
    Fn Tryz.prog 32 [.int .i64 ep] W0 G (Ret fun v G' => v = .string (mk (joinB (promL ep))) ∧ G' = G) := by
  refine Fn.enter Tryz.func32 rfl Tryz.ntmps32 rfl ?_
  repeat' (first|refine bk ?_|refine bkc ?_|refine bks ?_|refine bkd ?_|refine bkq (fun q => ?_)|(refine bk2 ?_ ?_<;>(first|exact bkn|(refine bkk ?_;intro h))))
  refine WL.call c75 rfl rfl rfl rfl (wire_Num h W0 _) ?_
  rintro _ G2 ⟨rfl, hG2⟩
  rw [hG2]; clear hG2 G2
  repeat' (first|refine bk ?_|refine bkc ?_|refine bks ?_|refine bkd ?_|refine bkq (fun q => ?_)|(refine bk2 ?_ ?_<;>(first|exact bkn|(refine bkk ?_;intro h))))
  refine WL.buildSlice TT rfl rfl rfl rfl rfl rfl rfl rfl (fun q => ?_)
  refine WL.call c74 rfl rfl rfl rfl (j_join _ _ _ (promL ep) rfl (promL_ok h) W0 _ (Rd.row (i := 0) rfl rfl)) ?_
  rintro _ _ ⟨rfl, rfl⟩
  repeat' (first|refine bk ?_|refine bkc ?_|refine bks ?_|refine bkd ?_|refine bkq (fun q => ?_)|(refine bk2 ?_ ?_<;>(first|exact bkn|(refine bkk ?_;intro h))))
  exact QS.turn (G' := G) (fun w hs => hs.drop) (QS.retV Tryz.results32 rfl ⟨rfl, rfl⟩)
theorem j_said (e : Int) (h : I64 e) (W0 : World) (G : List SL) :
    Fn Tryz.prog 52 [.int .i64 e] W0 G (Ret fun v G' => v = .string (mk (saidB e)) ∧ G' = G) := by
  refine Fn.enter Tryz.func52 rfl Tryz.ntmps52 rfl ?_
  repeat' (first|refine bk ?_|refine bkc ?_|refine bks ?_|refine bkd ?_|refine bkq (fun q => ?_)|(refine bk2 ?_ ?_<;>(first|exact bkn|(refine bkk ?_;intro h))))
  refine WL.call c75 rfl rfl rfl rfl (wire_Num h W0 _) ?_
  rintro _ G2 ⟨rfl, hG2⟩
  rw [hG2]; clear hG2 G2
  repeat' (first|refine bk ?_|refine bkc ?_|refine bks ?_|refine bkd ?_|refine bkq (fun q => ?_)|(refine bk2 ?_ ?_<;>(first|exact bkn|(refine bkk ?_;intro h))))
  refine WL.buildSlice TT rfl rfl rfl rfl rfl rfl rfl rfl (fun q => ?_)
  refine WL.call c74 rfl rfl rfl rfl (j_join _ _ _ (saidL e) rfl (saidL_ok h) W0 _ (Rd.row (i := 0) rfl rfl)) ?_
  rintro _ _ ⟨rfl, rfl⟩
  repeat' (first|refine bk ?_|refine bkc ?_|refine bks ?_|refine bkd ?_|refine bkq (fun q => ?_)|(refine bk2 ?_ ?_<;>(first|exact bkn|(refine bkk ?_;intro h))))
  exact QS.turn (G' := G) (fun w hs => hs.drop) (QS.retV Tryz.results52 rfl ⟨rfl, rfl⟩)
set_option maxHeartbeats 1000000 in
theorem j_Accept (ep : Int) (h : I64 ep) (A : Option Addr) (k c : Nat) (xs : List Ent) (hk : k = xs.length) (hl : xs.length ≤ 9223372036854775807) (W0 : World) (G : List SL) (hR : Rd W0 G entE A xs) :
    Fn Tryz.prog 34 [.int .i64 ep, .slice A k c] W0 G (Ret fun v G' => v = (if logOk ep xs = true then .tuple #[.string (mk (joinB (accL ep xs))), .int .i64 0] else .tuple #[.string ⟨#[]⟩, .int .i64 1]) ∧ G' = G) := by
  subst hk
  refine Fn.enter Tryz.func34 rfl Tryz.ntmps34 rfl ?_
  repeat' (first|refine bk ?_|refine bkc ?_|refine bks ?_|refine bkd ?_|refine bkq (fun q => ?_)|(refine bk2 ?_ ?_<;>(first|exact bkn|(refine bkk ?_;intro h))))
  refine WL.call c57 rfl rfl rfl rfl (log_Right ep A _ c xs rfl W0 _ hR) ?_
  rintro _ G2 ⟨rfl, hG2⟩
  rw [hG2]; clear hG2 G2
  cases hok : logOk ep xs with
  | false =>
    repeat' (first|refine bk ?_|refine bkc ?_|refine bks ?_|refine bkd ?_|refine bkq (fun q => ?_)|(refine bk2 ?_ ?_<;>(first|exact bkn|(refine bkk ?_;intro h))))
    exact QS.retV Tryz.results34 rfl ⟨rfl, rfl⟩
  | true =>
    obtain ⟨⟨h1, h2, h3⟩, h4⟩ := logOk_iff.1 hok
    repeat' (first|refine bk ?_|refine bkc ?_|refine bks ?_|refine bkd ?_|refine bkq (fun q => ?_)|(refine bk2 ?_ ?_<;>(first|exact bkn|(refine bkk ?_;intro h))))
    refine WL.call c75 rfl rfl rfl rfl (wire_Num h W0 _) ?_
    rintro _ G2 ⟨rfl, hG2⟩
    rw [hG2]; clear hG2 G2
    repeat' (first|refine bk ?_|refine bkc ?_|refine bks ?_|refine bkd ?_|refine bkq (fun q => ?_)|(refine bk2 ?_ ?_<;>(first|exact bkn|(refine bkk ?_;intro h))))
    refine WL.buildSlice TT rfl rfl rfl rfl rfl rfl rfl rfl (fun q => ?_)
    repeat' (first|refine bk ?_|refine bkc ?_|refine bks ?_|refine bkd ?_|refine bkq (fun q => ?_)|(refine bk2 ?_ ?_<;>(first|exact bkn|(refine bkk ?_;intro h))))
    refine CS.loop (X := Nat × Option Addr × Nat) (fun y => [(4, .string ⟨#[]⟩), (5, .int .i64 0), (6, .slice y.2.1 (accL ep (xs.take y.1)).length y.2.2), (17, .slice A xs.length c), (18, .int .i64 (xs.length : Int)), (19, .int .i64 (y.1 : Int))])
      (fun y => slc strE 9 y.2.1 y.2.2 (accL ep (xs.take y.1)) :: G) (fun y => y.1 ≤ xs.length) (fun y => xs.length - y.1) (0, some ⟨q, 0, none⟩, 2) ⟨rfl, rfl, rfl, rfl, rfl, rfl, trivial⟩ (fun w hs => row_own strE (accL ep []) rfl (by simp [accL, maxLen]) hs) (Nat.zero_le _) ?_
    rintro ⟨i, A1, c1⟩ hi
    simp only at hi ⊢
    have hal : (accL ep (xs.take i)).length = i + 2 := by simp [accL]; omega
    repeat' (first|refine bk ?_|refine bkc ?_|refine bks ?_|refine bkd ?_|refine bkq (fun q => ?_)|(refine bk2 ?_ ?_<;>(first|exact bkn|(refine bkk ?_;intro h))))
    · obtain ⟨x, hx⟩ : ∃ x, xs[i]? = some x := ⟨xs[i]'(by omega), List.getElem?_eq_getElem (by omega)⟩
      refine WL.idx TT hR.cons rfl rfl rfl (by omega) (by rw [Int.toNat_natCast]; exact hx) rfl rfl rfl rfl (fun bb o hA => ?_)
      refine WL.s (op1_at TT hA rfl rfl rfl rfl) rfl ?_
      repeat' (first|refine bk ?_|refine bkc ?_|refine bks ?_|refine bkd ?_|refine bkq (fun q => ?_)|(refine bk2 ?_ ?_<;>(first|exact bkn|(refine bkk ?_;intro h))))
      refine WL.buildSlice TT rfl rfl rfl rfl rfl rfl rfl rfl (fun qs => ?_)
      refine WL.append TT (E := strE) (xs := accL ep (xs.take i)) (ys := [x.s]) 2 rfl rfl rfl rfl rfl (Rd.row (i := 0) rfl rfl) rfl rfl rfl rfl rfl (by decide) (by simp only [List.length_cons, List.length_nil]; omega) (fun _ _ => rfl) rfl (fun A5 c5 => ?_)
      have hsn : accL ep (xs.take i) ++ [x.s] = accL ep (xs.take (i + 1)) := by
        rw [List.take_add_one, hx]; simp [accL]
      rw [hsn]
      repeat' (first|refine bk ?_|refine bkc ?_|refine bks ?_|refine bkd ?_|refine bkq (fun q => ?_)|(refine bk2 ?_ ?_<;>(first|exact bkn|(refine bkk ?_;intro h))))
      refine QS.again (i + 1, A5, c5) (by simp only; omega) (by simp only; omega) ⟨rfl, rfl, rfl, rfl, rfl, ?_, trivial⟩ (fun w hs => hs.drop.drop)
      rw [show ((i + 1 : Nat) : Int) = (i : Int) + 1 from by omega]; rfl
    · have hix : i = xs.length := by omega
      subst hix
      rw [List.take_length] at *
      refine WL.call c74 rfl rfl rfl rfl (j_join _ _ _ (accL ep xs) rfl (accL_ok hok) W0 _ (Rd.slc (i := 0) rfl)) ?_
      rintro _ _ ⟨rfl, rfl⟩
      repeat' (first|refine bk ?_|refine bkc ?_|refine bks ?_|refine bkd ?_|refine bkq (fun q => ?_)|(refine bk2 ?_ ?_<;>(first|exact bkn|(refine bkk ?_;intro h))))
      exact QS.turn (G' := G) (fun w hs => hs.drop) (QS.retV Tryz.results34 rfl ⟨rfl, rfl⟩)

def fitsB (n : Int) (s : ByteArray) : Bool := decide (1 ≤ n ∧ n ≤ 300 ∧ s.size ≤ 600)
theorem logOk_one (s : ByteArray) : logOk 0 [⟨1, s⟩] = decide (s.size ≤ 600) := by
  simp [logOk, entsOk]
theorem j_fits (n : Int) (s : ByteArray) (W0 : World) (G : List SL) :
    Fn Tryz.prog 58 [.agg #[.int .i64 n, .string s]] W0 G (Ret fun v G' => v = .bool (fitsB n s) ∧ G' = G) := by
  refine Fn.enter Tryz.func58 rfl Tryz.ntmps58 rfl ?_
  repeat' (first|refine bk ?_|refine bkc ?_|refine bks ?_|refine bkd ?_|refine bkq (fun q => ?_)|(refine bk2 ?_ ?_<;>(first|exact bkn|(refine bkk ?_;intro h))))
  · refine WL.buildSlice TT rfl rfl rfl rfl rfl rfl rfl rfl (fun qs => ?_)
    repeat' (first|refine bk ?_|refine bkc ?_|refine bks ?_|refine bkd ?_|refine bkq (fun q => ?_)|(refine bk2 ?_ ?_<;>(first|exact bkn|(refine bkk ?_;intro h))))
    refine WL.call c57 rfl rfl rfl rfl (log_Right 0 _ 1 _ [⟨1, s⟩] rfl W0 _ (Rd.row (i := 0) rfl rfl)) ?_
    rintro _ _ ⟨rfl, rfl⟩
    rw [logOk_one]
    repeat' (first|refine bk ?_|refine bkc ?_|refine bks ?_|refine bkd ?_|refine bkq (fun q => ?_)|(refine bk2 ?_ ?_<;>(first|exact bkn|(refine bkk ?_;intro h))))
    refine QS.turn (G' := G) (fun w hs => hs.drop.drop) (QS.retV Tryz.results58 rfl ⟨?_, rfl⟩)
    rw [fitsB, show decide (1 ≤ n ∧ n ≤ 300 ∧ s.size ≤ 600) = decide (s.size ≤ 600) from by simp [*]]; rfl
  all_goals
    refine QS.turn (G' := G) (fun w hs => hs.drop) (QS.retV Tryz.results58 rfl ⟨?_, rfl⟩)
    rw [fitsB, show decide (1 ≤ n ∧ n ≤ 300 ∧ s.size ≤ 600) = false from decide_eq_false (by omega)]; rfl
set_option maxHeartbeats 1000000 in
theorem j_Add (ep : Int) (h : I64 ep) (n : Int) (s : ByteArray) (W0 : World) (G : List SL) :
    Fn Tryz.prog 36 [.int .i64 ep, .agg #[.int .i64 n, .string s]] W0 G (Ret fun v G' => v = (if fitsB n s = true then .tuple #[.string (mk (joinB (addL ep ⟨n, s⟩))), .int .i64 0] else .tuple #[.string ⟨#[]⟩, .int .i64 1]) ∧ G' = G) := by
  refine Fn.enter Tryz.func36 rfl Tryz.ntmps36 rfl ?_
  repeat' (first|refine bk ?_|refine bkc ?_|refine bks ?_|refine bkd ?_|refine bkq (fun q => ?_)|(refine bk2 ?_ ?_<;>(first|exact bkn|(refine bkk ?_;intro h))))
  refine WL.call c58 rfl rfl rfl rfl (j_fits n s W0 _) ?_
  rintro _ G2 ⟨rfl, hG2⟩
  rw [hG2]; clear hG2 G2
  cases hf : fitsB n s with
  | false =>
    repeat' (first|refine bk ?_|refine bkc ?_|refine bks ?_|refine bkd ?_|refine bkq (fun q => ?_)|(refine bk2 ?_ ?_<;>(first|exact bkn|(refine bkk ?_;intro h))))
    exact QS.turn (G' := G) (fun w hs => hs.drop) (QS.retV Tryz.results36 rfl ⟨rfl, rfl⟩)
  | true =>
    have hf2 := of_decide_eq_true hf
    have hI : I64 n := by unfold I64; omega
    repeat' (first|refine bk ?_|refine bkc ?_|refine bks ?_|refine bkd ?_|refine bkq (fun q => ?_)|(refine bk2 ?_ ?_<;>(first|exact bkn|(refine bkk ?_;intro h))))
    refine CS.drawA _ (fun w hs => hs) mixed (by kernel_rfl) rfl ?_
    repeat' (first|refine bka ?_|(refine bk2a ?_ ?_<;>(first|exact bkn|(refine bkk ?_;intro h))))
    refine WA.call rfl rfl (by kernel_rfl) rfl c75 rfl rfl rfl rfl (fun G' _ => wire_Num h W0 G') ?_
    repeat' (first|refine bka ?_|(refine bk2a ?_ ?_<;>(first|exact bkn|(refine bkk ?_;intro h))))
    refine WA.call rfl rfl (by kernel_rfl) rfl c75 rfl rfl rfl rfl (fun G' _ => wire_Num hI W0 G') ?_
    repeat' (first|refine bka ?_|(refine bk2a ?_ ?_<;>(first|exact bkn|(refine bkk ?_;intro h))))
    refine WA.e1 7 (by kernel_rfl) (by kernel_rfl) rfl rfl (EffC.of (Eff.buildSlice TT rfl rfl rfl rfl rfl rfl rfl)) rfl ?_
    rintro _ _ ⟨q2, rfl, rfl⟩
    refine ⟨fun w hs => hs.drop, ?_⟩
    refine WA.e1 8 (by kernel_rfl) (by kernel_rfl) rfl rfl (EffC.call c74 rfl rfl rfl (j_join _ _ _ (addL ep ⟨n, s⟩) rfl (addL_ok h hI hf2.2.2) W0 _ (Rd.row (i := 0) rfl rfl))) rfl ?_
    rintro _ _ ⟨rfl, rfl⟩
    refine ⟨fun w hs => hs.drop, ?_⟩
    repeat' (first|refine bka ?_|(refine bk2a ?_ ?_<;>(first|exact bkn|(refine bkk ?_;intro h))))
    refine WA.fin rfl ?_
    repeat' (first|refine bk ?_|refine bkc ?_|refine bks ?_|refine bkd ?_|refine bkq (fun q => ?_)|(refine bk2 ?_ ?_<;>(first|exact bkn|(refine bkk ?_;intro h))))
    exact QS.turn (G' := G) (fun w hs => hs.drop.drop) (QS.retV Tryz.results36 rfl ⟨rfl, rfl⟩)

/-! ### What can't be read -/
def tornJ : List PanicEntry := [{ v := .iface 129 (.agg #[]), recovered := false }]
def mustR (b : Bool) (G : List SL) : Ending → List SL → Prop
  | .returned v, G' => b = true ∧ v = .tuple #[] ∧ G' = G
  | .panicked ch, G' => b = false ∧ ch = tornJ ∧ G' = G
  | .outgrown, _ => False
theorem j_must (b : Bool) (W0 : World) (G : List SL) : Fn Tryz.prog 55 [.bool b] W0 G (mustR b G) := by
  refine Fn.enter Tryz.func55 rfl Tryz.ntmps55 rfl ?_
  repeat' (first|refine bk ?_|refine bkc ?_|refine bks ?_|refine bkd ?_|refine bkq (fun q => ?_)|(refine bk2 ?_ ?_<;>(first|exact bkn|(refine bkk ?_;intro h))))
  · refine WL.s (op1_iface TT rfl rfl rfl) rfl ?_
    refine WL.panic rfl ?_
    repeat' (first|refine bk ?_|refine bkc ?_|refine bks ?_|refine bkd ?_|refine bkq (fun q => ?_)|(refine bk2 ?_ ?_<;>(first|exact bkn|(refine bkk ?_;intro h))))
    exact QS.panicV ⟨h, rfl, rfl⟩
  · exact QS.endV Tryz.results55 rfl ⟨h, rfl, rfl⟩
def numR (s : ByteArray) (G : List SL) : Ending → List SL → Prop
  | .returned v, G' => (∃ n, numP s = some n ∧ v = .int .i64 n) ∧ G' = G
  | .panicked ch, G' => numP s = none ∧ ch = tornJ ∧ G' = G
  | .outgrown, _ => False
theorem j_number (s : ByteArray) (hs : s.size ≤ 9223372036854775807) (W0 : World) (G : List SL) : Fn Tryz.prog 56 [.string s] W0 G (numR s G) := by
  refine Fn.enter Tryz.func56 rfl Tryz.ntmps56 rfl ?_
  repeat' (first|refine bk ?_|refine bkc ?_|refine bks ?_|refine bkd ?_|refine bkq (fun q => ?_)|(refine bk2 ?_ ?_<;>(first|exact bkn|(refine bkk ?_;intro h))))
  refine WL.call c64 rfl rfl rfl rfl (wire_TakeNum s hs W0 _) ?_
  rintro _ G2 ⟨rfl, hG2⟩
  rw [hG2]; clear hG2 G2
  cases hn : takeNum (bs s) with
  | none =>
    simp only
    repeat' (first|refine bk ?_|refine bkc ?_|refine bks ?_|refine bkd ?_|refine bkq (fun q => ?_)|(refine bk2 ?_ ?_<;>(first|exact bkn|(refine bkk ?_;intro h))))
    refine WL.callP c55 rfl rfl rfl rfl (j_must false W0 _) (fun _ h => h) (fun _ _ h => absurd h.1 (by simp)) ?_
    rintro _ G2 ⟨_, rfl, hG2⟩
    rw [hG2]; clear hG2 G2
    repeat' (first|refine bk ?_|refine bkc ?_|refine bks ?_|refine bkd ?_|refine bkq (fun q => ?_)|(refine bk2 ?_ ?_<;>(first|exact bkn|(refine bkk ?_;intro h))))
    exact QS.panicV ⟨by rw [numP, hn], rfl, rfl⟩
  | some p =>
    obtain ⟨n, r⟩ := p
    simp only
    repeat' (first|refine bk ?_|refine bkc ?_|refine bks ?_|refine bkd ?_|refine bkq (fun q => ?_)|(refine bk2 ?_ ?_<;>(first|exact bkn|(refine bkk ?_;intro h))))
    refine WL.callP c55 rfl rfl rfl rfl (j_must (decide (mk r = ⟨#[]⟩)) W0 _) (fun _ h => h) ?_ ?_
    · rintro _ G2 ⟨hb, rfl, hG2⟩
      rw [hG2]; clear hG2 G2
      repeat' (first|refine bk ?_|refine bkc ?_|refine bks ?_|refine bkd ?_|refine bkq (fun q => ?_)|(refine bk2 ?_ ?_<;>(first|exact bkn|(refine bkk ?_;intro h))))
      refine QS.retV Tryz.results56 rfl ⟨⟨n, ?_, rfl⟩, rfl⟩
      rw [numP, hn]
      simp only
      rw [if_pos (congrArg bs (of_decide_eq_true hb))]
    · rintro _ G2 ⟨hb, rfl, hG2⟩
      rw [hG2]; clear hG2 G2
      repeat' (first|refine bk ?_|refine bkc ?_|refine bks ?_|refine bkd ?_|refine bkq (fun q => ?_)|(refine bk2 ?_ ?_<;>(first|exact bkn|(refine bkk ?_;intro h))))
      refine QS.panicV ⟨?_, rfl, rfl⟩
      rw [numP, hn]
      simp only
      rw [if_neg (fun e => of_decide_eq_false hb (by rw [e]))]
end Go.Proofs.YtfolmcpfdcgliaaGreat.B

set_option linter.unusedVariables false
set_option linter.unusedSimpArgs false
set_option maxRecDepth 8000
/-! slices.Clone, Clip, Equal of entries. -/
namespace Go.Proofs.YtfolmcpfdcgliaaGreat.B
open Go Go.Proofs
attribute [local irreducible] WL CS QS WQ WH WS Fn Op1 row Sat
attribute [local irreducible] slc

theorem Rd.none_nil {α : Type} {W0 : World} {G : List SL} {E : EncK α} {xs : List α} (h : Rd W0 G E none xs) (hw : ∃ w, Sat W0 G w) : xs = [] := by
  obtain ⟨w, hs⟩ := hw
  rcases h w hs with h | ⟨b, o, h, _⟩
  · have h1 := congrArg List.length h
    rw [flat_len] at h1
    have := E.pos
    rcases Nat.mul_eq_zero.1 (by simpa using h1) with h2 | h2
    · exact List.eq_nil_of_length_eq_zero h2
    · omega
  · cases h
theorem ent_Clone (A : Option Addr) (k c : Nat) (xs : List Ent) (hk : k = xs.length) (hl : xs.length ≤ 1000000) (W0 : World) (G : List SL) (hR : Rd W0 G entE A xs) :
    Fn Tryz.prog 35 [.slice A k c] W0 G (Ret fun v G' => ∃ A' c', v = .slice A' xs.length c' ∧ G' = slc entE 49 A' c' xs :: G) := by
  subst hk
  refine Fn.world fun hw => ?_
  refine Fn.enter Tryz.func35 rfl Tryz.ntmps35 rfl ?_
  repeat' (first|refine bk ?_|refine bkc ?_|refine bks ?_|refine bkd ?_|refine bkq (fun q => ?_)|(refine bk2 ?_ ?_<;>(first|exact bkn|(refine bkk ?_;intro h))))
  refine WL.s (op1_eqNil TT rfl rfl rfl) rfl ?_
  cases A with
  | none =>
    obtain rfl := hR.none_nil hw
    repeat' (first|refine bk ?_|refine bkc ?_|refine bks ?_|refine bkd ?_|refine bkq (fun q => ?_)|(refine bk2 ?_ ?_<;>(first|exact bkn|(refine bkk ?_;intro h))))
    exact QS.turn (G' := slc entE 49 none 0 ([] : List Ent) :: G) (fun w hs => hs.slcNil _ _) (QS.retV Tryz.results35 rfl ⟨none, 0, rfl, rfl⟩)
  | some a =>
    repeat' (first|refine bk ?_|refine bkc ?_|refine bks ?_|refine bkd ?_|refine bkq (fun q => ?_)|(refine bk2 ?_ ?_<;>(first|exact bkn|(refine bkk ?_;intro h))))
    refine WL.buildSlice TT rfl rfl rfl rfl rfl rfl rfl rfl (fun q => ?_)
    refine WL.turn (fun w hs => row_slc (α := Ent) entE hs) ?_
    repeat' (first|refine bk ?_|refine bkc ?_|refine bks ?_|refine bkd ?_|refine bkq (fun q => ?_)|(refine bk2 ?_ ?_<;>(first|exact bkn|(refine bkk ?_;intro h))))
    refine WL.append TT (E := entE) (xs := []) (ys := xs) 0 rfl rfl rfl rfl rfl hR.cons rfl rfl rfl rfl rfl (by decide) (by simp only [List.length_nil]; omega) (fun _ _ => rfl) rfl (fun A5 c5 => ?_)
    rw [List.nil_append]
    repeat' (first|refine bk ?_|refine bkc ?_|refine bks ?_|refine bkd ?_|refine bkq (fun q => ?_)|(refine bk2 ?_ ?_<;>(first|exact bkn|(refine bkk ?_;intro h))))
    exact QS.retV Tryz.results35 rfl ⟨A5, c5, rfl, rfl⟩
end Go.Proofs.YtfolmcpfdcgliaaGreat.B
