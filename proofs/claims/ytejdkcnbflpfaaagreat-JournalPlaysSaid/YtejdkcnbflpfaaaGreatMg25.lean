import Derived.Test.YtejdkcnbflpfaaaGreatMg14
import Derived.Test.YtejdkcnbflpfaaaGreatMg23
import Derived.Test.YtejdkcnbflpfaaaGreatMg24
import Derived.Test.YtejdkcnbflpfaaaGreatMg16
import Derived.Test.YtejdkcnbflpfaaaGreatMg11
set_option linter.unusedVariables false
set_option linter.unusedSimpArgs false
set_option maxRecDepth 8000
/-! The document's texts of a journal. -/
namespace Go.Proofs.YtejdkcnbflpfaaaGreat.B
open Go Go.Proofs
attribute [local irreducible] WL CS QS WQ WH WS Fn Op1 row Sat
attribute [local irreducible] slc

theorem r_join (A : Option Addr) (k c : Nat) (xs : List ByteArray) (hk : k = xs.length) (hx : joinOk xs = true) (W0 : World) (G : List SL) (hR : Rd W0 G strE A xs) :
    Fn Tryz.prog 97 [.slice A k c] W0 G (Ret fun v G' => v = .string (mk (joinB xs)) ∧ G' = G) := by
  obtain ⟨h1, h2⟩ := joinOk_iff.1 hx
  refine Fn.enter Tryz.func97 rfl Tryz.ntmps97 rfl ?_
  repeat' (first|refine bk ?_|refine bkc ?_|refine bks ?_|refine bkd ?_|refine bkq (fun q => ?_)|(refine bk2 ?_ ?_<;>(first|exact bkn|(refine bkk ?_;intro h))))
  refine WL.call c129 rfl rfl rfl rfl (ref_Join A k c xs hk (fun s hs => by have := h2 s hs; omega) (by omega) W0 _ hR) ?_
  rintro _ G2 ⟨rfl, hG2⟩
  rw [hG2]; clear hG2 G2
  rw [if_pos hx]
  repeat' (first|refine bk ?_|refine bkc ?_|refine bks ?_|refine bkd ?_|refine bkq (fun q => ?_)|(refine bk2 ?_ ?_<;>(first|exact bkn|(refine bkk ?_;intro h))))
  exact QS.retV Tryz.results97 rfl ⟨rfl, rfl⟩
theorem r_num (n : Int) (h : I64 n) (W0 : World) (G : List SL) :
    Fn Tryz.prog 98 [.int .i64 n] W0 G (Ret fun v G' => v = .string (mk (numB n)) ∧ G' = G) := by
  refine Fn.enter Tryz.func98 rfl Tryz.ntmps98 rfl ?_
  repeat' (first|refine bk ?_|refine bkc ?_|refine bks ?_|refine bkd ?_|refine bkq (fun q => ?_)|(refine bk2 ?_ ?_<;>(first|exact bkn|(refine bkk ?_;intro h))))
  refine WL.call c118 rfl rfl rfl rfl (ref_Num h W0 _) ?_
  rintro _ G2 ⟨rfl, hG2⟩
  rw [hG2]; clear hG2 G2
  repeat' (first|refine bk ?_|refine bkc ?_|refine bks ?_|refine bkd ?_|refine bkq (fun q => ?_)|(refine bk2 ?_ ?_<;>(first|exact bkn|(refine bkk ?_;intro h))))
  exact QS.retV Tryz.results98 rfl ⟨rfl, rfl⟩
theorem r_Promise (ep : Int) (h : I64 ep) (W0 : World) (G : List SL) :
    Fn Tryz.prog 58 [.int .i64 ep] W0 G (Ret fun v G' => v = .string (mk (joinB (promL ep))) ∧ G' = G) := by
  refine Fn.enter Tryz.func58 rfl Tryz.ntmps58 rfl ?_
  repeat' (first|refine bk ?_|refine bkc ?_|refine bks ?_|refine bkd ?_|refine bkq (fun q => ?_)|(refine bk2 ?_ ?_<;>(first|exact bkn|(refine bkk ?_;intro h))))
  refine WL.call c98 rfl rfl rfl rfl (r_num ep h W0 _) ?_
  rintro _ G2 ⟨rfl, hG2⟩
  rw [hG2]; clear hG2 G2
  repeat' (first|refine bk ?_|refine bkc ?_|refine bks ?_|refine bkd ?_|refine bkq (fun q => ?_)|(refine bk2 ?_ ?_<;>(first|exact bkn|(refine bkk ?_;intro h))))
  refine WL.buildSlice TT rfl rfl rfl rfl rfl rfl rfl rfl (fun q => ?_)
  refine WL.call c97 rfl rfl rfl rfl (r_join _ _ _ (promL ep) rfl (promL_ok h) W0 _ (Rd.row (i := 0) rfl rfl)) ?_
  rintro _ _ ⟨rfl, rfl⟩
  repeat' (first|refine bk ?_|refine bkc ?_|refine bks ?_|refine bkd ?_|refine bkq (fun q => ?_)|(refine bk2 ?_ ?_<;>(first|exact bkn|(refine bkk ?_;intro h))))
  exact QS.turn (G' := G) (fun w hs => hs.drop) (QS.retV Tryz.results58 rfl ⟨rfl, rfl⟩)
set_option maxHeartbeats 1000000 in
theorem r_Accept (ep : Int) (h : I64 ep) (A : Option Addr) (k c : Nat) (xs : List Ent) (hk : k = xs.length) (hl : xs.length ≤ 9223372036854775807) (W0 : World) (G : List SL) (hR : Rd W0 G entE A xs) :
    Fn Tryz.prog 59 [.int .i64 ep, .slice A k c] W0 G (Ret fun v G' => v = (if logOk ep xs = true then .tuple #[.string (mk (joinB (accL ep xs))), .bool true] else .tuple #[.string ⟨#[]⟩, .bool false]) ∧ G' = G) := by
  subst hk
  refine Fn.enter Tryz.func59 rfl Tryz.ntmps59 rfl ?_
  repeat' (first|refine bk ?_|refine bkc ?_|refine bks ?_|refine bkd ?_|refine bkq (fun q => ?_)|(refine bk2 ?_ ?_<;>(first|exact bkn|(refine bkk ?_;intro h))))
  refine WL.call c99 rfl rfl rfl rfl (ref_Right ep A _ c xs rfl W0 _ hR) ?_
  rintro _ G2 ⟨rfl, hG2⟩
  rw [hG2]; clear hG2 G2
  cases hok : logOk ep xs with
  | false =>
    repeat' (first|refine bk ?_|refine bkc ?_|refine bks ?_|refine bkd ?_|refine bkq (fun q => ?_)|(refine bk2 ?_ ?_<;>(first|exact bkn|(refine bkk ?_;intro h))))
    exact QS.retV Tryz.results59 rfl ⟨rfl, rfl⟩
  | true =>
    obtain ⟨⟨h1, h2, h3⟩, h4⟩ := logOk_iff.1 hok
    repeat' (first|refine bk ?_|refine bkc ?_|refine bks ?_|refine bkd ?_|refine bkq (fun q => ?_)|(refine bk2 ?_ ?_<;>(first|exact bkn|(refine bkk ?_;intro h))))
    refine WL.call c98 rfl rfl rfl rfl (r_num ep h W0 _) ?_
    rintro _ G2 ⟨rfl, hG2⟩
    rw [hG2]; clear hG2 G2
    repeat' (first|refine bk ?_|refine bkc ?_|refine bks ?_|refine bkd ?_|refine bkq (fun q => ?_)|(refine bk2 ?_ ?_<;>(first|exact bkn|(refine bkk ?_;intro h))))
    refine WL.buildSlice TT rfl rfl rfl rfl rfl rfl rfl rfl (fun q => ?_)
    repeat' (first|refine bk ?_|refine bkc ?_|refine bks ?_|refine bkd ?_|refine bkq (fun q => ?_)|(refine bk2 ?_ ?_<;>(first|exact bkn|(refine bkk ?_;intro h))))
    refine CS.loop (X := Nat × Option Addr × Nat) (fun y => [(1, .slice A xs.length c), (7, .slice y.2.1 (accL ep (xs.take y.1)).length y.2.2), (8, .int .i64 (y.1 : Int))])
      (fun y => slc strE 9 y.2.1 y.2.2 (accL ep (xs.take y.1)) :: G) (fun y => y.1 ≤ xs.length) (fun y => xs.length - y.1) (0, some ⟨q, 0, none⟩, 2) ⟨rfl, rfl, rfl, trivial⟩ (fun w hs => row_own strE (accL ep []) rfl (by simp [accL, maxLen]) hs) (Nat.zero_le _) ?_
    rintro ⟨i, A1, c1⟩ hi
    simp only at hi ⊢
    have hal : (accL ep (xs.take i)).length = i + 2 := by simp [accL]; omega
    repeat' (first|refine bk ?_|refine bkc ?_|refine bks ?_|refine bkd ?_|refine bkq (fun q => ?_)|(refine bk2 ?_ ?_<;>(first|exact bkn|(refine bkk ?_;intro h))))
    · obtain ⟨x, hx⟩ : ∃ x, xs[i]? = some x := ⟨xs[i]'(by omega), List.getElem?_eq_getElem (by omega)⟩
      refine WL.idx TT hR.cons rfl rfl rfl (by omega) (by rw [Int.toNat_natCast]; exact hx) rfl rfl rfl rfl (fun bb o hA => ?_)
      repeat' (first|refine bk ?_|refine bkc ?_|refine bks ?_|refine bkd ?_|refine bkq (fun q => ?_)|(refine bk2 ?_ ?_<;>(first|exact bkn|(refine bkk ?_;intro h))))
      refine WL.s (op1_atF TT 1 hA rfl rfl rfl rfl rfl) rfl ?_
      repeat' (first|refine bk ?_|refine bkc ?_|refine bks ?_|refine bkd ?_|refine bkq (fun q => ?_)|(refine bk2 ?_ ?_<;>(first|exact bkn|(refine bkk ?_;intro h))))
      refine WL.buildSlice TT rfl rfl rfl rfl rfl rfl rfl rfl (fun qs => ?_)
      refine WL.append TT (E := strE) (xs := accL ep (xs.take i)) (ys := [x.s]) 1 rfl rfl rfl rfl rfl (Rd.row (i := 0) rfl rfl) rfl rfl rfl rfl rfl (by decide) (by simp only [List.length_cons, List.length_nil]; omega) (fun _ _ => rfl) rfl (fun A5 c5 => ?_)
      have hsn : accL ep (xs.take i) ++ [x.s] = accL ep (xs.take (i + 1)) := by
        rw [List.take_add_one, hx]; simp [accL]
      rw [hsn]
      repeat' (first|refine bk ?_|refine bkc ?_|refine bks ?_|refine bkd ?_|refine bkq (fun q => ?_)|(refine bk2 ?_ ?_<;>(first|exact bkn|(refine bkk ?_;intro h))))
      refine QS.again (i + 1, A5, c5) (by simp only; omega) (by simp only; omega) ⟨rfl, rfl, ?_, trivial⟩ (fun w hs => hs.drop)
      rw [show ((i + 1 : Nat) : Int) = (i : Int) + 1 from by omega]; rfl
    · have hix : i = xs.length := by omega
      subst hix
      rw [List.take_length] at *
      refine WL.call c97 rfl rfl rfl rfl (r_join _ _ _ (accL ep xs) rfl (accL_ok hok) W0 _ (Rd.slc (i := 0) rfl)) ?_
      rintro _ _ ⟨rfl, rfl⟩
      repeat' (first|refine bk ?_|refine bkc ?_|refine bks ?_|refine bkd ?_|refine bkq (fun q => ?_)|(refine bk2 ?_ ?_<;>(first|exact bkn|(refine bkk ?_;intro h))))
      exact QS.turn (G' := G) (fun w hs => hs.drop) (QS.retV Tryz.results59 rfl ⟨rfl, rfl⟩)
def fitsR (n : Int) (s : ByteArray) : Bool := decide (1 ≤ n ∧ n ≤ 300 ∧ s.size ≤ 600)
set_option maxHeartbeats 1000000 in
theorem r_Add (ep : Int) (hep : I64 ep) (n : Int) (s : ByteArray) (W0 : World) (G : List SL) :
    Fn Tryz.prog 60 [.int .i64 ep, .agg #[.int .i64 n, .string s]] W0 G (Ret fun v G' => v = (if fitsR n s = true then .tuple #[.string (mk (joinB (addL ep ⟨n, s⟩))), .bool true] else .tuple #[.string ⟨#[]⟩, .bool false]) ∧ G' = G) := by
  refine Fn.enter Tryz.func60 rfl Tryz.ntmps60 rfl ?_
  by_cases hf : 1 ≤ n ∧ n ≤ 300 ∧ s.size ≤ 600
  · have hfb : fitsR n s = true := decide_eq_true hf
    have hI : I64 n := by unfold I64; omega
    rw [if_pos hfb]
    repeat' (first|refine bk ?_|refine bkc ?_|refine bks ?_|refine bkd ?_|refine bkq (fun q => ?_)|(refine bk2 ?_ ?_<;>(first|exact bkn|(refine bkk ?_;intro h))))
    refine CS.drawA _ (fun w hs => hs) mixed (by kernel_rfl) rfl ?_
    repeat' (first|refine bka ?_|(refine bk2a ?_ ?_<;>(first|exact bkn|(refine bkk ?_;intro h))))
    refine WA.call rfl rfl (by kernel_rfl) rfl c98 rfl rfl rfl rfl (fun G' _ => r_num ep hep W0 G') ?_
    repeat' (first|refine bka ?_|(refine bk2a ?_ ?_<;>(first|exact bkn|(refine bkk ?_;intro h))))
    refine WA.call rfl rfl (by kernel_rfl) rfl c98 rfl rfl rfl rfl (fun G' _ => r_num n hI W0 G') ?_
    repeat' (first|refine bka ?_|(refine bk2a ?_ ?_<;>(first|exact bkn|(refine bkk ?_;intro h))))
    refine WA.e1 7 (by kernel_rfl) (by kernel_rfl) rfl rfl (EffC.of (Eff.buildSlice TT rfl rfl rfl rfl rfl rfl rfl)) rfl ?_
    rintro _ _ ⟨q2, rfl, rfl⟩
    refine ⟨fun w hs => hs.drop, ?_⟩
    refine WA.e1 8 (by kernel_rfl) (by kernel_rfl) rfl rfl (EffC.call c97 rfl rfl rfl (r_join _ _ _ (addL ep ⟨n, s⟩) rfl (addL_ok hep hI hf.2.2) W0 _ (Rd.row (i := 0) rfl rfl))) rfl ?_
    rintro _ _ ⟨rfl, rfl⟩
    refine ⟨fun w hs => hs.drop, ?_⟩
    repeat' (first|refine bka ?_|(refine bk2a ?_ ?_<;>(first|exact bkn|(refine bkk ?_;intro h))))
    refine WA.fin rfl ?_
    repeat' (first|refine bk ?_|refine bkc ?_|refine bks ?_|refine bkd ?_|refine bkq (fun q => ?_)|(refine bk2 ?_ ?_<;>(first|exact bkn|(refine bkk ?_;intro h))))
    exact QS.turn (G' := G) (fun w hs => hs.drop.drop) (QS.retV Tryz.results60 rfl ⟨rfl, rfl⟩)
  · have hfb : fitsR n s = false := decide_eq_false hf
    rw [hfb]
    repeat' (first|refine bk ?_|refine bkc ?_|refine bks ?_|refine bkd ?_|refine bkq (fun q => ?_)|(refine bk2 ?_ ?_<;>(first|exact bkn|(refine bkk ?_;intro h))))
    all_goals exact QS.turn (G' := G) (fun w hs => hs.drop) (QS.retV Tryz.results60 rfl ⟨rfl, rfl⟩)
theorem r_number (s : ByteArray) (hs : s.size ≤ 9223372036854775807) (W0 : World) (G : List SL) : Fn Tryz.prog 46 [.string s] W0 G (Ret fun v G' => (∃ n, v = .tuple #[.int .i64 n, .bool (numP s).isSome] ∧ ∀ m, numP s = some m → n = m) ∧ G' = G) := by
  refine Fn.enter Tryz.func46 rfl Tryz.ntmps46 rfl ?_
  repeat' (first|refine bk ?_|refine bkc ?_|refine bks ?_|refine bkd ?_|refine bkq (fun q => ?_)|(refine bk2 ?_ ?_<;>(first|exact bkn|(refine bkk ?_;intro h))))
  refine WL.call c88 rfl rfl rfl rfl (ref_TakeNum s hs W0 _) ?_
  rintro _ G2 ⟨rfl, hG2⟩
  rw [hG2]; clear hG2 G2
  cases hn : takeNum (bs s) with
  | none =>
    simp only [takeNumV]
    repeat' (first|refine bk ?_|refine bkc ?_|refine bks ?_|refine bkd ?_|refine bkq (fun q => ?_)|(refine bk2 ?_ ?_<;>(first|exact bkn|(refine bkk ?_;intro h))))
    have e1 : numP s = none := by rw [numP, hn]
    exact QS.retV Tryz.results46 rfl ⟨⟨0, by rw [e1]; rfl, fun m hm => by rw [e1] at hm; cases hm⟩, rfl⟩
  | some p =>
    obtain ⟨n, r⟩ := p
    simp only [takeNumV]
    repeat' (first|refine bk ?_|refine bkc ?_|refine bks ?_|refine bkd ?_|refine bkq (fun q => ?_)|(refine bk2 ?_ ?_<;>(first|exact bkn|(refine bkk ?_;intro h))))
    have e1 : numP s = if r = [] then some n else none := by rw [numP, hn]
    refine QS.retV Tryz.results46 rfl ⟨⟨n, ?_, fun m hm => ?_⟩, rfl⟩
    · rw [show (numP s).isSome = decide (mk r = ⟨#[]⟩) from by
        rw [e1]
        by_cases hr : r = []
        · rw [if_pos hr, hr]; rfl
        · rw [if_neg hr, decide_eq_false (fun e => hr (congrArg bs e))]; rfl]
      rfl
    · rw [e1] at hm
      split at hm
      · exact Option.some.inj hm
      · cases hm
end Go.Proofs.YtejdkcnbflpfaaaGreat.B

set_option linter.unusedVariables false
set_option linter.unusedSimpArgs false
set_option maxRecDepth 8000
/-! Texts as one, in the code. -/
namespace Go.Proofs.YtejdkcnbflpfaaaGreat.B
open Go Go.Proofs
attribute [local irreducible] WL CS QS WQ WH WS Fn Op1 row Sat
attribute [local irreducible] slc bldA

theorem wire_Join (A : Option Addr) (k c : Nat) (xs : List ByteArray) (hk : k = xs.length) (hx : ∀ s ∈ xs, s.size ≤ 9223372036854775807) (hl : xs.length ≤ 9223372036854775807) (W0 : World) (G : List SL) (hR : Rd W0 G strE A xs) :
    Fn Tryz.prog 108 [.slice A k c] W0 G (Ret fun v G' => v = (if joinOk xs then .tuple #[.string (mk (joinB xs)), .int .i64 0] else .tuple #[.string ⟨#[]⟩, .int .i64 4]) ∧ G' = G) := by
  subst hk
  refine Fn.enter Tryz.func108 rfl Tryz.ntmps108 rfl ?_
  repeat' (first|refine bk ?_|refine bkc ?_|refine bks ?_|refine bkd ?_|refine bkq (fun q => ?_)|(refine bk2 ?_ ?_<;>(first|exact bkn|(refine bkk ?_;intro h))))
  · refine QS.retV Tryz.results108 rfl ⟨?_, rfl⟩
    rw [if_neg (fun e => by have := (joinOk_iff.1 e).1; omega)]; rfl
  have hl2 : xs.length ≤ 1000 := by omega
  refine WL.turn (fun w hs => bldA_new w hs) ?_
  refine WL.call c17 rfl rfl rfl rfl (wire_Num (n := (xs.length : Int)) (by unfold I64; omega) W0 _) ?_
  rintro _ _ ⟨rfl, rfl⟩
  have hnl := num_len (n := (xs.length : Int)) (by unfold I64; omega)
  have hnp := num_pos (xs.length : Int)
  repeat' (first|refine bk ?_|refine bkc ?_|refine bks ?_|refine bkd ?_|refine bkq (fun q => ?_)|(refine bk2 ?_ ?_<;>(first|exact bkn|(refine bkk ?_;intro h))))
  refine WL.call c110 rfl rfl rfl rfl (bld_WriteString q [] (mk (numB xs.length)) (by rw [mk_size]; simp; omega) W0 _) ?_
  rintro _ _ ⟨rfl, rfl⟩
  rw [List.nil_append, bs_mk]
  repeat' (first|refine bk ?_|refine bkc ?_|refine bks ?_|refine bkd ?_|refine bkq (fun q => ?_)|(refine bk2 ?_ ?_<;>(first|exact bkn|(refine bkk ?_;intro h))))
  refine CS.loop (X := Nat) (fun i => [(2, .string ⟨#[]⟩), (3, .int .i64 0), (4, .pointer (some ⟨q, 0, none⟩)), (16, .slice A xs.length c), (17, .int .i64 (xs.length : Int)), (18, .int .i64 (i : Int))])
    (fun i => bldA q (numB xs.length ++ joinT (xs.take i)) :: G) (fun i => i ≤ xs.length ∧ ∀ s ∈ xs.take i, s.size ≤ 4000) (fun i => xs.length - i) 0 ⟨rfl, rfl, rfl, rfl, rfl, rfl, trivial⟩ (fun w hs => by rw [List.take_zero, show joinT [] = [] from rfl, List.append_nil]; exact hs) ⟨Nat.zero_le _, fun s hs => by cases hs⟩ ?_
  rintro i ⟨hi, hs⟩
  have hjl := joinT_len hs
  rw [List.length_take] at hjl
  repeat' (first|refine bk ?_|refine bkc ?_|refine bks ?_|refine bkd ?_|refine bkq (fun q => ?_)|(refine bk2 ?_ ?_<;>(first|exact bkn|(refine bkk ?_;intro h))))
  · obtain ⟨s, hsx⟩ : ∃ x, xs[i]? = some x := ⟨xs[i]'(by omega), List.getElem?_eq_getElem (by omega)⟩
    refine WL.idx TT hR.cons rfl rfl rfl (by omega) (by rw [Int.toNat_natCast]; exact hsx) rfl rfl rfl rfl (fun bb o hA => ?_)
    refine WL.s (op1_at TT hA rfl rfl rfl rfl) rfl ?_
    repeat' (first|refine bk ?_|refine bkc ?_|refine bks ?_|refine bkd ?_|refine bkq (fun q => ?_)|(refine bk2 ?_ ?_<;>(first|exact bkn|(refine bkk ?_;intro h))))
    refine WL.call c134 rfl rfl rfl rfl (wire_Text s (hx s (List.mem_of_getElem? hsx)) W0 _) ?_
    rintro _ _ ⟨rfl, rfl⟩
    by_cases hb : 4000 < s.size
    · rw [if_pos hb]
      repeat' (first|refine bk ?_|refine bkc ?_|refine bks ?_|refine bkd ?_|refine bkq (fun q => ?_)|(refine bk2 ?_ ?_<;>(first|exact bkn|(refine bkk ?_;intro h))))
      refine QS.turn (G' := G) (fun w hs => hs.drop) (QS.retV Tryz.results108 rfl ⟨?_, rfl⟩)
      rw [if_neg (fun e => by have := (joinOk_iff.1 e).2 s (List.mem_of_getElem? hsx); omega)]; rfl
    · rw [if_neg hb]
      have htl := textB_len (s := s) (by omega)
      repeat' (first|refine bk ?_|refine bkc ?_|refine bks ?_|refine bkd ?_|refine bkq (fun q => ?_)|(refine bk2 ?_ ?_<;>(first|exact bkn|(refine bkk ?_;intro h))))
      refine WL.call c110 rfl rfl rfl rfl (bld_WriteString q _ (mk (textB (bs s))) (by rw [mk_size, List.length_append]; omega) W0 _) ?_
      rintro _ _ ⟨rfl, rfl⟩
      repeat' (first|refine bk ?_|refine bkc ?_|refine bks ?_|refine bkd ?_|refine bkq (fun q => ?_)|(refine bk2 ?_ ?_<;>(first|exact bkn|(refine bkk ?_;intro h))))
      refine QS.again (i + 1) ⟨by omega, fun x hx => ?_⟩ (by omega) ⟨rfl, rfl, rfl, rfl, rfl, ?_, trivial⟩ (fun w hs => ?_)
      · rw [List.take_add_one, hsx] at hx
        rcases List.mem_append.1 hx with h | h
        · exact hs x h
        · simp at h; subst h; omega
      · rw [show ((i + 1 : Nat) : Int) = (i : Int) + 1 from by omega]; rfl
      · rw [List.take_add_one, hsx, Option.toList_some, joinT_snoc, ← List.append_assoc]; rw [bs_mk] at hs; exact hs
  · have hix : i = xs.length := by omega
    subst hix
    rw [List.take_length] at hs ⊢
    refine WL.call c112 rfl rfl rfl rfl (bld_String q _ (fun e => by rw [List.append_eq_nil_iff] at e; rw [e.1] at hnp; simp at hnp) W0 _) ?_
    rintro _ _ ⟨rfl, rfl⟩
    repeat' (first|refine bk ?_|refine bkc ?_|refine bks ?_|refine bkd ?_|refine bkq (fun q => ?_)|(refine bk2 ?_ ?_<;>(first|exact bkn|(refine bkk ?_;intro h))))
    refine QS.retV Tryz.results108 rfl ⟨?_, rfl⟩
    rw [if_pos (joinOk_iff.2 ⟨hl2, hs⟩)]; rfl

set_option maxHeartbeats 1000000 in
theorem wire_Split (s : ByteArray) (hs : s.size ≤ 9223372036854775807) (W0 : World) (G : List SL) :
    Fn Tryz.prog 93 [.string s] W0 G (Ret fun v G' => match splitP (bs s) with
      | some l => ∃ A c, v = .tuple #[.slice A l.length c, .int .i64 0] ∧ G' = slc strE 9 A c l :: G
      | none => v = .tuple #[.slice none 0 0, .int .i64 2] ∧ G' = G) := by
  refine Fn.enter Tryz.func93 rfl Tryz.ntmps93 rfl ?_
  repeat' (first|refine bk ?_|refine bkc ?_|refine bks ?_|refine bkd ?_|refine bkq (fun q => ?_)|(refine bk2 ?_ ?_<;>(first|exact bkn|(refine bkk ?_;intro h))))
  refine WL.call c41 rfl rfl rfl rfl (wire_TakeNum s hs W0 _) ?_
  rintro _ G2 ⟨rfl, hG2⟩
  rw [hG2]; clear hG2 G2
  have hbl := bs_len s
  cases hn : takeNum (bs s) with
  | none =>
    simp only
    repeat' (first|refine bk ?_|refine bkc ?_|refine bks ?_|refine bkd ?_|refine bkq (fun q => ?_)|(refine bk2 ?_ ?_<;>(first|exact bkn|(refine bkk ?_;intro h))))
    refine QS.retV Tryz.results93 rfl ?_
    rw [splitP, hn]
    exact ⟨rfl, rfl⟩
  | some p =>
    obtain ⟨n, r⟩ := p
    have hnr := takeNum_some hn
    have hI := hnr.1
    unfold I64 at hI
    have hrl : r.length ≤ s.size := by rw [← hbl, hnr.2, List.length_append]; omega
    simp only
    repeat' (first|refine bk ?_|refine bkc ?_|refine bks ?_|refine bkd ?_|refine bkq (fun q => ?_)|(refine bk2 ?_ ?_<;>(first|exact bkn|(refine bkk ?_;intro h))))
    · refine QS.retV Tryz.results93 rfl ?_
      rw [splitP, hn]
      simp only
      rw [if_pos (by omega)]
      exact ⟨rfl, rfl⟩
    · refine QS.retV Tryz.results93 rfl ?_
      rw [splitP, hn]
      simp only
      rw [if_pos (by omega)]
      exact ⟨rfl, rfl⟩
    have hsp : splitP (bs s) = splitE (texts n.toNat r) := by
      rw [splitP, hn]
      simp only
      rw [if_neg (by omega)]
    refine CS.loop (X := Nat × Option Addr × Nat × List ByteArray × List UInt8) (fun y => [(2, .slice none 0 0), (3, .int .i64 0), (5, .string (mk y.2.2.2.2)), (7, .slice y.2.1 y.2.2.2.1.length y.2.2.1), (25, .int .i64 n), (26, .int .i64 (y.1 : Int))])
      (fun y => slc strE 9 y.2.1 y.2.2.1 y.2.2.2.1 :: G) (fun y => (y.1 : Int) ≤ n ∧ y.2.2.2.1.length = y.1 ∧ y.2.2.2.2.length ≤ s.size ∧ texts n.toNat r = (texts (n.toNat - y.1) y.2.2.2.2).map fun p => (y.2.2.2.1 ++ p.1, p.2))
      (fun y => n.toNat - y.1) (0, none, 0, [], r) ⟨rfl, rfl, rfl, rfl, rfl, rfl, trivial⟩ (fun w hs => hs.slcNil _ _) ⟨by simp only; omega, rfl, hrl, by simp⟩ ?_
    rintro ⟨i, A, c, xs, r2⟩ ⟨hi, hxl, hr2, hT⟩
    simp only at hi hxl hr2 hT ⊢
    repeat' (first|refine bk ?_|refine bkc ?_|refine bks ?_|refine bkd ?_|refine bkq (fun q => ?_)|(refine bk2 ?_ ?_<;>(first|exact bkn|(refine bkk ?_;intro h))))
    · obtain ⟨m, hm⟩ : ∃ m, n.toNat - i = m + 1 := ⟨n.toNat - i - 1, by omega⟩
      rw [hm] at hT
      refine WL.call c76 rfl rfl rfl rfl (wire_TakeText (mk r2) (by rw [mk_size]; omega) W0 _) ?_
      rintro _ _ ⟨rfl, rfl⟩
      rw [bs_mk]
      cases ht : takeText r2 with
      | none =>
        simp only [takeTextV]
        repeat' (first|refine bk ?_|refine bkc ?_|refine bks ?_|refine bkd ?_|refine bkq (fun q => ?_)|(refine bk2 ?_ ?_<;>(first|exact bkn|(refine bkk ?_;intro h))))
        refine QS.turn (G' := G) (fun w hs => hs.drop) (QS.retV Tryz.results93 rfl ?_)
        rw [hsp, hT, texts_stop ht]
        simp only [Option.map_none, splitE]
        exact ⟨rfl, rfl⟩
      | some q =>
        obtain ⟨x, r3⟩ := q
        have hts := takeText_some ht
        have hr3 : r3.length ≤ r2.length := by rw [hts.1, List.length_append]; omega
        simp only [takeTextV]
        repeat' (first|refine bk ?_|refine bkc ?_|refine bks ?_|refine bkd ?_|refine bkq (fun q => ?_)|(refine bk2 ?_ ?_<;>(first|exact bkn|(refine bkk ?_;intro h))))
        refine WL.buildSlice TT rfl rfl rfl rfl rfl rfl rfl rfl (fun q => ?_)
        refine WL.append TT (E := strE) (xs := xs) (ys := [mk x]) 1 rfl rfl rfl rfl rfl (Rd.row (i := 0) rfl rfl) rfl rfl rfl rfl rfl (by decide) (by simp only [List.length_cons, List.length_nil]; omega) (fun _ _ => rfl) rfl (fun A5 c5 => ?_)
        repeat' (first|refine bk ?_|refine bkc ?_|refine bks ?_|refine bkd ?_|refine bkq (fun q => ?_)|(refine bk2 ?_ ?_<;>(first|exact bkn|(refine bkk ?_;intro h))))
        refine QS.again (i + 1, A5, c5, xs ++ [mk x], r3) ⟨by simp only; omega, by simp [hxl], by simp only; omega, ?_⟩ (by simp only; omega) ⟨rfl, rfl, rfl, rfl, rfl, ?_, trivial⟩ (fun w hs => hs.drop)
        · simp only
          rw [show n.toNat - (i + 1) = m from by omega]
          exact texts_go hT ht
        · rw [show ((i + 1 : Nat) : Int) = (i : Int) + 1 from by omega]; rfl
    all_goals
      rw [show n.toNat - i = 0 from by omega, texts] at hT
      simp only [Option.map_some, List.append_nil] at hT
      rw [hT, splitE] at hsp
    · refine QS.turn (G' := G) (fun w hs => hs.drop) (QS.retV Tryz.results93 rfl ?_)
      rw [hsp, if_neg (fun e => ‹¬ mk r2 = _› (by rw [e]))]
      exact ⟨rfl, rfl⟩
    · refine QS.retV Tryz.results93 rfl ?_
      rw [hsp, if_pos (by have := congrArg bs ‹mk r2 = _›; rw [bs_mk] at this; exact this)]
      exact ⟨A, c, rfl, rfl⟩
end Go.Proofs.YtejdkcnbflpfaaaGreat.B
