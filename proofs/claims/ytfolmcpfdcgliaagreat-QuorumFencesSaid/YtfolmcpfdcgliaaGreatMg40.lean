import Derived.Test.YtfolmcpfdcgliaaGreatMg14
import Derived.Test.YtfolmcpfdcgliaaGreatMg23
import Derived.Test.YtfolmcpfdcgliaaGreatMg39
import Derived.Test.YtfolmcpfdcgliaaGreatMg25
import Derived.Test.YtfolmcpfdcgliaaGreatMg34
import Derived.Test.YtfolmcpfdcgliaaGreatMg19
import Derived.Test.YtfolmcpfdcgliaaGreatMg11
set_option linter.unusedVariables false
set_option linter.unusedSimpArgs false
set_option maxRecDepth 8000
/-! The document's texts of a journal. -/
namespace Go.Proofs.YtfolmcpfdcgliaaGreat.B
open Go Go.Proofs
attribute [local irreducible] WL CS QS WQ WH WS Fn Op1 row Sat
attribute [local irreducible] slc

theorem r_join (A : Option Addr) (k c : Nat) (xs : List ByteArray) (hk : k = xs.length) (hx : joinOk xs = true) (W0 : World) (G : List SL) (hR : Rd W0 G strE A xs) :
    Fn Tryz.prog 126 [.slice A k c] W0 G (Ret fun v G' => v = .string (mk (joinB xs)) ∧ G' = G) := by
  obtain ⟨h1, h2⟩ := joinOk_iff.1 hx
  refine Fn.enter Tryz.func126 rfl Tryz.ntmps126 rfl ?_
  repeat' (first|refine bk ?_|refine bkc ?_|refine bks ?_|refine bkd ?_|refine bkq (fun q => ?_)|(refine bk2 ?_ ?_<;>(first|exact bkn|(refine bkk ?_;intro h))))
  refine WL.call c175 rfl rfl rfl rfl (ref_Join A k c xs hk (fun s hs => by have := h2 s hs; omega) (by omega) W0 _ hR) ?_
  rintro _ G2 ⟨rfl, hG2⟩
  rw [hG2]; clear hG2 G2
  rw [if_pos hx]
  repeat' (first|refine bk ?_|refine bkc ?_|refine bks ?_|refine bkd ?_|refine bkq (fun q => ?_)|(refine bk2 ?_ ?_<;>(first|exact bkn|(refine bkk ?_;intro h))))
  exact QS.retV Tryz.results126 rfl ⟨rfl, rfl⟩
theorem r_num (n : Int) (h : I64 n) (W0 : World) (G : List SL) :
    Fn Tryz.prog 127 [.int .i64 n] W0 G (Ret fun v G' => v = .string (mk (numB n)) ∧ G' = G) := by
  refine Fn.enter Tryz.func127 rfl Tryz.ntmps127 rfl ?_
  repeat' (first|refine bk ?_|refine bkc ?_|refine bks ?_|refine bkd ?_|refine bkq (fun q => ?_)|(refine bk2 ?_ ?_<;>(first|exact bkn|(refine bkk ?_;intro h))))
  refine WL.call c152 rfl rfl rfl rfl (ref_Num h W0 _) ?_
  rintro _ G2 ⟨rfl, hG2⟩
  rw [hG2]; clear hG2 G2
  repeat' (first|refine bk ?_|refine bkc ?_|refine bks ?_|refine bkd ?_|refine bkq (fun q => ?_)|(refine bk2 ?_ ?_<;>(first|exact bkn|(refine bkk ?_;intro h))))
  exact QS.retV Tryz.results127 rfl ⟨rfl, rfl⟩
theorem r_Promise (ep : Int) (h : I64 ep) (W0 : World) (G : List SL) :
    Fn Tryz.prog 81 [.int .i64 ep] W0 G (Ret fun v G' => v = .string (mk (joinB (promL ep))) ∧ G' = G) := by
  refine Fn.enter Tryz.func81 rfl Tryz.ntmps81 rfl ?_
  repeat' (first|refine bk ?_|refine bkc ?_|refine bks ?_|refine bkd ?_|refine bkq (fun q => ?_)|(refine bk2 ?_ ?_<;>(first|exact bkn|(refine bkk ?_;intro h))))
  refine WL.call c127 rfl rfl rfl rfl (r_num ep h W0 _) ?_
  rintro _ G2 ⟨rfl, hG2⟩
  rw [hG2]; clear hG2 G2
  repeat' (first|refine bk ?_|refine bkc ?_|refine bks ?_|refine bkd ?_|refine bkq (fun q => ?_)|(refine bk2 ?_ ?_<;>(first|exact bkn|(refine bkk ?_;intro h))))
  refine WL.buildSlice TT rfl rfl rfl rfl rfl rfl rfl rfl (fun q => ?_)
  refine WL.call c126 rfl rfl rfl rfl (r_join _ _ _ (promL ep) rfl (promL_ok h) W0 _ (Rd.row (i := 0) rfl rfl)) ?_
  rintro _ _ ⟨rfl, rfl⟩
  repeat' (first|refine bk ?_|refine bkc ?_|refine bks ?_|refine bkd ?_|refine bkq (fun q => ?_)|(refine bk2 ?_ ?_<;>(first|exact bkn|(refine bkk ?_;intro h))))
  exact QS.turn (G' := G) (fun w hs => hs.drop) (QS.retV Tryz.results81 rfl ⟨rfl, rfl⟩)
set_option maxHeartbeats 1000000 in
theorem r_Accept (ep : Int) (h : I64 ep) (A : Option Addr) (k c : Nat) (xs : List Ent) (hk : k = xs.length) (hl : xs.length ≤ 9223372036854775807) (W0 : World) (G : List SL) (hR : Rd W0 G entE A xs) :
    Fn Tryz.prog 85 [.int .i64 ep, .slice A k c] W0 G (Ret fun v G' => v = (if logOk ep xs = true then .tuple #[.string (mk (joinB (accL ep xs))), .bool true] else .tuple #[.string ⟨#[]⟩, .bool false]) ∧ G' = G) := by
  subst hk
  refine Fn.enter Tryz.func85 rfl Tryz.ntmps85 rfl ?_
  repeat' (first|refine bk ?_|refine bkc ?_|refine bks ?_|refine bkd ?_|refine bkq (fun q => ?_)|(refine bk2 ?_ ?_<;>(first|exact bkn|(refine bkk ?_;intro h))))
  refine WL.call c129 rfl rfl rfl rfl (ref_Right ep A _ c xs rfl W0 _ hR) ?_
  rintro _ G2 ⟨rfl, hG2⟩
  rw [hG2]; clear hG2 G2
  cases hok : logOk ep xs with
  | false =>
    repeat' (first|refine bk ?_|refine bkc ?_|refine bks ?_|refine bkd ?_|refine bkq (fun q => ?_)|(refine bk2 ?_ ?_<;>(first|exact bkn|(refine bkk ?_;intro h))))
    exact QS.retV Tryz.results85 rfl ⟨rfl, rfl⟩
  | true =>
    obtain ⟨⟨h1, h2, h3⟩, h4⟩ := logOk_iff.1 hok
    repeat' (first|refine bk ?_|refine bkc ?_|refine bks ?_|refine bkd ?_|refine bkq (fun q => ?_)|(refine bk2 ?_ ?_<;>(first|exact bkn|(refine bkk ?_;intro h))))
    refine WL.call c127 rfl rfl rfl rfl (r_num ep h W0 _) ?_
    rintro _ G2 ⟨rfl, hG2⟩
    rw [hG2]; clear hG2 G2
    repeat' (first|refine bk ?_|refine bkc ?_|refine bks ?_|refine bkd ?_|refine bkq (fun q => ?_)|(refine bk2 ?_ ?_<;>(first|exact bkn|(refine bkk ?_;intro h))))
    refine WL.buildSlice TT rfl rfl rfl rfl rfl rfl rfl rfl (fun q => ?_)
    repeat' (first|refine bk ?_|refine bkc ?_|refine bks ?_|refine bkd ?_|refine bkq (fun q => ?_)|(refine bk2 ?_ ?_<;>(first|exact bkn|(refine bkk ?_;intro h))))
    refine CS.loop (X := Nat × Option Addr × Nat) (fun y => [(1, .slice A xs.length c), (7, .slice y.2.1 (accL ep (xs.take y.1)).length y.2.2), (8, .int .i64 (y.1 : Int))])
      (fun y => slc strE 9 y.2.1 y.2.2 (accL ep (xs.take y.1)) :: G) (fun y => y.1 ≤ xs.length) (fun y => xs.length - y.1) (0, some ⟨q, 0, none⟩, 2) ⟨rfl, rfl, rfl, trivial⟩ (fun w hs => row_own strE (accL ep []) rfl (by simp [accL, maxLen]) hs) (Nat.zero_le _) ?_
    rintro ⟨i, A1, c1⟩ hi
    simp only at hi ⊢
    have hal : (accL ep (xs.take i)).length = i + 2 := by simp [accL]; omega
    repeat' (first|refine bk ?_|refine bkc ?_|refine bks ?_|refine bkd ?_|refine bkq (fun q => ?_)|(refine bk2 ?_ ?_<;>(first|exact bkn|(refine bkk ?_;intro h))))
    · obtain ⟨x, hx⟩ : ∃ x, xs[i]? = some x := ⟨xs[i]'(by omega), List.getElem?_eq_getElem (by omega)⟩
      refine WL.idx TT hR.cons rfl rfl rfl (by omega) (by rw [Int.toNat_natCast]; exact hx) rfl rfl rfl rfl (fun bb o hA => ?_)
      repeat' (first|refine bk ?_|refine bkc ?_|refine bks ?_|refine bkd ?_|refine bkq (fun q => ?_)|(refine bk2 ?_ ?_<;>(first|exact bkn|(refine bkk ?_;intro h))))
      refine WL.s (op1_atF TT 1 hA rfl rfl rfl rfl rfl) rfl ?_
      repeat' (first|refine bk ?_|refine bkc ?_|refine bks ?_|refine bkd ?_|refine bkq (fun q => ?_)|(refine bk2 ?_ ?_<;>(first|exact bkn|(refine bkk ?_;intro h))))
      refine WL.buildSlice TT rfl rfl rfl rfl rfl rfl rfl rfl (fun qs => ?_)
      refine WL.append TT (E := strE) (xs := accL ep (xs.take i)) (ys := [x.s]) 1 rfl rfl rfl rfl rfl (Rd.row (i := 0) rfl rfl) rfl rfl rfl rfl rfl (by decide) (by simp only [List.length_cons, List.length_nil]; omega) (fun _ _ => rfl) rfl (fun A5 c5 => ?_)
      have hsn : accL ep (xs.take i) ++ [x.s] = accL ep (xs.take (i + 1)) := by
        rw [List.take_add_one, hx]; simp [accL]
      rw [hsn]
      repeat' (first|refine bk ?_|refine bkc ?_|refine bks ?_|refine bkd ?_|refine bkq (fun q => ?_)|(refine bk2 ?_ ?_<;>(first|exact bkn|(refine bkk ?_;intro h))))
      refine QS.again (i + 1, A5, c5) (by simp only; omega) (by simp only; omega) ⟨rfl, rfl, ?_, trivial⟩ (fun w hs => hs.drop)
      rw [show ((i + 1 : Nat) : Int) = (i : Int) + 1 from by omega]; rfl
    · have hix : i = xs.length := by omega
      subst hix
      rw [List.take_length] at *
      refine WL.call c126 rfl rfl rfl rfl (r_join _ _ _ (accL ep xs) rfl (accL_ok hok) W0 _ (Rd.slc (i := 0) rfl)) ?_
      rintro _ _ ⟨rfl, rfl⟩
      repeat' (first|refine bk ?_|refine bkc ?_|refine bks ?_|refine bkd ?_|refine bkq (fun q => ?_)|(refine bk2 ?_ ?_<;>(first|exact bkn|(refine bkk ?_;intro h))))
      exact QS.turn (G' := G) (fun w hs => hs.drop) (QS.retV Tryz.results85 rfl ⟨rfl, rfl⟩)
def fitsR (n : Int) (s : ByteArray) : Bool := decide (1 ≤ n ∧ n ≤ 300 ∧ s.size ≤ 600)
set_option maxHeartbeats 1000000 in
theorem r_Add (ep : Int) (hep : I64 ep) (n : Int) (s : ByteArray) (W0 : World) (G : List SL) :
    Fn Tryz.prog 86 [.int .i64 ep, .agg #[.int .i64 n, .string s]] W0 G (Ret fun v G' => v = (if fitsR n s = true then .tuple #[.string (mk (joinB (addL ep ⟨n, s⟩))), .bool true] else .tuple #[.string ⟨#[]⟩, .bool false]) ∧ G' = G) := by
  refine Fn.enter Tryz.func86 rfl Tryz.ntmps86 rfl ?_
  by_cases hf : 1 ≤ n ∧ n ≤ 300 ∧ s.size ≤ 600
  · have hfb : fitsR n s = true := decide_eq_true hf
    have hI : I64 n := by unfold I64; omega
    rw [if_pos hfb]
    repeat' (first|refine bk ?_|refine bkc ?_|refine bks ?_|refine bkd ?_|refine bkq (fun q => ?_)|(refine bk2 ?_ ?_<;>(first|exact bkn|(refine bkk ?_;intro h))))
    refine CS.drawA _ (fun w hs => hs) mixed (by kernel_rfl) rfl ?_
    repeat' (first|refine bka ?_|(refine bk2a ?_ ?_<;>(first|exact bkn|(refine bkk ?_;intro h))))
    refine WA.call rfl rfl (by kernel_rfl) rfl c127 rfl rfl rfl rfl (fun G' _ => r_num ep hep W0 G') ?_
    repeat' (first|refine bka ?_|(refine bk2a ?_ ?_<;>(first|exact bkn|(refine bkk ?_;intro h))))
    refine WA.call rfl rfl (by kernel_rfl) rfl c127 rfl rfl rfl rfl (fun G' _ => r_num n hI W0 G') ?_
    repeat' (first|refine bka ?_|(refine bk2a ?_ ?_<;>(first|exact bkn|(refine bkk ?_;intro h))))
    refine WA.e1 7 (by kernel_rfl) (by kernel_rfl) rfl rfl (EffC.of (Eff.buildSlice TT rfl rfl rfl rfl rfl rfl rfl)) rfl ?_
    rintro _ _ ⟨q2, rfl, rfl⟩
    refine ⟨fun w hs => hs.drop, ?_⟩
    refine WA.e1 8 (by kernel_rfl) (by kernel_rfl) rfl rfl (EffC.call c126 rfl rfl rfl (r_join _ _ _ (addL ep ⟨n, s⟩) rfl (addL_ok hep hI hf.2.2) W0 _ (Rd.row (i := 0) rfl rfl))) rfl ?_
    rintro _ _ ⟨rfl, rfl⟩
    refine ⟨fun w hs => hs.drop, ?_⟩
    repeat' (first|refine bka ?_|(refine bk2a ?_ ?_<;>(first|exact bkn|(refine bkk ?_;intro h))))
    refine WA.fin rfl ?_
    repeat' (first|refine bk ?_|refine bkc ?_|refine bks ?_|refine bkd ?_|refine bkq (fun q => ?_)|(refine bk2 ?_ ?_<;>(first|exact bkn|(refine bkk ?_;intro h))))
    exact QS.turn (G' := G) (fun w hs => hs.drop.drop) (QS.retV Tryz.results86 rfl ⟨rfl, rfl⟩)
  · have hfb : fitsR n s = false := decide_eq_false hf
    rw [hfb]
    repeat' (first|refine bk ?_|refine bkc ?_|refine bks ?_|refine bkd ?_|refine bkq (fun q => ?_)|(refine bk2 ?_ ?_<;>(first|exact bkn|(refine bkk ?_;intro h))))
    all_goals exact QS.turn (G' := G) (fun w hs => hs.drop) (QS.retV Tryz.results86 rfl ⟨rfl, rfl⟩)
theorem r_number (s : ByteArray) (hs : s.size ≤ 9223372036854775807) (W0 : World) (G : List SL) : Fn Tryz.prog 69 [.string s] W0 G (Ret fun v G' => (∃ n, v = .tuple #[.int .i64 n, .bool (numP s).isSome] ∧ ∀ m, numP s = some m → n = m) ∧ G' = G) := by
  refine Fn.enter Tryz.func69 rfl Tryz.ntmps69 rfl ?_
  repeat' (first|refine bk ?_|refine bkc ?_|refine bks ?_|refine bkd ?_|refine bkq (fun q => ?_)|(refine bk2 ?_ ?_<;>(first|exact bkn|(refine bkk ?_;intro h))))
  refine WL.call c115 rfl rfl rfl rfl (ref_TakeNum s hs W0 _) ?_
  rintro _ G2 ⟨rfl, hG2⟩
  rw [hG2]; clear hG2 G2
  cases hn : takeNum (bs s) with
  | none =>
    simp only [takeNumV]
    repeat' (first|refine bk ?_|refine bkc ?_|refine bks ?_|refine bkd ?_|refine bkq (fun q => ?_)|(refine bk2 ?_ ?_<;>(first|exact bkn|(refine bkk ?_;intro h))))
    have e1 : numP s = none := by rw [numP, hn]
    exact QS.retV Tryz.results69 rfl ⟨⟨0, by rw [e1]; rfl, fun m hm => by rw [e1] at hm; cases hm⟩, rfl⟩
  | some p =>
    obtain ⟨n, r⟩ := p
    simp only [takeNumV]
    repeat' (first|refine bk ?_|refine bkc ?_|refine bks ?_|refine bkd ?_|refine bkq (fun q => ?_)|(refine bk2 ?_ ?_<;>(first|exact bkn|(refine bkk ?_;intro h))))
    have e1 : numP s = if r = [] then some n else none := by rw [numP, hn]
    refine QS.retV Tryz.results69 rfl ⟨⟨n, ?_, fun m hm => ?_⟩, rfl⟩
    · rw [show (numP s).isSome = decide (mk r = ⟨#[]⟩) from by
        rw [e1]
        by_cases hr : r = []
        · rw [if_pos hr, hr]; rfl
        · rw [if_neg hr, decide_eq_false (fun e => hr (congrArg bs e))]; rfl]
      rfl
    · rw [e1] at hm
      split at hm
      · exact Option.some.inj hm
      · cases hm
end Go.Proofs.YtfolmcpfdcgliaaGreat.B

set_option linter.unusedVariables false
set_option linter.unusedSimpArgs false
set_option maxRecDepth 8000
/-! The document's answers of a journal. -/
namespace Go.Proofs.YtfolmcpfdcgliaaGreat.B
open Go Go.Proofs
attribute [local irreducible] WL CS QS WQ WH WS Fn Op1 row Sat
attribute [local irreducible] slc

set_option maxHeartbeats 2000000 in
theorem r_told (e : Int) (A : Option Addr) (k c : Nat) (xs : List Ent) (hk : k = xs.length) (W0 : World) (G : List SL) (hR : Rd W0 G entE A xs) :
    Fn Tryz.prog 92 [logV e A k c] W0 G (Ret fun v G' => v = .string (mk (toldB e xs)) ∧ G' = G) := by
  refine Fn.enter Tryz.func92 rfl Tryz.ntmps92 rfl ?_
  repeat' (first|refine bk ?_|refine bkc ?_|refine bks ?_|refine bkd ?_|refine bkq (fun q => ?_)|(refine bk2 ?_ ?_<;>(first|exact bkn|(refine bkk ?_;intro h))))
  refine WL.call c117 rfl rfl rfl rfl (ref_Bytes e A k c xs hk W0 _ hR.cons) ?_
  rintro _ G2 ⟨rfl, hG2⟩
  rw [hG2]; clear hG2 G2
  obtain ⟨LB, er, hLB, hv⟩ : ∃ (LB : List UInt8) (er : Bool), LB = (if logOk e xs = true then logB e xs else []) ∧ (if logOk e xs = true then Value.tuple #[.string (mk (logB e xs)), .bool true] else .tuple #[.string ⟨#[]⟩, .bool false]) = .tuple #[.string (mk LB), .bool er] := by
    split
    · exact ⟨_, true, rfl, rfl⟩
    · exact ⟨[], false, rfl, rfl⟩
  rw [hv]
  have hBL : LB.length ≤ 187900 := by
    rw [hLB]; split
    · exact logB_small ‹_›
    · simp
  have hT : toldL e xs = mk (numB 0) :: chunks LB.length LB := by
    rw [toldL, hLB]; split
    · rfl
    · rfl
  repeat' (first|refine bk ?_|refine bkc ?_|refine bks ?_|refine bkd ?_|refine bkq (fun q => ?_)|(refine bk2 ?_ ?_<;>(first|exact bkn|(refine bkk ?_;intro h))))
  refine WL.call c127 rfl rfl rfl rfl (r_num 0 (by unfold I64; decide) W0 _) ?_
  rintro _ G2 ⟨rfl, hG2⟩
  rw [hG2]; clear hG2 G2
  repeat' (first|refine bk ?_|refine bkc ?_|refine bks ?_|refine bkd ?_|refine bkq (fun q => ?_)|(refine bk2 ?_ ?_<;>(first|exact bkn|(refine bkk ?_;intro h))))
  refine WL.buildSlice TT rfl rfl rfl rfl rfl rfl rfl rfl (fun q2 => ?_)
  repeat' (first|refine bk ?_|refine bkc ?_|refine bks ?_|refine bkd ?_|refine bkq (fun q => ?_)|(refine bk2 ?_ ?_<;>(first|exact bkn|(refine bkk ?_;intro h))))
  refine CS.loop (X := List UInt8 × List ByteArray × Option Addr × Nat) (fun y => [(3, .string (mk y.1)), (5, .slice y.2.2.1 y.2.1.length y.2.2.2)])
    (fun y => slc strE 9 y.2.2.1 y.2.2.2 y.2.1 :: G) (fun y => y.1.length ≤ 187900 ∧ y.2.1.length ≤ 1000000 ∧ toldL e xs = y.2.1 ++ chunks y.1.length y.1) (fun y => y.1.length) (LB, [mk (numB 0)], some ⟨q2, 0, none⟩, 1) ⟨rfl, rfl, trivial⟩ (fun w hs => (row_own strE [mk (numB 0)] rfl (by simp [maxLen]) hs).kick (i := 1) rfl) ⟨hBL, by simp, by rw [hT]; rfl⟩ ?_
  rintro ⟨l, ps, A1, c1⟩ ⟨h1, h2, h3⟩
  simp only at h1 h2 h3 ⊢
  repeat' (first|refine bk ?_|refine bkc ?_|refine bks ?_|refine bkd ?_|refine bkq (fun q => ?_)|(refine bk2 ?_ ?_<;>(first|exact bkn|(refine bkk ?_;intro h))))
  · have hne : l ≠ [] := fun e => by subst e; simp [mk_size] at h
    have hp := List.length_pos_iff.2 hne
    obtain ⟨m, hm⟩ : ∃ m, m = min l.length 4000 := ⟨_, rfl⟩
    rw [show (if (4000 : Int) < ((mk l).size : Int) then (4000 : Int) else ((mk l).size : Int)) = (m : Int) from by rw [mk_size, hm]; split <;> omega]
    have e1 : (mk l).extract (Int.toNat 0) (Int.toNat (m : Int)) = mk (l.take 4000) := by
      rw [ext_mk, bs_mk, Int.toNat_natCast, hm]
      simp only [Int.toNat_zero, List.drop_zero, Nat.sub_zero]
      by_cases h4 : l.length ≤ 4000
      · rw [Nat.min_eq_left h4, List.take_length, List.take_of_length_le h4]
      · rw [Nat.min_eq_right (by omega)]
    have e2 : (mk l).extract (Int.toNat (m : Int)) (Int.toNat ((mk l).size : Int)) = mk (l.drop 4000) := by
      rw [ext_mk, bs_mk, Int.toNat_natCast, mk_size, Int.toNat_natCast, hm]
      by_cases h4 : l.length ≤ 4000
      · rw [Nat.min_eq_left h4, List.drop_eq_nil_of_le (Nat.le_refl _), List.drop_eq_nil_of_le h4, List.take_nil]
      · rw [Nat.min_eq_right (by omega), List.take_of_length_le (by rw [List.length_drop]; omega)]
    have hch : chunks l.length l = mk (l.take 4000) :: chunks (l.drop 4000).length (l.drop 4000) := by
      obtain ⟨f, hf⟩ : ∃ f, l.length = f + 1 := ⟨l.length - 1, by omega⟩
      rw [hf, chunks, if_neg hne]
      congr 1
      exact chunks_fuel (by rw [List.length_drop]; omega) (Nat.le_refl _)
    have hpl : (ps ++ [mk (l.take 4000)]).length = ps.length + 1 := by simp
    have hTl := (joinOk_iff.1 (toldL_ok e xs)).1
    have hpt : ps.length + 1 ≤ 1000 := by
      rw [h3, hch, List.length_append, List.length_cons] at hTl; omega
    refine WL.s (op1_slice TT (l := 0) (r := (m : Int)) (s := mk l) rfl rfl rfl rfl ⟨by omega, by omega, by rw [mk_size]; omega⟩) rfl ?_
    rw [e1]
    refine WL.buildSlice TT rfl rfl rfl rfl rfl rfl rfl rfl (fun q3 => ?_)
    refine WL.append TT (E := strE) (xs := ps) (ys := [mk (l.take 4000)]) 1 rfl rfl rfl rfl rfl (Rd.row (i := 0) rfl rfl) rfl rfl rfl rfl rfl (by decide) (by simp only [List.length_cons, List.length_nil]; omega) (fun _ _ => rfl) rfl (fun A5 c5 => ?_)
    repeat' (first|refine bk ?_|refine bkc ?_|refine bks ?_|refine bkd ?_|refine bkq (fun q => ?_)|(refine bk2 ?_ ?_<;>(first|exact bkn|(refine bkk ?_;intro h))))
    refine WL.s (op1_slice TT (l := (m : Int)) (r := ((mk l).size : Int)) (s := mk l) rfl rfl rfl rfl ⟨by omega, by rw [mk_size]; omega, by omega⟩) rfl ?_
    rw [e2]
    repeat' (first|refine bk ?_|refine bkc ?_|refine bks ?_|refine bkd ?_|refine bkq (fun q => ?_)|(refine bk2 ?_ ?_<;>(first|exact bkn|(refine bkk ?_;intro h))))
    exact QS.again (l.drop 4000, ps ++ [mk (l.take 4000)], A5, c5) ⟨by simp only; rw [List.length_drop]; omega, by simp only; omega, by simp only; rw [h3, hch, List.append_assoc]; rfl⟩ (by simp only; rw [List.length_drop]; omega) ⟨rfl, rfl, trivial⟩ (fun w hs => hs.drop)
  · have hl : l = [] := List.eq_nil_of_length_eq_zero (by rw [mk_size] at h; omega)
    subst hl
    rw [show chunks ([] : List UInt8).length [] = [] from rfl, List.append_nil] at h3
    refine WL.call c126 rfl rfl rfl rfl (r_join _ _ _ ps rfl (by rw [← h3]; exact toldL_ok e xs) W0 _ (Rd.slc (i := 0) rfl)) ?_
    rintro _ _ ⟨rfl, rfl⟩
    repeat' (first|refine bk ?_|refine bkc ?_|refine bks ?_|refine bkd ?_|refine bkq (fun q => ?_)|(refine bk2 ?_ ?_<;>(first|exact bkn|(refine bkk ?_;intro h))))
    exact QS.turn (G' := G) (fun w hs => hs.drop) (QS.retV Tryz.results92 rfl ⟨by rw [← h3]; rfl, rfl⟩)
theorem ent_ext2 {x y : Ent} (h1 : x.n = y.n) (h2 : x.s = y.s) : x = y := by cases x; cases y; simp_all
set_option maxHeartbeats 2000000 in
theorem r_Entries (A B : Option Addr) (k c k2 c2 : Nat) (xs ys : List Ent) (hk : k = xs.length) (hk2 : k2 = ys.length) (hkb : k ≤ 1000000) (W0 : World) (G : List SL) (hR : Rd W0 G entE A xs) (hR2 : Rd W0 G entE B ys) :
    Fn Tryz.prog 93 [.slice A k c, .slice B k2 c2] W0 G (Ret fun v G' => v = .bool (decide (xs = ys)) ∧ G' = G) := by
  refine Fn.enter Tryz.func93 rfl Tryz.ntmps93 rfl ?_
  repeat' (first|refine bk ?_|refine bkc ?_|refine bks ?_|refine bkd ?_|refine bkq (fun q => ?_)|(refine bk2 ?_ ?_<;>(first|exact bkn|(refine bkk ?_;intro h))))
  · refine QS.retV Tryz.results93 rfl ⟨?_, rfl⟩
    rw [decide_eq_false (fun e => by subst e; omega)]; rfl
  have hkk : xs.length = ys.length := by omega
  refine CS.loop (X := Nat) (fun i => [(0, .slice A k c), (1, .slice B k2 c2), (5, .int .i64 (i : Int))]) (fun i => G)
    (fun i => i ≤ k ∧ xs.take i = ys.take i) (fun i => k - i) 0 ⟨rfl, rfl, rfl, trivial⟩ (fun w hs => hs) ⟨Nat.zero_le _, rfl⟩ ?_
  rintro i ⟨hi, he⟩
  refine CS.world fun hw => ?_
  repeat' (first|refine bk ?_|refine bkc ?_|refine bks ?_|refine bkd ?_|refine bkq (fun q => ?_)|(refine bk2 ?_ ?_<;>(first|exact bkn|(refine bkk ?_;intro h))))
  · obtain ⟨x, hx⟩ : ∃ x, xs[i]? = some x := ⟨xs[i]'(by omega), List.getElem?_eq_getElem (by omega)⟩
    obtain ⟨y, hy⟩ : ∃ y, ys[i]? = some y := ⟨ys[i]'(by omega), List.getElem?_eq_getElem (by omega)⟩
    refine WQ.idx TT hR rfl rfl hk (by omega) (by rw [Int.toNat_natCast]; exact hx) rfl rfl rfl rfl hw (fun b2 o hA => ?_)
    refine WQ.s (op1_at TT hA rfl rfl rfl rfl) rfl ?_
    repeat' (first|refine bk ?_|refine bkc ?_|refine bks ?_|refine bkd ?_|refine bkq (fun q => ?_)|(refine bk2 ?_ ?_<;>(first|exact bkn|(refine bkk ?_;intro h))))
    refine WQ.idx TT hR2 rfl rfl hk2 (by omega) (by rw [Int.toNat_natCast]; exact hy) rfl rfl rfl rfl hw (fun b3 o3 hA3 => ?_)
    refine WQ.s (op1_at TT hA3 rfl rfl rfl rfl) rfl ?_
    have hcmp : eqFs TT [(3, 0), (9, 1)] [.int .i64 x.n, .string x.s] [.int .i64 y.n, .string y.s] = some (decide (x.n = y.n) && decide (x.s = y.s)) := by
      have e : (decide (x.n = y.n) && decide (x.s = y.s)) = (decide (x.n = y.n) && (decide (x.s = y.s) && true)) := by rw [Bool.and_true]
      rw [e]; rfl
    refine WQ.s (op1_neS TT cmp49 rfl rfl rfl rfl hcmp) rfl ?_
    by_cases hxy : x = y
    · subst hxy
      simp only [decide_true, Bool.and_self, Bool.not_true]
      repeat' (first|refine bk ?_|refine bkc ?_|refine bks ?_|refine bkd ?_|refine bkq (fun q => ?_)|(refine bk2 ?_ ?_<;>(first|exact bkn|(refine bkk ?_;intro h))))
      refine QS.again (i + 1) ⟨by omega, ?_⟩ (by omega) ⟨rfl, rfl, ?_, trivial⟩ (fun w hs => hs)
      · rw [List.take_add_one, List.take_add_one, hx, hy, he]
      · rw [show ((i + 1 : Nat) : Int) = (i : Int) + 1 from by omega]; rfl
    · have : (decide (x.n = y.n) && decide (x.s = y.s)) = false := by
        rw [Bool.and_eq_false_iff, decide_eq_false_iff_not, decide_eq_false_iff_not]
        by_cases h1 : x.n = y.n
        · exact .inr fun h2 => hxy (ent_ext2 h1 h2)
        · exact .inl h1
      simp only [this, Bool.not_false]
      repeat' (first|refine bk ?_|refine bkc ?_|refine bks ?_|refine bkd ?_|refine bkq (fun q => ?_)|(refine bk2 ?_ ?_<;>(first|exact bkn|(refine bkk ?_;intro h))))
      refine QS.retV Tryz.results93 rfl ⟨?_, rfl⟩
      rw [decide_eq_false (fun e => hxy (by rw [e, hy] at hx; exact (Option.some.inj hx).symm))]; rfl
  · refine QS.retV Tryz.results93 rfl ⟨?_, rfl⟩
    rw [decide_eq_true (by rw [List.take_of_length_le (by omega), List.take_of_length_le (by omega)] at he; exact he)]; rfl
theorem r_Same (e : Int) (A B : Option Addr) (k c k2 c2 : Nat) (xs : List Ent) (hk : k = xs.length) (hk2 : k2 = xs.length) (hkb : k ≤ 1000000) (W0 : World) (G : List SL) (hR : Rd W0 G entE A xs) (hR2 : Rd W0 G entE B xs) :
    Fn Tryz.prog 49 [logV e A k c, logV e B k2 c2] W0 G (Ret fun v G' => v = .bool true ∧ G' = G) := by
  refine Fn.enter Tryz.func49 rfl Tryz.ntmps49 rfl ?_
  have ht : decide (e = e) = true := decide_eq_true rfl
  repeat' (first|refine bk ?_|refine bkc ?_|refine bks ?_|refine bkd ?_|refine bkq (fun q => ?_)|(refine bk2 ?_ ?_<;>(first|exact bkn|(refine bkk ?_;intro h))))
  refine WL.call c93 rfl rfl rfl rfl (r_Entries A B k c k2 c2 xs xs hk hk2 hkb W0 _ hR.cons.cons hR2.cons.cons) ?_
  rintro _ G2 ⟨rfl, hG2⟩
  rw [hG2]; clear hG2 G2
  rw [show decide (xs = xs) = true from decide_eq_true rfl]
  repeat' (first|refine bk ?_|refine bkc ?_|refine bks ?_|refine bkd ?_|refine bkq (fun q => ?_)|(refine bk2 ?_ ?_<;>(first|exact bkn|(refine bkk ?_;intro h))))
  exact QS.turn (G' := G) (fun w hs => hs.drop.drop) (QS.retV Tryz.results49 rfl ⟨rfl, rfl⟩)
end Go.Proofs.YtfolmcpfdcgliaaGreat.B

set_option linter.unusedVariables false
set_option linter.unusedSimpArgs false
set_option maxRecDepth 8000
/-! The document's disk in plain words: files in the order of their names. -/
namespace Go.Proofs.YtfolmcpfdcgliaaGreat.B
open Go

structure RFile where
  name : ByteArray
  data : ByteArray
  syn : Int
  deriving DecidableEq
def rfE : EncK RFile := ⟨fun f => [.string f.name, .string f.data, .int .i64 f.syn], 3, fun _ => rfl, by decide, fun _ u hu => by simp only [List.mem_cons, List.not_mem_nil, or_false] at hu; rcases hu with rfl | rfl | rfl <;> rfl⟩
structure RDisk where
  room : Int
  files : List RFile
  left : Int
  off : Bool
def bl (a b : ByteArray) : Bool := Op.bytesLess a.toList b.toList
def findF (name : ByteArray) (l : List RFile) : Option Nat := l.findIdx? fun f => decide (f.name = name)
def atF (name : ByteArray) (l : List RFile) : Int := match findF name l with | some i => (i : Int) | none => -1
def posF (name : ByteArray) (l : List RFile) : Nat := (l.takeWhile fun f => bl f.name name).length
def insF (f : RFile) (l : List RFile) : List RFile := l.take (posF f.name l) ++ [f] ++ l.drop (posF f.name l)
def sumF (l : List RFile) : Int := (l.map fun f => (f.data.size : Int)).sum
structure ROk (R : RDisk) : Prop where
  count : R.files.length ≤ 20
  most : ∀ f ∈ R.files, f.data.size ≤ 400000
  left0 : 0 ≤ R.left
  left1 : R.left ≤ 9223372036854775807
  room0 : 0 ≤ R.room
  room1 : R.room ≤ 9223372036854775807
def RDisk.new (r : Int) : RDisk := ⟨max r 0, [], 0, false⟩
def RDisk.blow (R : RDisk) : Bool × RDisk := if R.left = 0 then (false, R) else (decide (R.left - 1 = 0), { R with left := R.left - 1, off := decide (R.left - 1 = 0) })
def RDisk.dataAt (R : RDisk) (name : ByteArray) : ByteArray := match findF name R.files with | some i => ((R.files[i]?).getD ⟨⟨#[]⟩, ⟨#[]⟩, 0⟩).data | none => ⟨#[]⟩
def addF (name data : ByteArray) (l : List RFile) : List RFile := match findF name l with
  | some i => (match l[i]? with | some f => l.set i { f with data := f.data ++ data } | none => l)
  | none => insF ⟨name, data, 0⟩ l
def RDisk.append (R : RDisk) (name data : ByteArray) : Int × RDisk :=
  if R.off = true then (12, R)
  else if ¬ (1 ≤ (name.size : Int) ∧ (name.size : Int) ≤ 30) then (1, R)
  else if 400000 < (data.size : Int) ∨ (0 ≤ atF name R.files ∧ 400000 < ((R.dataAt name).size : Int) + data.size) ∨ (atF name R.files < 0 ∧ 20 ≤ (R.files.length : Int)) then (4, R)
  else if R.room < sumF R.files + data.size then (8, R)
  else if R.blow.1 = true then (12, R.blow.2)
  else (0, { R.blow.2 with files := addF name data R.files })
def RDisk.read (R : RDisk) (name : ByteArray) : ByteArray × Int :=
  if R.off = true then (⟨#[]⟩, 12) else if atF name R.files < 0 then (⟨#[]⟩, 5) else (R.dataAt name, 0)

theorem findF_some {name : ByteArray} {l : List RFile} {i : Nat} {f : RFile} (hf : l[i]? = some f) (hn : f.name = name) (h : ∀ j g, j < i → l[j]? = some g → g.name ≠ name) : findF name l = some i := by
  unfold findF
  rw [List.findIdx?_eq_some_iff_getElem]
  obtain ⟨hi, e⟩ := List.getElem?_eq_some_iff.1 hf
  refine ⟨hi, by rw [e]; simpa using hn, fun j hj => ?_⟩
  have := h j (l[j]'(by omega)) hj (List.getElem?_eq_getElem (by omega))
  simpa using this
theorem findF_none {name : ByteArray} {l : List RFile} (h : ∀ (j : Nat) g, l[j]? = some g → g.name ≠ name) : findF name l = none := by
  unfold findF
  rw [List.findIdx?_eq_none_iff]
  intro f hf
  obtain ⟨j, hj⟩ := List.mem_iff_getElem?.1 hf
  simpa using h j f hj
theorem findF_get {name : ByteArray} {l : List RFile} {i : Nat} (h : findF name l = some i) : ∃ f, l[i]? = some f ∧ f.name = name := by
  unfold findF at h
  rw [List.findIdx?_eq_some_iff_getElem] at h
  obtain ⟨hi, h1, h2⟩ := h
  exact ⟨l[i], List.getElem?_eq_getElem hi, by simpa using h1⟩
theorem posF_at {name : ByteArray} {l : List RFile} {i : Nat} (h : ∀ j g, j < i → l[j]? = some g → bl g.name name = true) (hi : i ≤ l.length) (hs : ∀ f, l[i]? = some f → bl f.name name = false) : posF name l = i := by
  induction l generalizing i with
  | nil => simp at hi; subst hi; rfl
  | cons f r ih =>
    cases i with
    | zero =>
      have := hs f rfl
      simp [posF, List.takeWhile_cons, this]
    | succ i =>
      have h0 := h 0 f (by omega) rfl
      have := ih (i := i) (fun j g hj hg => h (j + 1) g (by omega) (by simpa using hg)) (by simpa using hi) (fun g hg => hs g (by simpa using hg))
      simp [posF, List.takeWhile_cons, h0] at this ⊢
      exact this
theorem sumF_take {l : List RFile} {i : Nat} {f : RFile} (h : l[i]? = some f) : sumF (l.take (i + 1)) = sumF (l.take i) + f.data.size := by
  rw [List.take_add_one, h]; simp [sumF]
theorem sumF_bound {l : List RFile} (h : ∀ f ∈ l, f.data.size ≤ 400000) : 0 ≤ sumF l ∧ sumF l ≤ l.length * 400000 := by
  induction l with
  | nil => simp [sumF]
  | cons f r ih =>
    have h1 := h f (List.mem_cons_self ..)
    have h2 := ih (fun g hg => h g (List.mem_cons_of_mem _ hg))
    simp only [sumF, List.map_cons, List.sum_cons, List.length_cons] at h2 ⊢
    omega
theorem sumF_take_bound {l : List RFile} (h : ∀ f ∈ l, f.data.size ≤ 400000) (hl : l.length ≤ 20) (i : Nat) : 0 ≤ sumF (l.take i) ∧ sumF (l.take i) ≤ 8000000 := by
  have := sumF_bound (l := l.take i) (fun f hf => h f (List.mem_of_mem_take hf))
  rw [List.length_take] at this
  omega
theorem insF_length (f : RFile) (l : List RFile) : (insF f l).length = l.length + 1 := by
  have : posF f.name l ≤ l.length := List.Sublist.length_le (List.takeWhile_sublist _)
  simp [insF]; omega
end Go.Proofs.YtfolmcpfdcgliaaGreat.B
