import Derived.Test.YtejdkcnbflpfaaaMg25
import Derived.Test.YtejdkcnbflpfaaaMg26
import Derived.Test.YtejdkcnbflpfaaaMg28
import Derived.Test.YtejdkcnbflpfaaaMg14
import Derived.Test.YtejdkcnbflpfaaaMg9
import Derived.Test.YtejdkcnbflpfaaaMg18
set_option linter.unusedVariables false
set_option linter.unusedSimpArgs false
set_option maxRecDepth 8000
/-! The document's answers of a journal. -/
namespace Go.Proofs.Ytejdkcnbflpfaaa.B
open Go Go.Proofs
attribute [local irreducible] WL CS QS WQ WH WS Fn Op1 row Sat
attribute [local irreducible] slc

set_option maxHeartbeats 2000000 in
theorem r_told (e : Int) (A : Option Addr) (k c : Nat) (xs : List Ent) (hk : k = xs.length) (W0 : World) (G : List SL) (hR : Rd W0 G entE A xs) :
    Fn Try.prog 45 [logV e A k c] W0 G (Ret fun v G' => v = .string (mk (toldB e xs)) ∧ G' = G) := by
  refine Fn.enter Try.func45 rfl Try.ntmps45 rfl ?_
  repeat' (first|refine bk ?_|refine bkc ?_|refine bks ?_|refine bkd ?_|refine bkq (fun q => ?_)|(refine bk2 ?_ ?_<;>(first|exact bkn|(refine bkk ?_;intro h))))
  refine WL.call c72 rfl rfl rfl rfl (ref_Bytes e A k c xs hk W0 _ hR.cons) ?_
  rintro _ G2 ⟨rfl, hG2⟩
  rw [hG2]; clear hG2 G2
  obtain ⟨LB, er, hLB, hv⟩ : ∃ (LB : List UInt8) (er : Bool), LB = (if logOk e xs = true then logB e xs else []) ∧ (if logOk e xs = true then Value.tuple #[.string (mk (logB e xs)), .bool true] else .tuple #[.string ⟨#[]⟩, .bool false]) = .tuple #[.string (mk LB), .bool er] := by
    split
    · exact ⟨_, true, rfl, rfl⟩
    · exact ⟨[], false, rfl, rfl⟩
  rw [hv]
  have hBL : LB.length ≤ 187900 := by
    rw [hLB]; split
    · exact logB_small ‹_›
    · simp
  have hT : toldL e xs = mk (numB 0) :: chunks LB.length LB := by
    rw [toldL, hLB]; split
    · rfl
    · rfl
  repeat' (first|refine bk ?_|refine bkc ?_|refine bks ?_|refine bkd ?_|refine bkq (fun q => ?_)|(refine bk2 ?_ ?_<;>(first|exact bkn|(refine bkk ?_;intro h))))
  refine WL.call c31 rfl rfl rfl rfl (r_num 0 (by unfold I64; decide) W0 _) ?_
  rintro _ G2 ⟨rfl, hG2⟩
  rw [hG2]; clear hG2 G2
  repeat' (first|refine bk ?_|refine bkc ?_|refine bks ?_|refine bkd ?_|refine bkq (fun q => ?_)|(refine bk2 ?_ ?_<;>(first|exact bkn|(refine bkk ?_;intro h))))
  refine WL.buildSlice TT rfl rfl rfl rfl rfl rfl rfl rfl (fun q2 => ?_)
  repeat' (first|refine bk ?_|refine bkc ?_|refine bks ?_|refine bkd ?_|refine bkq (fun q => ?_)|(refine bk2 ?_ ?_<;>(first|exact bkn|(refine bkk ?_;intro h))))
  refine CS.loop (X := List UInt8 × List ByteArray × Option Addr × Nat) (fun y => [(3, .string (mk y.1)), (5, .slice y.2.2.1 y.2.1.length y.2.2.2)])
    (fun y => slc strE 9 y.2.2.1 y.2.2.2 y.2.1 :: G) (fun y => y.1.length ≤ 187900 ∧ y.2.1.length ≤ 1000000 ∧ toldL e xs = y.2.1 ++ chunks y.1.length y.1) (fun y => y.1.length) (LB, [mk (numB 0)], some ⟨q2, 0, none⟩, 1) ⟨rfl, rfl, trivial⟩ (fun w hs => (row_own strE [mk (numB 0)] rfl (by simp [maxLen]) hs).kick (i := 1) rfl) ⟨hBL, by simp, by rw [hT]; rfl⟩ ?_
  rintro ⟨l, ps, A1, c1⟩ ⟨h1, h2, h3⟩
  simp only at h1 h2 h3 ⊢
  repeat' (first|refine bk ?_|refine bkc ?_|refine bks ?_|refine bkd ?_|refine bkq (fun q => ?_)|(refine bk2 ?_ ?_<;>(first|exact bkn|(refine bkk ?_;intro h))))
  · have hne : l ≠ [] := fun e => by subst e; simp [mk_size] at h
    have hp := List.length_pos_iff.2 hne
    obtain ⟨m, hm⟩ : ∃ m, m = min l.length 4000 := ⟨_, rfl⟩
    rw [show (if (4000 : Int) < ((mk l).size : Int) then (4000 : Int) else ((mk l).size : Int)) = (m : Int) from by rw [mk_size, hm]; split <;> omega]
    have e1 : (mk l).extract (Int.toNat 0) (Int.toNat (m : Int)) = mk (l.take 4000) := by
      rw [ext_mk, bs_mk, Int.toNat_natCast, hm]
      simp only [Int.toNat_zero, List.drop_zero, Nat.sub_zero]
      by_cases h4 : l.length ≤ 4000
      · rw [Nat.min_eq_left h4, List.take_length, List.take_of_length_le h4]
      · rw [Nat.min_eq_right (by omega)]
    have e2 : (mk l).extract (Int.toNat (m : Int)) (Int.toNat ((mk l).size : Int)) = mk (l.drop 4000) := by
      rw [ext_mk, bs_mk, Int.toNat_natCast, mk_size, Int.toNat_natCast, hm]
      by_cases h4 : l.length ≤ 4000
      · rw [Nat.min_eq_left h4, List.drop_eq_nil_of_le (Nat.le_refl _), List.drop_eq_nil_of_le h4, List.take_nil]
      · rw [Nat.min_eq_right (by omega), List.take_of_length_le (by rw [List.length_drop]; omega)]
    have hch : chunks l.length l = mk (l.take 4000) :: chunks (l.drop 4000).length (l.drop 4000) := by
      obtain ⟨f, hf⟩ : ∃ f, l.length = f + 1 := ⟨l.length - 1, by omega⟩
      rw [hf, chunks, if_neg hne]
      congr 1
      exact chunks_fuel (by rw [List.length_drop]; omega) (Nat.le_refl _)
    have hpl : (ps ++ [mk (l.take 4000)]).length = ps.length + 1 := by simp
    have hTl := (joinOk_iff.1 (toldL_ok e xs)).1
    have hpt : ps.length + 1 ≤ 1000 := by
      rw [h3, hch, List.length_append, List.length_cons] at hTl; omega
    refine WL.s (op1_slice TT (l := 0) (r := (m : Int)) (s := mk l) rfl rfl rfl rfl ⟨by omega, by omega, by rw [mk_size]; omega⟩) rfl ?_
    rw [e1]
    refine WL.buildSlice TT rfl rfl rfl rfl rfl rfl rfl rfl (fun q3 => ?_)
    refine WL.append TT (E := strE) (xs := ps) (ys := [mk (l.take 4000)]) 1 rfl rfl rfl rfl rfl (Rd.row (i := 0) rfl rfl) rfl rfl rfl rfl rfl (by decide) (by simp only [List.length_cons, List.length_nil]; omega) (fun _ _ => rfl) rfl (fun A5 c5 => ?_)
    repeat' (first|refine bk ?_|refine bkc ?_|refine bks ?_|refine bkd ?_|refine bkq (fun q => ?_)|(refine bk2 ?_ ?_<;>(first|exact bkn|(refine bkk ?_;intro h))))
    refine WL.s (op1_slice TT (l := (m : Int)) (r := ((mk l).size : Int)) (s := mk l) rfl rfl rfl rfl ⟨by omega, by rw [mk_size]; omega, by omega⟩) rfl ?_
    rw [e2]
    repeat' (first|refine bk ?_|refine bkc ?_|refine bks ?_|refine bkd ?_|refine bkq (fun q => ?_)|(refine bk2 ?_ ?_<;>(first|exact bkn|(refine bkk ?_;intro h))))
    exact QS.again (l.drop 4000, ps ++ [mk (l.take 4000)], A5, c5) ⟨by simp only; rw [List.length_drop]; omega, by simp only; omega, by simp only; rw [h3, hch, List.append_assoc]; rfl⟩ (by simp only; rw [List.length_drop]; omega) ⟨rfl, rfl, trivial⟩ (fun w hs => hs.drop)
  · have hl : l = [] := List.eq_nil_of_length_eq_zero (by rw [mk_size] at h; omega)
    subst hl
    rw [show chunks ([] : List UInt8).length [] = [] from rfl, List.append_nil] at h3
    refine WL.call c32 rfl rfl rfl rfl (r_join _ _ _ ps rfl (by rw [← h3]; exact toldL_ok e xs) W0 _ (Rd.slc (i := 0) rfl)) ?_
    rintro _ _ ⟨rfl, rfl⟩
    repeat' (first|refine bk ?_|refine bkc ?_|refine bks ?_|refine bkd ?_|refine bkq (fun q => ?_)|(refine bk2 ?_ ?_<;>(first|exact bkn|(refine bkk ?_;intro h))))
    exact QS.turn (G' := G) (fun w hs => hs.drop) (QS.retV Try.results45 rfl ⟨by rw [← h3]; rfl, rfl⟩)
theorem ent_ext2 {x y : Ent} (h1 : x.n = y.n) (h2 : x.s = y.s) : x = y := by cases x; cases y; simp_all
set_option maxHeartbeats 2000000 in
theorem r_Entries (A B : Option Addr) (k c k2 c2 : Nat) (xs ys : List Ent) (hk : k = xs.length) (hk2 : k2 = ys.length) (hkb : k ≤ 1000000) (W0 : World) (G : List SL) (hR : Rd W0 G entE A xs) (hR2 : Rd W0 G entE B ys) :
    Fn Try.prog 46 [.slice A k c, .slice B k2 c2] W0 G (Ret fun v G' => v = .bool (decide (xs = ys)) ∧ G' = G) := by
  refine Fn.enter Try.func46 rfl Try.ntmps46 rfl ?_
  repeat' (first|refine bk ?_|refine bkc ?_|refine bks ?_|refine bkd ?_|refine bkq (fun q => ?_)|(refine bk2 ?_ ?_<;>(first|exact bkn|(refine bkk ?_;intro h))))
  · refine QS.retV Try.results46 rfl ⟨?_, rfl⟩
    rw [decide_eq_false (fun e => by subst e; omega)]; rfl
  have hkk : xs.length = ys.length := by omega
  refine CS.loop (X := Nat) (fun i => [(0, .slice A k c), (1, .slice B k2 c2), (5, .int .i64 (i : Int))]) (fun i => G)
    (fun i => i ≤ k ∧ xs.take i = ys.take i) (fun i => k - i) 0 ⟨rfl, rfl, rfl, trivial⟩ (fun w hs => hs) ⟨Nat.zero_le _, rfl⟩ ?_
  rintro i ⟨hi, he⟩
  refine CS.world fun hw => ?_
  repeat' (first|refine bk ?_|refine bkc ?_|refine bks ?_|refine bkd ?_|refine bkq (fun q => ?_)|(refine bk2 ?_ ?_<;>(first|exact bkn|(refine bkk ?_;intro h))))
  · obtain ⟨x, hx⟩ : ∃ x, xs[i]? = some x := ⟨xs[i]'(by omega), List.getElem?_eq_getElem (by omega)⟩
    obtain ⟨y, hy⟩ : ∃ y, ys[i]? = some y := ⟨ys[i]'(by omega), List.getElem?_eq_getElem (by omega)⟩
    refine WQ.idx TT hR rfl rfl hk (by omega) (by rw [Int.toNat_natCast]; exact hx) rfl rfl rfl rfl hw (fun b2 o hA => ?_)
    refine WQ.s (op1_at TT hA rfl rfl rfl rfl) rfl ?_
    repeat' (first|refine bk ?_|refine bkc ?_|refine bks ?_|refine bkd ?_|refine bkq (fun q => ?_)|(refine bk2 ?_ ?_<;>(first|exact bkn|(refine bkk ?_;intro h))))
    refine WQ.idx TT hR2 rfl rfl hk2 (by omega) (by rw [Int.toNat_natCast]; exact hy) rfl rfl rfl rfl hw (fun b3 o3 hA3 => ?_)
    refine WQ.s (op1_at TT hA3 rfl rfl rfl rfl) rfl ?_
    have hcmp : eqFs TT [(3, 0), (9, 1)] [.int .i64 x.n, .string x.s] [.int .i64 y.n, .string y.s] = some (decide (x.n = y.n) && decide (x.s = y.s)) := by
      have e : (decide (x.n = y.n) && decide (x.s = y.s)) = (decide (x.n = y.n) && (decide (x.s = y.s) && true)) := by rw [Bool.and_true]
      rw [e]; rfl
    refine WQ.s (op1_neS TT cmp24 rfl rfl rfl rfl hcmp) rfl ?_
    by_cases hxy : x = y
    · subst hxy
      simp only [decide_true, Bool.and_self, Bool.not_true]
      repeat' (first|refine bk ?_|refine bkc ?_|refine bks ?_|refine bkd ?_|refine bkq (fun q => ?_)|(refine bk2 ?_ ?_<;>(first|exact bkn|(refine bkk ?_;intro h))))
      refine QS.again (i + 1) ⟨by omega, ?_⟩ (by omega) ⟨rfl, rfl, ?_, trivial⟩ (fun w hs => hs)
      · rw [List.take_add_one, List.take_add_one, hx, hy, he]
      · rw [show ((i + 1 : Nat) : Int) = (i : Int) + 1 from by omega]; rfl
    · have : (decide (x.n = y.n) && decide (x.s = y.s)) = false := by
        rw [Bool.and_eq_false_iff, decide_eq_false_iff_not, decide_eq_false_iff_not]
        by_cases h1 : x.n = y.n
        · exact .inr fun h2 => hxy (ent_ext2 h1 h2)
        · exact .inl h1
      simp only [this, Bool.not_false]
      repeat' (first|refine bk ?_|refine bkc ?_|refine bks ?_|refine bkd ?_|refine bkq (fun q => ?_)|(refine bk2 ?_ ?_<;>(first|exact bkn|(refine bkk ?_;intro h))))
      refine QS.retV Try.results46 rfl ⟨?_, rfl⟩
      rw [decide_eq_false (fun e => hxy (by rw [e, hy] at hx; exact (Option.some.inj hx).symm))]; rfl
  · refine QS.retV Try.results46 rfl ⟨?_, rfl⟩
    rw [decide_eq_true (by rw [List.take_of_length_le (by omega), List.take_of_length_le (by omega)] at he; exact he)]; rfl
theorem r_Same (e : Int) (A B : Option Addr) (k c k2 c2 : Nat) (xs : List Ent) (hk : k = xs.length) (hk2 : k2 = xs.length) (hkb : k ≤ 1000000) (W0 : World) (G : List SL) (hR : Rd W0 G entE A xs) (hR2 : Rd W0 G entE B xs) :
    Fn Try.prog 13 [logV e A k c, logV e B k2 c2] W0 G (Ret fun v G' => v = .bool true ∧ G' = G) := by
  refine Fn.enter Try.func13 rfl Try.ntmps13 rfl ?_
  have ht : decide (e = e) = true := decide_eq_true rfl
  repeat' (first|refine bk ?_|refine bkc ?_|refine bks ?_|refine bkd ?_|refine bkq (fun q => ?_)|(refine bk2 ?_ ?_<;>(first|exact bkn|(refine bkk ?_;intro h))))
  refine WL.call c46 rfl rfl rfl rfl (r_Entries A B k c k2 c2 xs xs hk hk2 hkb W0 _ hR.cons.cons hR2.cons.cons) ?_
  rintro _ G2 ⟨rfl, hG2⟩
  rw [hG2]; clear hG2 G2
  rw [show decide (xs = xs) = true from decide_eq_true rfl]
  repeat' (first|refine bk ?_|refine bkc ?_|refine bks ?_|refine bkd ?_|refine bkq (fun q => ?_)|(refine bk2 ?_ ?_<;>(first|exact bkn|(refine bkk ?_;intro h))))
  exact QS.turn (G' := G) (fun w hs => hs.drop.drop) (QS.retV Try.results13 rfl ⟨rfl, rfl⟩)
end Go.Proofs.Ytejdkcnbflpfaaa.B

set_option linter.unusedVariables false
set_option linter.unusedSimpArgs false
set_option maxRecDepth 8000
/-! The document's reading of an answer. -/
namespace Go.Proofs.Ytejdkcnbflpfaaa.B
open Go Go.Proofs
attribute [local irreducible] WL CS QS WQ WH WS Fn Op1 row Sat
attribute [local irreducible] slc

set_option maxHeartbeats 4000000 in
theorem r_Told (s : ByteArray) (hs : s.size ≤ 9223372036854775807) (W0 : World) (G : List SL) :
    Fn Try.prog 12 [.string s] W0 G (Ret fun v G' => ∃ A c, v = .tuple #[logV (toldM (bs s)).1 A (toldM (bs s)).2.1.length c, .int .i64 (toldM (bs s)).2.2] ∧ G' = slc entE 24 A c (toldM (bs s)).2.1 :: G) := by
  refine Fn.enter Try.func12 rfl Try.ntmps12 rfl ?_
  repeat' (first|refine bk ?_|refine bkc ?_|refine bks ?_|refine bkd ?_|refine bkq (fun q => ?_)|(refine bk2 ?_ ?_<;>(first|exact bkn|(refine bkk ?_;intro h))))
  revert q; intro b
  have hsp := ref_Split s hs W0 (row b 34 [.int .i64 0, .slice none 0 0] :: G)
  obtain ⟨M, hM⟩ : ∃ M, M = toldM (bs s) := ⟨_, rfl⟩
  rw [← hM]
  rw [toldM] at hM
  cases hl : splitP (bs s) with
  | none =>
    rw [hl] at hsp hM
    simp only at hsp hM
    refine WL.call c42 rfl rfl rfl rfl hsp ?_
    rintro _ G2 ⟨rfl, hG2⟩
    rw [hG2]; clear hG2 G2
    subst hM
    repeat' (first|refine bk ?_|refine bkc ?_|refine bks ?_|refine bkd ?_|refine bkq (fun q => ?_)|(refine bk2 ?_ ?_<;>(first|exact bkn|(refine bkk ?_;intro h))))
    exact QS.turn (G' := slc entE 24 none 0 ([] : List Ent) :: row b 34 [.int .i64 0, .slice none 0 0] :: G) (fun w hs => hs.slcNil _ _) (QS.turnR (G2 := slc entE 24 none 0 ([] : List Ent) :: G) (fun w hs => hs.kick (i := 1) rfl) (QS.retC TT 1 Try.results12 rfl rfl rfl rfl ⟨rfl, none, 0, rfl, rfl⟩))
  | some l =>
    rw [hl] at hsp hM
    simp only at hsp
    obtain ⟨hl1, hl2⟩ := joinOk_iff.1 (splitP_some hl).2
    refine WL.call c42 rfl rfl rfl rfl hsp ?_
    rintro _ _ ⟨A, c, rfl, rfl⟩
    rcases Nat.eq_zero_or_pos l.length with h0 | h0
    · have : l = [] := List.eq_nil_of_length_eq_zero h0
      rw [this] at hM
      simp only at hM
      subst hM
      repeat' (first|refine bk ?_|refine bkc ?_|refine bks ?_|refine bkd ?_|refine bkq (fun q => ?_)|(refine bk2 ?_ ?_<;>(first|exact bkn|(refine bkk ?_;intro h))))
      exact QS.turn (G' := slc entE 24 none 0 ([] : List Ent) :: row b 34 [.int .i64 0, .slice none 0 0] :: G) (fun w hs => hs.drop.slcNil _ _) (QS.turnR (G2 := slc entE 24 none 0 ([] : List Ent) :: G) (fun w hs => hs.kick (i := 1) rfl) (QS.retC TT 1 Try.results12 rfl rfl rfl rfl ⟨rfl, none, 0, rfl, rfl⟩))
    · obtain ⟨hd, hh⟩ : ∃ x, l[0]? = some x := ⟨l[0]'h0, List.getElem?_eq_getElem h0⟩
      obtain ⟨t, ht⟩ : ∃ t, l = hd :: t := by
        cases l with
        | nil => simp at h0
        | cons x r => simp at hh; subst hh; exact ⟨r, rfl⟩
      have hlen : l.length = t.length + 1 := by rw [ht]; rfl
      rw [ht] at hM
      simp only at hM
      repeat' (first|refine bk ?_|refine bkc ?_|refine bks ?_|refine bkd ?_|refine bkq (fun q => ?_)|(refine bk2 ?_ ?_<;>(first|exact bkn|(refine bkk ?_;intro h))))
      refine WL.idx TT (Rd.slc (i := 0) rfl) rfl rfl rfl (by omega) (by rw [Int.toNat_zero]; exact hh) rfl rfl rfl rfl (fun bb o hA => ?_)
      refine WL.s (op1_at TT hA rfl rfl rfl rfl) rfl ?_
      have hhs := hl2 hd (List.mem_of_getElem? hh)
      refine WL.call c43 rfl rfl rfl rfl (r_number hd (by omega) W0 _) ?_
      rintro _ G2 ⟨⟨n, rfl, hn⟩, hG2⟩
      rw [hG2]; clear hG2 G2
      cases hnp : numP hd with
      | none =>
        rw [hnp] at hM
        simp only [Option.isSome_none] at hM ⊢
        subst hM
        repeat' (first|refine bk ?_|refine bkc ?_|refine bks ?_|refine bkd ?_|refine bkq (fun q => ?_)|(refine bk2 ?_ ?_<;>(first|exact bkn|(refine bkk ?_;intro h))))
        exact QS.turn (G' := slc entE 24 none 0 ([] : List Ent) :: row b 34 [.int .i64 0, .slice none 0 0] :: G) (fun w hs => hs.drop.slcNil _ _) (QS.turnR (G2 := slc entE 24 none 0 ([] : List Ent) :: G) (fun w hs => hs.kick (i := 1) rfl) (QS.retC TT 1 Try.results12 rfl rfl rfl rfl ⟨rfl, none, 0, rfl, rfl⟩))
      | some n' =>
        have hnn := hn n' (by first | rfl | exact hnp)
        subst hnn
        rw [hnp] at hM
        simp only [Option.isSome_some] at hM ⊢
        rcases cond14 (n := n) (t := t) with hc | hc
        · have hc2 : n < 0 ∨ 14 < n ∨ (n ≠ 0 ∧ l.length ≠ 1) := hc.imp id (fun h => h.imp id (fun h => ⟨h.1, fun h2 => h.2 (List.eq_nil_of_length_eq_zero (by omega))⟩))
          rw [if_neg (fun h' => hc.elim (fun h2 => by omega) (fun h2 => h2.elim (fun h3 => by omega) (fun h3 => h'.2.2.elim h3.1 h3.2)))] at hM
          subst hM
          clear hc
          repeat' (first|refine bk ?_|refine bkc ?_|refine bks ?_|refine bkd ?_|refine bkq (fun q => ?_)|(refine bk2 ?_ ?_<;>(first|exact bkn|(refine bkk ?_;intro h))))
          all_goals first
            | (exfalso; omega)
            | (exact QS.turn (G' := slc entE 24 none 0 ([] : List Ent) :: row b 34 [.int .i64 0, .slice none 0 0] :: G) (fun w hs => hs.drop.slcNil _ _) (QS.turnR (G2 := slc entE 24 none 0 ([] : List Ent) :: G) (fun w hs => hs.kick (i := 1) rfl) (QS.retC TT 1 Try.results12 rfl rfl rfl rfl ⟨rfl, none, 0, rfl, rfl⟩)))
        · rw [if_pos hc] at hM
          by_cases ht1 : t = []
          · rw [if_pos ht1] at hM
            subst hM
            have hl3 : l.length = 1 := by rw [hlen, ht1]; rfl
            repeat' (first|refine bk ?_|refine bkc ?_|refine bks ?_|refine bkd ?_|refine bkq (fun q => ?_)|(refine bk2 ?_ ?_<;>(first|exact bkn|(refine bkk ?_;intro h))))
            all_goals first
              | (exfalso; omega)
              | (exact QS.turn (G' := slc entE 24 none 0 ([] : List Ent) :: row b 34 [.int .i64 0, .slice none 0 0] :: G) (fun w hs => hs.drop.slcNil _ _) (QS.turnR (G2 := slc entE 24 none 0 ([] : List Ent) :: G) (fun w hs => hs.kick (i := 1) rfl) (QS.retC TT 1 Try.results12 rfl rfl rfl rfl ⟨rfl, none, 0, rfl, rfl⟩)))
          · rw [if_neg ht1] at hM
            obtain rfl : n = 0 := hc.2.2.elim id (fun h => absurd h ht1)
            have ht2 : t.length ≠ 0 := fun h => ht1 (List.eq_nil_of_length_eq_zero h)
            repeat' (first|refine bk ?_|refine bkc ?_|refine bks ?_|refine bkd ?_|refine bkq (fun q => ?_)|(refine bk2 ?_ ?_<;>(first|exact bkn|(refine bkk ?_;intro h))))
            all_goals try (exfalso; omega)
            have htm : ∀ x ∈ t, x.size ≤ 4000 := fun x hx => hl2 x (by rw [ht]; exact List.mem_cons_of_mem _ hx)
            have hfl : ∀ j, ((t.take j).flatMap fun x => bs x).length ≤ 4000000 := fun j => by
              have h1 := flat_total (l := t.take j) (fun x hx => htm x (List.mem_of_mem_take hx))
              rw [List.length_take] at h1
              omega
            refine CS.loop (X := Nat) (fun j => [(0, .string s), (2, .pointer (some ⟨b, 0, none⟩)), (4, .slice A l.length c), (8, .string (mk ((t.take j).flatMap fun x => bs x))), (9, .int .i64 ((j : Int) + 1))])
              (fun _ => slc strE 9 A c l :: row b 34 [.int .i64 0, .slice none 0 0] :: G) (fun j => j ≤ t.length) (fun j => t.length - j) 0 ⟨rfl, rfl, rfl, rfl, rfl, trivial⟩ (fun w hs => hs) (Nat.zero_le _) ?_
            intro j hj
            have hfj := hfl j
            have hfs := mk_size ((t.take j).flatMap fun x => bs x)
            repeat' (first|refine bk ?_|refine bkc ?_|refine bks ?_|refine bkd ?_|refine bkq (fun q => ?_)|(refine bk2 ?_ ?_<;>(first|exact bkn|(refine bkk ?_;intro h))))
            · obtain ⟨x, hx⟩ : ∃ x, t[j]? = some x := ⟨t[j]'(by omega), List.getElem?_eq_getElem (by omega)⟩
              have hx2 : l[j + 1]? = some x := by rw [ht]; exact hx
              have hxs := htm x (List.mem_of_getElem? hx)
              refine WL.idx TT (Rd.slc (i := 0) rfl) rfl rfl rfl (by omega) (by rw [show ((j : Int) + 1).toNat = j + 1 from by omega]; exact hx2) rfl rfl rfl rfl (fun bb o hA => ?_)
              refine WL.s (op1_at TT hA rfl rfl rfl rfl) rfl ?_
              repeat' (first|refine bk ?_|refine bkc ?_|refine bks ?_|refine bkd ?_|refine bkq (fun q => ?_)|(refine bk2 ?_ ?_<;>(first|exact bkn|(refine bkk ?_;intro h))))
              refine QS.again (j + 1) (by omega) (by omega) ⟨rfl, rfl, rfl, ?_, ?_, trivial⟩ (fun w hs => hs)
              · rw [List.take_add_one, hx]
                simp only [Option.toList_some, List.flatMap_append, List.flatMap_cons, List.flatMap_nil, List.append_nil]
                rw [← mk_cat]; rfl
              · rw [show ((j + 1 : Nat) : Int) + 1 = (j : Int) + 1 + 1 from by omega]; rfl
            · have hjt : j = t.length := by omega
              subst hjt
              rw [List.take_length] at *
              generalize (t.flatMap fun x => bs x) = FL at *
              refine WL.call c44 rfl rfl rfl rfl (ref_Parse (mk FL) (by rw [mk_size]; omega) W0 _) ?_
              rw [bs_mk, parseM]
              cases hP : parseP FL with
              | none =>
                rw [hP] at hM
                simp only at hM
                subst hM
                rintro _ _ ⟨A1, c1, rfl, rfl⟩
                repeat' (first|refine bk ?_|refine bkc ?_|refine bks ?_|refine bkd ?_|refine bkq (fun q => ?_)|(refine bk2 ?_ ?_<;>(first|exact bkn|(refine bkk ?_;intro h))))
                (exact QS.turn (G' := slc entE 24 none 0 ([] : List Ent) :: row b 34 [.int .i64 0, .slice none 0 0] :: G) (fun w hs => hs.drop.drop.drop.slcNil _ _) (QS.turnR (G2 := slc entE 24 none 0 ([] : List Ent) :: G) (fun w hs => hs.kick (i := 1) rfl) (QS.retC TT 1 Try.results12 rfl rfl rfl rfl ⟨rfl, none, 0, rfl, rfl⟩)))
              | some y =>
                obtain ⟨e, xs, r⟩ := y
                rw [hP] at hM
                simp only at hM
                rintro _ _ ⟨A1, c1, rfl, rfl⟩
                simp only
                by_cases hr : r = []
                · subst hr
                  simp only [decide_true]
                  repeat' (first|refine bk ?_|refine bkc ?_|refine bks ?_|refine bkd ?_|refine bkq (fun q => ?_)|(refine bk2 ?_ ?_<;>(first|exact bkn|(refine bkk ?_;intro h))))
                  refine WL.call c45 rfl rfl rfl rfl (r_told e A1 _ c1 xs rfl W0 _ (Rd.slc (i := 1) rfl)) ?_
                  rintro _ G2 ⟨rfl, hG2⟩
                  rw [hG2]; clear hG2 G2
                  by_cases htd : toldB e xs = bs s
                  · rw [if_pos ⟨rfl, htd⟩] at hM
                    subst hM
                    rw [htd, mk_bs]
                    have hd1 : decide (¬ s = s) = false := decide_eq_false (fun h => h rfl)
                    repeat' (first|refine bk ?_|refine bkc ?_|refine bks ?_|refine bkd ?_|refine bkq (fun q => ?_)|(refine bk2 ?_ ?_<;>(first|exact bkn|(refine bkk ?_;intro h))))
                    all_goals first
                      | exact absurd trivial (by assumption)
                      | (exact QS.turn (G' := slc entE 24 A1 c1 xs :: row b 34 [.int .i64 e, .slice A1 xs.length c1] :: G) (fun w hs => hs.drop.kick (i := 1) rfl) (QS.turnR (G2 := slc entE 24 A1 c1 xs :: G) (fun w hs => hs.kick (i := 1) rfl) (QS.retC TT 1 Try.results12 rfl rfl rfl rfl ⟨rfl, A1, c1, rfl, rfl⟩)))
                  · rw [if_neg (fun h => htd h.2)] at hM
                    subst hM
                    have hd1 : ¬ mk (toldB e xs) = s := fun h => htd (by rw [← h, bs_mk])
                    repeat' (first|refine bk ?_|refine bkc ?_|refine bks ?_|refine bkd ?_|refine bkq (fun q => ?_)|(refine bk2 ?_ ?_<;>(first|exact bkn|(refine bkk ?_;intro h))))
                    all_goals first
                      | exact absurd (by assumption) hd1
                      | (exact QS.turn (G' := slc entE 24 none 0 ([] : List Ent) :: row b 34 [.int .i64 0, .slice none 0 0] :: G) (fun w hs => hs.drop.drop.drop.slcNil _ _) (QS.turnR (G2 := slc entE 24 none 0 ([] : List Ent) :: G) (fun w hs => hs.kick (i := 1) rfl) (QS.retC TT 1 Try.results12 rfl rfl rfl rfl ⟨rfl, none, 0, rfl, rfl⟩)))
                · rw [if_neg (fun h => hr h.1)] at hM
                  subst hM
                  rw [decide_eq_false hr]
                  repeat' (first|refine bk ?_|refine bkc ?_|refine bks ?_|refine bkd ?_|refine bkq (fun q => ?_)|(refine bk2 ?_ ?_<;>(first|exact bkn|(refine bkk ?_;intro h))))
                  (exact QS.turn (G' := slc entE 24 none 0 ([] : List Ent) :: row b 34 [.int .i64 0, .slice none 0 0] :: G) (fun w hs => hs.drop.drop.drop.slcNil _ _) (QS.turnR (G2 := slc entE 24 none 0 ([] : List Ent) :: G) (fun w hs => hs.kick (i := 1) rfl) (QS.retC TT 1 Try.results12 rfl rfl rfl rfl ⟨rfl, none, 0, rfl, rfl⟩)))
end Go.Proofs.Ytejdkcnbflpfaaa.B

set_option linter.unusedVariables false
set_option linter.unusedSimpArgs false
set_option maxRecDepth 8000
/-! slices.Clone, Clip, Equal of entries. -/
namespace Go.Proofs.Ytejdkcnbflpfaaa.B
open Go Go.Proofs
attribute [local irreducible] WL CS QS WQ WH WS Fn Op1 row Sat
attribute [local irreducible] slc

theorem Rd.none_nil {α : Type} {W0 : World} {G : List SL} {E : EncK α} {xs : List α} (h : Rd W0 G E none xs) (hw : ∃ w, Sat W0 G w) : xs = [] := by
  obtain ⟨w, hs⟩ := hw
  rcases h w hs with h | ⟨b, o, h, _⟩
  · have h1 := congrArg List.length h
    rw [flat_len] at h1
    have := E.pos
    rcases Nat.mul_eq_zero.1 (by simpa using h1) with h2 | h2
    · exact List.eq_nil_of_length_eq_zero h2
    · omega
  · cases h
theorem ent_Clone (A : Option Addr) (k c : Nat) (xs : List Ent) (hk : k = xs.length) (hl : xs.length ≤ 1000000) (W0 : World) (G : List SL) (hR : Rd W0 G entE A xs) :
    Fn Try.prog 54 [.slice A k c] W0 G (Ret fun v G' => ∃ A' c', v = .slice A' xs.length c' ∧ G' = slc entE 24 A' c' xs :: G) := by
  subst hk
  refine Fn.world fun hw => ?_
  refine Fn.enter Try.func54 rfl Try.ntmps54 rfl ?_
  repeat' (first|refine bk ?_|refine bkc ?_|refine bks ?_|refine bkd ?_|refine bkq (fun q => ?_)|(refine bk2 ?_ ?_<;>(first|exact bkn|(refine bkk ?_;intro h))))
  refine WL.s (op1_eqNil TT rfl rfl rfl) rfl ?_
  cases A with
  | none =>
    obtain rfl := hR.none_nil hw
    repeat' (first|refine bk ?_|refine bkc ?_|refine bks ?_|refine bkd ?_|refine bkq (fun q => ?_)|(refine bk2 ?_ ?_<;>(first|exact bkn|(refine bkk ?_;intro h))))
    exact QS.turn (G' := slc entE 24 none 0 ([] : List Ent) :: G) (fun w hs => hs.slcNil _ _) (QS.retV Try.results54 rfl ⟨none, 0, rfl, rfl⟩)
  | some a =>
    repeat' (first|refine bk ?_|refine bkc ?_|refine bks ?_|refine bkd ?_|refine bkq (fun q => ?_)|(refine bk2 ?_ ?_<;>(first|exact bkn|(refine bkk ?_;intro h))))
    refine WL.buildSlice TT rfl rfl rfl rfl rfl rfl rfl rfl (fun q => ?_)
    refine WL.turn (fun w hs => row_slc (α := Ent) entE hs) ?_
    repeat' (first|refine bk ?_|refine bkc ?_|refine bks ?_|refine bkd ?_|refine bkq (fun q => ?_)|(refine bk2 ?_ ?_<;>(first|exact bkn|(refine bkk ?_;intro h))))
    refine WL.append TT (E := entE) (xs := []) (ys := xs) 0 rfl rfl rfl rfl rfl hR.cons rfl rfl rfl rfl rfl (by decide) (by simp only [List.length_nil]; omega) (fun _ _ => rfl) rfl (fun A5 c5 => ?_)
    rw [List.nil_append]
    repeat' (first|refine bk ?_|refine bkc ?_|refine bks ?_|refine bkd ?_|refine bkq (fun q => ?_)|(refine bk2 ?_ ?_<;>(first|exact bkn|(refine bkk ?_;intro h))))
    exact QS.retV Try.results54 rfl ⟨A5, c5, rfl, rfl⟩
end Go.Proofs.Ytejdkcnbflpfaaa.B
