import Derived.Test.YtgebdehpoalfbaaMg23
import Derived.Test.YtgebdehpoalfbaaMg10
set_option linter.unusedVariables false
set_option linter.unusedSimpArgs false
set_option maxRecDepth 8000
/-! The document's own map: Stale. -/
namespace Go.Proofs.Ytgebdehpoalfbaa.B
open Go Go.Proofs
theorem stP_sorted (all : List Blk) (l : List Rep) (k : Nat) : (stP all l k).Pairwise (· ≤ ·) := sortI_sorted _
theorem sorted_le {xs : List Int} (h : xs.Pairwise (· ≤ ·)) {i j : Nat} {x y : Int} (hij : i ≤ j) (hx : xs[i]? = some x) (hy : xs[j]? = some y) : x ≤ y := by
  obtain ⟨h1, h2⟩ := List.getElem?_eq_some_iff.1 hx
  obtain ⟨h3, h4⟩ := List.getElem?_eq_some_iff.1 hy
  rcases Nat.eq_or_lt_of_le hij with e | e
  · subst e; rw [hx] at hy; injection hy with hy; omega
  · have := List.pairwise_iff_getElem.1 h i j h1 h3 e
    rw [h2, h4] at this
    exact this
theorem stP_zero (all : List Blk) (l : List Rep) : stP all l 0 = [] := sortI_of (List.Perm.refl _) List.Pairwise.nil
theorem needB_take2 {l : List Blk} {k : Nat} {x : Blk} (h : l[k]? = some x) (i g : Int) : needB (l.take (k + 1)) i g = (needB (l.take k) i g || (decide (x.id = i) && decide (x.gen = g))) := by
  unfold needB
  rw [List.take_add_one, h, Option.toList_some, List.any_append]
  simp
attribute [local irreducible] WL CS QS WQ WH WS Fn Op1 row Sat
attribute [local irreducible] slc mapb bmA inners slc4 rmA rmC
set_option maxHeartbeats 8000000 in
theorem r_Stale (b : Nat) {M : BM} {L : Nat → List Rep} {s : Nat → Bool} (hC : Cp M L s) (B : Option Addr) (d : Nat) (all : List Blk) (hl : all.length ≤ 1000000) (n : Int) (W0 : World) (F : List SL) (hR : Rd W0 F blkE B all) :
    Fn Try.prog 23 [.pointer (some ⟨b, 0, none⟩), .slice B all.length d, .int .i64 n] W0 (rmA b L s :: F)
      (Ret fun v G' => ∃ A2 c2, v = .slice A2 (M.stale all n).length c2 ∧ G' = slc intE 3 A2 c2 (M.stale all n) :: rmA b L s :: F) := by
  by_cases hn : 0 ≤ n ∧ n < 4
  · obtain ⟨k, rfl⟩ : ∃ k : Nat, n = (k : Int) := ⟨n.toNat, by omega⟩
    have hk : k < 4 := by omega
    have hLl := hC.len k hk
    rw [← hC.stale hk all]
    refine Fn.ex (fun w hs => rmA_open w hs) ?_
    rintro ⟨A, c⟩
    simp only
    refine Fn.enter Try.func23 rfl Try.ntmps23 rfl ?_
    repeat' (first|refine bk ?_|refine bkc ?_|refine bks ?_|refine bkd ?_|refine bkq (fun q => ?_)|(refine bk2 ?_ ?_<;>(first|exact bkn|(refine bkk ?_;intro h))))
    refine CS.loop (X := Nat × Option Addr × Nat) (fun y => [(0, .pointer (some ⟨b, 0, none⟩)), (1, .slice B all.length d), (2, .int .i64 (k : Int)), (7, .slice y.2.1 (stP all (L k) y.1).length y.2.2), (8, .int .i64 (y.1 : Int))])
      (fun y => slc intE 3 y.2.1 y.2.2 (stP all (L k) y.1) :: row b 52 (rmC A c L s) :: slc4 A c L :: F) (fun y => y.1 ≤ (L k).length) (fun y => (L k).length - y.1) (0, none, 0) ⟨rfl, rfl, rfl, by simp only [stP_zero]; rfl, rfl, trivial⟩ (fun w hs => by simp only [stP_zero]; exact hs.slcNil intE 3) (Nat.zero_le _) ?_
    rintro ⟨i, A5, c5⟩ hi
    simp only at hi ⊢
    by_cases hik : i < (L k).length
    · obtain ⟨r, hr⟩ : ∃ x, (L k)[i]? = some x := ⟨(L k)[i]'(by omega), List.getElem?_eq_getElem (by omega)⟩
      repeat' (first|refine bk ?_|refine bkc ?_|refine bks ?_|refine bkd ?_|refine bkq (fun q => ?_)|(refine bk2 ?_ ?_<;>(first|exact bkn|(refine bkk ?_;intro h))))
      refine WL.s (op1_idxP TT rfl rfl (by omega) rfl rfl rfl) rfl ?_
      repeat' (first|refine bk ?_|refine bkc ?_|refine bks ?_|refine bkd ?_|refine bkq (fun q => ?_)|(refine bk2 ?_ ?_<;>(first|exact bkn|(refine bkk ?_;intro h))))
      refine WL.s (op1_loadC TT 1 rfl rfl (rm_slice hk (by omega)) rfl rfl) rfl ?_
      repeat' (first|refine bk ?_|refine bkc ?_|refine bks ?_|refine bkd ?_|refine bkq (fun q => ?_)|(refine bk2 ?_ ?_<;>(first|exact bkn|(refine bkk ?_;intro h))))
      refine WL.s (op1_idxP TT rfl rfl (by omega) rfl rfl rfl) rfl ?_
      refine WL.s (op1_loadC TT 1 rfl rfl (rm_slice hk (by omega)) rfl rfl) rfl ?_
      repeat' (first|refine bk ?_|refine bkc ?_|refine bks ?_|refine bkd ?_|refine bkq (fun q => ?_)|(refine bk2 ?_ ?_<;>(first|exact bkn|(refine bkk ?_;intro h))))
      refine WL.idx TT (slc4_rd hk).cons.cons rfl rfl rfl (by omega) (by rw [Int.toNat_natCast]; exact hr) rfl rfl rfl rfl (fun bb o hA => ?_)
      repeat' (first|refine bk ?_|refine bkc ?_|refine bks ?_|refine bkd ?_|refine bkq (fun q => ?_)|(refine bk2 ?_ ?_<;>(first|exact bkn|(refine bkk ?_;intro h))))
      refine WL.s (op1_atF TT 0 hA rfl rfl rfl rfl rfl) rfl ?_
      repeat' (first|refine bk ?_|refine bkc ?_|refine bks ?_|refine bkd ?_|refine bkq (fun q => ?_)|(refine bk2 ?_ ?_<;>(first|exact bkn|(refine bkk ?_;intro h))))
      revert q; intro q9
      refine CS.loop (X := Nat) (fun j => [(0, .pointer (some ⟨b, 0, none⟩)), (1, .slice B all.length d), (2, .int .i64 (k : Int)), (7, .slice A5 (stP all (L k) i).length c5), (8, .int .i64 (i : Int)), (9, .pointer (some ⟨q9, 0, none⟩)), (10, .bool (needB (all.take j) r.id r.gen)), (11, .int .i64 (j : Int))])
        (fun _ => row q9 28 (blkC r.blk) :: slc intE 3 A5 c5 (stP all (L k) i) :: row b 52 (rmC A c L s) :: slc4 A c L :: F) (fun j => j ≤ all.length) (fun j => all.length - j) 0 ⟨rfl, rfl, rfl, rfl, rfl, rfl, rfl, rfl, trivial⟩ (fun w hs => hs) (Nat.zero_le _) ?_
      intro j hj
      refine CS.world fun hw => ?_
      by_cases hjl : j < all.length
      · obtain ⟨x, hx⟩ : ∃ x, all[j]? = some x := ⟨all[j]'(by omega), List.getElem?_eq_getElem (by omega)⟩
        have hnb := needB_take2 hx r.id r.gen
        generalize needB (all.take j) r.id r.gen = nb at hnb ⊢
        cases nb with
        | true =>
          repeat' (first|refine bk ?_|refine bkc ?_|refine bks ?_|refine bkd ?_|refine bkq (fun q => ?_)|(refine bk2 ?_ ?_<;>(first|exact bkn|(refine bkk ?_;intro h))))
          exact QS.again (j + 1) (by show j + 1 ≤ all.length; omega) (by show all.length - (j + 1) < all.length - j; omega) ⟨rfl, rfl, rfl, rfl, rfl, rfl, by rw [hnb]; rfl, rfl, trivial⟩ (fun w hs => hs)
        | false =>
          repeat' (first|refine bk ?_|refine bkc ?_|refine bks ?_|refine bkd ?_|refine bkq (fun q => ?_)|(refine bk2 ?_ ?_<;>(first|exact bkn|(refine bkk ?_;intro h))))
          refine WQ.idx TT hR.cons.cons.cons.cons rfl rfl rfl (by omega) (by rw [Int.toNat_natCast]; exact hx) rfl rfl rfl rfl hw (fun b2 o2 hA2 => ?_)
          repeat' (first|refine bk ?_|refine bkc ?_|refine bks ?_|refine bkd ?_|refine bkq (fun q => ?_)|(refine bk2 ?_ ?_<;>(first|exact bkn|(refine bkk ?_;intro h))))
          refine WQ.s (op1_atF TT 0 hA2 rfl rfl rfl rfl rfl) rfl ?_
          by_cases hid : x.id = r.id
          · have hid' : x.id = r.blk.id := hid
            repeat' (first|refine bk ?_|refine bkc ?_|refine bks ?_|refine bkd ?_|refine bkq (fun q => ?_)|(refine bk2 ?_ ?_<;>(first|exact bkn|(refine bkk ?_;intro h))))
            refine WQ.idx TT hR.cons.cons.cons.cons rfl rfl rfl (by omega) (by rw [Int.toNat_natCast]; exact hx) rfl rfl rfl rfl hw (fun b3 o3 hA3 => ?_)
            repeat' (first|refine bk ?_|refine bkc ?_|refine bks ?_|refine bkd ?_|refine bkq (fun q => ?_)|(refine bk2 ?_ ?_<;>(first|exact bkn|(refine bkk ?_;intro h))))
            refine WQ.s (op1_atF TT 1 hA3 rfl rfl rfl rfl rfl) rfl ?_
            repeat' (first|refine bk ?_|refine bkc ?_|refine bks ?_|refine bkd ?_|refine bkq (fun q => ?_)|(refine bk2 ?_ ?_<;>(first|exact bkn|(refine bkk ?_;intro h))))
            exact QS.again (j + 1) (by show j + 1 ≤ all.length; omega) (by show all.length - (j + 1) < all.length - j; omega) ⟨rfl, rfl, rfl, rfl, rfl, rfl, by rw [hnb, decide_eq_true hid]; rfl, rfl, trivial⟩ (fun w hs => hs)
          · have hid' : ¬ x.id = r.blk.id := hid
            repeat' (first|refine bk ?_|refine bkc ?_|refine bks ?_|refine bkd ?_|refine bkq (fun q => ?_)|(refine bk2 ?_ ?_<;>(first|exact bkn|(refine bkk ?_;intro h))))
            exact QS.again (j + 1) (by show j + 1 ≤ all.length; omega) (by show all.length - (j + 1) < all.length - j; omega) ⟨rfl, rfl, rfl, rfl, rfl, rfl, by rw [hnb, decide_eq_false hid]; rfl, rfl, trivial⟩ (fun w hs => hs)
      · rw [show all.take j = all from List.take_of_length_le (by omega)]
        cases hnb : needB all r.id r.gen with
        | true =>
          have hsk := stP_skip hr hnb
          repeat' (first|refine bk ?_|refine bkc ?_|refine bks ?_|refine bkd ?_|refine bkq (fun q => ?_)|(refine bk2 ?_ ?_<;>(first|exact bkn|(refine bkk ?_;intro h))))
          exact QS.again (i + 1, A5, c5) (by show i + 1 ≤ (L k).length; omega) (by show (L k).length - (i + 1) < (L k).length - i; omega) ⟨rfl, rfl, rfl, by simp only [hsk]; rfl, rfl, trivial⟩ (fun w hs => by simp only [hsk]; exact hs.drop)
        | false =>
          have hin := fun a h1 h2 => stP_ins (a := a) hr hnb h1 h2
          have hso := stP_sorted all (L k) i
          have hln := stP_len all (L k) i
          generalize stP all (L k) i = xs at hin hso hln ⊢
          refine CS.seq ?_
          refine CS.seq ?_
          repeat' (first|refine bk ?_|refine bkc ?_|refine bkd ?_|refine bkq (fun q => ?_)|(refine bk2 ?_ ?_<;>(first|exact bkn|(refine bkk ?_;intro h))))
          refine CS.seq ?_
          refine CS.seq ?_
          repeat' (first|refine bk ?_|refine bkc ?_|refine bkd ?_|refine bkq (fun q => ?_)|(refine bk2 ?_ ?_<;>(first|exact bkn|(refine bkk ?_;intro h))))
          refine CS.seq ?_
          repeat' (first|refine bk ?_|refine bkc ?_|refine bkd ?_|refine bkq (fun q => ?_)|(refine bk2 ?_ ?_<;>(first|exact bkn|(refine bkk ?_;intro h))))
          refine CS.seq ?_
          refine CS.cut (X := Nat) (fun a => [(0, .pointer (some ⟨b, 0, none⟩)), (1, .slice B all.length d), (2, .int .i64 (k : Int)), (7, .slice A5 xs.length c5), (8, .int .i64 (i : Int)), (9, .pointer (some ⟨q9, 0, none⟩)), (12, .int .i64 (a : Int))])
            (fun _ => row q9 28 (blkC r.blk) :: slc intE 3 A5 c5 xs :: row b 52 (rmC A c L s) :: slc4 A c L :: F) (fun a => a ≤ xs.length ∧ (∀ j y, j < a → xs[j]? = some y → y ≤ r.id) ∧ ∀ j y, a ≤ j → xs[j]? = some y → r.id ≤ y) ?_ ?_
          · repeat' (first|refine bk ?_|refine bkc ?_|refine bks ?_|refine bkd ?_|refine bkq (fun q => ?_)|(refine bk2 ?_ ?_<;>(first|exact bkn|(refine bkk ?_;intro h))))
            refine CS.loop (X := Nat) (fun a => [(0, .pointer (some ⟨b, 0, none⟩)), (1, .slice B all.length d), (2, .int .i64 (k : Int)), (7, .slice A5 xs.length c5), (8, .int .i64 (i : Int)), (9, .pointer (some ⟨q9, 0, none⟩)), (12, .int .i64 (a : Int))])
              (fun _ => row q9 28 (blkC r.blk) :: slc intE 3 A5 c5 xs :: row b 52 (rmC A c L s) :: slc4 A c L :: F) (fun a => a ≤ xs.length ∧ ∀ j y, a ≤ j → xs[j]? = some y → r.id ≤ y) (fun a => a) xs.length ⟨rfl, rfl, rfl, rfl, rfl, rfl, rfl, trivial⟩ (fun w hs => hs) ⟨Nat.le_refl _, fun j y hj hy => by have := (List.getElem?_eq_some_iff.1 hy).1; omega⟩ ?_
            rintro a ⟨ha, hge⟩
            refine CS.world fun hw => ?_
            by_cases h0 : 0 < a
            · obtain ⟨y, hy⟩ : ∃ y, xs[a - 1]? = some y := ⟨xs[a - 1]'(by omega), List.getElem?_eq_getElem (by omega)⟩
              have hy' : xs[((a : Int) - 1).toNat]? = some y := by rw [show ((a : Int) - 1).toNat = a - 1 from by omega]; exact hy
              repeat' (first|refine bk ?_|refine bkc ?_|refine bks ?_|refine bkd ?_|refine bkq (fun q => ?_)|(refine bk2 ?_ ?_<;>(first|exact bkn|(refine bkk ?_;intro h))))
              refine WQ.idx TT (Rd.slc (i := 1) rfl) rfl rfl rfl (by omega) hy' rfl rfl rfl rfl hw (fun b2 o2 hA2 => ?_)
              repeat' (first|refine bk ?_|refine bkc ?_|refine bks ?_|refine bkd ?_|refine bkq (fun q => ?_)|(refine bk2 ?_ ?_<;>(first|exact bkn|(refine bkk ?_;intro h))))
              refine WQ.s (op1_at TT hA2 rfl rfl rfl rfl) rfl ?_
              by_cases hyr : r.id < y
              · have hyr' : r.blk.id < y := hyr
                repeat' (first|refine bk ?_|refine bkc ?_|refine bks ?_|refine bkd ?_|refine bkq (fun q => ?_)|(refine bk2 ?_ ?_<;>(first|exact bkn|(refine bkk ?_;intro h))))
                refine QS.again (a - 1) ⟨by omega, fun j z hj hz => ?_⟩ (by show a - 1 < a; omega) ⟨rfl, rfl, rfl, rfl, rfl, rfl, by rw [show ((a - 1 : Nat) : Int) = (a : Int) - 1 from by omega]; rfl, trivial⟩ (fun w hs => hs)
                by_cases e : j = a - 1
                · subst e; rw [hy] at hz; injection hz with hz; omega
                · exact hge j z (by omega) hz
              · have hyr' : ¬ r.blk.id < y := hyr
                repeat' (first|refine bk ?_|refine bkc ?_|refine bks ?_|refine bkd ?_|refine bkq (fun q => ?_)|(refine bk2 ?_ ?_<;>(first|exact bkn|(refine bkk ?_;intro h))))
                exact QS.met a ⟨ha, fun j z hj hz => Int.le_trans (sorted_le hso (show j ≤ a - 1 by omega) hz hy) (by omega), hge⟩ ⟨rfl, rfl, rfl, rfl, rfl, rfl, rfl, trivial⟩ (fun w hs => hs)
            · have e : a = 0 := by omega
              subst e
              repeat' (first|refine bk ?_|refine bkc ?_|refine bks ?_|refine bkd ?_|refine bkq (fun q => ?_)|(refine bk2 ?_ ?_<;>(first|exact bkn|(refine bkk ?_;intro h))))
              exact QS.met 0 ⟨ha, fun j z hj hz => by omega, hge⟩ ⟨rfl, rfl, rfl, rfl, rfl, rfl, rfl, trivial⟩ (fun w hs => hs)
          · rintro a ⟨ha, hlo, hge⟩
            have hfin := hin a hlo hge
            refine QS.ex (X := PLift (xs.length ≤ c5)) (A := fun _ => row q9 28 (blkC r.blk) :: slc intE 3 A5 c5 xs :: row b 52 (rmC A c L s) :: slc4 A c L :: F) (fun w hs => ⟨⟨slc_cap (i := 1) rfl w hs⟩, hs⟩) ?_
            rintro ⟨hcap⟩
            repeat' (first|refine bk ?_|refine bkc ?_|refine bks ?_|refine bkd ?_|refine bkq (fun q => ?_)|(refine bk2 ?_ ?_<;>(first|exact bkn|(refine bkk ?_;intro h))))
            refine WL.s (op1_sliceS (E := intE) (xs := xs) (l := 0) (r := (a : Int)) TT (by rfl) (by rfl) rfl rfl rfl rfl rfl (by omega) hcap) rfl ?_
            simp only [Int.toNat_zero, Nat.sub_zero, Int.toNat_natCast]
            refine WL.turn (fun w hs => hs.slcNil intE 3) ?_
            refine WL.append TT (E := intE) (xs := ([] : List Int)) (ys := (xs.take a).drop 0) 0 rfl rfl rfl (by rw [List.drop_zero, List.length_take]; omega) rfl ((Rd.slc (i := 2) rfl).part (by omega) hcap) rfl rfl rfl rfl rfl (by decide) (by rw [List.drop_zero, List.length_take]; simp; omega) (fun _ _ => rfl) rfl (fun A6 c6 => ?_)
            obtain ⟨X, hX⟩ : ∃ X, X = ([] : List Int) ++ (xs.take a).drop 0 := ⟨_, rfl⟩
            have hXl : X.length = a := by rw [hX, List.nil_append, List.drop_zero, List.length_take]; omega
            rw [← hX]
            repeat' (first|refine bk ?_|refine bkc ?_|refine bks ?_|refine bkd ?_|refine bkq (fun q => ?_)|(refine bk2 ?_ ?_<;>(first|exact bkn|(refine bkk ?_;intro h))))
            refine WL.buildSlice TT rfl rfl rfl rfl rfl rfl rfl rfl (fun qs => ?_)
            refine WL.append TT (E := intE) (xs := X) (ys := [r.id]) 1 rfl rfl rfl rfl rfl (Rd.row (i := 0) rfl rfl) rfl rfl rfl rfl rfl (by decide) (by simp only [List.length_cons, List.length_nil]; omega) (fun _ _ => rfl) rfl (fun A7 c7 => ?_)
            obtain ⟨Y, hY⟩ : ∃ Y, Y = X ++ [r.id] := ⟨_, rfl⟩
            have hYl : Y.length = a + 1 := by rw [hY, List.length_append, hXl]; rfl
            rw [← hY]
            repeat' (first|refine bk ?_|refine bkc ?_|refine bks ?_|refine bkd ?_|refine bkq (fun q => ?_)|(refine bk2 ?_ ?_<;>(first|exact bkn|(refine bkk ?_;intro h))))
            refine WL.s (op1_sliceS (E := intE) (xs := xs) (l := (a : Int)) (r := (xs.length : Int)) TT (by rfl) (by rfl) rfl rfl rfl rfl rfl (by omega) hcap) rfl ?_
            simp only [Int.toNat_natCast]
            refine WL.append TT (E := intE) (xs := Y) (ys := (xs.take xs.length).drop a) 1 rfl rfl rfl (by rw [List.take_length, List.length_drop]) rfl ((Rd.slc (i := 3) rfl).part (by omega) hcap) rfl rfl rfl rfl rfl (by decide) (by rw [List.take_length, List.length_drop]; simp only []; omega) (fun _ _ => rfl) rfl (fun A8 c8 => ?_)
            repeat' (first|refine bk ?_|refine bkc ?_|refine bks ?_|refine bkd ?_|refine bkq (fun q => ?_)|(refine bk2 ?_ ?_<;>(first|exact bkn|(refine bkk ?_;intro h))))
            have hZ : Y ++ (xs.take xs.length).drop a = stP all (L k) (i + 1) := by rw [hfin, hY, hX, List.nil_append, List.drop_zero, List.take_length]
            rw [hZ]
            exact QS.again (i + 1, A8, c8) (by show i + 1 ≤ (L k).length; omega) (by show (L k).length - (i + 1) < (L k).length - i; omega) ⟨rfl, rfl, rfl, rfl, rfl, trivial⟩ (fun w hs => (hs.drop.kick (i := 1) rfl).kick (i := 1) rfl)
    · have e : i = (L k).length := by omega
      repeat' (first|refine bk ?_|refine bkc ?_|refine bks ?_|refine bkd ?_|refine bkq (fun q => ?_)|(refine bk2 ?_ ?_<;>(first|exact bkn|(refine bkk ?_;intro h))))
      refine WL.s (op1_idxP TT rfl rfl (by omega) rfl rfl rfl) rfl ?_
      repeat' (first|refine bk ?_|refine bkc ?_|refine bks ?_|refine bkd ?_|refine bkq (fun q => ?_)|(refine bk2 ?_ ?_<;>(first|exact bkn|(refine bkk ?_;intro h))))
      refine WL.s (op1_loadC TT 1 rfl rfl (rm_slice hk (by omega)) rfl rfl) rfl ?_
      repeat' (first|refine bk ?_|refine bkc ?_|refine bks ?_|refine bkd ?_|refine bkq (fun q => ?_)|(refine bk2 ?_ ?_<;>(first|exact bkn|(refine bkk ?_;intro h))))
      rw [e]
      exact QS.turn (G' := slc intE 3 A5 c5 (stP all (L k) (L k).length) :: rmA b L s :: F) (fun w hs => (rmA_shut w ((hs.front (i := 2) rfl).front (i := 2) rfl)).front (i := 1) rfl) (QS.retV Try.results23 rfl ⟨A5, c5, rfl, rfl⟩)
  · rw [stale_out hC.ok hn]
    refine Fn.enter Try.func23 rfl Try.ntmps23 rfl ?_
    repeat' (first|refine bk ?_|refine bkc ?_|refine bks ?_|refine bkd ?_|refine bkq (fun q => ?_)|(refine bk2 ?_ ?_<;>(first|exact bkn|(refine bkk ?_;intro h))))
    refine CS.loop (X := Unit) (fun _ => [(2, .int .i64 n), (7, .slice none 0 0), (8, .int .i64 0)]) (fun _ => rmA b L s :: F) (fun _ => True) (fun _ => 0) () ⟨rfl, rfl, rfl, trivial⟩ (fun w hs => hs) trivial ?_
    intro _ _
    repeat' (first|refine bk ?_|refine bkc ?_|refine bks ?_|refine bkd ?_|refine bkq (fun q => ?_)|(refine bk2 ?_ ?_<;>(first|exact bkn|(refine bkk ?_;intro h))))
    all_goals first
      | (exfalso; omega)
      | exact QS.turn (G' := slc intE 3 none 0 [] :: rmA b L s :: F) (fun w hs => hs.slcNil intE 3) (QS.retV Try.results23 rfl ⟨none, 0, rfl, rfl⟩)
end Go.Proofs.Ytgebdehpoalfbaa.B

set_option linter.unusedVariables false
set_option linter.unusedSimpArgs false
/-! Numbers are read from a text's beginning. -/
namespace Go.Proofs.Ytgebdehpoalfbaa.B
open Go

def Cont (l : List UInt8) (i : Nat) : Prop := ∀ j < i, ∃ d, l[j]? = some d ∧ 128 ≤ d.toNat
theorem Cont.zero (l : List UInt8) : Cont l 0 := fun j h => absurd h (by omega)
theorem Cont.succ {l : List UInt8} {i : Nat} {c : UInt8} (h : Cont l i) (hc : l[i]? = some c) (hb : 128 ≤ c.toNat) : Cont l (i + 1) := fun j hj => by
  rcases Nat.lt_or_ge j i with h1 | h1
  · exact h j h1
  · have : j = i := by omega
    subst this; exact ⟨c, hc, hb⟩
/-- The last byte of a number's bytes. -/
theorem can_last : ∀ {a : List UInt8} {f : Bool}, Can f a → ∃ k c, a.length = k + 1 ∧ a[k]? = some c ∧ c.toNat < 128 ∧ Cont a k ∧ (f = true ∧ k = 0 ∨ c.toNat ≠ 0)
  | [], _, h => h.elim
  | [c], f, h => ⟨0, c, rfl, rfl, h.1, Cont.zero _, by rcases h.2 with h | h <;> simp [h]⟩
  | c :: d :: r, f, h => by
    obtain ⟨k, e, h1, h2, h3, h4, h5⟩ := can_last h.2
    refine ⟨k + 1, e, by simp at h1 ⊢; omega, by simpa using h2, h3, fun j hj => ?_, ?_⟩
    · cases j with
      | zero => exact ⟨c, rfl, h.1⟩
      | succ j => exact h4 j (by omega)
    · rcases h5 with ⟨h5, _⟩ | h5
      · cases h5
      · exact .inr h5
theorem val_append : ∀ (a b : List UInt8), val (a ++ b) = val a + 128 ^ a.length * val b
  | [], b => by simp [val]
  | c :: a, b => by
    simp only [List.cons_append, val, val_append a b, List.length_cons, Nat.pow_succ, Nat.mul_add]
    rw [Nat.mul_comm (128 ^ a.length) 128, Nat.mul_assoc, Nat.add_assoc]
theorem val_lt : ∀ (a : List UInt8), val a < 128 ^ a.length
  | [] => by simp [val]
  | c :: a => by
    have := val_lt a
    simp only [val, List.length_cons, Nat.pow_succ]
    omega
theorem val_one (c : UInt8) : val [c] = c.toNat % 128 := by simp [val]
theorem take_succ_get {l : List UInt8} {i : Nat} {c : UInt8} (h : l[i]? = some c) : l.take (i + 1) = l.take i ++ [c] := by
  rw [List.take_add_one, h]; rfl
/-- Where a text begins with a number: the first byte without its top bit is the number's last. -/
theorem num_at {l r : List UInt8} {n : Int} (hn : I64 n) (h : l = numB n ++ r) : ∃ k c, k ≤ 9 ∧ l.length ≥ k + 1 ∧ l[k]? = some c ∧ c.toNat < 128 ∧ Cont l k ∧ (k = 0 ∨ c.toNat ≠ 0) ∧ numB n = l.take (k + 1) ∧ val (l.take (k + 1)) = zig n := by
  obtain ⟨k, c, h1, h2, h3, h4, h5⟩ := can_last (can_num n)
  have h6 := num_len hn
  have ht : numB n = l.take (k + 1) := by rw [h, List.take_append, h1, List.take_of_length_le (by omega)]; simp
  have hg : ∀ j, j < k + 1 → l[j]? = (numB n)[j]? := fun j hj => by rw [h, List.getElem?_append_left (by omega)]
  refine ⟨k, c, by omega, ?_, ?_, h3, fun j hj => ?_, ?_, ht, ?_⟩
  · rw [h, List.length_append]; omega
  · rw [hg k (by omega), h2]
  · rw [hg j (by omega)]; exact h4 j hj
  · rcases h5 with h5 | h5
    · exact .inl h5.2
    · exact .inr h5
  · rw [← ht, numB, val_leb]
theorem cont_le {l : List UInt8} {i k : Nat} {c : UInt8} (h : Cont l i) (hk : l[k]? = some c) (hc : c.toNat < 128) : i ≤ k := by
  rcases Nat.lt_or_ge k i with h1 | h1
  · obtain ⟨d, h2, h3⟩ := h k h1
    rw [hk] at h2; injection h2 with h2; subst h2; omega
  · exact h1
theorem tn_end {l : List UInt8} {i : Nat} (h : Cont l i) (hi : i = 10 ∨ l.length ≤ i) : TN l none := fun n r hn hl => by
  obtain ⟨k, c, h1, h2, h3, h4, h5, h6, h7, h8⟩ := num_at hn hl
  have := cont_le h h3 h4
  omega
theorem tn_zero {l : List UInt8} {i : Nat} {c : UInt8} (h : Cont l i) (hi : 0 < i) (hc : l[i]? = some c) (h0 : c.toNat = 0) : TN l none := fun n r hn hl => by
  obtain ⟨k, d, h1, h2, h3, h4, h5, h6, h7, h8⟩ := num_at hn hl
  have e1 := cont_le h h3 h4
  have e2 := cont_le h5 hc (by omega)
  have : k = i := by omega
  subst this
  rw [h3] at hc; injection hc with hc; subst hc
  omega
theorem tn_big {l : List UInt8} {c : UInt8} (h : Cont l 9) (hc : l[9]? = some c) (h0 : 1 < c.toNat) : TN l none := fun n r hn hl => by
  obtain ⟨k, d, h1, h2, h3, h4, h5, h6, h7, h8⟩ := num_at hn hl
  have e1 := cont_le h h3 h4
  have : k = 9 := by omega
  subst this
  rw [h3] at hc; injection hc with hc; subst hc
  rw [take_succ_get h3, val_append, val_one, List.length_take, show min 9 l.length = 9 from by omega] at h8
  have := zig_lt hn
  have e3 : d.toNat % 128 = d.toNat := by omega
  rw [e3] at h8
  have : 128 ^ 9 * 2 ≤ 128 ^ 9 * d.toNat := Nat.mul_le_mul_left _ (by omega)
  omega
theorem can_of {l : List UInt8} {i : Nat} {c : UInt8} : ∀ {f : Bool}, Cont l i → l[i]? = some c → c.toNat < 128 → (f = true ∧ i = 0 ∨ c.toNat ≠ 0) → Can f (l.take (i + 1)) := by
  induction i generalizing l with
  | zero =>
    intro f h hc hb h0
    cases l with
    | nil => simp at hc
    | cons d r =>
      simp at hc; subst hc
      exact ⟨hb, by rcases h0 with h0 | h0 <;> simp [h0]⟩
  | succ i ih =>
    intro f h hc hb h0
    cases l with
    | nil => simp at hc
    | cons d r =>
      obtain ⟨d', e1, e2⟩ := h 0 (by omega)
      simp at e1; subst e1
      have h0' : c.toNat ≠ 0 := by
        rcases h0 with h0 | h0
        · omega
        · exact h0
      have := ih (l := r) (f := false) (fun j hj => by simpa using h (j + 1) (by omega)) (by simpa using hc) hb (.inr h0')
      cases r with
      | nil => simp at hc
      | cons d2 r2 => exact ⟨e2, this⟩
theorem tn_some {l : List UInt8} {i : Nat} {c : UInt8} (h : Cont l i) (hc : l[i]? = some c) (hb : c.toNat < 128) (h0 : i = 0 ∨ c.toNat ≠ 0) (hv : val (l.take (i + 1)) < 2 ^ 64) :
    TN l (some (zag (val (l.take (i + 1))), l.drop (i + 1))) := by
  have h1 : Can true (l.take (i + 1)) := can_of h hc hb (by rcases h0 with h0 | h0 <;> simp [h0])
  refine ⟨zag_i64 hv, ?_⟩
  rw [numB, zig_zag, leb_val h1, List.take_append_drop]
theorem val_next {l : List UInt8} {i : Nat} {c : UInt8} (hc : l[i]? = some c) : val (l.take (i + 1)) = val (l.take i) + c.toNat % 128 * 128 ^ i := by
  have hi := (List.getElem?_eq_some_iff.1 hc).1
  rw [take_succ_get hc, val_append, val_one, List.length_take, show min i l.length = i from by omega, Nat.mul_comm]
theorem val_take_lt (l : List UInt8) (i : Nat) : val (l.take i) < 128 ^ i :=
  Nat.lt_of_lt_of_le (val_lt _) (Nat.pow_le_pow_right (by decide) (by rw [List.length_take]; omega))
/-- As the document reads: what has these bytes, or nothing. -/
theorem tn_ref {l : List UInt8} {i : Nat} {c : UInt8} (h : Cont l i) (hc : l[i]? = some c) (hb : c.toNat < 128) (hi : i < 10) :
    TN l (if numB (zag (val (l.take (i + 1)) % 2 ^ 64)) = l.take (i + 1) then some (zag (val (l.take (i + 1)) % 2 ^ 64), l.drop (i + 1)) else none) := by
  split
  · rename_i e
    exact ⟨zag_i64 (Nat.mod_lt _ (by decide)), by rw [e, List.take_append_drop]⟩
  · rename_i e
    intro n r hn hl
    obtain ⟨k, d, h1, h2, h3, h4, h5, h6, h7, h8⟩ := num_at hn hl
    have e1 := cont_le h h3 h4
    have e2 := cont_le h5 hc hb
    have : k = i := by omega
    subst this
    apply e
    rw [h8, Nat.mod_eq_of_lt (zig_lt hn), zag_zig, h7]

theorem xor_i64 {a b : Int} (ha : 0 ≤ a ∧ a < 2 ^ 63) (hb : b = 0 ∨ b = 1) : bitop .xor .i64 a (-b) = if b = 0 then a else -a - 1 := by
  obtain ⟨m, rfl⟩ := Int.eq_ofNat_of_zero_le ha.1
  have hm : (BitVec.ofInt IntKind.i64.bits (m : Int)).toNat = m := ofInt_nat 64 m (by omega)
  simp only [bitop, BitVec.toNat_xor, hm]
  rcases hb with rfl | rfl
  · rw [if_pos rfl, show (BitVec.ofInt IntKind.i64.bits (-0)).toNat = 0 from by decide, Nat.xor_zero]
    have h : (m : Int) ≤ 9223372036854775807 := by omega
    simp only [IntKind.wrap]
    have e : (m : Int) % 2 ^ IntKind.i64.bits = m := by show (m : Int) % 2 ^ 64 = m; omega
    simp [IntKind.signed, e]
    simp only [show IntKind.i64.bits = 64 from rfl]
    intro; omega
  · rw [if_neg (by decide), show (BitVec.ofInt IntKind.i64.bits (-1)).toNat = 2 ^ 64 - 1 from by decide, xor_ones 64 _ (by omega)]
    have e : ((2 ^ 64 - 1 - m : Nat) : Int) % 2 ^ IntKind.i64.bits = ((2 ^ 64 - 1 - m : Nat) : Int) := by show ((2 ^ 64 - 1 - m : Nat) : Int) % 2 ^ 64 = _; omega
    simp only [IntKind.wrap, e]
    simp only [show IntKind.i64.bits = 64 from rfl, show IntKind.i64.signed = true from rfl, Bool.true_and, decide_eq_true_eq]
    split <;> omega
end Go.Proofs.Ytgebdehpoalfbaa.B
