import Derived.Test.YtejdkcnbflpfaaaMg14
import Derived.Test.YtejdkcnbflpfaaaMg23
import Derived.Test.YtejdkcnbflpfaaaMg31
import Derived.Shelf.Strings.Builder1
import Derived.Shelf.Strings.Builder2
import Derived.Shelf.Strings.OnBuilder
import Derived.Test.YtejdkcnbflpfaaaProg
import Derived.Test.YtejdkcnbflpfaaaMg9
import Derived.Test.YtejdkcnbflpfaaaMg10
set_option linter.unusedVariables false
set_option linter.unusedSimpArgs false
set_option maxRecDepth 8000
/-! The document's texts of a journal. -/
namespace Go.Proofs.Ytejdkcnbflpfaaa.B
open Go Go.Proofs
attribute [local irreducible] WL CS QS WQ WH WS Fn Op1 row Sat
attribute [local irreducible] slc

theorem r_join (A : Option Addr) (k c : Nat) (xs : List ByteArray) (hk : k = xs.length) (hx : joinOk xs = true) (W0 : World) (G : List SL) (hR : Rd W0 G strE A xs) :
    Fn Try.prog 32 [.slice A k c] W0 G (Ret fun v G' => v = .string (mk (joinB xs)) ∧ G' = G) := by
  obtain ⟨h1, h2⟩ := joinOk_iff.1 hx
  refine Fn.enter Try.func32 rfl Try.ntmps32 rfl ?_
  repeat' (first|refine bk ?_|refine bkc ?_|refine bks ?_|refine bkd ?_|refine bkq (fun q => ?_)|(refine bk2 ?_ ?_<;>(first|exact bkn|(refine bkk ?_;intro h))))
  refine WL.call c57 rfl rfl rfl rfl (ref_Join A k c xs hk (fun s hs => by have := h2 s hs; omega) (by omega) W0 _ hR) ?_
  rintro _ G2 ⟨rfl, hG2⟩
  rw [hG2]; clear hG2 G2
  rw [if_pos hx]
  repeat' (first|refine bk ?_|refine bkc ?_|refine bks ?_|refine bkd ?_|refine bkq (fun q => ?_)|(refine bk2 ?_ ?_<;>(first|exact bkn|(refine bkk ?_;intro h))))
  exact QS.retV Try.results32 rfl ⟨rfl, rfl⟩
theorem r_num (n : Int) (h : I64 n) (W0 : World) (G : List SL) :
    Fn Try.prog 31 [.int .i64 n] W0 G (Ret fun v G' => v = .string (mk (numB n)) ∧ G' = G) := by
  refine Fn.enter Try.func31 rfl Try.ntmps31 rfl ?_
  repeat' (first|refine bk ?_|refine bkc ?_|refine bks ?_|refine bkd ?_|refine bkq (fun q => ?_)|(refine bk2 ?_ ?_<;>(first|exact bkn|(refine bkk ?_;intro h))))
  refine WL.call c56 rfl rfl rfl rfl (ref_Num h W0 _) ?_
  rintro _ G2 ⟨rfl, hG2⟩
  rw [hG2]; clear hG2 G2
  repeat' (first|refine bk ?_|refine bkc ?_|refine bks ?_|refine bkd ?_|refine bkq (fun q => ?_)|(refine bk2 ?_ ?_<;>(first|exact bkn|(refine bkk ?_;intro h))))
  exact QS.retV Try.results31 rfl ⟨rfl, rfl⟩
theorem r_Promise (ep : Int) (h : I64 ep) (W0 : World) (G : List SL) :
    Fn Try.prog 15 [.int .i64 ep] W0 G (Ret fun v G' => v = .string (mk (joinB (promL ep))) ∧ G' = G) := by
  refine Fn.enter Try.func15 rfl Try.ntmps15 rfl ?_
  repeat' (first|refine bk ?_|refine bkc ?_|refine bks ?_|refine bkd ?_|refine bkq (fun q => ?_)|(refine bk2 ?_ ?_<;>(first|exact bkn|(refine bkk ?_;intro h))))
  refine WL.call c31 rfl rfl rfl rfl (r_num ep h W0 _) ?_
  rintro _ G2 ⟨rfl, hG2⟩
  rw [hG2]; clear hG2 G2
  repeat' (first|refine bk ?_|refine bkc ?_|refine bks ?_|refine bkd ?_|refine bkq (fun q => ?_)|(refine bk2 ?_ ?_<;>(first|exact bkn|(refine bkk ?_;intro h))))
  refine WL.buildSlice TT rfl rfl rfl rfl rfl rfl rfl rfl (fun q => ?_)
  refine WL.call c32 rfl rfl rfl rfl (r_join _ _ _ (promL ep) rfl (promL_ok h) W0 _ (Rd.row (i := 0) rfl rfl)) ?_
  rintro _ _ ⟨rfl, rfl⟩
  repeat' (first|refine bk ?_|refine bkc ?_|refine bks ?_|refine bkd ?_|refine bkq (fun q => ?_)|(refine bk2 ?_ ?_<;>(first|exact bkn|(refine bkk ?_;intro h))))
  exact QS.turn (G' := G) (fun w hs => hs.drop) (QS.retV Try.results15 rfl ⟨rfl, rfl⟩)
set_option maxHeartbeats 1000000 in
theorem r_Accept (ep : Int) (h : I64 ep) (A : Option Addr) (k c : Nat) (xs : List Ent) (hk : k = xs.length) (hl : xs.length ≤ 9223372036854775807) (W0 : World) (G : List SL) (hR : Rd W0 G entE A xs) :
    Fn Try.prog 8 [.int .i64 ep, .slice A k c] W0 G (Ret fun v G' => v = (if logOk ep xs = true then .tuple #[.string (mk (joinB (accL ep xs))), .bool true] else .tuple #[.string ⟨#[]⟩, .bool false]) ∧ G' = G) := by
  subst hk
  refine Fn.enter Try.func8 rfl Try.ntmps8 rfl ?_
  repeat' (first|refine bk ?_|refine bkc ?_|refine bks ?_|refine bkd ?_|refine bkq (fun q => ?_)|(refine bk2 ?_ ?_<;>(first|exact bkn|(refine bkk ?_;intro h))))
  refine WL.call c30 rfl rfl rfl rfl (ref_Right ep A _ c xs rfl W0 _ hR) ?_
  rintro _ G2 ⟨rfl, hG2⟩
  rw [hG2]; clear hG2 G2
  cases hok : logOk ep xs with
  | false =>
    repeat' (first|refine bk ?_|refine bkc ?_|refine bks ?_|refine bkd ?_|refine bkq (fun q => ?_)|(refine bk2 ?_ ?_<;>(first|exact bkn|(refine bkk ?_;intro h))))
    exact QS.retV Try.results8 rfl ⟨rfl, rfl⟩
  | true =>
    obtain ⟨⟨h1, h2, h3⟩, h4⟩ := logOk_iff.1 hok
    repeat' (first|refine bk ?_|refine bkc ?_|refine bks ?_|refine bkd ?_|refine bkq (fun q => ?_)|(refine bk2 ?_ ?_<;>(first|exact bkn|(refine bkk ?_;intro h))))
    refine WL.call c31 rfl rfl rfl rfl (r_num ep h W0 _) ?_
    rintro _ G2 ⟨rfl, hG2⟩
    rw [hG2]; clear hG2 G2
    repeat' (first|refine bk ?_|refine bkc ?_|refine bks ?_|refine bkd ?_|refine bkq (fun q => ?_)|(refine bk2 ?_ ?_<;>(first|exact bkn|(refine bkk ?_;intro h))))
    refine WL.buildSlice TT rfl rfl rfl rfl rfl rfl rfl rfl (fun q => ?_)
    repeat' (first|refine bk ?_|refine bkc ?_|refine bks ?_|refine bkd ?_|refine bkq (fun q => ?_)|(refine bk2 ?_ ?_<;>(first|exact bkn|(refine bkk ?_;intro h))))
    refine CS.loop (X := Nat × Option Addr × Nat) (fun y => [(1, .slice A xs.length c), (7, .slice y.2.1 (accL ep (xs.take y.1)).length y.2.2), (8, .int .i64 (y.1 : Int))])
      (fun y => slc strE 9 y.2.1 y.2.2 (accL ep (xs.take y.1)) :: G) (fun y => y.1 ≤ xs.length) (fun y => xs.length - y.1) (0, some ⟨q, 0, none⟩, 2) ⟨rfl, rfl, rfl, trivial⟩ (fun w hs => row_own strE (accL ep []) rfl (by simp [accL, maxLen]) hs) (Nat.zero_le _) ?_
    rintro ⟨i, A1, c1⟩ hi
    simp only at hi ⊢
    have hal : (accL ep (xs.take i)).length = i + 2 := by simp [accL]; omega
    repeat' (first|refine bk ?_|refine bkc ?_|refine bks ?_|refine bkd ?_|refine bkq (fun q => ?_)|(refine bk2 ?_ ?_<;>(first|exact bkn|(refine bkk ?_;intro h))))
    · obtain ⟨x, hx⟩ : ∃ x, xs[i]? = some x := ⟨xs[i]'(by omega), List.getElem?_eq_getElem (by omega)⟩
      refine WL.idx TT hR.cons rfl rfl rfl (by omega) (by rw [Int.toNat_natCast]; exact hx) rfl rfl rfl rfl (fun bb o hA => ?_)
      repeat' (first|refine bk ?_|refine bkc ?_|refine bks ?_|refine bkd ?_|refine bkq (fun q => ?_)|(refine bk2 ?_ ?_<;>(first|exact bkn|(refine bkk ?_;intro h))))
      refine WL.s (op1_atF TT 1 hA rfl rfl rfl rfl rfl) rfl ?_
      repeat' (first|refine bk ?_|refine bkc ?_|refine bks ?_|refine bkd ?_|refine bkq (fun q => ?_)|(refine bk2 ?_ ?_<;>(first|exact bkn|(refine bkk ?_;intro h))))
      refine WL.buildSlice TT rfl rfl rfl rfl rfl rfl rfl rfl (fun qs => ?_)
      refine WL.append TT (E := strE) (xs := accL ep (xs.take i)) (ys := [x.s]) 1 rfl rfl rfl rfl rfl (Rd.row (i := 0) rfl rfl) rfl rfl rfl rfl rfl (by decide) (by simp only [List.length_cons, List.length_nil]; omega) (fun _ _ => rfl) rfl (fun A5 c5 => ?_)
      have hsn : accL ep (xs.take i) ++ [x.s] = accL ep (xs.take (i + 1)) := by
        rw [List.take_add_one, hx]; simp [accL]
      rw [hsn]
      repeat' (first|refine bk ?_|refine bkc ?_|refine bks ?_|refine bkd ?_|refine bkq (fun q => ?_)|(refine bk2 ?_ ?_<;>(first|exact bkn|(refine bkk ?_;intro h))))
      refine QS.again (i + 1, A5, c5) (by simp only; omega) (by simp only; omega) ⟨rfl, rfl, ?_, trivial⟩ (fun w hs => hs.drop)
      rw [show ((i + 1 : Nat) : Int) = (i : Int) + 1 from by omega]; rfl
    · have hix : i = xs.length := by omega
      subst hix
      rw [List.take_length] at *
      refine WL.call c32 rfl rfl rfl rfl (r_join _ _ _ (accL ep xs) rfl (accL_ok hok) W0 _ (Rd.slc (i := 0) rfl)) ?_
      rintro _ _ ⟨rfl, rfl⟩
      repeat' (first|refine bk ?_|refine bkc ?_|refine bks ?_|refine bkd ?_|refine bkq (fun q => ?_)|(refine bk2 ?_ ?_<;>(first|exact bkn|(refine bkk ?_;intro h))))
      exact QS.turn (G' := G) (fun w hs => hs.drop) (QS.retV Try.results8 rfl ⟨rfl, rfl⟩)
def fitsR (n : Int) (s : ByteArray) : Bool := decide (1 ≤ n ∧ n ≤ 300 ∧ s.size ≤ 600)
set_option maxHeartbeats 1000000 in
theorem r_Add (ep : Int) (hep : I64 ep) (n : Int) (s : ByteArray) (W0 : World) (G : List SL) :
    Fn Try.prog 10 [.int .i64 ep, .agg #[.int .i64 n, .string s]] W0 G (Ret fun v G' => v = (if fitsR n s = true then .tuple #[.string (mk (joinB (addL ep ⟨n, s⟩))), .bool true] else .tuple #[.string ⟨#[]⟩, .bool false]) ∧ G' = G) := by
  refine Fn.enter Try.func10 rfl Try.ntmps10 rfl ?_
  by_cases hf : 1 ≤ n ∧ n ≤ 300 ∧ s.size ≤ 600
  · have hfb : fitsR n s = true := decide_eq_true hf
    have hI : I64 n := by unfold I64; omega
    rw [if_pos hfb]
    repeat' (first|refine bk ?_|refine bkc ?_|refine bks ?_|refine bkd ?_|refine bkq (fun q => ?_)|(refine bk2 ?_ ?_<;>(first|exact bkn|(refine bkk ?_;intro h))))
    refine CS.drawA _ (fun w hs => hs) mixed (by kernel_rfl) rfl ?_
    repeat' (first|refine bka ?_|(refine bk2a ?_ ?_<;>(first|exact bkn|(refine bkk ?_;intro h))))
    refine WA.call rfl rfl (by kernel_rfl) rfl c31 rfl rfl rfl rfl (fun G' _ => r_num ep hep W0 G') ?_
    repeat' (first|refine bka ?_|(refine bk2a ?_ ?_<;>(first|exact bkn|(refine bkk ?_;intro h))))
    refine WA.call rfl rfl (by kernel_rfl) rfl c31 rfl rfl rfl rfl (fun G' _ => r_num n hI W0 G') ?_
    repeat' (first|refine bka ?_|(refine bk2a ?_ ?_<;>(first|exact bkn|(refine bkk ?_;intro h))))
    refine WA.e1 7 (by kernel_rfl) (by kernel_rfl) rfl rfl (EffC.of (Eff.buildSlice TT rfl rfl rfl rfl rfl rfl rfl)) rfl ?_
    rintro _ _ ⟨q2, rfl, rfl⟩
    refine ⟨fun w hs => hs.drop, ?_⟩
    refine WA.e1 8 (by kernel_rfl) (by kernel_rfl) rfl rfl (EffC.call c32 rfl rfl rfl (r_join _ _ _ (addL ep ⟨n, s⟩) rfl (addL_ok hep hI hf.2.2) W0 _ (Rd.row (i := 0) rfl rfl))) rfl ?_
    rintro _ _ ⟨rfl, rfl⟩
    refine ⟨fun w hs => hs.drop, ?_⟩
    repeat' (first|refine bka ?_|(refine bk2a ?_ ?_<;>(first|exact bkn|(refine bkk ?_;intro h))))
    refine WA.fin rfl ?_
    repeat' (first|refine bk ?_|refine bkc ?_|refine bks ?_|refine bkd ?_|refine bkq (fun q => ?_)|(refine bk2 ?_ ?_<;>(first|exact bkn|(refine bkk ?_;intro h))))
    exact QS.turn (G' := G) (fun w hs => hs.drop.drop) (QS.retV Try.results10 rfl ⟨rfl, rfl⟩)
  · have hfb : fitsR n s = false := decide_eq_false hf
    rw [hfb]
    repeat' (first|refine bk ?_|refine bkc ?_|refine bks ?_|refine bkd ?_|refine bkq (fun q => ?_)|(refine bk2 ?_ ?_<;>(first|exact bkn|(refine bkk ?_;intro h))))
    all_goals exact QS.turn (G' := G) (fun w hs => hs.drop) (QS.retV Try.results10 rfl ⟨rfl, rfl⟩)
theorem r_number (s : ByteArray) (hs : s.size ≤ 9223372036854775807) (W0 : World) (G : List SL) : Fn Try.prog 43 [.string s] W0 G (Ret fun v G' => (∃ n, v = .tuple #[.int .i64 n, .bool (numP s).isSome] ∧ ∀ m, numP s = some m → n = m) ∧ G' = G) := by
  refine Fn.enter Try.func43 rfl Try.ntmps43 rfl ?_
  repeat' (first|refine bk ?_|refine bkc ?_|refine bks ?_|refine bkd ?_|refine bkq (fun q => ?_)|(refine bk2 ?_ ?_<;>(first|exact bkn|(refine bkk ?_;intro h))))
  refine WL.call c69 rfl rfl rfl rfl (ref_TakeNum s hs W0 _) ?_
  rintro _ G2 ⟨rfl, hG2⟩
  rw [hG2]; clear hG2 G2
  cases hn : takeNum (bs s) with
  | none =>
    simp only [takeNumV]
    repeat' (first|refine bk ?_|refine bkc ?_|refine bks ?_|refine bkd ?_|refine bkq (fun q => ?_)|(refine bk2 ?_ ?_<;>(first|exact bkn|(refine bkk ?_;intro h))))
    have e1 : numP s = none := by rw [numP, hn]
    exact QS.retV Try.results43 rfl ⟨⟨0, by rw [e1]; rfl, fun m hm => by rw [e1] at hm; cases hm⟩, rfl⟩
  | some p =>
    obtain ⟨n, r⟩ := p
    simp only [takeNumV]
    repeat' (first|refine bk ?_|refine bkc ?_|refine bks ?_|refine bkd ?_|refine bkq (fun q => ?_)|(refine bk2 ?_ ?_<;>(first|exact bkn|(refine bkk ?_;intro h))))
    have e1 : numP s = if r = [] then some n else none := by rw [numP, hn]
    refine QS.retV Try.results43 rfl ⟨⟨n, ?_, fun m hm => ?_⟩, rfl⟩
    · rw [show (numP s).isSome = decide (mk r = ⟨#[]⟩) from by
        rw [e1]
        by_cases hr : r = []
        · rw [if_pos hr, hr]; rfl
        · rw [if_neg hr, decide_eq_false (fun e => hr (congrArg bs e))]; rfl]
      rfl
    · rw [e1] at hm
      split at hm
      · exact Option.some.inj hm
      · cases hm
end Go.Proofs.Ytejdkcnbflpfaaa.B

namespace Go.Proofs.Ytejdkcnbflpfaaa.B
open Go Go.Proofs
open Go.Shelf
def sh_lays156_ren : Go.Shelf.Ren := ⟨fun | 156 => 38 | 165 => 60 | 166 => 61 | 169 => 62 | 240 => 82 | 241 => 83 | 276 => 100 | 277 => 101 | n => n, fun | 31 => 63 | 9 => 9 | 3 => 3 | 4 => 4 | 0 => 0 | 20 => 20 | 72 => 110 | 76 => 114 | 70 => 108 | 37 => 100 | 75 => 113 | 127 => 140 | 164 => 148 | 5 => 5 | 80 => 116 | n => n, fun | n => n⟩
theorem sh_lays156 : Go.Proofs.Lays.n156 Try.prog sh_lays156_ren := {
  mixed := by kernel_rfl
  f156 := Try.func38.trans (congrArg some (by kernel_rfl))
  f165 := Try.func60.trans (congrArg some (by kernel_rfl))
  f166 := Try.func61.trans (congrArg some (by kernel_rfl))
  f169 := Try.func62.trans (congrArg some (by kernel_rfl))
  f240 := Try.func82.trans (congrArg some (by kernel_rfl))
  f241 := Try.func83.trans (congrArg some (by kernel_rfl))
  f276 := Try.func100.trans (congrArg some (by kernel_rfl))
  f277 := Try.func101.trans (congrArg some (by kernel_rfl))
  t0 := Try.underlying0
  a0 := Try.isAgg0
  z0 := Try.sizeOf0
  v0 := Try.zeroValue0
  t3 := Try.underlying3
  a3 := Try.isAgg3
  z3 := Try.sizeOf3
  v3 := Try.zeroValue3
  t4 := Try.underlying4
  a4 := Try.isAgg4
  z4 := Try.sizeOf4
  v4 := Try.zeroValue4
  t9 := Try.underlying9
  a9 := Try.isAgg9
  z9 := Try.sizeOf9
  v9 := Try.zeroValue9
  t20 := Try.underlying20
  a20 := Try.isAgg20
  z20 := Try.sizeOf20
  v20 := Try.zeroValue20
  t31 := Try.underlying63
  a31 := Try.isAgg63
  z31 := Try.sizeOf63
  v31 := Try.zeroValue63
  t37 := Try.underlying100
  a37 := Try.isAgg100
  z37 := Try.sizeOf100
  v37 := Try.zeroValue100
  t70 := Try.underlying108
  a70 := Try.isAgg108
  z70 := Try.sizeOf108
  v70 := Try.zeroValue108
  t72 := Try.underlying110
  a72 := Try.isAgg110
  z72 := Try.sizeOf110
  v72 := Try.zeroValue110
  t75 := Try.underlying113
  a75 := Try.isAgg113
  z75 := Try.sizeOf113
  v75 := Try.zeroValue113
  t76 := Try.underlying114
  a76 := Try.isAgg114
  z76 := Try.sizeOf114
  v76 := Try.zeroValue114
  t127 := Try.underlying140
  a127 := Try.isAgg140
  z127 := Try.sizeOf140
  v127 := Try.zeroValue140
  t164 := Try.underlying148
  a164 := Try.isAgg148
  z164 := Try.sizeOf148
  v164 := Try.zeroValue148 }
theorem sh_Builder_Extra_156 : Builder.Extra Try.prog sh_lays156_ren := {
  sizeBuilder := by kernel_rfl
  liesBuilder := by kernel_rfl
  t5 := Try.underlying5
  a5 := Try.isAgg5
  z5 := Try.sizeOf5
  v5 := Try.zeroValue5
  infoByte := by kernel_rfl
  cellsByte := by kernel_rfl
  sizeByte := by kernel_rfl
  neB5 := by decide }
open Go.RowKit in
/-- No element: the empty string; the world is as it was. (Whatever the slice's address and capacity: a nil slice too.) (LAID: no walk: one application.) -/
theorem sh_strings_Join_none (a : Option Addr) (c : Nat) (sep : ByteArray) (w : World) :
    Calls Try.prog 38 #[.slice a 0 c, .string sep] w fun e w' => e = .returned (.string ⟨#[]⟩) ∧ w' = w := Any.strings_Join_none sh_lays156 sh_Builder_Extra_156 a c sep w
open Go.RowKit in
/-- strings.Join: "Join concatenates the elements of its first argument to create a single string. The separator string sep is placed between elements in the resulting string.": HOWEVER MANY ELEMENTS. Below the heap's end the world is as it was. (LAID: no walk: one application.) -/
theorem sh_strings_Join (bk o c : Nat) (xs : List ByteArray) (sep : ByteArray) (w : World) (hcells : ∀ (j : Nat) x, xs[j]? = some x → w.cell? ⟨bk, o + j, none⟩ = some (.string x)) (hbk : bk < w.heap.size) (hN : xs.length ≤ 140737488355328) (hcap : xs.length ≤ c) (hlen : (Lib.join (xs.map (·.data.toList)) sep.data.toList).length ≤ 140737488355328) :
    Calls Try.prog 38 #[.slice (some ⟨bk, o, none⟩) xs.length c, .string sep] w fun e w' => e = .returned (.string ⟨(Lib.join (xs.map (·.data.toList)) sep.data.toList).toArray⟩) ∧ Below w.heap.size w w' := Any.strings_Join sh_lays156 sh_Builder_Extra_156 bk o c xs sep w hcells hbk hN hcap hlen
end Go.Proofs.Ytejdkcnbflpfaaa.B

set_option linter.unusedVariables false
set_option linter.unusedSimpArgs false
set_option maxRecDepth 8000
/-! strings.Join. -/
namespace Go.Proofs.Ytejdkcnbflpfaaa.B
open Go Go.Proofs

theorem inter_nil : ∀ l : List (List UInt8), Lib.join l [] = l.flatten
  | [] => rfl
  | [x] => by simp [Lib.join, List.intercalate]
  | x :: y :: r => by
    have ih := inter_nil (y :: r)
    simp only [Lib.join, List.intercalate, List.intersperse] at ih ⊢
    simp only [List.flatten_cons, List.nil_append] at ih ⊢
    rw [ih]
theorem strings_Join (A : Option Addr) (k c : Nat) (xs : List ByteArray) (hk : k = xs.length) (hkc : k ≤ c) (hl : (xs.flatMap fun s => bs s).length ≤ 140737488355328) (hN : xs.length ≤ 140737488355328) (W0 : World) (G : List SL) (hR : Rd W0 G strE A xs) :
    Fn Try.prog 38 [.slice A k c, .string ⟨#[]⟩] W0 G (Ret fun v G' => v = .string (mk (xs.flatMap fun s => bs s)) ∧ G' = G) := fun w hs => by
  subst hk
  have hj : Lib.join (xs.map (·.data.toList)) (⟨#[]⟩ : ByteArray).data.toList = xs.flatMap fun s => bs s := by
    rw [show (⟨#[]⟩ : ByteArray).data.toList = [] from rfl, inter_nil, List.flatMap]
  cases hx : xs with
  | nil =>
    refine (sh_strings_Join_none A c ⟨#[]⟩ w).mono fun e w' h => ?_
    obtain ⟨rfl, rfl⟩ := h
    exact ⟨G, ⟨rfl, rfl⟩, hs⟩
  | cons x0 r =>
    rw [← hx]
    rcases hR w hs with h0 | ⟨b, o, rfl, hc⟩
    · exfalso
      have h1 := congrArg List.length h0
      rw [flat_len, hx] at h1
      simp [strE] at h1
    · have hfl : ∀ l : List ByteArray, flat strE l = l.map Value.string := fun l => by
        induction l with
        | nil => rfl
        | cons a l ih => simp only [flat, List.flatMap_cons, List.map_cons] at ih ⊢; rw [ih]; rfl
      have hcs : ∀ (j : Nat) x, xs[j]? = some x → w.cell? ⟨b, o + j, none⟩ = some (.string x) := fun j x hj => hc j _ (by rw [hfl, List.getElem?_map, hj]; rfl)
      have hb : b < w.heap.size := by
        have := hcs 0 x0 (by rw [hx]; rfl)
        by_cases h : b < w.heap.size
        · exact h
        · exfalso
          simp only [World.cell?] at this
          rw [Array.getElem?_eq_none (by omega)] at this
          cases this
      refine (sh_strings_Join b o c xs ⟨#[]⟩ w hcs hb hN hkc (by rw [hj]; exact hl)).mono fun e w' h => ?_
      obtain ⟨rfl, hbw⟩ := h
      exact ⟨G, ⟨by rw [hj], rfl⟩, hs.below hbw⟩
end Go.Proofs.Ytejdkcnbflpfaaa.B
