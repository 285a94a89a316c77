import Derived.Test.YtgebdehpoalfbaaMg18
import Derived.Test.YtgebdehpoalfbaaMg16
set_option linter.unusedVariables false
set_option linter.unusedSimpArgs false
set_option maxRecDepth 8000
/-! Who holds a block. -/
namespace Go.Proofs.Ytgebdehpoalfbaa.B
open Go Go.Proofs
section
variable {P : Program} (T : Tab P) {κ ν : Type} [DecidableEq κ] {kk : KeyK κ} {ev : ν → Value} {n : Nat} {ds : List Deferred} {L : TL} {W0 : World} {G : List SL} {ty : TypeId}
/-- v, ok := m[k]: one way. -/
theorem op1_look2D (i : Nat) {m t kt et : Nat} {x y : Operand} {kv : List (κ × ν)} {k : κ} (u : ν) (okv : Bool) {u0 : ν} {z b1 c1 z2 b2 c2 : _} {te : TE} (hx : evL L x = some (.map (some m))) (hy : evL L y = some (kk.enc k))
    (hG : G[i]? = some (mapb kk ev m kv)) (hl : lk T.tab t = some ⟨.map kt et, z, b1, c1⟩) (hk : lk T.tab kt = some ⟨kk.td, z2, b2, c2⟩) (he : lk T.tab et = some te) (hz : te.zero = ev u0) (hu : u = (aget kv k).getD u0) (hok : okv = (aget kv k).isSome) :
    Op1 P n ds L W0 G (.lookup t x y true) ty (.tuple #[ev u, .bool okv]) := by
  subst hu; subst hok
  cases hg : aget kv k with
  | none => have := op1_lookupN (P := P) (n := n) (ds := ds) (L := L) (W0 := W0) (ty := ty) T i (ok := true) hx hy hG hl hk he hg; rw [hz] at this; exact this
  | some u => exact op1_lookupS (P := P) (n := n) (ds := ds) (L := L) (W0 := W0) (ty := ty) T i (ok := true) hx hy hG hl hk he hg
/-- m[k], there. -/
theorem op1_look1S (i : Nat) {m t kt et : Nat} {x y : Operand} {kv : List (κ × ν)} {k : κ} {u : ν} {z b1 c1 z2 b2 c2 : _} {te : TE} (hx : evL L x = some (.map (some m))) (hy : evL L y = some (kk.enc k))
    (hG : G[i]? = some (mapb kk ev m kv)) (hl : lk T.tab t = some ⟨.map kt et, z, b1, c1⟩) (hk : lk T.tab kt = some ⟨kk.td, z2, b2, c2⟩) (he : lk T.tab et = some te) (hu : aget kv k = some u) :
    Op1 P n ds L W0 G (.lookup t x y false) ty (ev u) := op1_lookupS (P := P) (n := n) (ds := ds) (L := L) (W0 := W0) (ty := ty) T i (ok := false) hx hy hG hl hk he hu
end
attribute [local irreducible] WL CS QS WQ WH WS Fn Op1 row Sat
attribute [local irreducible] slc mapb bmA inners
set_option maxHeartbeats 1000000 in
theorem hold_fn {q1 q2 b m : Nat} {kv : KV} {z : Blk} {n : Int} {x : Nat × NM} (hx : aget kv n = some x) {A : Option Addr} {c : Nat} {ys : List Int} (W0 : World) (F : List SL) :
    Fn Try.prog 31 [.int .i64 n, .pointer (some ⟨q1, 0, none⟩), .pointer (some ⟨q2, 0, none⟩)] W0
      (slc intE 3 A c ys :: row q2 28 [.int .i64 z.id, .int .i64 z.gen, .int .i64 z.len] :: row q1 25 [.pointer (some ⟨b, 0, none⟩)] :: row b 61 [.map (some m)] :: mapb intK nodeV m kv :: mapb intK blkV x.1 x.2 :: inners (adel kv n) :: F)
      (Ret fun v G' => v = .bool (!okR z (aget x.2 z.id)) ∧ G' = slc intE 3 A c ys :: row q2 28 [.int .i64 z.id, .int .i64 z.gen, .int .i64 z.len] :: row q1 25 [.pointer (some ⟨b, 0, none⟩)] :: row b 61 [.map (some m)] :: mapb intK nodeV m kv :: mapb intK blkV x.1 x.2 :: inners (adel kv n) :: F) := by
  refine Fn.enter Try.func31 rfl Try.ntmps31 rfl ?_
  repeat' (first|refine bk ?_|refine bkc ?_|refine bks ?_|refine bkq (fun q => ?_)|(refine bk2 ?_ ?_<;>(first|exact bkn|(refine bkk ?_;intro h))))

  refine CS.drawA _ (fun w hs => hs) mixed (by kernel_rfl) rfl ?_
  repeat' (first|refine bka ?_|(refine bk2a ?_ ?_<;>(first|exact bkn|(refine bkk ?_;intro h))))
  refine WA.at 5 (by kernel_rfl) rfl (by kernel_rfl) rfl (op1_look1S TT 4 (kk := intK) (ev := nodeV) (k := n) rfl rfl rfl rfl rfl rfl hx) rfl ?_
  repeat' (first|refine bka ?_|(refine bk2a ?_ ?_<;>(first|exact bkn|(refine bkk ?_;intro h))))
  refine WA.at 8 (by kernel_rfl) rfl (by kernel_rfl) rfl (op1_look2D TT 5 (kk := intK) (ev := blkV) (u0 := ⟨0, 0, 0⟩) (k := z.id) ((aget x.2 z.id).getD ⟨0, 0, 0⟩) (aget x.2 z.id).isSome rfl rfl rfl rfl rfl rfl rfl rfl rfl) rfl ?_
  repeat' (first|refine bka ?_|(refine bk2a ?_ ?_<;>(first|exact bkn|(refine bkk ?_;intro h))))
  refine WA.e1 12 (by kernel_rfl) (by kernel_rfl) rfl rfl (EffC.alloc TT rfl rfl) rfl ?_
  rintro _ _ ⟨q5, rfl, rfl⟩
  refine ⟨fun w hs => hs.drop, ?_⟩
  refine WA.e1 13 (by kernel_rfl) (by kernel_rfl) rfl rfl (EffC.store TT 0 rfl rfl rfl rfl rfl rfl rfl rfl rfl) rfl ?_
  rintro _ _ ⟨rfl, rfl⟩
  refine ⟨fun w hs => hs.drop, ?_⟩
  repeat' (first|refine bka ?_|(refine bk2a ?_ ?_<;>(first|exact bkn|(refine bkk ?_;intro h))))
  refine WA.fin (by kernel_rfl) ?_
  cases hg : aget x.2 z.id with
  | none =>
    repeat' (first|refine bk ?_|refine bkc ?_|refine bks ?_|refine bkd ?_|refine bkq (fun q => ?_)|(refine bk2 ?_ ?_<;>(first|exact bkn|(refine bkk ?_;intro h))))
    exact QS.turn (fun w hs => hs.drop) (QS.retV Try.results31 rfl ⟨rfl, rfl⟩)
  | some r =>
    repeat' (first|refine bk ?_|refine bkc ?_|refine bks ?_|refine bkd ?_|refine bkq (fun q => ?_)|(refine bk2 ?_ ?_<;>(first|exact bkn|(refine bkk ?_;intro h))))
    all_goals
      refine QS.turn (fun w hs => hs.drop) (QS.retV Try.results31 rfl ⟨?_, rfl⟩)
      have e3 : (r.len < z.len) ↔ ¬ z.len ≤ r.len := by omega
      simp only [Option.getD_some] at h
      by_cases e2 : z.len ≤ r.len <;> simp [okR, resV, h, e2, e3]
end Go.Proofs.Ytgebdehpoalfbaa.B

set_option linter.unusedVariables false
set_option linter.unusedSimpArgs false
set_option maxRecDepth 8000
/-! Hold, Held, Short. -/
namespace Go.Proofs.Ytgebdehpoalfbaa.B
open Go Go.Proofs
attribute [local irreducible] WL CS QS WQ WH WS Fn Op1 row Sat
attribute [local irreducible] slc mapb bmA inners
abbrev blkC (z : Blk) : List Value := [.int .i64 z.id, .int .i64 z.gen, .int .i64 z.len]
theorem nodes_there {M : BM} (hM : BMOk M) {n : Int} (h : n ∈ M.nodes) : ∃ y, aget M n = some y := by
  rw [nodes_eq hM] at h
  have := (List.mem_filter.1 h).2
  exact Option.isSome_iff_exists.1 this
theorem hold_filter (M : BM) (z : Blk) : (M.nodes.filter fun x => !(!M.holds z x)) = M.hold z := by
  unfold BM.hold
  exact List.filter_congr fun x _ => by rw [Bool.not_not]
set_option maxHeartbeats 1000000 in
theorem blocks_Hold (b : Nat) (M : BM) (hM : BMOk M) (z : Blk) (W0 : World) (F : List SL) :
    Fn Try.prog 13 [.pointer (some ⟨b, 0, none⟩), blkV z] W0 (bmA b M :: F)
      (Ret fun v G' => ∃ A c, v = .slice A (M.hold z).length c ∧ G' = slc intE 3 A c (M.hold z) :: bmA b M :: F) := by
  refine Fn.ex (fun w hs => bmA_open w hs) ?_
  rintro ⟨⟨m, kv⟩, hkv⟩
  simp only at hkv ⊢
  subst hkv
  have hnl : (flatK kv).nodes.length ≤ 4 := by
    have := hold_len hM z
    rw [nodes_eq hM]
    exact List.length_filter_le _ _
  refine Fn.enter Try.func13 rfl Try.ntmps13 rfl ?_
  repeat' (first|refine bk ?_|refine bkc ?_|refine bks ?_|refine bkd ?_|refine bkq (fun q => ?_)|(refine bk2 ?_ ?_<;>(first|exact bkn|(refine bkk ?_;intro h))))
  revert q; intro q3
  revert q; intro q2
  refine WL.call c17 rfl rfl rfl rfl ((nodes_in (b := b) (m := m) (kv := kv) hM W0 (row q3 28 (blkC z) :: row q2 25 [.pointer (some ⟨b, 0, none⟩)] :: F)).pre (fun w hs => ?_)) ?_
  · exact ((((hs.front (i := 4) rfl).front (i := 4) rfl).front (i := 4) rfl))
  rintro _ _ ⟨A, c, rfl, rfl⟩
  repeat' (first|refine bk ?_|refine bkc ?_|refine bks ?_|refine bkd ?_|refine bkq (fun q => ?_)|(refine bk2 ?_ ?_<;>(first|exact bkn|(refine bkk ?_;intro h))))
  have hd := delete_ints (A := A) (c := c) (K := 31) (xs := (flatK kv).nodes) (cap := [.pointer (some ⟨q2, 0, none⟩), .pointer (some ⟨q3, 0, none⟩)]) c31 (fun n => !(flatK kv).holds z n) (by omega) W0
    (row b 61 [.map (some m)] :: mapb intK nodeV m kv :: inners kv :: row q3 28 (blkC z) :: row q2 25 [.pointer (some ⟨b, 0, none⟩)] :: F) ?_
  · rw [hold_filter] at hd
    refine WL.call c30 rfl rfl rfl rfl hd ?_
    rintro _ _ ⟨rfl, rfl⟩
    repeat' (first|refine bk ?_|refine bkc ?_|refine bks ?_|refine bkd ?_|refine bkq (fun q => ?_)|(refine bk2 ?_ ?_<;>(first|exact bkn|(refine bkk ?_;intro h))))
    refine QS.turn (G' := slc intE 3 A c ((flatK kv).hold z) :: bmA b (flatK kv) :: F) (fun w hs => ?_) (QS.retV Try.results13 rfl ⟨A, c, rfl, rfl⟩)
    have h1 := (hs.kick (i := 4) rfl).kick (i := 4) rfl
    exact (bmA_shut (m := m) (kv := kv) rfl w (((h1.front (i := 3) rfl).front (i := 3) rfl).front (i := 3) rfl)).front (i := 1) rfl
  · intro n hn ys
    obtain ⟨y, hy⟩ := nodes_there hM hn
    rw [flatK_get] at hy
    obtain ⟨x, hx, hx2⟩ := Option.map_eq_some_iff.1 hy
    have hat : (flatK kv).holds z n = okR z (aget x.2 z.id) := by
      unfold BM.holds BM.at
      rw [flatK_get, hx]
      rfl
    rw [hat]
    refine Fn.post ((hold_fn (q1 := q2) (q2 := q3) (b := b) (m := m) (z := z) hx (A := A) (c := c) (ys := ys) W0 F).pre (fun w hs => ?_)) (Ret.post ?_)
    · have h1 := inners_open hx (hs.front (i := 3) rfl)
      exact ((((h1.front (i := 4) rfl).front (i := 4) rfl).front (i := 6) rfl).front (i := 6) rfl).front (i := 6) rfl
    · rintro _ _ ⟨rfl, rfl⟩
      refine ⟨_, fun w hs => ?_, rfl, rfl⟩
      have h1 := inners_shut hx (((hs.front (i := 5) rfl).front (i := 6) rfl).front (i := 1) rfl)
      exact (((((h1.front (i := 3) rfl).front (i := 3) rfl).front (i := 2) rfl).front (i := 5) rfl).front (i := 5) rfl).front (i := 5) rfl
end Go.Proofs.Ytgebdehpoalfbaa.B

set_option linter.unusedVariables false
set_option linter.unusedSimpArgs false
set_option maxRecDepth 8000
/-! Held, Short. -/
namespace Go.Proofs.Ytgebdehpoalfbaa.B
open Go Go.Proofs
attribute [local irreducible] WL CS QS WQ WH WS Fn Op1 row Sat
attribute [local irreducible] slc mapb bmA inners
theorem heldN_append (M : BM) : ∀ (l : List Blk) (x : Blk), heldN M (l ++ [x]) = heldN M l + min 1 (M.hold x).length
  | [], x => by simp [heldN]
  | y :: l, x => by simp only [List.cons_append, heldN, heldN_append M l x]; omega
theorem heldN_take (M : BM) {l : List Blk} {i : Nat} {x : Blk} (h : l[i]? = some x) : heldN M (l.take (i + 1)) = heldN M (l.take i) + min 1 (M.hold x).length := by
  rw [List.take_add_one, h, Option.toList_some, heldN_append]
theorem short_take (M : BM) (want : Int) {l : List Blk} {i : Nat} {x : Blk} (h : l[i]? = some x) : M.short (l.take (i + 1)) want = M.short (l.take i) want ++ (if 0 < (M.hold x).length ∧ ((M.hold x).length : Int) < want then [x] else []) := by
  unfold BM.short
  rw [List.take_add_one, h, Option.toList_some, List.filter_append, List.filter_cons, List.filter_nil]
  simp only [Bool.and_eq_true, decide_eq_true_eq]
theorem short_len (M : BM) (want : Int) (l : List Blk) (i : Nat) : (M.short (l.take i) want).length ≤ l.length := by
  unfold BM.short
  exact Nat.le_trans (List.length_filter_le _ _) (by rw [List.length_take]; omega)
set_option maxHeartbeats 1000000 in
theorem blocks_Held (b : Nat) (M : BM) (hM : BMOk M) (A : Option Addr) (c : Nat) (l : List Blk) (hl : l.length ≤ 1000000) (W0 : World) (F : List SL) (hR : Rd W0 F blkE A l) :
    Fn Try.prog 12 [.pointer (some ⟨b, 0, none⟩), .slice A l.length c] W0 (bmA b M :: F)
      (Ret fun v G' => v = .int .i64 (heldN M l : Int) ∧ G' = bmA b M :: F) := by
  refine Fn.enter Try.func12 rfl Try.ntmps12 rfl ?_
  repeat' (first|refine bk ?_|refine bkc ?_|refine bks ?_|refine bkd ?_|refine bkq (fun q => ?_)|(refine bk2 ?_ ?_<;>(first|exact bkn|(refine bkk ?_;intro h))))
  refine CS.loop (X := Nat) (fun i => [(0, .pointer (some ⟨b, 0, none⟩)), (5, .int .i64 (heldN M (l.take i) : Int)), (8, .slice A l.length c), (9, .int .i64 (l.length : Int)), (10, .int .i64 (i : Int))])
    (fun i => bmA b M :: F) (fun i => i ≤ l.length) (fun i => l.length - i) 0 ⟨rfl, rfl, rfl, rfl, rfl, trivial⟩ (fun w hs => hs) (Nat.zero_le _) ?_
  intro i hi
  repeat' (first|refine bk ?_|refine bkc ?_|refine bks ?_|refine bkd ?_|refine bkq (fun q => ?_)|(refine bk2 ?_ ?_<;>(first|exact bkn|(refine bkk ?_;intro h))))
  · obtain ⟨x, hx⟩ : ∃ x, l[i]? = some x := ⟨l[i]'(by omega), List.getElem?_eq_getElem (by omega)⟩
    refine WL.idx TT hR.cons rfl rfl rfl (by omega) (by rw [Int.toNat_natCast]; exact hx) rfl rfl rfl rfl (fun bb o hA => ?_)
    refine WL.s (op1_at TT hA rfl rfl rfl rfl) rfl ?_
    have hh := heldN_take M hx
    have h1 := held_le M (l.take i)
    have h2 := hold_len hM x
    rw [List.length_take] at h1
    repeat' (first|refine bk ?_|refine bkc ?_|refine bks ?_|refine bkd ?_|refine bkq (fun q => ?_)|(refine bk2 ?_ ?_<;>(first|exact bkn|(refine bkk ?_;intro h))))
    refine WL.call c13 rfl rfl rfl rfl ((blocks_Hold b M hM x W0 _).pre (fun w hs => hs.front (i := 1) rfl)) ?_
    rintro _ _ ⟨A2, c2, rfl, rfl⟩
    repeat' (first|refine bk ?_|refine bkc ?_|refine bks ?_|refine bkd ?_|refine bkq (fun q => ?_)|(refine bk2 ?_ ?_<;>(first|exact bkn|(refine bkk ?_;intro h))))
    refine QS.again (i + 1) (by show i + 1 ≤ l.length; omega) (by show l.length - (i + 1) < l.length - i; omega) ⟨rfl, by rw [hh]; show some (Value.int .i64 _) = some (Value.int .i64 _); congr 2; split <;> omega, rfl, rfl, rfl, trivial⟩ (fun w hs => (hs.drop.kick (i := 1) rfl))
  · rw [List.take_of_length_le (by omega)]
    exact QS.retV Try.results12 rfl ⟨rfl, rfl⟩
set_option maxHeartbeats 1000000 in
theorem blocks_Short (b : Nat) (M : BM) (hM : BMOk M) (A : Option Addr) (c : Nat) (l : List Blk) (hl : l.length ≤ 1000000) (want : Int) (W0 : World) (F : List SL) (hR : Rd W0 F blkE A l) :
    Fn Try.prog 18 [.pointer (some ⟨b, 0, none⟩), .slice A l.length c, .int .i64 want] W0 (bmA b M :: F)
      (Ret fun v G' => ∃ A2 c2, v = .slice A2 (M.short l want).length c2 ∧ G' = slc blkE 28 A2 c2 (M.short l want) :: bmA b M :: F) := by
  refine Fn.enter Try.func18 rfl Try.ntmps18 rfl ?_
  repeat' (first|refine bk ?_|refine bkc ?_|refine bks ?_|refine bkd ?_|refine bkq (fun q => ?_)|(refine bk2 ?_ ?_<;>(first|exact bkn|(refine bkk ?_;intro h))))
  refine CS.loop (X := Nat × Option Addr × Nat) (fun y => [(0, .pointer (some ⟨b, 0, none⟩)), (2, .int .i64 want), (7, .slice y.2.1 (M.short (l.take y.1) want).length y.2.2), (11, .slice A l.length c), (12, .int .i64 (l.length : Int)), (13, .int .i64 (y.1 : Int))])
    (fun y => slc blkE 28 y.2.1 y.2.2 (M.short (l.take y.1) want) :: bmA b M :: F) (fun y => y.1 ≤ l.length) (fun y => l.length - y.1) (0, none, 0) ⟨rfl, rfl, rfl, rfl, rfl, rfl, trivial⟩ (fun w hs => hs.slcNil blkE 28) (Nat.zero_le _) ?_
  rintro ⟨i, A5, c5⟩ hi
  simp only at hi ⊢
  repeat' (first|refine bk ?_|refine bkc ?_|refine bks ?_|refine bkd ?_|refine bkq (fun q => ?_)|(refine bk2 ?_ ?_<;>(first|exact bkn|(refine bkk ?_;intro h))))
  · obtain ⟨x, hx⟩ : ∃ x, l[i]? = some x := ⟨l[i]'(by omega), List.getElem?_eq_getElem (by omega)⟩
    refine WL.idx TT hR.cons.cons rfl rfl rfl (by omega) (by rw [Int.toNat_natCast]; exact hx) rfl rfl rfl rfl (fun bb o hA => ?_)
    refine WL.s (op1_at TT hA rfl rfl rfl rfl) rfl ?_
    have hh := short_take M want hx
    have h1 := short_len M want l i
    have h2 := hold_len hM x
    generalize M.short (l.take i) want = X at hh h1 ⊢
    repeat' (first|refine bk ?_|refine bkc ?_|refine bks ?_|refine bkd ?_|refine bkq (fun q => ?_)|(refine bk2 ?_ ?_<;>(first|exact bkn|(refine bkk ?_;intro h))))
    refine WL.call c13 rfl rfl rfl rfl ((blocks_Hold b M hM x W0 _).pre (fun w hs => hs.front (i := 2) rfl)) ?_
    rintro _ _ ⟨A2, c2, rfl, rfl⟩
    by_cases hc : 0 < (M.hold x).length ∧ ((M.hold x).length : Int) < want
    · rw [if_pos hc] at hh
      repeat' (first|refine bk ?_|refine bkc ?_|refine bks ?_|refine bkd ?_|refine bkq (fun q => ?_)|(refine bk2 ?_ ?_<;>(first|exact bkn|(refine bkk ?_;intro h))))
      refine WL.buildSlice TT rfl rfl rfl rfl rfl rfl rfl rfl (fun q9 => ?_)
      refine WL.append TT (E := blkE) (xs := X) (ys := [x]) 4 rfl rfl rfl rfl rfl (Rd.row (i := 0) rfl rfl) rfl rfl rfl rfl rfl (by decide) (by simp only [List.length_cons, List.length_nil]; omega) (fun _ _ => rfl) rfl (fun A6 c6 => ?_)
      repeat' (first|refine bk ?_|refine bkc ?_|refine bks ?_|refine bkd ?_|refine bkq (fun q => ?_)|(refine bk2 ?_ ?_<;>(first|exact bkn|(refine bkk ?_;intro h))))
      refine QS.again (i + 1, A6, c6) (by show i + 1 ≤ l.length; omega) (by show l.length - (i + 1) < l.length - i; omega) ⟨rfl, rfl, by simp only [hh]; rfl, rfl, rfl, rfl, trivial⟩ (fun w hs => ?_)
      simp only [hh]
      exact ((hs.drop.drop).kick (i := 1) rfl).front (i := 1) rfl
    · rw [if_neg hc, List.append_nil] at hh
      repeat' (first|refine bk ?_|refine bkc ?_|refine bks ?_|refine bkd ?_|refine bkq (fun q => ?_)|(refine bk2 ?_ ?_<;>(first|exact bkn|(refine bkk ?_;intro h))))
      all_goals
        refine QS.again (i + 1, A5, c5) (by show i + 1 ≤ l.length; omega) (by show l.length - (i + 1) < l.length - i; omega) ⟨rfl, rfl, by simp only [hh]; rfl, rfl, rfl, rfl, trivial⟩ (fun w hs => ?_)
        simp only [hh]
        exact (hs.drop.kick (i := 1) rfl).front (i := 1) rfl
  · rw [List.take_of_length_le (by omega)]
    exact QS.retV Try.results18 rfl ⟨A5, c5, rfl, rfl⟩
end Go.Proofs.Ytgebdehpoalfbaa.B

set_option linter.unusedVariables false
set_option linter.unusedSimpArgs false
set_option maxRecDepth 8000
/-! Stale: through a node's map in whatever order. -/
namespace Go.Proofs.Ytgebdehpoalfbaa.B
open Go Go.Proofs
def decE (e : MapEntry) : Int × Blk :=
  ((match e.key with | .int _ k => k | _ => 0), (match e.val with | .agg ⟨[.int _ a, .int _ b, .int _ c]⟩ => ⟨a, b, c⟩ | _ => ⟨0, 0, 0⟩))
theorem decE_all {l : List MapEntry} {h : NM} (hmap : l.map (fun e => (e.key, e.val)) = h.map (fun p => (intK.enc p.1, blkV p.2))) : l.map decE = h ∧ ∀ e ∈ l, e.key = .int .i64 (decE e).1 ∧ e.val = blkV (decE e).2 := by
  constructor
  · have h1 := congrArg (List.map fun p : Value × Value => (((match p.1 with | .int _ k => k | _ => 0), (match p.2 with | .agg ⟨[.int _ a, .int _ b, .int _ c]⟩ => ⟨a, b, c⟩ | _ => ⟨0, 0, 0⟩)) : Int × Blk)) hmap
    rw [List.map_map, List.map_map] at h1
    have e1 : (h.map ((fun p : Value × Value => (((match p.1 with | .int _ k => k | _ => 0), (match p.2 with | .agg ⟨[.int _ a, .int _ b, .int _ c]⟩ => ⟨a, b, c⟩ | _ => ⟨0, 0, 0⟩)) : Int × Blk)) ∘ fun p => (intK.enc p.1, blkV p.2))) = h := by
      have : ((fun p : Value × Value => (((match p.1 with | .int _ k => k | _ => 0), (match p.2 with | .agg ⟨[.int _ a, .int _ b, .int _ c]⟩ => ⟨a, b, c⟩ | _ => ⟨0, 0, 0⟩)) : Int × Blk)) ∘ fun p => (intK.enc p.1, blkV p.2)) = id := by
        funext p
        rfl
      rw [this, List.map_id]
    rw [e1] at h1
    exact h1
  · intro e he
    have : (e.key, e.val) ∈ h.map (fun p => (intK.enc p.1, blkV p.2)) := hmap ▸ List.mem_map_of_mem (f := fun e : MapEntry => (e.key, e.val)) he
    obtain ⟨p, _, hp⟩ := List.mem_map.1 this
    simp only [Prod.mk.injEq] at hp
    obtain ⟨h1, h2⟩ := hp
    unfold decE
    rw [← h1, ← h2]
    exact ⟨rfl, rfl⟩
theorem filter_out : ∀ {l : List MapEntry} {p : MapEntry → Bool} {e : MapEntry}, l.Pairwise (fun x y => x.born ≠ y.born) → e ∈ l → p e = true → (l.filter p).Perm (e :: l.filter fun x => p x && !(x.born == e.born))
  | [], _, _, _, h, _ => by cases h
  | a :: r, p, e, hp, he, hpe => by
    obtain ⟨h1, h2⟩ := List.pairwise_cons.1 hp
    rcases List.mem_cons.1 he with rfl | he
    · have e2 : r.filter (fun x => p x && !(x.born == e.born)) = r.filter p := List.filter_congr fun x hx => by
        have := h1 x hx
        have hx2 : (x.born == e.born) = false := by simpa using fun h : x.born = e.born => this h.symm
        rw [hx2]; simp
      rw [List.filter_cons, if_pos hpe, List.filter_cons, if_neg (by simp), e2]
    · have hne := h1 e he
      have ih := filter_out h2 he hpe
      rw [List.filter_cons, List.filter_cons]
      cases hpa : p a with
      | true =>
        simp only [if_true, Bool.true_and]
        rw [if_pos (by simp [hne])]
        exact (ih.cons a).trans (List.Perm.swap ..)
      | false =>
        simp only [Bool.false_and, Bool.false_eq_true, if_false]
        exact ih
theorem left_out {l : List MapEntry} {c : Nat} {seen : Array Nat} {e : MapEntry} (hb : bornOk l c) (he : e ∈ (leftOf l.toArray seen).toList) : (leftOf l.toArray seen).toList.Perm (e :: (leftOf l.toArray (seen.push e.born)).toList) ∧ e ∈ l := by
  have e1 : ∀ s : Array Nat, (leftOf l.toArray s).toList = l.filter fun x => !s.contains x.born := fun s => by simp [leftOf]
  rw [e1] at he
  obtain ⟨h1, h2⟩ := List.mem_filter.1 he
  refine ⟨?_, h1⟩
  rw [e1, e1]
  refine (filter_out hb.1 h1 h2).trans (List.Perm.of_eq ?_)
  congr 1
  refine List.filter_congr fun x _ => ?_
  by_cases hx : x.born = e.born
  · simp [hx]
  · simp [hx, fun h : e.born = x.born => hx h.symm]
def stE (all : List Blk) (es : List MapEntry) : List Int := ((es.map decE).filter fun p => !needB all p.1 p.2.gen).map (·.1)
theorem stE_perm {all : List Blk} {xs ys : List MapEntry} (h : xs.Perm ys) : (stE all xs).Perm (stE all ys) := ((h.map _).filter _).map _
theorem stE_cons (all : List Blk) (e : MapEntry) (es : List MapEntry) : stE all (e :: es) = (if needB all (decE e).1 (decE e).2.gen = true then [] else [(decE e).1]) ++ stE all es := by
  unfold stE
  rw [List.map_cons, List.filter_cons]
  cases needB all (decE e).1 (decE e).2.gen <;> rfl
attribute [local irreducible] WL CS QS WQ WH WS Fn Op1 row Sat
attribute [local irreducible] slc mapb bmA inners
theorem stale_fn {q8 q9 : Nat} {k : Int} {r z : Blk} (W0 : World) (F : List SL) :
    Fn Try.prog 28 [blkV z, .pointer (some ⟨q8, 0, none⟩), .pointer (some ⟨q9, 0, none⟩)] W0 (row q9 28 (blkC r) :: row q8 3 [.int .i64 k] :: F)
      (Ret fun v G' => v = .bool (decide (z.id = k) && decide (z.gen = r.gen)) ∧ G' = row q9 28 (blkC r) :: row q8 3 [.int .i64 k] :: F) := by
  refine Fn.enter Try.func28 rfl Try.ntmps28 rfl ?_
  repeat' (first|refine bk ?_|refine bkc ?_|refine bks ?_|refine bkd ?_|refine bkq (fun q => ?_)|(refine bk2 ?_ ?_<;>(first|exact bkn|(refine bkk ?_;intro h))))
  all_goals
    refine QS.turn (fun w hs => hs.drop) (QS.retV Try.results28 rfl ⟨?_, rfl⟩)
    simp [resV, *]
structure MapL (h : NM) where
  l : List MapEntry
  c : Nat
  hmap : l.map (fun e => (e.key, e.val)) = h.map (fun p => (intK.enc p.1, blkV p.2))
  hb : bornOk l c
theorem mapb_raw {W0 : World} {G : List SL} {m : Nat} {h : NM} : ∀ w, Sat W0 (mapb intK blkV m h :: G) w → ∃ x : MapL h, Sat W0 (blk m (.map x.l.toArray x.c) :: G) w := fun w hs => by
  unfold mapb at hs
  obtain ⟨l, h1⟩ := Sat.ex (R := fun l : List MapEntry => fun hp => ∃ c, blk m (.map l.toArray c) hp ∧ l.map (fun e => (e.key, e.val)) = h.map (fun p => (intK.enc p.1, blkV p.2)) ∧ bornOk l c) hs
  obtain ⟨c, h2⟩ := Sat.ex (R := fun c : Nat => fun hp => blk m (.map l.toArray c) hp ∧ l.map (fun e => (e.key, e.val)) = h.map (fun p => (intK.enc p.1, blkV p.2)) ∧ bornOk l c) h1
  have h3 : Sat W0 ((fun hp => (l.map (fun e => (e.key, e.val)) = h.map (fun p => (intK.enc p.1, blkV p.2)) ∧ bornOk l c) ∧ blk m (.map l.toArray c) hp) :: G) w := h2.imp fun hp hh => ⟨hh.2, hh.1⟩
  obtain ⟨⟨h4, h5⟩, h6⟩ := h3.pure
  exact ⟨⟨l, c, h4, h5⟩, h6⟩
theorem mapb_cook {W0 : World} {G : List SL} {m : Nat} {h : NM} (x : MapL h) {w : World} (hs : Sat W0 (blk m (.map x.l.toArray x.c) :: G) w) : Sat W0 (mapb intK blkV m h :: G) w := by
  unfold mapb
  exact hs.imp fun hp hh => ⟨x.l, x.c, hh, x.hmap, x.hb⟩
end Go.Proofs.Ytgebdehpoalfbaa.B
