import Derived.Test.YtgebdehpoalfbaaMg21
set_option linter.unusedVariables false
set_option linter.unusedSimpArgs false
set_option maxRecDepth 8000
/-! The document's own map as blocks of the heap. -/
namespace Go.Proofs.Ytgebdehpoalfbaa.B
open Go Go.Proofs
section
variable {P : Program} (T : Tab P) {Q : Exit → Act → World → Prop} {n : Nat} {ds : List Deferred} {L : TL} {W0 : World} {G : List SL} {ty : TypeId}
/-- &a[i] of an array behind a pointer, of cells. -/
theorem op1_idxP {t e len b o : Nat} {x iy : Operand} {kd : IntKind} {i : Int} {z b1 c1 : _} {te : TE} (hs : evL L x = some (.pointer (some ⟨b, o, none⟩))) (hi : evL L iy = some (.int kd i)) (hb : 0 ≤ i ∧ i < (len : Int))
    (hl : lk T.tab t = some ⟨.arr len e, z, b1, c1⟩) (he : lk T.tab e = some te) (hsz : te.size = 1) : Op1 P n ds L W0 G (.indexAddr t x iy) ty (.pointer (some ⟨b, o + i.toNat, none⟩)) := by
  intro a w hf hs' dd pos af gg
  obtain ⟨d1, hd1, e1, hu⟩ := T.und (w := w) hl
  obtain rfl := tdOf_arr e1
  have hsizes : (sizeOf e).run P w = .ok 1 w := by rw [T.sizeOf he, hsz]
  have h0 := hb.1
  have h1 := hb.2
  simp only [execOp, hf.ev hs, hf.ev hi, Sem.run_bind]
  simp [Instr.indexAt, Instr.sureAddr, asIntOf, hd1, h0, h1, hsizes, Addr.add]
/-- A cell's load. -/
theorem op1_loadC (i : Nat) {b k t tt : Nat} {x : Operand} {cs : List Value} {e : TE} {v u : Value} (hx : evL L x = some (.pointer (some ⟨b, k, none⟩))) (hG : G[i]? = some (row b tt cs)) (hv : cs[k]? = some u) (hl : lk T.tab t = some e) (hp : partV T t [u] 0 = some v) :
    Op1 P n ds L W0 G (.load t x) ty v := op1_loadR T hx (fun w hs j y hj => by
      have hb := hs.at hG
      rw [cell_row hb]
      match j, hj with
      | 0, hj => simp only [List.getElem?_cons_zero, Option.some.injEq] at hj; rw [← hj]; exact hv
      | j + 1, hj => simp at hj) hl hp
end
theorem setN_one : ∀ {cs : List Value} {k : Nat} {v : Value}, k < cs.length → setN cs k [v] = some (cs.set k v)
  | [], _, _, h => by simp at h
  | c :: cs, 0, v, _ => by cases cs <;> rfl
  | c :: cs, k + 1, v, h => by
    have ih := setN_one (cs := cs) (k := k) (v := v) (by simpa using h)
    simp only [setN, ih, List.set_cons_succ]
def repV (r : Rep) : Value := .agg #[.int .i64 r.id, .int .i64 r.gen, .int .i64 r.len, .bool r.fin]
def rmC (A : Nat → Option Addr) (c : Nat → Nat) (L : Nat → List Rep) (s : Nat → Bool) : List Value :=
  [.slice (A 0) (L 0).length (c 0), .slice (A 1) (L 1).length (c 1), .slice (A 2) (L 2).length (c 2), .slice (A 3) (L 3).length (c 3), .bool (s 0), .bool (s 1), .bool (s 2), .bool (s 3)]
theorem rm_slice {A : Nat → Option Addr} {c : Nat → Nat} {L : Nat → List Rep} {s : Nat → Bool} {n m : Nat} (hn : n < 4) (hm : m = n) : (rmC A c L s)[m]? = some (.slice (A n) (L n).length (c n)) := by
  subst hm
  match m, hn with
  | 0, _ => rfl
  | 1, _ => rfl
  | 2, _ => rfl
  | 3, _ => rfl
theorem rm_seen {A : Nat → Option Addr} {c : Nat → Nat} {L : Nat → List Rep} {s : Nat → Bool} {n m : Nat} (hn : n < 4) (hm : m = 4 + n) : (rmC A c L s)[m]? = some (.bool (s n)) := by
  subst hm
  match n, hn with
  | 0, _ => rfl
  | 1, _ => rfl
  | 2, _ => rfl
  | 3, _ => rfl
theorem rm_setS {A : Nat → Option Addr} {c : Nat → Nat} {L : Nat → List Rep} {s : Nat → Bool} {n m : Nat} {x : Bool} (hn : n < 4) (hm : m = 4 + n) : (rmC A c L s).set m (.bool x) = rmC A c L (updF s n x) := by
  subst hm
  match n, hn with
  | 0, _ => rfl
  | 1, _ => rfl
  | 2, _ => rfl
  | 3, _ => rfl
theorem rm_setL {A : Nat → Option Addr} {c : Nat → Nat} {L : Nat → List Rep} {s : Nat → Bool} {n m k : Nat} {B : Option Addr} {d : Nat} {l : List Rep} (hn : n < 4) (hm : m = n) (hk : k = l.length) : (rmC A c L s).set m (.slice B k d) = rmC (updF A n B) (updF c n d) (updF L n l) s := by
  subst hm
  subst hk
  match m, hn with
  | 0, _ => rfl
  | 1, _ => rfl
  | 2, _ => rfl
  | 3, _ => rfl
def slc4 (A : Nat → Option Addr) (c : Nat → Nat) (L : Nat → List Rep) : SL :=
  star (slc repE 30 (A 0) (c 0) (L 0)) (star (slc repE 30 (A 1) (c 1) (L 1)) (star (slc repE 30 (A 2) (c 2) (L 2)) (slc repE 30 (A 3) (c 3) (L 3))))
def rmA (b : Nat) (L : Nat → List Rep) (s : Nat → Bool) : SL := fun h => ∃ p : (Nat → Option Addr) × (Nat → Nat), star (row b 52 (rmC p.1 p.2 L s)) (slc4 p.1 p.2 L) h
section
variable {W0 : World} {F : List SL} {b : Nat} {L : Nat → List Rep} {s : Nat → Bool} {A : Nat → Option Addr} {c : Nat → Nat}
theorem rmA_open : ∀ w, Sat W0 (rmA b L s :: F) w → ∃ p : (Nat → Option Addr) × (Nat → Nat), Sat W0 (row b 52 (rmC p.1 p.2 L s) :: slc4 p.1 p.2 L :: F) w := fun w hs => by
  obtain ⟨p, hp⟩ := Sat.ex (R := fun p : (Nat → Option Addr) × (Nat → Nat) => star (row b 52 (rmC p.1 p.2 L s)) (slc4 p.1 p.2 L)) hs
  exact ⟨p, hp.split⟩
theorem rmA_shut : ∀ w, Sat W0 (row b 52 (rmC A c L s) :: slc4 A c L :: F) w → Sat W0 (rmA b L s :: F) w := fun w hs => hs.join.imp fun hp h => ⟨(A, c), h⟩
theorem slc4_open : ∀ w, Sat W0 (slc4 A c L :: F) w → Sat W0 (slc repE 30 (A 0) (c 0) (L 0) :: slc repE 30 (A 1) (c 1) (L 1) :: slc repE 30 (A 2) (c 2) (L 2) :: slc repE 30 (A 3) (c 3) (L 3) :: F) w := fun w hs => by
  have h1 := Sat.split (W0 := W0) hs
  have h2 := (h1.perm (List.Perm.swap ..)).split
  have h3 := (h2.front (i := 1) rfl).split
  exact ((h3.front (i := 2) rfl).front (i := 3) rfl)
theorem slc4_shut : ∀ w, Sat W0 (slc repE 30 (A 0) (c 0) (L 0) :: slc repE 30 (A 1) (c 1) (L 1) :: slc repE 30 (A 2) (c 2) (L 2) :: slc repE 30 (A 3) (c 3) (L 3) :: F) w → Sat W0 (slc4 A c L :: F) w := fun w hs => by
  have h1 := ((hs.front (i := 3) rfl).front (i := 3) rfl).join
  have h2 := (h1.front (i := 2) rfl).join
  exact (h2.front (i := 1) rfl).join
theorem slc4_rd {n : Nat} (hn : n < 4) : Rd W0 (slc4 A c L :: F) repE (A n) (L n) := fun w hs => by
  have h := slc4_open w hs
  match n, hn with
  | 0, _ => exact Rd.slc (i := 0) rfl w h
  | 1, _ => exact Rd.slc (i := 1) rfl w h
  | 2, _ => exact Rd.slc (i := 2) rfl w h
  | 3, _ => exact Rd.slc (i := 3) rfl w h
theorem rm0 : ∀ w, Sat W0 (row b 52 [.slice none 0 0, .slice none 0 0, .slice none 0 0, .slice none 0 0, .bool false, .bool false, .bool false, .bool false] :: F) w → Sat W0 (rmA b (fun _ => []) (fun _ => false) :: F) w := fun w hs => by
  refine rmA_shut (A := fun _ => none) (c := fun _ => 0) w ?_
  have h0 := (((hs.slcNil repE 30).slcNil repE 30).slcNil repE 30).slcNil repE 30
  have h1 := slc4_shut (A := fun _ => none) (c := fun _ => 0) (L := fun _ => []) w h0
  exact h1.front (i := 1) rfl
theorem find_at {α : Type} {p : α → Bool} : ∀ {l : List α} {i : Nat} {r : α}, l[i]? = some r → p r = true → (∀ j y, j < i → l[j]? = some y → p y = false) → l.find? p = some r
  | [], _, _, h, _, _ => by simp at h
  | y :: l, 0, r, h, hp, _ => by
    simp only [List.getElem?_cons_zero, Option.some.injEq] at h
    subst h
    rw [List.find?_cons, hp]
  | y :: l, i + 1, r, h, hp, hj => by
    rw [List.find?_cons, hj 0 y (by omega) rfl]
    exact find_at (by simpa using h) hp (fun j z hjl hz => hj (j + 1) z (by omega) (by simpa using hz))
theorem find_no {α : Type} {p : α → Bool} {l : List α} {i : Nat} (hi : l.length ≤ i) (h : ∀ j y, j < i → l[j]? = some y → p y = false) : l.find? p = none :=
  List.find?_eq_none.2 fun x hx => by
    obtain ⟨j, hj⟩ := List.mem_iff_getElem?.1 hx
    rw [h j x (by have := (List.getElem?_eq_some_iff.1 hj).1; omega) hj]
    decide
end
attribute [local irreducible] WL CS QS WQ WH WS Fn Op1 row Sat
attribute [local irreducible] slc mapb bmA inners slc4 rmA rmC
set_option maxHeartbeats 2000000 in
theorem r_of (b n : Nat) (hn : n < 4) (L : Nat → List Rep) (s : Nat → Bool) (hL : (L n).length ≤ 1000000) (id : Int) (W0 : World) (F : List SL) :
    Fn Try.prog 34 [.pointer (some ⟨b, 0, none⟩), .int .i64 (n : Int), .int .i64 id] W0 (rmA b L s :: F)
      (Ret fun v G' => v = .tuple #[repV (((L n).find? fun r => decide (r.id = id)).getD ⟨0, 0, 0, false⟩), .bool ((L n).find? fun r => decide (r.id = id)).isSome] ∧ G' = rmA b L s :: F) := by
  refine Fn.ex (fun w hs => rmA_open w hs) ?_
  rintro ⟨A, c⟩
  simp only
  refine Fn.enter Try.func34 rfl Try.ntmps34 rfl ?_
  repeat' (first|refine bk ?_|refine bkc ?_|refine bks ?_|refine bkd ?_|refine bkq (fun q => ?_)|(refine bk2 ?_ ?_<;>(first|exact bkn|(refine bkk ?_;intro h))))
  revert q; intro q6
  refine CS.loop (X := Nat) (fun i => [(0, .pointer (some ⟨b, 0, none⟩)), (1, .int .i64 (n : Int)), (2, .int .i64 id), (6, .pointer (some ⟨q6, 0, none⟩)), (8, .int .i64 (i : Int))])
    (fun i => row q6 30 [.int .i64 0, .int .i64 0, .int .i64 0, .bool false] :: row b 52 (rmC A c L s) :: slc4 A c L :: F) (fun i => i ≤ (L n).length ∧ ∀ j y, j < i → (L n)[j]? = some y → (fun r : Rep => decide (r.id = id)) y = false) (fun i => (L n).length - i) 0 ⟨rfl, rfl, rfl, rfl, rfl, trivial⟩ (fun w hs => hs) ⟨Nat.zero_le _, fun j y h => by omega⟩ ?_
  rintro i ⟨hi, hj⟩
  repeat' (first|refine bk ?_|refine bkc ?_|refine bks ?_|refine bkd ?_|refine bkq (fun q => ?_)|(refine bk2 ?_ ?_<;>(first|exact bkn|(refine bkk ?_;intro h))))
  refine WL.s (op1_idxP TT rfl rfl (by omega) rfl rfl rfl) rfl ?_
  refine WL.s (op1_loadC TT 1 rfl rfl (rm_slice hn (by omega)) rfl rfl) rfl ?_
  repeat' (first|refine bk ?_|refine bkc ?_|refine bks ?_|refine bkd ?_|refine bkq (fun q => ?_)|(refine bk2 ?_ ?_<;>(first|exact bkn|(refine bkk ?_;intro h))))
  · obtain ⟨x, hx⟩ : ∃ x, (L n)[i]? = some x := ⟨(L n)[i]'(by omega), List.getElem?_eq_getElem (by omega)⟩
    refine WL.s (op1_idxP TT rfl rfl (by omega) rfl rfl rfl) rfl ?_
    refine WL.s (op1_loadC TT 1 rfl rfl (rm_slice hn (by omega)) rfl rfl) rfl ?_
    repeat' (first|refine bk ?_|refine bkc ?_|refine bks ?_|refine bkd ?_|refine bkq (fun q => ?_)|(refine bk2 ?_ ?_<;>(first|exact bkn|(refine bkk ?_;intro h))))
    refine WL.idx TT (slc4_rd hn).cons.cons rfl rfl rfl (by omega) (by rw [Int.toNat_natCast]; exact hx) rfl rfl rfl rfl (fun bb o hA => ?_)
    repeat' (first|refine bk ?_|refine bkc ?_|refine bks ?_|refine bkd ?_|refine bkq (fun q => ?_)|(refine bk2 ?_ ?_<;>(first|exact bkn|(refine bkk ?_;intro h))))
    refine WL.s (op1_atF TT 0 hA rfl rfl rfl rfl rfl) rfl ?_
    by_cases hid : x.id = id
    · have hfd : (L n).find? (fun r => decide (r.id = id)) = some x := find_at hx (decide_eq_true hid) hj
      repeat' (first|refine bk ?_|refine bkc ?_|refine bks ?_|refine bkd ?_|refine bkq (fun q => ?_)|(refine bk2 ?_ ?_<;>(first|exact bkn|(refine bkk ?_;intro h))))
      refine WL.s (op1_idxP TT rfl rfl (by omega) rfl rfl rfl) rfl ?_
      refine WL.s (op1_loadC TT 1 rfl rfl (rm_slice hn (by omega)) rfl rfl) rfl ?_
      repeat' (first|refine bk ?_|refine bkc ?_|refine bks ?_|refine bkd ?_|refine bkq (fun q => ?_)|(refine bk2 ?_ ?_<;>(first|exact bkn|(refine bkk ?_;intro h))))
      refine WL.idx TT (slc4_rd hn).cons.cons rfl rfl rfl (by omega) (by rw [Int.toNat_natCast]; exact hx) rfl rfl rfl rfl (fun b3 o3 hA3 => ?_)
      refine WL.s (op1_at TT hA3 rfl rfl rfl rfl) rfl ?_
      repeat' (first|refine bk ?_|refine bkc ?_|refine bks ?_|refine bkd ?_|refine bkq (fun q => ?_)|(refine bk2 ?_ ?_<;>(first|exact bkn|(refine bkk ?_;intro h))))
      rw [hfd]
      exact QS.turnR (G2 := rmA b L s :: F) (fun w hs => rmA_shut w hs.drop) (QS.retC TT 0 Try.results34 rfl rfl rfl rfl ⟨rfl, rfl, rfl⟩)
    · repeat' (first|refine bk ?_|refine bkc ?_|refine bks ?_|refine bkd ?_|refine bkq (fun q => ?_)|(refine bk2 ?_ ?_<;>(first|exact bkn|(refine bkk ?_;intro h))))
      refine QS.again (i + 1) ⟨by omega, fun j y hj1 hy => ?_⟩ (by show (L n).length - (i + 1) < (L n).length - i; omega) ⟨rfl, rfl, rfl, rfl, rfl, trivial⟩ (fun w hs => hs)
      by_cases e : j = i
      · subst e; rw [hx] at hy; injection hy with hy; rw [← hy]; exact decide_eq_false hid
      · exact hj j y (by omega) hy
  · have hfd : (L n).find? (fun r => decide (r.id = id)) = none := find_no (by omega) hj
    rw [hfd]
    exact QS.turnR (G2 := rmA b L s :: F) (fun w hs => rmA_shut w hs.drop) (QS.retC TT 0 Try.results34 rfl rfl rfl rfl ⟨rfl, rfl, rfl⟩)
theorem r_Nodes (b : Nat) {M : BM} {L : Nat → List Rep} {s : Nat → Bool} (hC : Cp M L s) (W0 : World) (F : List SL) :
    Fn Try.prog 22 [.pointer (some ⟨b, 0, none⟩)] W0 (rmA b L s :: F)
      (Ret fun v G' => ∃ A c, v = .slice A M.nodes.length c ∧ G' = slc intE 3 A c M.nodes :: rmA b L s :: F) := by
  refine Fn.ex (fun w hs => rmA_open w hs) ?_
  rintro ⟨A, c⟩
  simp only
  refine Fn.enter Try.func22 rfl Try.ntmps22 rfl ?_
  repeat' (first|refine bk ?_|refine bkc ?_|refine bks ?_|refine bkd ?_|refine bkq (fun q => ?_)|(refine bk2 ?_ ?_<;>(first|exact bkn|(refine bkk ?_;intro h))))
  refine CS.loop (X := Nat × Option Addr × Nat) (fun y => [(0, .pointer (some ⟨b, 0, none⟩)), (3, .slice y.2.1 (nodesP M y.1).length y.2.2), (4, .int .i64 (y.1 : Int))])
    (fun y => slc intE 3 y.2.1 y.2.2 (nodesP M y.1) :: row b 52 (rmC A c L s) :: slc4 A c L :: F) (fun y => y.1 ≤ 4) (fun y => 4 - y.1) (0, none, 0) ⟨rfl, rfl, rfl, trivial⟩ (fun w hs => hs.slcNil intE 3) (Nat.zero_le _) ?_
  rintro ⟨n, A5, c5⟩ hn
  simp only at hn ⊢
  have hl := nodesP_len M n
  have hs1 := nodesP_succ M n
  by_cases hn4 : n < 4
  · repeat' (first|refine bk ?_|refine bkc ?_|refine bks ?_|refine bkd ?_|refine bkq (fun q => ?_)|(refine bk2 ?_ ?_<;>(first|exact bkn|(refine bkk ?_;intro h))))
    refine WL.s (op1_idxP TT rfl rfl (by omega) rfl rfl rfl) rfl ?_
    refine WL.s (op1_loadC TT 1 rfl rfl (rm_seen hn4 (by omega)) rfl rfl) rfl ?_
    rw [← hC.seen n hn4] at hs1
    cases hsn : s n with
    | true =>
      rw [hsn, if_pos rfl] at hs1
      repeat' (first|refine bk ?_|refine bkc ?_|refine bks ?_|refine bkd ?_|refine bkq (fun q => ?_)|(refine bk2 ?_ ?_<;>(first|exact bkn|(refine bkk ?_;intro h))))
      refine WL.buildSlice TT rfl rfl rfl rfl rfl rfl rfl rfl (fun q7 => ?_)
      refine WL.append TT (E := intE) (xs := nodesP M n) (ys := [(n : Int)]) 1 rfl rfl rfl rfl rfl (Rd.row (i := 0) rfl rfl) rfl rfl rfl rfl rfl (by decide) (by simp only [List.length_cons, List.length_nil]; omega) (fun _ _ => rfl) rfl (fun A6 c6 => ?_)
      repeat' (first|refine bk ?_|refine bkc ?_|refine bks ?_|refine bkd ?_|refine bkq (fun q => ?_)|(refine bk2 ?_ ?_<;>(first|exact bkn|(refine bkk ?_;intro h))))
      exact QS.again (n + 1, A6, c6) (by show n + 1 ≤ 4; omega) (by show 4 - (n + 1) < 4 - n; omega) ⟨rfl, by simp only [hs1]; rfl, rfl, trivial⟩ (fun w hs => by simp only [hs1]; exact hs.drop)
    | false =>
      rw [hsn, if_neg (by decide), List.append_nil] at hs1
      repeat' (first|refine bk ?_|refine bkc ?_|refine bks ?_|refine bkd ?_|refine bkq (fun q => ?_)|(refine bk2 ?_ ?_<;>(first|exact bkn|(refine bkk ?_;intro h))))
      exact QS.again (n + 1, A5, c5) (by show n + 1 ≤ 4; omega) (by show 4 - (n + 1) < 4 - n; omega) ⟨rfl, by simp only [hs1]; rfl, rfl, trivial⟩ (fun w hs => by simp only [hs1]; exact hs)
  · have e : n = 4 := by omega
    subst e
    repeat' (first|refine bk ?_|refine bkc ?_|refine bks ?_|refine bkd ?_|refine bkq (fun q => ?_)|(refine bk2 ?_ ?_<;>(first|exact bkn|(refine bkk ?_;intro h))))
    rw [nodesP_all hC.ok]
    exact QS.turn (G' := slc intE 3 A5 c5 M.nodes :: rmA b L s :: F) (fun w hs => (rmA_shut w ((hs.front (i := 2) rfl).front (i := 2) rfl)).front (i := 1) rfl) (QS.retV Try.results22 rfl ⟨A5, c5, rfl, rfl⟩)
end Go.Proofs.Ytgebdehpoalfbaa.B

set_option linter.unusedVariables false
set_option linter.unusedSimpArgs false
set_option maxRecDepth 8000
/-! The document's own map: Hold, Held, Short. -/
namespace Go.Proofs.Ytgebdehpoalfbaa.B
open Go Go.Proofs
attribute [local irreducible] WL CS QS WQ WH WS Fn Op1 row Sat
attribute [local irreducible] slc mapb bmA inners slc4 rmA rmC
set_option maxHeartbeats 2000000 in
theorem r_Hold (b : Nat) {M : BM} {L : Nat → List Rep} {s : Nat → Bool} (hC : Cp M L s) (z : Blk) (W0 : World) (F : List SL) :
    Fn Try.prog 21 [.pointer (some ⟨b, 0, none⟩), blkV z] W0 (rmA b L s :: F)
      (Ret fun v G' => ∃ A c, v = .slice A (M.hold z).length c ∧ G' = slc intE 3 A c (M.hold z) :: rmA b L s :: F) := by
  refine Fn.enter Try.func21 rfl Try.ntmps21 rfl ?_
  repeat' (first|refine bk ?_|refine bkc ?_|refine bks ?_|refine bkd ?_|refine bkq (fun q => ?_)|(refine bk2 ?_ ?_<;>(first|exact bkn|(refine bkk ?_;intro h))))
  revert q; intro q3
  refine CS.loop (X := Nat × Option Addr × Nat) (fun y => [(0, .pointer (some ⟨b, 0, none⟩)), (3, .pointer (some ⟨q3, 0, none⟩)), (5, .slice y.2.1 (holdP M z y.1).length y.2.2), (6, .int .i64 (y.1 : Int))])
    (fun y => slc intE 3 y.2.1 y.2.2 (holdP M z y.1) :: row q3 28 (blkC z) :: rmA b L s :: F) (fun y => y.1 ≤ 4) (fun y => 4 - y.1) (0, none, 0) ⟨rfl, rfl, rfl, rfl, trivial⟩ (fun w hs => hs.slcNil intE 3) (Nat.zero_le _) ?_
  rintro ⟨n, A5, c5⟩ hn
  simp only at hn ⊢
  have hl := holdP_len M z n
  have hs1 := holdP_succ M z n
  by_cases hn4 : n < 4
  · rw [hC.holds hn4 z] at hs1
    generalize holdP M z n = X at hl hs1 ⊢
    repeat' (first|refine bk ?_|refine bkc ?_|refine bks ?_|refine bkd ?_|refine bkq (fun q => ?_)|(refine bk2 ?_ ?_<;>(first|exact bkn|(refine bkk ?_;intro h))))
    have hof := r_of b n hn4 L s (by have := hC.len n hn4; omega) z.id W0 (slc intE 3 A5 c5 X :: row q3 28 (blkC z) :: F)
    generalize (L n).find? (fun r => decide (r.id = z.id)) = o at hs1 hof
    refine WL.call c34 rfl rfl rfl rfl (hof.pre (fun w hs => hs.front (i := 2) rfl)) ?_
    clear hof
    rintro _ _ ⟨rfl, rfl⟩
    repeat' (first|refine bk ?_|refine bkc ?_|refine bks ?_|refine bkd ?_|refine bkq (fun q => ?_)|(refine bk2 ?_ ?_<;>(first|exact bkn|(refine bkk ?_;intro h))))
    revert q; intro q7
    refine WL.s (op1_idxP TT rfl rfl (by omega) rfl rfl rfl) rfl ?_
    refine WL.ex (fun w hs => rmA_open w (hs.front (i := 1) rfl)) ?_
    rintro ⟨A, c⟩
    simp only
    refine WL.s (op1_loadC TT 0 rfl rfl (rm_seen hn4 (by omega)) rfl rfl) rfl ?_
    cases hsn : s n with
    | false =>
      rw [hsn, Bool.false_and, if_neg (by decide), List.append_nil] at hs1
      repeat' (first|refine bk ?_|refine bkc ?_|refine bks ?_|refine bkd ?_|refine bkq (fun q => ?_)|(refine bk2 ?_ ?_<;>(first|exact bkn|(refine bkk ?_;intro h))))
      exact QS.again (n + 1, A5, c5) (by show n + 1 ≤ 4; omega) (by show 4 - (n + 1) < 4 - n; omega) ⟨rfl, rfl, by simp only [hs1]; rfl, rfl, trivial⟩ (fun w hs => by simp only [hs1]; exact ((rmA_shut w hs).kick (i := 1) rfl).perm ((List.Perm.swap ..).trans (List.Perm.cons _ (List.Perm.swap ..))))
    | true =>
      rw [hsn, Bool.true_and] at hs1
      cases o with
      | none =>
        simp only [Bool.false_eq_true, if_false, List.append_nil] at hs1
        repeat' (first|refine bk ?_|refine bkc ?_|refine bks ?_|refine bkd ?_|refine bkq (fun q => ?_)|(refine bk2 ?_ ?_<;>(first|exact bkn|(refine bkk ?_;intro h))))
        exact QS.again (n + 1, A5, c5) (by show n + 1 ≤ 4; omega) (by show 4 - (n + 1) < 4 - n; omega) ⟨rfl, rfl, by simp only [hs1]; rfl, rfl, trivial⟩ (fun w hs => by simp only [hs1]; exact ((rmA_shut w hs).kick (i := 1) rfl).perm ((List.Perm.swap ..).trans (List.Perm.cons _ (List.Perm.swap ..))))
      | some r =>
        by_cases hg : r.gen = z.gen
        · by_cases hl : z.len ≤ r.len
          · simp only [decide_eq_true hg, decide_eq_true hl, Bool.and_self, if_true] at hs1
            have hg' : ((some r).getD ⟨0, 0, 0, false⟩).gen = z.gen := hg
            have hl' : z.len ≤ ((some r).getD ⟨0, 0, 0, false⟩).len := hl
            repeat' (first|refine bk ?_|refine bkc ?_|refine bks ?_|refine bkd ?_|refine bkq (fun q => ?_)|(refine bk2 ?_ ?_<;>(first|exact bkn|(refine bkk ?_;intro h))))
            refine WL.buildSlice TT rfl rfl rfl rfl rfl rfl rfl rfl (fun q8 => ?_)
            refine WL.append TT (E := intE) (xs := X) (ys := [(n : Int)]) 4 rfl rfl rfl rfl rfl (Rd.row (i := 0) rfl rfl) rfl rfl rfl rfl rfl (by decide) (by simp only [List.length_cons, List.length_nil]; omega) (fun _ _ => rfl) rfl (fun A6 c6 => ?_)
            repeat' (first|refine bk ?_|refine bkc ?_|refine bks ?_|refine bkd ?_|refine bkq (fun q => ?_)|(refine bk2 ?_ ?_<;>(first|exact bkn|(refine bkk ?_;intro h))))
            exact QS.again (n + 1, A6, c6) (by show n + 1 ≤ 4; omega) (by show 4 - (n + 1) < 4 - n; omega) ⟨rfl, rfl, by simp only [hs1]; rfl, rfl, trivial⟩ (fun w hs => by simp only [hs1]; exact ((rmA_shut w hs.drop).kick (i := 1) rfl).perm ((List.Perm.swap ..).trans (List.Perm.cons _ (List.Perm.swap ..))))
          · simp only [decide_eq_true hg, decide_eq_false hl, Bool.and_false, Bool.false_eq_true, if_false, List.append_nil] at hs1
            have hg' : ((some r).getD ⟨0, 0, 0, false⟩).gen = z.gen := hg
            have hl' : ¬ z.len ≤ ((some r).getD ⟨0, 0, 0, false⟩).len := hl
            repeat' (first|refine bk ?_|refine bkc ?_|refine bks ?_|refine bkd ?_|refine bkq (fun q => ?_)|(refine bk2 ?_ ?_<;>(first|exact bkn|(refine bkk ?_;intro h))))
            exact QS.again (n + 1, A5, c5) (by show n + 1 ≤ 4; omega) (by show 4 - (n + 1) < 4 - n; omega) ⟨rfl, rfl, by simp only [hs1]; rfl, rfl, trivial⟩ (fun w hs => by simp only [hs1]; exact ((rmA_shut w hs).kick (i := 1) rfl).perm ((List.Perm.swap ..).trans (List.Perm.cons _ (List.Perm.swap ..))))
        · simp only [decide_eq_false hg, Bool.false_and, Bool.false_eq_true, if_false, List.append_nil] at hs1
          have hg' : ¬ ((some r).getD ⟨0, 0, 0, false⟩).gen = z.gen := hg
          repeat' (first|refine bk ?_|refine bkc ?_|refine bks ?_|refine bkd ?_|refine bkq (fun q => ?_)|(refine bk2 ?_ ?_<;>(first|exact bkn|(refine bkk ?_;intro h))))
          exact QS.again (n + 1, A5, c5) (by show n + 1 ≤ 4; omega) (by show 4 - (n + 1) < 4 - n; omega) ⟨rfl, rfl, by simp only [hs1]; rfl, rfl, trivial⟩ (fun w hs => by simp only [hs1]; exact ((rmA_shut w hs).kick (i := 1) rfl).perm ((List.Perm.swap ..).trans (List.Perm.cons _ (List.Perm.swap ..))))
  · have e : n = 4 := by omega
    subst e
    repeat' (first|refine bk ?_|refine bkc ?_|refine bks ?_|refine bkd ?_|refine bkq (fun q => ?_)|(refine bk2 ?_ ?_<;>(first|exact bkn|(refine bkk ?_;intro h))))
    rw [holdP_all hC.ok]
    exact QS.turn (G' := slc intE 3 A5 c5 (M.hold z) :: rmA b L s :: F) (fun w hs => hs.kick (i := 1) rfl) (QS.retV Try.results21 rfl ⟨A5, c5, rfl, rfl⟩)
set_option maxHeartbeats 2000000 in
theorem r_Held (b : Nat) {M : BM} {L : Nat → List Rep} {s : Nat → Bool} (hC : Cp M L s) (A : Option Addr) (c : Nat) (l : List Blk) (hl : l.length ≤ 1000000) (W0 : World) (F : List SL) (hR : Rd W0 F blkE A l) :
    Fn Try.prog 26 [.pointer (some ⟨b, 0, none⟩), .slice A l.length c] W0 (rmA b L s :: F)
      (Ret fun v G' => v = .int .i64 (heldN M l : Int) ∧ G' = rmA b L s :: F) := by
  refine Fn.enter Try.func26 rfl Try.ntmps26 rfl ?_
  repeat' (first|refine bk ?_|refine bkc ?_|refine bks ?_|refine bkd ?_|refine bkq (fun q => ?_)|(refine bk2 ?_ ?_<;>(first|exact bkn|(refine bkk ?_;intro h))))
  refine CS.loop (X := Nat) (fun i => [(0, .pointer (some ⟨b, 0, none⟩)), (1, .slice A l.length c), (5, .int .i64 (heldN M (l.take i) : Int)), (6, .int .i64 (i : Int))])
    (fun i => rmA b L s :: F) (fun i => i ≤ l.length) (fun i => l.length - i) 0 ⟨rfl, rfl, rfl, rfl, trivial⟩ (fun w hs => hs) (Nat.zero_le _) ?_
  intro i hi
  repeat' (first|refine bk ?_|refine bkc ?_|refine bks ?_|refine bkd ?_|refine bkq (fun q => ?_)|(refine bk2 ?_ ?_<;>(first|exact bkn|(refine bkk ?_;intro h))))
  · obtain ⟨x, hx⟩ : ∃ x, l[i]? = some x := ⟨l[i]'(by omega), List.getElem?_eq_getElem (by omega)⟩
    refine WL.idx TT hR.cons rfl rfl rfl (by omega) (by rw [Int.toNat_natCast]; exact hx) rfl rfl rfl rfl (fun bb o hA => ?_)
    refine WL.s (op1_at TT hA rfl rfl rfl rfl) rfl ?_
    have hh := heldN_take M hx
    have h1 := held_le M (l.take i)
    have h2 := hold_len hC.ok x
    rw [List.length_take] at h1
    refine WL.call c21 rfl rfl rfl rfl (r_Hold b hC x W0 _) ?_
    rintro _ _ ⟨A2, c2, rfl, rfl⟩
    repeat' (first|refine bk ?_|refine bkc ?_|refine bks ?_|refine bkd ?_|refine bkq (fun q => ?_)|(refine bk2 ?_ ?_<;>(first|exact bkn|(refine bkk ?_;intro h))))
    · exact QS.again (i + 1) (by show i + 1 ≤ l.length; omega) (by show l.length - (i + 1) < l.length - i; omega) ⟨rfl, rfl, by rw [hh, Nat.min_eq_left (by omega)]; rfl, rfl, trivial⟩ (fun w hs => hs.drop)
    · exact QS.again (i + 1) (by show i + 1 ≤ l.length; omega) (by show l.length - (i + 1) < l.length - i; omega) ⟨rfl, rfl, by rw [hh, Nat.min_eq_right (by omega), show (M.hold x).length = 0 from by omega]; rfl, rfl, trivial⟩ (fun w hs => hs.drop)
  · rw [List.take_of_length_le (by omega)]
    exact QS.retV Try.results26 rfl ⟨rfl, rfl⟩
set_option maxHeartbeats 2000000 in
theorem r_Short (b : Nat) {M : BM} {L : Nat → List Rep} {s : Nat → Bool} (hC : Cp M L s) (A : Option Addr) (c : Nat) (l : List Blk) (hl : l.length ≤ 1000000) (want : Int) (W0 : World) (F : List SL) (hR : Rd W0 F blkE A l) :
    Fn Try.prog 25 [.pointer (some ⟨b, 0, none⟩), .slice A l.length c, .int .i64 want] W0 (rmA b L s :: F)
      (Ret fun v G' => ∃ A2 c2, v = .slice A2 (M.short l want).length c2 ∧ G' = slc blkE 28 A2 c2 (M.short l want) :: rmA b L s :: F) := by
  refine Fn.enter Try.func25 rfl Try.ntmps25 rfl ?_
  repeat' (first|refine bk ?_|refine bkc ?_|refine bks ?_|refine bkd ?_|refine bkq (fun q => ?_)|(refine bk2 ?_ ?_<;>(first|exact bkn|(refine bkk ?_;intro h))))
  refine CS.loop (X := Nat × Option Addr × Nat) (fun y => [(0, .pointer (some ⟨b, 0, none⟩)), (1, .slice A l.length c), (2, .int .i64 want), (7, .slice y.2.1 (M.short (l.take y.1) want).length y.2.2), (8, .int .i64 (y.1 : Int))])
    (fun y => slc blkE 28 y.2.1 y.2.2 (M.short (l.take y.1) want) :: rmA b L s :: F) (fun y => y.1 ≤ l.length) (fun y => l.length - y.1) (0, none, 0) ⟨rfl, rfl, rfl, rfl, rfl, trivial⟩ (fun w hs => hs.slcNil blkE 28) (Nat.zero_le _) ?_
  rintro ⟨i, A5, c5⟩ hi
  simp only at hi ⊢
  repeat' (first|refine bk ?_|refine bkc ?_|refine bks ?_|refine bkd ?_|refine bkq (fun q => ?_)|(refine bk2 ?_ ?_<;>(first|exact bkn|(refine bkk ?_;intro h))))
  · obtain ⟨x, hx⟩ : ∃ x, l[i]? = some x := ⟨l[i]'(by omega), List.getElem?_eq_getElem (by omega)⟩
    refine WL.idx TT hR.cons.cons rfl rfl rfl (by omega) (by rw [Int.toNat_natCast]; exact hx) rfl rfl rfl rfl (fun bb o hA => ?_)
    refine WL.s (op1_at TT hA rfl rfl rfl rfl) rfl ?_
    have hh := short_take M want hx
    have h1 := short_len M want l i
    have h2 := hold_len hC.ok x
    generalize M.short (l.take i) want = X at hh h1 ⊢
    refine WL.call c21 rfl rfl rfl rfl ((r_Hold b hC x W0 _).pre (fun w hs => hs.front (i := 1) rfl)) ?_
    rintro _ _ ⟨A2, c2, rfl, rfl⟩
    by_cases hc : 0 < (M.hold x).length ∧ ((M.hold x).length : Int) < want
    · rw [if_pos hc] at hh
      repeat' (first|refine bk ?_|refine bkc ?_|refine bks ?_|refine bkd ?_|refine bkq (fun q => ?_)|(refine bk2 ?_ ?_<;>(first|exact bkn|(refine bkk ?_;intro h))))
      refine WL.idx TT hR.cons.cons.cons rfl rfl rfl (by omega) (by rw [Int.toNat_natCast]; exact hx) rfl rfl rfl rfl (fun b3 o3 hA3 => ?_)
      refine WL.s (op1_at TT hA3 rfl rfl rfl rfl) rfl ?_
      refine WL.buildSlice TT rfl rfl rfl rfl rfl rfl rfl rfl (fun q9 => ?_)
      refine WL.append TT (E := blkE) (xs := X) (ys := [x]) 3 rfl rfl rfl rfl rfl (Rd.row (i := 0) rfl rfl) rfl rfl rfl rfl rfl (by decide) (by simp only [List.length_cons, List.length_nil]; omega) (fun _ _ => rfl) rfl (fun A6 c6 => ?_)
      repeat' (first|refine bk ?_|refine bkc ?_|refine bks ?_|refine bkd ?_|refine bkq (fun q => ?_)|(refine bk2 ?_ ?_<;>(first|exact bkn|(refine bkk ?_;intro h))))
      refine QS.again (i + 1, A6, c6) (by show i + 1 ≤ l.length; omega) (by show l.length - (i + 1) < l.length - i; omega) ⟨rfl, rfl, rfl, by simp only [hh]; rfl, rfl, trivial⟩ (fun w hs => ?_)
      simp only [hh]
      exact (hs.drop.drop).front (i := 1) rfl
    · rw [if_neg hc, List.append_nil] at hh
      repeat' (first|refine bk ?_|refine bkc ?_|refine bks ?_|refine bkd ?_|refine bkq (fun q => ?_)|(refine bk2 ?_ ?_<;>(first|exact bkn|(refine bkk ?_;intro h))))
      all_goals
        refine QS.again (i + 1, A5, c5) (by show i + 1 ≤ l.length; omega) (by show l.length - (i + 1) < l.length - i; omega) ⟨rfl, rfl, rfl, by simp only [hh]; rfl, rfl, trivial⟩ (fun w hs => ?_)
        simp only [hh]
        exact hs.drop.front (i := 1) rfl
  · rw [List.take_of_length_le (by omega)]
    exact QS.retV Try.results25 rfl ⟨A5, c5, rfl, rfl⟩
end Go.Proofs.Ytgebdehpoalfbaa.B
