import Derived.Test.YtfolmcpfdcgliaaGreatMg13
import Derived.Test.YtfolmcpfdcgliaaGreatMg23
import Derived.Test.YtfolmcpfdcgliaaGreatMg21
set_option linter.unusedVariables false
set_option linter.unusedSimpArgs false
set_option maxRecDepth 8000
namespace Go.Proofs.YtfolmcpfdcgliaaGreat.B
open Go Go.Proofs
attribute [local irreducible] WL CS QS WQ WH WS Fn Op1 row Sat
def jCells (bd : Nat) (A : Option Addr) (c : Nat) (J : Jn) : List Value := [.pointer (some ⟨bd, 0, none⟩), .int .i64 J.p, .int .i64 J.e, .slice A J.xs.length c, .bool J.dead]
def jA (b bd : Nat) (J : Jn) : SL := fun h => ∃ x : Option Addr × Nat, star (row b 103 (jCells bd x.1 x.2 J)) (slc entE 49 x.1 x.2 J.xs) h
section
variable {W0 : World} {F : List SL} {b bd : Nat} {J : Jn}
theorem jA_open : ∀ w, Sat W0 (jA b bd J :: F) w → ∃ x : Option Addr × Nat, Sat W0 (row b 103 (jCells bd x.1 x.2 J) :: slc entE 49 x.1 x.2 J.xs :: F) w := fun w hs => by
  obtain ⟨x, hx⟩ := Sat.ex (R := fun x : Option Addr × Nat => star (row b 103 (jCells bd x.1 x.2 J)) (slc entE 49 x.1 x.2 J.xs)) hs
  exact ⟨x, hx.split⟩
theorem jA_shut {A : Option Addr} {c : Nat} : ∀ w, Sat W0 (row b 103 (jCells bd A c J) :: slc entE 49 A c J.xs :: F) w → Sat W0 (jA b bd J :: F) w := fun w hs =>
  hs.join.imp fun hp h => ⟨(A, c), h⟩
end
attribute [local irreducible] slc diskA jA
theorem j_Log (b bd : Nat) (J : Jn) (hl : J.xs.length ≤ 1000000) (W0 : World) (F : List SL) :
    Fn Tryz.prog 16 [.pointer (some ⟨b, 0, none⟩)] W0 (jA b bd J :: F) (Ret fun v G' => ∃ A c, v = logV (if J.dead = true then 0 else J.e) A (if J.dead = true then [] else J.xs).length c ∧ G' = slc entE 49 A c (if J.dead = true then [] else J.xs) :: jA b bd J :: F) := by
  refine Fn.ex (fun w hs => jA_open w hs) ?_
  rintro ⟨A, c⟩
  refine Fn.enter Tryz.func16 rfl Tryz.ntmps16 rfl ?_
  simp only [jCells]
  cases hd : J.dead
  · repeat' (first|refine bN ?_|refine bkq fun q=>?_|(refine bk2 ?_ ?_<;>(first|exact bkn|(refine bkk ?_;intro h))))
    refine CS.drawA (row b 103 (jCells bd A c J) :: slc entE 49 A c J.xs :: F) (fun w hs => by rw [jCells, hd]; exact hs.drop) mixed (by kernel_rfl) rfl ?_
    simp only [jCells]
    repeat' (first|refine bka ?_|(refine bk2a ?_ ?_<;>(first|exact bkn|(refine bkk ?_;intro h))))
    refine WA.e1 10 (by kernel_rfl) (by kernel_rfl) rfl rfl (EffC.call c35 rfl rfl rfl (ent_Clone A _ c J.xs rfl hl W0 _ (Rd.slc (i := 2) rfl))) rfl ?_
    rintro _ _ ⟨A1, c1, rfl, rfl⟩
    refine ⟨fun w hs => by have := hs.drop.drop; rw [hd]; exact this, ?_⟩
    repeat' (first|refine bka ?_|(refine bk2a ?_ ?_<;>(first|exact bkn|(refine bkk ?_;intro h))))
    refine WA.e1 12 (by kernel_rfl) (by kernel_rfl) rfl rfl (EffC.store TT 1 rfl rfl rfl rfl rfl rfl rfl rfl rfl) rfl ?_
    rintro _ _ ⟨rfl, rfl⟩
    refine ⟨fun w hs => by have := hs.drop.drop; rw [hd]; exact this, WA.fin rfl ?_⟩
    repeat' (first|refine bA ?_|refine bkq fun q=>?_|(refine bk2 ?_ ?_<;>(first|exact bkn|(refine bkk ?_;intro h))))
    refine QS.turnR (G2 := slc entE 49 A1 c1 J.xs :: jA b bd J :: F) (fun w hs => ((jA_shut (A := A) (c := c) w (by rw [jCells, hd]; exact ((hs.kick (i := 1) rfl).front (i := 2) rfl).front (i := 2) rfl)).perm (List.Perm.swap ..))) ?_
    exact QS.retC TT 1 Tryz.results16 rfl rfl rfl rfl ⟨rfl, A1, c1, rfl, rfl⟩
  · repeat' (first|refine bA ?_|refine bkq fun q=>?_|(refine bk2 ?_ ?_<;>(first|exact bkn|(refine bkk ?_;intro h))))
    refine QS.turn (G' := slc entE 49 none 0 ([] : List Ent) :: row q 45 [.int .i64 0, .slice none 0 0] :: row b 103 (jCells bd A c J) :: slc entE 49 A c J.xs :: F) (fun w hs => by rw [jCells, hd]; exact hs.slcNil _ _) ?_
    refine QS.turnR (G2 := slc entE 49 none 0 ([] : List Ent) :: jA b bd J :: F) (fun w hs => (jA_shut (A := A) (c := c) w (((hs.kick (i := 1) rfl).front (i := 2) rfl).front (i := 2) rfl)).perm (List.Perm.swap ..)) ?_
    exact QS.retC TT 1 Tryz.results16 rfl rfl rfl rfl ⟨rfl, none, 0, rfl, rfl⟩
theorem j_place (b bd : Nat) (rest : List Value) (D : Disk) (hD : DiskOk D) (name text : ByteArray) (hn : name.size ≤ 1000000) (ht : text.size ≤ 140737488355328) (W0 : World) (F : List SL) :
    Fn Tryz.prog 135 [.pointer (some ⟨b, 0, none⟩), .string name, .string text] W0 (diskA bd D :: row b 103 (.pointer (some ⟨bd, 0, none⟩) :: rest) :: F)
      (Ret fun v G' => v = .int .i64 (place1 D (name ++ dotNew) name text).1 ∧ G' = diskA bd (place1 D (name ++ dotNew) name text).2 :: row b 103 (.pointer (some ⟨bd, 0, none⟩) :: rest) :: F) := by
  refine Fn.enter Tryz.func135 rfl Tryz.ntmps135 rfl ?_
  have h4 : (⟨#[46, 110, 101, 119]⟩ : ByteArray).size = 4 := rfl
  repeat' (first|refine bA ?_|refine bkq fun q=>?_|(refine bk2 ?_ ?_<;>(first|exact bkn|(refine bkk ?_;intro h))))
  generalize hnw : name ++ dotNew = nw at *
  refine WL.call c62 rfl rfl rfl rfl (disk_Read bd D nw W0 _) ?_
  rintro _ _ ⟨rfl, rfl⟩
  generalize hE : (D.read nw).2 = er at *
  repeat' (first|refine bA ?_|refine bkq fun q=>?_|(refine bk2 ?_ ?_<;>(first|exact bkn|(refine bkk ?_;intro h))))
  · refine WL.call c146 rfl rfl rfl rfl (disk_Delete bd D hD nw W0 _) ?_
    rintro _ _ ⟨rfl, rfl⟩
    have ok1 := delete_ok hD nw
    have e0 : place1 D nw name text = if ¬ (D.delete nw).1 = 0 then D.delete nw else place2 (D.delete nw).2 nw name text := by rw [place1, hE, if_neg (by omega), if_pos (by assumption)]
    repeat' (first|refine bA ?_|refine bkq fun q=>?_|(refine bk2 ?_ ?_<;>(first|exact bkn|(refine bkk ?_;intro h))))
    · refine QS.retV Tryz.results135 rfl ⟨?_, ?_⟩ <;> rw [e0, if_pos (by assumption)] <;> rfl
    have e1 : place1 D nw name text = place2 (D.delete nw).2 nw name text := by rw [e0, if_neg (fun e => e (by assumption))]
    refine WL.call c148 rfl rfl rfl rfl (disk_Append bd _ ok1 nw text (by omega) W0 _) ?_
    rintro _ _ ⟨rfl, rfl⟩
    have okA := append_ok ok1 nw text (fun _ => trivial)
    repeat' (first|refine bA ?_|refine bkq fun q=>?_|(refine bk2 ?_ ?_<;>(first|exact bkn|(refine bkk ?_;intro h))))
    · refine QS.retV Tryz.results135 rfl ⟨?_, ?_⟩ <;> rw [e1, place2, if_pos (by assumption)] <;> rfl
    refine WL.call c150 rfl rfl rfl rfl (disk_Sync bd _ okA nw W0 _) ?_
    rintro _ _ ⟨rfl, rfl⟩
    have okS := sync_ok okA nw
    repeat' (first|refine bA ?_|refine bkq fun q=>?_|(refine bk2 ?_ ?_<;>(first|exact bkn|(refine bkk ?_;intro h))))
    · refine QS.retV Tryz.results135 rfl ⟨?_, ?_⟩ <;> rw [e1, place2, if_neg (fun e => e (by assumption)), if_pos (by assumption)] <;> rfl
    refine WL.call c151 rfl rfl rfl rfl (disk_Rename bd _ okS nw name W0 _) ?_
    rintro _ _ ⟨rfl, rfl⟩
    repeat' (first|refine bA ?_|refine bkq fun q=>?_|(refine bk2 ?_ ?_<;>(first|exact bkn|(refine bkk ?_;intro h))))
    refine QS.retV Tryz.results135 rfl ⟨?_, ?_⟩ <;> rw [e1, place2, if_neg (fun e => e (by assumption)), if_neg (fun e => e (by assumption))] <;> rfl
  · refine QS.retV Tryz.results135 rfl ⟨?_, ?_⟩ <;> rw [place1, hE, if_neg (by assumption), if_neg (by assumption)] <;> rfl
  · have e1 : place1 D nw name text = place2 D nw name text := by rw [place1, hE, if_pos (by assumption)]
    have ok1 := hD
    refine WL.call c148 rfl rfl rfl rfl (disk_Append bd _ ok1 nw text (by omega) W0 _) ?_
    rintro _ _ ⟨rfl, rfl⟩
    have okA := append_ok ok1 nw text (fun _ => trivial)
    repeat' (first|refine bA ?_|refine bkq fun q=>?_|(refine bk2 ?_ ?_<;>(first|exact bkn|(refine bkk ?_;intro h))))
    · refine QS.retV Tryz.results135 rfl ⟨?_, ?_⟩ <;> rw [e1, place2, if_pos (by assumption)] <;> rfl
    refine WL.call c150 rfl rfl rfl rfl (disk_Sync bd _ okA nw W0 _) ?_
    rintro _ _ ⟨rfl, rfl⟩
    have okS := sync_ok okA nw
    repeat' (first|refine bA ?_|refine bkq fun q=>?_|(refine bk2 ?_ ?_<;>(first|exact bkn|(refine bkk ?_;intro h))))
    · refine QS.retV Tryz.results135 rfl ⟨?_, ?_⟩ <;> rw [e1, place2, if_neg (fun e => e (by assumption)), if_pos (by assumption)] <;> rfl
    refine WL.call c151 rfl rfl rfl rfl (disk_Rename bd _ okS nw name W0 _) ?_
    rintro _ _ ⟨rfl, rfl⟩
    repeat' (first|refine bA ?_|refine bkq fun q=>?_|(refine bk2 ?_ ?_<;>(first|exact bkn|(refine bkk ?_;intro h))))
    refine QS.retV Tryz.results135 rfl ⟨?_, ?_⟩ <;> rw [e1, place2, if_neg (fun e => e (by assumption)), if_neg (fun e => e (by assumption))] <;> rfl
theorem j_promise (b bd : Nat) (J : Jn) (D : Disk) (hD : DiskOk D) (ep : Int) (hI : I64 ep) (W0 : World) (F : List SL) :
    Fn Tryz.prog 97 [.pointer (some ⟨b, 0, none⟩), .int .i64 ep] W0 (jA b bd J :: diskA bd D :: F)
      (Ret fun v G' => v = .int .i64 (promJ J D ep).1 ∧ G' = jA b bd (promJ J D ep).2.1 :: diskA bd (promJ J D ep).2.2 :: F) := by
  refine Fn.ex (fun w hs => jA_open w hs) ?_
  rintro ⟨A, c⟩
  refine Fn.enter Tryz.func97 rfl Tryz.ntmps97 rfl ?_
  simp only [jCells]
  have hnl := num_len hI
  have hms := mk_size (numB ep)
  repeat' (first|refine bA ?_|refine bkq fun q=>?_|(refine bk2 ?_ ?_<;>(first|exact bkn|(refine bkk ?_;intro h))))
  refine WL.call c75 rfl rfl rfl rfl (wire_Num hI W0 _) ?_
  rintro _ G2 ⟨rfl, hG2⟩
  rw [hG2]; clear hG2 G2
  refine WL.call c134 rfl rfl rfl rfl (sum_Seal _ (by omega) W0 _) ?_
  rintro _ G2 ⟨rfl, hG2⟩
  rw [hG2, if_neg (by omega), bs_mk]; clear hG2 G2
  have hsl := (sealB_len (s := numB ep) (by omega)).1
  have hms2 := mk_size (sealB (numB ep))
  repeat' (first|refine bA ?_|refine bkq fun q=>?_|(refine bk2 ?_ ?_<;>(first|exact bkn|(refine bkk ?_;intro h))))
  refine WL.call c135 rfl rfl rfl rfl ((j_place b bd _ D hD jProm (mk (sealB (numB ep))) (by decide) (by omega) W0 _).pre (fun w hs => hs.front (i := 2) rfl)) ?_
  rw [show place1 D (jProm ++ dotNew) jProm (mk (sealB (numB ep))) = placeP D ep from rfl]
  rintro _ _ ⟨rfl, rfl⟩
  by_cases h0 : (placeP D ep).1 = 0
  · repeat' (first|refine bA ?_|refine bkq fun q=>?_|(refine bk2 ?_ ?_<;>(first|exact bkn|(refine bkk ?_;intro h))))
    refine QS.turn (G' := jA b bd { J with p := ep } :: diskA bd (placeP D ep).2 :: F) (fun w hs => jA_shut (A := A) (c := c) w ((hs.front (i := 2) rfl).front (i := 2) rfl)) (QS.retV Tryz.results97 rfl ⟨?_, ?_⟩)
    · rfl
    · rw [promJ, if_pos h0]
  · repeat' (first|refine bA ?_|refine bkq fun q=>?_|(refine bk2 ?_ ?_<;>(first|exact bkn|(refine bkk ?_;intro h))))
    refine QS.turn (G' := jA b bd J :: diskA bd (placeP D ep).2 :: F) (fun w hs => jA_shut (A := A) (c := c) w ((hs.front (i := 2) rfl).front (i := 2) rfl)) (QS.retV Tryz.results97 rfl ⟨?_, ?_⟩)
    · rfl
    · rw [promJ, if_neg h0]
end Go.Proofs.YtfolmcpfdcgliaaGreat.B

namespace Go.Proofs.YtfolmcpfdcgliaaGreat.B
open Go Go.Proofs
attribute [local irreducible] WL CS QS WQ WH WS Fn Op1 row Sat
attribute [local irreducible] slc
theorem mk_ne {l : List UInt8} : mk l = ⟨#[]⟩ ↔ l = [] := ⟨fun h => congrArg bs h, fun h => by rw [h]⟩
set_option maxHeartbeats 2000000 in
theorem j_told (e : Int) (A : Option Addr) (k c : Nat) (xs : List Ent) (hk : k = xs.length) (W0 : World) (G : List SL) (hR : Rd W0 G entE A xs) :
    Fn Tryz.prog 60 [logV e A k c] W0 G (Ret fun v G' => v = .string (mk (toldB e xs)) ∧ G' = G) := by
  refine Fn.enter Tryz.func60 rfl Tryz.ntmps60 rfl ?_
  repeat' (first|refine bA ?_|refine bkq fun q=>?_|(refine bk2 ?_ ?_<;>(first|exact bkn|(refine bkk ?_;intro h))))
  refine WL.call c100 rfl rfl rfl rfl (log_Bytes e A k c xs hk W0 _ hR.cons) ?_
  rintro _ _ ⟨rfl, rfl⟩
  obtain ⟨LB, er, hLB, hv⟩ : ∃ (LB : List UInt8) (er : Int), LB = (if logOk e xs = true then logB e xs else []) ∧ (if logOk e xs = true then Value.tuple #[.string (mk (logB e xs)), .int .i64 0] else .tuple #[.string ⟨#[]⟩, .int .i64 1]) = .tuple #[.string (mk LB), .int .i64 er] := by
    split
    · exact ⟨_, 0, rfl, rfl⟩
    · exact ⟨[], 1, rfl, rfl⟩
  rw [hv]
  have hBL : LB.length ≤ 187900 := by
    rw [hLB]; split
    · exact logB_small ‹_›
    · simp
  have hT : toldL e xs = mk (numB 0) :: chunks LB.length LB := by
    rw [toldL, hLB]; split
    · rfl
    · rfl
  repeat' (first|refine bA ?_|refine bkq fun q=>?_|(refine bk2 ?_ ?_<;>(first|exact bkn|(refine bkk ?_;intro h))))
  refine WL.call c75 rfl rfl rfl rfl (wire_Num (n := 0) (by unfold I64; decide) W0 _) ?_
  rintro _ _ ⟨rfl, rfl⟩
  repeat' (first|refine bA ?_|refine bkq fun q=>?_|(refine bk2 ?_ ?_<;>(first|exact bkn|(refine bkk ?_;intro h))))
  refine WL.buildSlice TT rfl rfl rfl rfl rfl rfl rfl rfl (fun q2 => ?_)
  repeat' (first|refine bA ?_|refine bkq fun q=>?_|(refine bk2 ?_ ?_<;>(first|exact bkn|(refine bkk ?_;intro h))))
  refine CS.loop (X := List UInt8 × List ByteArray × Option Addr × Nat) (fun y => [(3, .string (mk y.1)), (5, .slice y.2.2.1 y.2.1.length y.2.2.2)])
    (fun y => slc strE 9 y.2.2.1 y.2.2.2 y.2.1 :: G) (fun y => y.1.length ≤ 187900 ∧ y.2.1.length ≤ 1000000 ∧ toldL e xs = y.2.1 ++ chunks y.1.length y.1) (fun y => y.1.length) (LB, [mk (numB 0)], some ⟨q2, 0, none⟩, 1) ⟨rfl, rfl, trivial⟩ (fun w hs => (row_own strE [mk (numB 0)] rfl (by simp [maxLen]) hs).kick (i := 1) rfl) ⟨hBL, by simp, by rw [hT]; rfl⟩ ?_
  rintro ⟨l, ps, A1, c1⟩ ⟨h1, h2, h3⟩
  simp only at h1 h2 h3 ⊢
  repeat' (first|refine bN ?_|refine bkq fun q=>?_|(refine bk2 ?_ ?_<;>(first|exact bkn|(refine bkk ?_;intro h))))
  · have hne : l ≠ [] := fun e => h (by rw [e])
    have hp := List.length_pos_iff.2 hne
    obtain ⟨m, hm⟩ : ∃ m, m = min l.length 4000 := ⟨_, rfl⟩
    rw [show (if (4000 : Int) < ((mk l).size : Int) then (4000 : Int) else ((mk l).size : Int)) = (m : Int) from by rw [mk_size, hm]; split <;> omega]
    have e1 : (mk l).extract (Int.toNat 0) (Int.toNat (m : Int)) = mk (l.take 4000) := by
      rw [ext_mk, bs_mk, Int.toNat_natCast, hm]
      simp only [Int.toNat_zero, List.drop_zero, Nat.sub_zero]
      by_cases h4 : l.length ≤ 4000
      · rw [Nat.min_eq_left h4, List.take_length, List.take_of_length_le h4]
      · rw [Nat.min_eq_right (by omega)]
    have e2 : (mk l).extract (Int.toNat (m : Int)) (Int.toNat ((mk l).size : Int)) = mk (l.drop 4000) := by
      rw [ext_mk, bs_mk, Int.toNat_natCast, mk_size, Int.toNat_natCast, hm]
      by_cases h4 : l.length ≤ 4000
      · rw [Nat.min_eq_left h4, List.drop_eq_nil_of_le (Nat.le_refl _), List.drop_eq_nil_of_le h4, List.take_nil]
      · rw [Nat.min_eq_right (by omega), List.take_of_length_le (by rw [List.length_drop]; omega)]
    have hch : chunks l.length l = mk (l.take 4000) :: chunks (l.drop 4000).length (l.drop 4000) := by
      obtain ⟨f, hf⟩ : ∃ f, l.length = f + 1 := ⟨l.length - 1, by omega⟩
      rw [hf, chunks, if_neg hne]
      congr 1
      exact chunks_fuel (by rw [List.length_drop]; omega) (Nat.le_refl _)
    have hpl : (ps ++ [mk (l.take 4000)]).length = ps.length + 1 := by simp
    have hTl := (joinOk_iff.1 (toldL_ok e xs)).1
    have hpt : ps.length + 1 ≤ 1000 := by
      rw [h3, hch, List.length_append, List.length_cons] at hTl; omega
    refine CS.drawA G (fun w hs => hs.drop) mixed (by kernel_rfl) rfl ?_
    repeat' (first|refine bka ?_|(refine bk2a ?_ ?_<;>(first|exact bkn|(refine bkk ?_;intro h))))
    refine WA.s rfl rfl (by kernel_rfl) rfl (op1_slice TT (l := 0) (r := (m : Int)) (s := mk l) rfl rfl rfl rfl ⟨by omega, by omega, by rw [mk_size]; omega⟩) rfl ?_
    rw [e1]
    refine WA.at 6 (by kernel_rfl) rfl (by kernel_rfl) rfl (op1_pure1 TT rfl) rfl ?_
    refine WA.at 7 (by kernel_rfl) rfl (by kernel_rfl) rfl (op1_pure1 TT rfl) rfl ?_
    refine WA.at 8 (by kernel_rfl) rfl (by kernel_rfl) rfl (op1_slice TT (l := (m : Int)) (r := ((mk l).size : Int)) (s := mk l) rfl rfl rfl rfl ⟨by omega, by rw [mk_size]; omega, by omega⟩) rfl ?_
    rw [e2]
    refine WA.e1 4 (by kernel_rfl) (by kernel_rfl) rfl rfl (EffC.of (Eff.buildSlice TT rfl rfl rfl rfl rfl rfl rfl)) rfl ?_
    rintro _ _ ⟨q3, rfl, rfl⟩
    refine ⟨fun w hs => hs.drop.drop, ?_⟩
    refine WA.e1 5 (by kernel_rfl) (by kernel_rfl) rfl rfl (EffC.of (Eff.append TT (E := strE) (xs := ps) (ys := [mk (l.take 4000)]) 1 rfl rfl rfl rfl rfl (Rd.row (i := 0) rfl rfl) rfl rfl rfl rfl rfl (by decide) (by simp only [List.length_cons, List.length_nil]; omega) (fun _ _ => rfl))) rfl ?_
    rintro _ _ ⟨A5, c5, rfl, rfl⟩
    refine ⟨fun w hs => hs.drop.drop, ?_⟩
    repeat' (first|refine bka ?_|(refine bk2a ?_ ?_<;>(first|exact bkn|(refine bkk ?_;intro h))))
    refine WA.fin rfl ?_
    repeat' (first|refine bA ?_|refine bkq fun q=>?_|(refine bk2 ?_ ?_<;>(first|exact bkn|(refine bkk ?_;intro h))))
    refine QS.again (l.drop 4000, ps ++ [mk (l.take 4000)], A5, c5) ⟨by simp only; rw [List.length_drop]; omega, by simp only; omega, by simp only; rw [h3, hch, List.append_assoc]; rfl⟩ (by simp only; rw [List.length_drop]; omega) ⟨rfl, rfl, trivial⟩ (fun w hs => hs.drop)
  · have hl : l = [] := mk_ne.1 h
    subst hl
    rw [show chunks ([] : List UInt8).length [] = [] from rfl, List.append_nil] at h3
    repeat' (first|refine bA ?_|refine bkq fun q=>?_|(refine bk2 ?_ ?_<;>(first|exact bkn|(refine bkk ?_;intro h))))
    refine WL.call c74 rfl rfl rfl rfl (j_join _ _ _ ps rfl (by rw [← h3]; exact toldL_ok e xs) W0 _ (Rd.slc (i := 0) rfl)) ?_
    rintro _ _ ⟨rfl, rfl⟩
    repeat' (first|refine bA ?_|refine bkq fun q=>?_|(refine bk2 ?_ ?_<;>(first|exact bkn|(refine bkk ?_;intro h))))
    exact QS.turn (G' := G) (fun w hs => hs.drop) (QS.retV Tryz.results60 rfl ⟨by rw [← h3]; rfl, rfl⟩)
theorem read_deferred (u : FrameMode) (hu : u = .returning ∨ u = .panicking tornJ) (W0 : World) (G : List SL) : DefOk Tryz.prog { target := .fn (.func 95) #[], args := #[] } u W0 G := by
  refine ⟨.func 95, #[], 95, #[], rfl, fun w => c95.invoke w, fun w hs => ?_⟩
  refine callsD_of_wpS Tryz.func95 rfl fun c₀ cs hc => ?_
  rcases hu with rfl | rfl
  · apply wpS_seq
    refine wpS_region ?_
    refine recO_run (v := .nilIface) (cs' := c₀ :: cs) (by rw [Tryz.ntmps95]; decide) (.inr ⟨by simp [recoverD, hc], rfl, rfl⟩) ?_
    refine wpS_of_wp ?_
    refine CS.use (n := (Tryz.f95).ntmps) (ds := []) (L := [(0, .nilIface), (3, .nilIface)]) (W0 := W0) (G := G) ?_ (((Fr.start _).put (d := some 3) rfl).put (d := some 0) rfl) hs
    repeat' (first|refine bA ?_|refine bkq fun q=>?_|(refine bk2 ?_ ?_<;>(first|exact bkn|(refine bkk ?_;intro h))))
    refine WL.s (op1_nilIface TT rfl rfl) rfl ?_
    repeat' (first|refine bA ?_|refine bkq fun q=>?_|(refine bk2 ?_ ?_<;>(first|exact bkn|(refine bkk ?_;intro h))))
    exact QS.endS (u' := .returning) (.inl rfl) Tryz.results95 (by rw [← hc]) (fun w hs => ⟨⟨_, rfl⟩, rfl, hs⟩)
  · apply wpS_seq
    refine wpS_region ?_
    refine recO_run (v := .iface 129 (.agg #[])) (cs' := { c₀ with mode := .panicking [{ v := .iface 129 (.agg #[]), recovered := true }] } :: cs) (by rw [Tryz.ntmps95]; decide) (.inl (by simp [recoverD, hc, tornJ])) ?_
    refine wpS_of_wp ?_
    refine CS.use (n := (Tryz.f95).ntmps) (ds := []) (L := [(0, .iface 129 (.agg #[])), (3, .iface 129 (.agg #[]))]) (W0 := W0) (G := G) ?_ (((Fr.start _).put (d := some 3) rfl).put (d := some 0) rfl) hs
    repeat' (first|refine bA ?_|refine bkq fun q=>?_|(refine bk2 ?_ ?_<;>(first|exact bkn|(refine bkk ?_;intro h))))
    refine WL.s (op1_someIface TT rfl rfl) rfl ?_
    repeat' (first|refine bA ?_|refine bkq fun q=>?_|(refine bk2 ?_ ?_<;>(first|exact bkn|(refine bkk ?_;intro h))))
    refine WL.s (op1_assertOk TT rfl rfl rfl) rfl ?_
    repeat' (first|refine bA ?_|refine bkq fun q=>?_|(refine bk2 ?_ ?_<;>(first|exact bkn|(refine bkk ?_;intro h))))
    exact QS.turn (G' := G) (fun w hs => hs.drop) (QS.endS (u' := .panicking [{ v := .iface 129 (.agg #[]), recovered := true }]) (.inl rfl) Tryz.results95 rfl (fun w hs => ⟨⟨_, rfl⟩, rfl, hs⟩))
theorem j_read {K : Nat} {cap : List Value} (hK : Callable Tryz.prog K) (s : ByteArray) (hs : s.size ≤ 9223372036854775807) (W0 : World) (G : List SL) (R : List ByteArray → Ending → List SL → Prop) (R' : Value → List SL → Prop)
    (spec : ∀ l A c, splitP (bs s) = some l → Fn Tryz.prog K (.slice A l.length c :: cap) W0 (slc strE 9 A c l :: G) (R l)) (hout : ∀ l G', ¬ R l .outgrown G')
    (hret : ∀ l v G', splitP (bs s) = some l → R l (.returned v) G' → R' (.bool true) G') (hpan : ∀ l ch G', splitP (bs s) = some l → R l (.panicked ch) G' → ch = tornJ ∧ R' (.bool false) G') (hno : splitP (bs s) = none → R' (.bool false) G) :
    Fn Tryz.prog 53 [.string s, .func (.func K) #[] cap.toArray] W0 G (Ret R') := by
  refine Fn.enterD Tryz.func53 rfl Tryz.ntmps53 rfl ?_
  refine CS.seq ?_
  refine CS.region ?_
  repeat' (first|refine bk ?_|refine bkh ?_|refine bkw ?_|refine bkq (fun q => ?_)|((first|refine bk2 ?_ ?_|refine bk2h ?_ ?_)<;>(first|exact bkn|(refine bkk ?_;intro h))))
  refine QS.then ?_
  refine CS.seq ?_
  refine CS.region ?_
  refine WL.defer rfl ?_
  repeat' (first|refine bA ?_|refine bkq fun q=>?_|(refine bk2 ?_ ?_<;>(first|exact bkn|(refine bkk ?_;intro h))))
  refine WL.call c96 rfl rfl rfl rfl (wire_Split s hs W0 _) ?_
  cases hsp : splitP (bs s) with
  | none =>
    rintro _ G2 ⟨rfl, hG2⟩
    rw [hG2]; clear hG2 G2
    repeat' (first|refine bA ?_|refine bkq fun q=>?_|(refine bk2 ?_ ?_<;>(first|exact bkn|(refine bkk ?_;intro h))))
    refine WL.callP c55 rfl rfl rfl rfl (j_must false W0 _) (fun _ h => h) (fun _ _ h => absurd h.1 (by simp)) ?_
    rintro _ G2 ⟨_, rfl, hG2⟩
    rw [hG2]; clear hG2 G2
    repeat' (first|refine bA ?_|refine bkq fun q=>?_|(refine bk2 ?_ ?_<;>(first|exact bkn|(refine bkk ?_;intro h))))
    exact QS.panicD Tryz.results53 rfl (read_deferred _ (.inr rfl) W0 _) (hno hsp)
  | some l =>
    rintro _ G2 ⟨A, c, rfl, hG2⟩
    rw [hG2]; clear hG2 G2
    repeat' (first|refine bA ?_|refine bkq fun q=>?_|(refine bk2 ?_ ?_<;>(first|exact bkn|(refine bkk ?_;intro h))))
    refine WL.callP c55 rfl rfl rfl rfl (j_must true W0 _) (fun _ h => h) ?_ (fun _ _ h => absurd h.1 (by simp))
    rintro _ G2 ⟨_, rfl, hG2⟩
    rw [hG2]; clear hG2 G2
    repeat' (first|refine bA ?_|refine bkq fun q=>?_|(refine bk2 ?_ ?_<;>(first|exact bkn|(refine bkk ?_;intro h))))
    refine WL.callP (fst := []) (vs := [.slice A l.length c]) (cap := cap) hK rfl rfl rfl rfl (spec l A c hsp) (hout l) (fun v G' hR => ?_) (fun ch G' hR => ?_)
    · have h := hret _ _ _ hsp hR
      repeat' (first|refine bA ?_|refine bkq fun q=>?_|(refine bk2 ?_ ?_<;>(first|exact bkn|(refine bkk ?_;intro h))))
      exact QS.retD Tryz.results53 rfl (read_deferred _ (.inl rfl) W0 G') h
    · obtain ⟨rfl, h⟩ := hpan _ _ _ hsp hR
      repeat' (first|refine bA ?_|refine bkq fun q=>?_|(refine bk2 ?_ ?_<;>(first|exact bkn|(refine bkk ?_;intro h))))
      exact QS.panicD Tryz.results53 rfl (read_deferred _ (.inr rfl) W0 G') h
end Go.Proofs.YtfolmcpfdcgliaaGreat.B

namespace Go.Proofs.YtfolmcpfdcgliaaGreat.B
open Go Go.Proofs
inductive ResOk {P : Program} (T : Tab P) (L : TL) (G : List SL) : List ResultVar → List Value → Prop
  | nil : ResOk T L G [] []
  | tmp {t : Nat} {v : Value} {rs : List ResultVar} {vs : List Value} : lk L t = some v → ResOk T L G rs vs → ResOk T L G (.tmp t :: rs) (v :: vs)
  | cell {p t b tt : Nat} {cs : List Value} {v : Value} {rs : List ResultVar} {vs : List Value} (i : Nat) : lk L p = some (.pointer (some ⟨b, 0, none⟩)) → G[i]? = some (row b tt cs) → partV T t cs 0 = some v → ResOk T L G rs vs → ResOk T L G (.cell p t :: rs) (v :: vs)
theorem ResOk.run {P : Program} {T : Tab P} {n : Nat} {ds : List Deferred} {L : TL} {W0 : World} {G : List SL} {w : World} {a : Act} (hf : Fr n ds L a) (hs : Sat W0 G w) {rs : List ResultVar} {vs : List Value} (h : ResOk T L G rs vs) :
    (rs.mapM (resOne a.tmps)).run P w = Result.ok vs w := by
  induction h with
  | nil => rfl
  | @tmp t v rs vs h1 h2 ih =>
    have h4 : (resOne a.tmps (.tmp t)).run P w = .ok v w := by simp [resOne, hf.get _ _ h1]
    rw [List.mapM_cons, Sem.run_bind, h4, Result.andThen_ok, Sem.run_bind, ih, Result.andThen_ok, Sem.run_pure]
  | @cell p t b tt cs v rs vs i hp hG hv h2 ih =>
    have hb := hs.at hG
    have h0 : (resOne a.tmps (.cell p t)).run P w = .ok v w := by
      have hl := run_loadVar_at T (w := w) (b := b) (o := 0) (cs := cs) (fun j u hu => by rw [cell_row hb]; exact hu) hv
      have h3 := hf.get _ _ hp
      simp [resOne, h3, asAddr, hl]
    rw [List.mapM_cons, Sem.run_bind, h0, Result.andThen_ok, Sem.run_bind, ih, Result.andThen_ok, Sem.run_pure]
theorem QS.retG {P : Program} {T : Tab P} {n : Nat} {L : TL} {W0 : World} {G : List SL} {fn : Func} {vs : List Value} {R : Ending → List SL → Prop} {rs : List ResultVar} (hrs : fn.results = rs.toArray) (hv : ResOk T L G rs vs) (hR : R (.returned (resV vs)) G) :
    QS (bodyPost P fn (fun e w' => ∃ G', R e G' ∧ Sat W0 G' w')) n [] .ret L W0 G := fun a w hf hs => by
  refine ⟨hf.defers, resV vs, ?_, G, hR, hs⟩
  have h := hv.run (P := P) hf hs
  rw [results_is, hrs, Sem.run_bind, List.mapM_toArray, Sem.run_map, h, Result.andThen_ok, Result.andThen_ok, Sem.run_pure, resPack_eq]
section
variable {P : Program} {Q : Exit → Act → World → Prop} {n : Nat} {ds : List Deferred} {l : List Oper} {Gq : List SL} {z gz f : Nat} {done : List Nat} {L : TL} {W0 : World} {G : List SL} {d : Option Nat} {op : Op} {ty : TypeId} {pos : String} {af : Array Edge} {g : Option (Nat × Bool)} {i : Nat}
theorem WA.idxAt (i : Nat) (T : Tab P) {α : Type} {E : EncK α} {d t e k c : Nat} {A : Option Addr} {xs : List α} {x : α} {s ix : Operand} {kd : IntKind} {iv : Int} {zz b1 c1 : _} {te : TE} (hw : ∃ w, Sat W0 Gq w) (hR : Rd W0 Gq E A xs)
    (hi : readyB l done i = true) (ho : l[i]? = some ⟨some d, .indexAddr t s ix, ty, pos, af, g⟩) (hfr : freeB l z done i = true) (hg : wantB l L g = true) (hs : evL L s = some (.slice A k c)) (hix : evL L ix = some (.int kd iv))
    (hk : k = xs.length) (h0 : 0 ≤ iv) (hx : xs[iv.toNat]? = some x) (hl : lk T.tab t = some ⟨.slice e, zz, b1, c1⟩) (he : lk T.tab e = some te) (hsz : te.size = E.sz) (hd : Nat.blt d n = true)
    (h : ∀ b o, At W0 Gq E b o x → WA P Q n ds l Gq z gz f (i :: done) ((d, .pointer (some ⟨b, o, none⟩)) :: L) W0 G) : WA P Q n ds l Gq z gz (f + 1) done L W0 G := by
  obtain ⟨b, o, hA, hop⟩ := op1_ixE (n := n) (ds := ds) (ty := ty) T hR hs hix hk h0 hx hl he hsz hw
  exact WA.at i hi ho hfr hg hop hd (h b o hA)
theorem WA.e2P {fo : Operand} {args : Array Operand} {tys : Array TypeId} {K : Nat} {fst cap vs all : List Value} {R : Ending → List SL → Prop} {o2 : Oper} {R2 : Value → List SL → Prop} (i j : Nat) (hr : onlyB l done [i, j] = true) (hi : readyB l done i = true)
    (ho : l[i]? = some ⟨d, .call ⟨.value fo, args, tys⟩, ty, pos, af, g⟩) (ho2 : l[j]? = some o2) (hg : wantB l L g = true) (hg2 : wantB l L o2.guard = true)
    (hK : Callable P K) (hx : evL L fo = some (.func (.func K) fst.toArray cap.toArray)) (ha : evLs L args.toList = some vs) (hall : fst ++ vs ++ cap = all) (hd : dOk n d = true) (spec : Fn P K all W0 G R) (hout : ∀ G', ¬ R .outgrown G') (e2 : EffC P n ds L W0 G o2 R2) (hd2 : dOk n o2.dst = true)
    (h : ∀ v G', R (.returned v) G' → (∀ w, Sat W0 G' w → Sat W0 Gq w) ∧ WA P Q n ds l Gq z gz f (i :: done) (putL L d v) W0 G') (hp : ∀ ch G', R (.panicked ch) G' → QS Q n ds (.panic ch) [] W0 G')
    (h2 : ∀ v G', R2 v G' → (∀ w, Sat W0 G' w → Sat W0 Gq w) ∧ WA P Q n ds l Gq z gz f (j :: done) (putL L o2.dst v) W0 G') : WA P Q n ds l Gq z gz (f + 1) done L W0 G := fun hn a hf => by
  have hil := (List.getElem?_eq_some_iff.1 ho).1
  have hjl := (List.getElem?_eq_some_iff.1 ho2).1
  have hin := (readyB_iff hn.1).2 hi
  refine ⟨fun h0 => (by rw [h0] at hin; cases hin), fun k hk => ?_⟩
  have hkk := onlyB_spec hn.1 hr k hk
  simp only [List.mem_cons, List.not_mem_nil, or_false] at hkk
  rcases hkk with rfl | rfl
  · refine ⟨_, by simpa using ho, .inr ⟨wantB_spec hf hg, fun w hs => ?_⟩⟩
    unfold runs
    rw [run_callOp hf hK hx ha, hall]
    refine (spec w hs).mono fun e w' ⟨G', hR, hs'⟩ => ?_
    cases e with
    | returned v =>
      obtain ⟨h3, h4⟩ := h v G' hR
      exact .inl ⟨v, rfl, G', h3, hs', h4 ⟨fun k hk => (List.mem_cons.1 hk).elim (fun e => e ▸ hil) (hn.1 k), hn.2⟩ _ (hf.put hd)⟩
    | panicked ch => exact .inr ⟨ch, rfl, fun a' ha' => hp ch G' hR a' w' ⟨by rw [ha'.1, hf.size], by rw [ha'.2, hf.defers], fun i v h => by cases h⟩ hs'⟩
    | outgrown => exact (hout G' hR).elim
  · refine ⟨o2, by simpa using ho2, .inr ⟨wantB_spec hf hg2, fun w hs => runs_mono (fun _ _ h => h.elim) (fun v w' ⟨G', h3, h4⟩ => ?_) (e2 a w hf hs)⟩⟩
    obtain ⟨h5, h6⟩ := h2 v G' h3
    exact ⟨G', h5, h4, h6 ⟨fun k hk => (List.mem_cons.1 hk).elim (fun e => e ▸ hjl) (hn.1 k), hn.2⟩ _ (hf.put hd2)⟩
end
theorem QS.ex {Q : Exit → Act → World → Prop} {n : Nat} {ds : List Deferred} {L : TL} {W0 : World} {G : List SL} {e : Exit} {X : Type} {A : X → List SL} (hG : ∀ w, Sat W0 G w → ∃ x, Sat W0 (A x) w) (h : ∀ x, QS Q n ds e L W0 (A x)) : QS Q n ds e L W0 G := fun a w hf hs => by
  obtain ⟨x, hx⟩ := hG w hs
  exact h x a w hf hx
end Go.Proofs.YtfolmcpfdcgliaaGreat.B
