import Derived.Test.YtfolmcpfdcgliaaGreatMg13
import Derived.Test.YtfolmcpfdcgliaaGreatMg8
import Derived.Test.YtfolmcpfdcgliaaGreatMg17
import Derived.Test.YtfolmcpfdcgliaaGreatMg23
import Derived.Test.YtfolmcpfdcgliaaGreatMg21
set_option linter.unusedVariables false
set_option linter.unusedSimpArgs false
set_option maxRecDepth 8000
/-! slices.Clip, Equal of entries. -/
namespace Go.Proofs.YtfolmcpfdcgliaaGreat.B
open Go Go.Proofs
attribute [local irreducible] WL CS QS WQ WH WS Fn Op1 row Sat
attribute [local irreducible] slc

theorem ent_Clip (A : Option Addr) (k c : Nat) (hkc : k ≤ c) (hl : k ≤ 1000000) (W0 : World) (G : List SL) :
    Fn Tryz.prog 137 [.slice A k c] W0 G (Ret fun v G' => v = .slice A k k ∧ G' = G) := by
  refine Fn.enter Tryz.func137 rfl Tryz.ntmps137 rfl ?_
  repeat' (first|refine bk ?_|refine bkc ?_|refine bks ?_|refine bkd ?_|refine bkq (fun q => ?_)|(refine bk2 ?_ ?_<;>(first|exact bkn|(refine bkk ?_;intro h))))
  refine WL.s (op1_clip TT (r := k) rfl rfl rfl rfl rfl hkc) rfl ?_
  repeat' (first|refine bk ?_|refine bkc ?_|refine bks ?_|refine bkd ?_|refine bkq (fun q => ?_)|(refine bk2 ?_ ?_<;>(first|exact bkn|(refine bkk ?_;intro h))))
  exact QS.retV Tryz.results137 rfl ⟨rfl, rfl⟩
set_option maxHeartbeats 1000000 in
theorem ent_Equal (A B : Option Addr) (k c k2 c2 : Nat) (xs ys : List Ent) (hk : k = xs.length) (hk2 : k2 = ys.length) (hkb : k ≤ 1000000) (hkb2 : k2 ≤ 1000000) (W0 : World) (G : List SL) (hR : Rd W0 G entE A xs) (hR2 : Rd W0 G entE B ys) :
    Fn Tryz.prog 138 [.slice A k c, .slice B k2 c2] W0 G (Ret fun v G' => v = .bool (decide (xs = ys)) ∧ G' = G) := by
  refine Fn.enter Tryz.func138 rfl Tryz.ntmps138 rfl ?_
  repeat' (first|refine bk ?_|refine bkc ?_|refine bks ?_|refine bkd ?_|refine bkq (fun q => ?_)|(refine bk2 ?_ ?_<;>(first|exact bkn|(refine bkk ?_;intro h))))
  · refine QS.retV Tryz.results138 rfl ⟨?_, rfl⟩
    rw [decide_eq_false (fun e => by subst e; omega)]; rfl
  have hkk : xs.length = ys.length := by omega
  refine CS.loop (X := Nat) (fun i => [(0, .slice A k c), (1, .slice B k2 c2), (12, .int .i64 (k : Int)), (13, .int .i64 (i : Int))]) (fun i => G)
    (fun i => i ≤ k ∧ xs.take i = ys.take i) (fun i => k - i) 0 ⟨rfl, rfl, rfl, rfl, trivial⟩ (fun w hs => hs) ⟨Nat.zero_le _, rfl⟩ ?_
  rintro i ⟨hi, he⟩
  refine CS.world fun hw => ?_
  repeat' (first|refine bk ?_|refine bkc ?_|refine bks ?_|refine bkd ?_|refine bkq (fun q => ?_)|(refine bk2 ?_ ?_<;>(first|exact bkn|(refine bkk ?_;intro h))))
  · obtain ⟨x, hx⟩ : ∃ x, xs[i]? = some x := ⟨xs[i]'(by omega), List.getElem?_eq_getElem (by omega)⟩
    obtain ⟨y, hy⟩ : ∃ y, ys[i]? = some y := ⟨ys[i]'(by omega), List.getElem?_eq_getElem (by omega)⟩
    refine WQ.idx TT hR rfl rfl hk (by omega) (by rw [Int.toNat_natCast]; exact hx) rfl rfl rfl rfl hw (fun b2 o hA => ?_)
    refine WQ.s (op1_at TT hA rfl rfl rfl rfl) rfl ?_
    repeat' (first|refine bk ?_|refine bkc ?_|refine bks ?_|refine bkd ?_|refine bkq (fun q => ?_)|(refine bk2 ?_ ?_<;>(first|exact bkn|(refine bkk ?_;intro h))))
    refine WQ.idx TT hR2 rfl rfl hk2 (by omega) (by rw [Int.toNat_natCast]; exact hy) rfl rfl rfl rfl hw (fun b3 o3 hA3 => ?_)
    refine WQ.s (op1_at TT hA3 rfl rfl rfl rfl) rfl ?_
    refine WQ.s (op1_neS TT cmp49 rfl rfl rfl rfl rfl) rfl ?_
    rw [show (!(decide (x.n = y.n) && (decide (x.s = y.s) && true))) = !decide (x = y) from by
      obtain ⟨n1, s1⟩ := x; obtain ⟨n2, s2⟩ := y; simp]
    by_cases hxy : x = y
    · rw [decide_eq_true hxy]
      repeat' (first|refine bk ?_|refine bkc ?_|refine bks ?_|refine bkd ?_|refine bkq (fun q => ?_)|(refine bk2 ?_ ?_<;>(first|exact bkn|(refine bkk ?_;intro h))))
      refine QS.again (i + 1) ⟨by omega, ?_⟩ (by omega) ⟨rfl, rfl, rfl, ?_, trivial⟩ (fun w hs => hs)
      · rw [List.take_add_one, List.take_add_one, hx, hy, he, hxy]
      · rw [show ((i + 1 : Nat) : Int) = (i : Int) + 1 from by omega]; rfl
    · rw [decide_eq_false hxy]
      repeat' (first|refine bk ?_|refine bkc ?_|refine bks ?_|refine bkd ?_|refine bkq (fun q => ?_)|(refine bk2 ?_ ?_<;>(first|exact bkn|(refine bkk ?_;intro h))))
      refine QS.retV Tryz.results138 rfl ⟨?_, rfl⟩
      rw [decide_eq_false (fun e => hxy (by rw [e, hy] at hx; exact (Option.some.inj hx).symm))]; rfl
  · refine QS.retV Tryz.results138 rfl ⟨?_, rfl⟩
    rw [decide_eq_true (by rw [List.take_of_length_le (by omega), List.take_of_length_le (by omega)] at he; exact he)]; rfl
end Go.Proofs.YtfolmcpfdcgliaaGreat.B

set_option linter.unusedVariables false
set_option linter.unusedSimpArgs false
set_option maxRecDepth 8000
/-! A journal node's blocks; its promise, its log. -/
namespace Go.Proofs.YtfolmcpfdcgliaaGreat.B
open Go Go.Proofs
attribute [local irreducible] WL CS QS WQ WH WS Fn Op1 row Sat

def jCells (bd : Nat) (A : Option Addr) (c : Nat) (J : Jn) : List Value := [.pointer (some ⟨bd, 0, none⟩), .int .i64 J.p, .int .i64 J.e, .slice A J.xs.length c, .bool J.dead]
def jA (b bd : Nat) (J : Jn) : SL := fun h => ∃ x : Option Addr × Nat, star (row b 103 (jCells bd x.1 x.2 J)) (slc entE 49 x.1 x.2 J.xs) h
section
variable {W0 : World} {F : List SL} {b bd : Nat} {J : Jn}
theorem jA_open : ∀ w, Sat W0 (jA b bd J :: F) w → ∃ x : Option Addr × Nat, Sat W0 (row b 103 (jCells bd x.1 x.2 J) :: slc entE 49 x.1 x.2 J.xs :: F) w := fun w hs => by
  obtain ⟨x, hx⟩ := Sat.ex (R := fun x : Option Addr × Nat => star (row b 103 (jCells bd x.1 x.2 J)) (slc entE 49 x.1 x.2 J.xs)) hs
  exact ⟨x, hx.split⟩
theorem jA_shut {A : Option Addr} {c : Nat} : ∀ w, Sat W0 (row b 103 (jCells bd A c J) :: slc entE 49 A c J.xs :: F) w → Sat W0 (jA b bd J :: F) w := fun w hs =>
  hs.join.imp fun hp h => ⟨(A, c), h⟩
end
attribute [local irreducible] slc diskA jA

theorem j_Log (b bd : Nat) (J : Jn) (hl : J.xs.length ≤ 1000000) (W0 : World) (F : List SL) :
    Fn Tryz.prog 16 [.pointer (some ⟨b, 0, none⟩)] W0 (jA b bd J :: F) (Ret fun v G' => ∃ A c, v = logV (if J.dead = true then 0 else J.e) A (if J.dead = true then [] else J.xs).length c ∧ G' = slc entE 49 A c (if J.dead = true then [] else J.xs) :: jA b bd J :: F) := by
  refine Fn.ex (fun w hs => jA_open w hs) ?_
  rintro ⟨A, c⟩
  refine Fn.enter Tryz.func16 rfl Tryz.ntmps16 rfl ?_
  simp only [jCells]
  cases hd : J.dead
  · repeat' (first|refine bk ?_|refine bkc ?_|refine bks ?_|refine bkq (fun q => ?_)|(refine bk2 ?_ ?_<;>(first|exact bkn|(refine bkk ?_;intro h))))
    refine CS.drawA (row b 103 (jCells bd A c J) :: slc entE 49 A c J.xs :: F) (fun w hs => by rw [jCells, hd]; exact hs.drop) mixed (by kernel_rfl) rfl ?_
    simp only [jCells]
    repeat' (first|refine bka ?_|(refine bk2a ?_ ?_<;>(first|exact bkn|(refine bkk ?_;intro h))))
    refine WA.e1 10 (by kernel_rfl) (by kernel_rfl) rfl rfl (EffC.call c35 rfl rfl rfl (ent_Clone A _ c J.xs rfl hl W0 _ (Rd.slc (i := 2) rfl))) rfl ?_
    rintro _ _ ⟨A1, c1, rfl, rfl⟩
    refine ⟨fun w hs => by have := hs.drop.drop; rw [hd]; exact this, ?_⟩
    repeat' (first|refine bka ?_|(refine bk2a ?_ ?_<;>(first|exact bkn|(refine bkk ?_;intro h))))
    refine WA.e1 12 (by kernel_rfl) (by kernel_rfl) rfl rfl (EffC.store TT 1 rfl rfl rfl rfl rfl rfl rfl rfl rfl) rfl ?_
    rintro _ _ ⟨rfl, rfl⟩
    refine ⟨fun w hs => by have := hs.drop.drop; rw [hd]; exact this, WA.fin rfl ?_⟩
    repeat' (first|refine bk ?_|refine bkc ?_|refine bks ?_|refine bkd ?_|refine bkq (fun q => ?_)|(refine bk2 ?_ ?_<;>(first|exact bkn|(refine bkk ?_;intro h))))
    refine QS.turnR (G2 := slc entE 49 A1 c1 J.xs :: jA b bd J :: F) (fun w hs => ((jA_shut (A := A) (c := c) w (by rw [jCells, hd]; exact ((hs.kick (i := 1) rfl).front (i := 2) rfl).front (i := 2) rfl)).perm (List.Perm.swap ..))) ?_
    exact QS.retC TT 1 Tryz.results16 rfl rfl rfl rfl ⟨rfl, A1, c1, rfl, rfl⟩
  · repeat' (first|refine bk ?_|refine bkc ?_|refine bks ?_|refine bkd ?_|refine bkq (fun q => ?_)|(refine bk2 ?_ ?_<;>(first|exact bkn|(refine bkk ?_;intro h))))
    refine QS.turn (G' := slc entE 49 none 0 ([] : List Ent) :: row q 45 [.int .i64 0, .slice none 0 0] :: row b 103 (jCells bd A c J) :: slc entE 49 A c J.xs :: F) (fun w hs => by rw [jCells, hd]; exact hs.slcNil _ _) ?_
    refine QS.turnR (G2 := slc entE 49 none 0 ([] : List Ent) :: jA b bd J :: F) (fun w hs => (jA_shut (A := A) (c := c) w (((hs.kick (i := 1) rfl).front (i := 2) rfl).front (i := 2) rfl)).perm (List.Perm.swap ..)) ?_
    exact QS.retC TT 1 Tryz.results16 rfl rfl rfl rfl ⟨rfl, none, 0, rfl, rfl⟩
theorem j_place (b bd : Nat) (rest : List Value) (D : Disk) (hD : DiskOk D) (name text : ByteArray) (hn : name.size ≤ 1000000) (ht : text.size ≤ 140737488355328) (W0 : World) (F : List SL) :
    Fn Tryz.prog 135 [.pointer (some ⟨b, 0, none⟩), .string name, .string text] W0 (diskA bd D :: row b 103 (.pointer (some ⟨bd, 0, none⟩) :: rest) :: F)
      (Ret fun v G' => v = .int .i64 (place1 D (name ++ dotNew) name text).1 ∧ G' = diskA bd (place1 D (name ++ dotNew) name text).2 :: row b 103 (.pointer (some ⟨bd, 0, none⟩) :: rest) :: F) := by
  refine Fn.enter Tryz.func135 rfl Tryz.ntmps135 rfl ?_
  have h4 : (⟨#[46, 110, 101, 119]⟩ : ByteArray).size = 4 := rfl
  repeat' (first|refine bk ?_|refine bkc ?_|refine bks ?_|refine bkd ?_|refine bkq (fun q => ?_)|(refine bk2 ?_ ?_<;>(first|exact bkn|(refine bkk ?_;intro h))))
  generalize hnw : name ++ dotNew = nw at *
  refine WL.call c62 rfl rfl rfl rfl (disk_Read bd D nw W0 _) ?_
  rintro _ _ ⟨rfl, rfl⟩
  generalize hE : (D.read nw).2 = er at *
  repeat' (first|refine bk ?_|refine bkc ?_|refine bks ?_|refine bkd ?_|refine bkq (fun q => ?_)|(refine bk2 ?_ ?_<;>(first|exact bkn|(refine bkk ?_;intro h))))
  · refine WL.call c146 rfl rfl rfl rfl (disk_Delete bd D hD nw W0 _) ?_
    rintro _ _ ⟨rfl, rfl⟩
    have ok1 := delete_ok hD nw
    have e0 : place1 D nw name text = if ¬ (D.delete nw).1 = 0 then D.delete nw else place2 (D.delete nw).2 nw name text := by rw [place1, hE, if_neg (by omega), if_pos (by assumption)]
    repeat' (first|refine bk ?_|refine bkc ?_|refine bks ?_|refine bkd ?_|refine bkq (fun q => ?_)|(refine bk2 ?_ ?_<;>(first|exact bkn|(refine bkk ?_;intro h))))
    · refine QS.retV Tryz.results135 rfl ⟨?_, ?_⟩ <;> rw [e0, if_pos (by assumption)] <;> rfl
    have e1 : place1 D nw name text = place2 (D.delete nw).2 nw name text := by rw [e0, if_neg (fun e => e (by assumption))]
    refine WL.call c148 rfl rfl rfl rfl (disk_Append bd _ ok1 nw text (by omega) W0 _) ?_
    rintro _ _ ⟨rfl, rfl⟩
    have okA := append_ok ok1 nw text (fun _ => trivial)
    repeat' (first|refine bk ?_|refine bkc ?_|refine bks ?_|refine bkd ?_|refine bkq (fun q => ?_)|(refine bk2 ?_ ?_<;>(first|exact bkn|(refine bkk ?_;intro h))))
    · refine QS.retV Tryz.results135 rfl ⟨?_, ?_⟩ <;> rw [e1, place2, if_pos (by assumption)] <;> rfl
    refine WL.call c150 rfl rfl rfl rfl (disk_Sync bd _ okA nw W0 _) ?_
    rintro _ _ ⟨rfl, rfl⟩
    have okS := sync_ok okA nw
    repeat' (first|refine bk ?_|refine bkc ?_|refine bks ?_|refine bkd ?_|refine bkq (fun q => ?_)|(refine bk2 ?_ ?_<;>(first|exact bkn|(refine bkk ?_;intro h))))
    · refine QS.retV Tryz.results135 rfl ⟨?_, ?_⟩ <;> rw [e1, place2, if_neg (fun e => e (by assumption)), if_pos (by assumption)] <;> rfl
    refine WL.call c151 rfl rfl rfl rfl (disk_Rename bd _ okS nw name W0 _) ?_
    rintro _ _ ⟨rfl, rfl⟩
    repeat' (first|refine bk ?_|refine bkc ?_|refine bks ?_|refine bkd ?_|refine bkq (fun q => ?_)|(refine bk2 ?_ ?_<;>(first|exact bkn|(refine bkk ?_;intro h))))
    refine QS.retV Tryz.results135 rfl ⟨?_, ?_⟩ <;> rw [e1, place2, if_neg (fun e => e (by assumption)), if_neg (fun e => e (by assumption))] <;> rfl
  · refine QS.retV Tryz.results135 rfl ⟨?_, ?_⟩ <;> rw [place1, hE, if_neg (by assumption), if_neg (by assumption)] <;> rfl
  · have e1 : place1 D nw name text = place2 D nw name text := by rw [place1, hE, if_pos (by assumption)]
    have ok1 := hD
    refine WL.call c148 rfl rfl rfl rfl (disk_Append bd _ ok1 nw text (by omega) W0 _) ?_
    rintro _ _ ⟨rfl, rfl⟩
    have okA := append_ok ok1 nw text (fun _ => trivial)
    repeat' (first|refine bk ?_|refine bkc ?_|refine bks ?_|refine bkd ?_|refine bkq (fun q => ?_)|(refine bk2 ?_ ?_<;>(first|exact bkn|(refine bkk ?_;intro h))))
    · refine QS.retV Tryz.results135 rfl ⟨?_, ?_⟩ <;> rw [e1, place2, if_pos (by assumption)] <;> rfl
    refine WL.call c150 rfl rfl rfl rfl (disk_Sync bd _ okA nw W0 _) ?_
    rintro _ _ ⟨rfl, rfl⟩
    have okS := sync_ok okA nw
    repeat' (first|refine bk ?_|refine bkc ?_|refine bks ?_|refine bkd ?_|refine bkq (fun q => ?_)|(refine bk2 ?_ ?_<;>(first|exact bkn|(refine bkk ?_;intro h))))
    · refine QS.retV Tryz.results135 rfl ⟨?_, ?_⟩ <;> rw [e1, place2, if_neg (fun e => e (by assumption)), if_pos (by assumption)] <;> rfl
    refine WL.call c151 rfl rfl rfl rfl (disk_Rename bd _ okS nw name W0 _) ?_
    rintro _ _ ⟨rfl, rfl⟩
    repeat' (first|refine bk ?_|refine bkc ?_|refine bks ?_|refine bkd ?_|refine bkq (fun q => ?_)|(refine bk2 ?_ ?_<;>(first|exact bkn|(refine bkk ?_;intro h))))
    refine QS.retV Tryz.results135 rfl ⟨?_, ?_⟩ <;> rw [e1, place2, if_neg (fun e => e (by assumption)), if_neg (fun e => e (by assumption))] <;> rfl
theorem j_promise (b bd : Nat) (J : Jn) (D : Disk) (hD : DiskOk D) (ep : Int) (hI : I64 ep) (W0 : World) (F : List SL) :
    Fn Tryz.prog 97 [.pointer (some ⟨b, 0, none⟩), .int .i64 ep] W0 (jA b bd J :: diskA bd D :: F)
      (Ret fun v G' => v = .int .i64 (promJ J D ep).1 ∧ G' = jA b bd (promJ J D ep).2.1 :: diskA bd (promJ J D ep).2.2 :: F) := by
  refine Fn.ex (fun w hs => jA_open w hs) ?_
  rintro ⟨A, c⟩
  refine Fn.enter Tryz.func97 rfl Tryz.ntmps97 rfl ?_
  simp only [jCells]
  have hnl := num_len hI
  have hms := mk_size (numB ep)
  repeat' (first|refine bk ?_|refine bkc ?_|refine bks ?_|refine bkd ?_|refine bkq (fun q => ?_)|(refine bk2 ?_ ?_<;>(first|exact bkn|(refine bkk ?_;intro h))))
  refine WL.call c75 rfl rfl rfl rfl (wire_Num hI W0 _) ?_
  rintro _ G2 ⟨rfl, hG2⟩
  rw [hG2]; clear hG2 G2
  refine WL.call c134 rfl rfl rfl rfl (sum_Seal _ (by omega) W0 _) ?_
  rintro _ G2 ⟨rfl, hG2⟩
  rw [hG2, if_neg (by omega), bs_mk]; clear hG2 G2
  have hsl := (sealB_len (s := numB ep) (by omega)).1
  have hms2 := mk_size (sealB (numB ep))
  repeat' (first|refine bk ?_|refine bkc ?_|refine bks ?_|refine bkd ?_|refine bkq (fun q => ?_)|(refine bk2 ?_ ?_<;>(first|exact bkn|(refine bkk ?_;intro h))))
  refine WL.call c135 rfl rfl rfl rfl ((j_place b bd _ D hD jProm (mk (sealB (numB ep))) (by decide) (by omega) W0 _).pre (fun w hs => hs.front (i := 2) rfl)) ?_
  rw [show place1 D (jProm ++ dotNew) jProm (mk (sealB (numB ep))) = placeP D ep from rfl]
  rintro _ _ ⟨rfl, rfl⟩
  by_cases h0 : (placeP D ep).1 = 0
  · repeat' (first|refine bk ?_|refine bkc ?_|refine bks ?_|refine bkd ?_|refine bkq (fun q => ?_)|(refine bk2 ?_ ?_<;>(first|exact bkn|(refine bkk ?_;intro h))))
    refine QS.turn (G' := jA b bd { J with p := ep } :: diskA bd (placeP D ep).2 :: F) (fun w hs => jA_shut (A := A) (c := c) w ((hs.front (i := 2) rfl).front (i := 2) rfl)) (QS.retV Tryz.results97 rfl ⟨?_, ?_⟩)
    · rfl
    · rw [promJ, if_pos h0]
  · repeat' (first|refine bk ?_|refine bkc ?_|refine bks ?_|refine bkd ?_|refine bkq (fun q => ?_)|(refine bk2 ?_ ?_<;>(first|exact bkn|(refine bkk ?_;intro h))))
    refine QS.turn (G' := jA b bd J :: diskA bd (placeP D ep).2 :: F) (fun w hs => jA_shut (A := A) (c := c) w ((hs.front (i := 2) rfl).front (i := 2) rfl)) (QS.retV Tryz.results97 rfl ⟨?_, ?_⟩)
    · rfl
    · rw [promJ, if_neg h0]
end Go.Proofs.YtfolmcpfdcgliaaGreat.B

set_option linter.unusedVariables false
set_option linter.unusedSimpArgs false
set_option maxRecDepth 8000
/-! A journal's answers, made; and what reads its texts. -/
namespace Go.Proofs.YtfolmcpfdcgliaaGreat.B
open Go Go.Proofs
attribute [local irreducible] WL CS QS WQ WH WS Fn Op1 row Sat
attribute [local irreducible] slc

theorem mk_ne {l : List UInt8} : mk l = ⟨#[]⟩ ↔ l = [] := ⟨fun h => congrArg bs h, fun h => by rw [h]⟩
set_option maxHeartbeats 2000000 in
theorem j_told (e : Int) (A : Option Addr) (k c : Nat) (xs : List Ent) (hk : k = xs.length) (W0 : World) (G : List SL) (hR : Rd W0 G entE A xs) :
    Fn Tryz.prog 60 [logV e A k c] W0 G (Ret fun v G' => v = .string (mk (toldB e xs)) ∧ G' = G) := by
  refine Fn.enter Tryz.func60 rfl Tryz.ntmps60 rfl ?_
  repeat' (first|refine bk ?_|refine bkc ?_|refine bks ?_|refine bkd ?_|refine bkq (fun q => ?_)|(refine bk2 ?_ ?_<;>(first|exact bkn|(refine bkk ?_;intro h))))
  refine WL.call c100 rfl rfl rfl rfl (log_Bytes e A k c xs hk W0 _ hR.cons) ?_
  rintro _ _ ⟨rfl, rfl⟩
  obtain ⟨LB, er, hLB, hv⟩ : ∃ (LB : List UInt8) (er : Int), LB = (if logOk e xs = true then logB e xs else []) ∧ (if logOk e xs = true then Value.tuple #[.string (mk (logB e xs)), .int .i64 0] else .tuple #[.string ⟨#[]⟩, .int .i64 1]) = .tuple #[.string (mk LB), .int .i64 er] := by
    split
    · exact ⟨_, 0, rfl, rfl⟩
    · exact ⟨[], 1, rfl, rfl⟩
  rw [hv]
  have hBL : LB.length ≤ 187900 := by
    rw [hLB]; split
    · exact logB_small ‹_›
    · simp
  have hT : toldL e xs = mk (numB 0) :: chunks LB.length LB := by
    rw [toldL, hLB]; split
    · rfl
    · rfl
  repeat' (first|refine bk ?_|refine bkc ?_|refine bks ?_|refine bkd ?_|refine bkq (fun q => ?_)|(refine bk2 ?_ ?_<;>(first|exact bkn|(refine bkk ?_;intro h))))
  refine WL.call c75 rfl rfl rfl rfl (wire_Num (n := 0) (by unfold I64; decide) W0 _) ?_
  rintro _ _ ⟨rfl, rfl⟩
  repeat' (first|refine bk ?_|refine bkc ?_|refine bks ?_|refine bkd ?_|refine bkq (fun q => ?_)|(refine bk2 ?_ ?_<;>(first|exact bkn|(refine bkk ?_;intro h))))
  refine WL.buildSlice TT rfl rfl rfl rfl rfl rfl rfl rfl (fun q2 => ?_)
  repeat' (first|refine bk ?_|refine bkc ?_|refine bks ?_|refine bkd ?_|refine bkq (fun q => ?_)|(refine bk2 ?_ ?_<;>(first|exact bkn|(refine bkk ?_;intro h))))
  refine CS.loop (X := List UInt8 × List ByteArray × Option Addr × Nat) (fun y => [(3, .string (mk y.1)), (5, .slice y.2.2.1 y.2.1.length y.2.2.2)])
    (fun y => slc strE 9 y.2.2.1 y.2.2.2 y.2.1 :: G) (fun y => y.1.length ≤ 187900 ∧ y.2.1.length ≤ 1000000 ∧ toldL e xs = y.2.1 ++ chunks y.1.length y.1) (fun y => y.1.length) (LB, [mk (numB 0)], some ⟨q2, 0, none⟩, 1) ⟨rfl, rfl, trivial⟩ (fun w hs => (row_own strE [mk (numB 0)] rfl (by simp [maxLen]) hs).kick (i := 1) rfl) ⟨hBL, by simp, by rw [hT]; rfl⟩ ?_
  rintro ⟨l, ps, A1, c1⟩ ⟨h1, h2, h3⟩
  simp only at h1 h2 h3 ⊢
  repeat' (first|refine bk ?_|refine bkc ?_|refine bks ?_|refine bkq (fun q => ?_)|(refine bk2 ?_ ?_<;>(first|exact bkn|(refine bkk ?_;intro h))))
  · have hne : l ≠ [] := fun e => h (by rw [e])
    have hp := List.length_pos_iff.2 hne
    obtain ⟨m, hm⟩ : ∃ m, m = min l.length 4000 := ⟨_, rfl⟩
    rw [show (if (4000 : Int) < ((mk l).size : Int) then (4000 : Int) else ((mk l).size : Int)) = (m : Int) from by rw [mk_size, hm]; split <;> omega]
    have e1 : (mk l).extract (Int.toNat 0) (Int.toNat (m : Int)) = mk (l.take 4000) := by
      rw [ext_mk, bs_mk, Int.toNat_natCast, hm]
      simp only [Int.toNat_zero, List.drop_zero, Nat.sub_zero]
      by_cases h4 : l.length ≤ 4000
      · rw [Nat.min_eq_left h4, List.take_length, List.take_of_length_le h4]
      · rw [Nat.min_eq_right (by omega)]
    have e2 : (mk l).extract (Int.toNat (m : Int)) (Int.toNat ((mk l).size : Int)) = mk (l.drop 4000) := by
      rw [ext_mk, bs_mk, Int.toNat_natCast, mk_size, Int.toNat_natCast, hm]
      by_cases h4 : l.length ≤ 4000
      · rw [Nat.min_eq_left h4, List.drop_eq_nil_of_le (Nat.le_refl _), List.drop_eq_nil_of_le h4, List.take_nil]
      · rw [Nat.min_eq_right (by omega), List.take_of_length_le (by rw [List.length_drop]; omega)]
    have hch : chunks l.length l = mk (l.take 4000) :: chunks (l.drop 4000).length (l.drop 4000) := by
      obtain ⟨f, hf⟩ : ∃ f, l.length = f + 1 := ⟨l.length - 1, by omega⟩
      rw [hf, chunks, if_neg hne]
      congr 1
      exact chunks_fuel (by rw [List.length_drop]; omega) (Nat.le_refl _)
    have hpl : (ps ++ [mk (l.take 4000)]).length = ps.length + 1 := by simp
    have hTl := (joinOk_iff.1 (toldL_ok e xs)).1
    have hpt : ps.length + 1 ≤ 1000 := by
      rw [h3, hch, List.length_append, List.length_cons] at hTl; omega
    refine CS.drawA G (fun w hs => hs.drop) mixed (by kernel_rfl) rfl ?_
    repeat' (first|refine bka ?_|(refine bk2a ?_ ?_<;>(first|exact bkn|(refine bkk ?_;intro h))))
    refine WA.s rfl rfl (by kernel_rfl) rfl (op1_slice TT (l := 0) (r := (m : Int)) (s := mk l) rfl rfl rfl rfl ⟨by omega, by omega, by rw [mk_size]; omega⟩) rfl ?_
    rw [e1]
    refine WA.at 6 (by kernel_rfl) rfl (by kernel_rfl) rfl (op1_pure1 TT rfl) rfl ?_
    refine WA.at 7 (by kernel_rfl) rfl (by kernel_rfl) rfl (op1_pure1 TT rfl) rfl ?_
    refine WA.at 8 (by kernel_rfl) rfl (by kernel_rfl) rfl (op1_slice TT (l := (m : Int)) (r := ((mk l).size : Int)) (s := mk l) rfl rfl rfl rfl ⟨by omega, by rw [mk_size]; omega, by omega⟩) rfl ?_
    rw [e2]
    refine WA.e1 4 (by kernel_rfl) (by kernel_rfl) rfl rfl (EffC.of (Eff.buildSlice TT rfl rfl rfl rfl rfl rfl rfl)) rfl ?_
    rintro _ _ ⟨q3, rfl, rfl⟩
    refine ⟨fun w hs => hs.drop.drop, ?_⟩
    refine WA.e1 5 (by kernel_rfl) (by kernel_rfl) rfl rfl (EffC.of (Eff.append TT (E := strE) (xs := ps) (ys := [mk (l.take 4000)]) 1 rfl rfl rfl rfl rfl (Rd.row (i := 0) rfl rfl) rfl rfl rfl rfl rfl (by decide) (by simp only [List.length_cons, List.length_nil]; omega) (fun _ _ => rfl))) rfl ?_
    rintro _ _ ⟨A5, c5, rfl, rfl⟩
    refine ⟨fun w hs => hs.drop.drop, ?_⟩
    repeat' (first|refine bka ?_|(refine bk2a ?_ ?_<;>(first|exact bkn|(refine bkk ?_;intro h))))
    refine WA.fin rfl ?_
    repeat' (first|refine bk ?_|refine bkc ?_|refine bks ?_|refine bkd ?_|refine bkq (fun q => ?_)|(refine bk2 ?_ ?_<;>(first|exact bkn|(refine bkk ?_;intro h))))
    refine QS.again (l.drop 4000, ps ++ [mk (l.take 4000)], A5, c5) ⟨by simp only; rw [List.length_drop]; omega, by simp only; omega, by simp only; rw [h3, hch, List.append_assoc]; rfl⟩ (by simp only; rw [List.length_drop]; omega) ⟨rfl, rfl, trivial⟩ (fun w hs => hs.drop)
  · have hl : l = [] := mk_ne.1 h
    subst hl
    rw [show chunks ([] : List UInt8).length [] = [] from rfl, List.append_nil] at h3
    repeat' (first|refine bk ?_|refine bkc ?_|refine bks ?_|refine bkd ?_|refine bkq (fun q => ?_)|(refine bk2 ?_ ?_<;>(first|exact bkn|(refine bkk ?_;intro h))))
    refine WL.call c74 rfl rfl rfl rfl (j_join _ _ _ ps rfl (by rw [← h3]; exact toldL_ok e xs) W0 _ (Rd.slc (i := 0) rfl)) ?_
    rintro _ _ ⟨rfl, rfl⟩
    repeat' (first|refine bk ?_|refine bkc ?_|refine bks ?_|refine bkd ?_|refine bkq (fun q => ?_)|(refine bk2 ?_ ?_<;>(first|exact bkn|(refine bkk ?_;intro h))))
    exact QS.turn (G' := G) (fun w hs => hs.drop) (QS.retV Tryz.results60 rfl ⟨by rw [← h3]; rfl, rfl⟩)

/-! ### Reading -/
theorem read_deferred (u : FrameMode) (hu : u = .returning ∨ u = .panicking tornJ) (W0 : World) (G : List SL) : DefOk Tryz.prog { target := .fn (.func 95) #[], args := #[] } u W0 G := by
  refine ⟨.func 95, #[], 95, #[], rfl, fun w => c95.invoke w, fun w hs => ?_⟩
  refine callsD_of_wpS Tryz.func95 rfl fun c₀ cs hc => ?_
  rcases hu with rfl | rfl
  · apply wpS_seq
    refine wpS_region ?_
    refine recO_run (v := .nilIface) (cs' := c₀ :: cs) (by rw [Tryz.ntmps95]; decide) (.inr ⟨by simp [recoverD, hc], rfl, rfl⟩) ?_
    refine wpS_of_wp ?_
    refine CS.use (n := (Tryz.f95).ntmps) (ds := []) (L := [(0, .nilIface), (3, .nilIface)]) (W0 := W0) (G := G) ?_ (((Fr.start _).put (d := some 3) rfl).put (d := some 0) rfl) hs
    repeat' (first|refine bk ?_|refine bkc ?_|refine bks ?_|refine bkd ?_|refine bkq (fun q => ?_)|(refine bk2 ?_ ?_<;>(first|exact bkn|(refine bkk ?_;intro h))))
    refine WL.s (op1_nilIface TT rfl rfl) rfl ?_
    repeat' (first|refine bk ?_|refine bkc ?_|refine bks ?_|refine bkd ?_|refine bkq (fun q => ?_)|(refine bk2 ?_ ?_<;>(first|exact bkn|(refine bkk ?_;intro h))))
    exact QS.endS (u' := .returning) (.inl rfl) Tryz.results95 (by rw [← hc]) (fun w hs => ⟨⟨_, rfl⟩, rfl, hs⟩)
  · apply wpS_seq
    refine wpS_region ?_
    refine recO_run (v := .iface 129 (.agg #[])) (cs' := { c₀ with mode := .panicking [{ v := .iface 129 (.agg #[]), recovered := true }] } :: cs) (by rw [Tryz.ntmps95]; decide) (.inl (by simp [recoverD, hc, tornJ])) ?_
    refine wpS_of_wp ?_
    refine CS.use (n := (Tryz.f95).ntmps) (ds := []) (L := [(0, .iface 129 (.agg #[])), (3, .iface 129 (.agg #[]))]) (W0 := W0) (G := G) ?_ (((Fr.start _).put (d := some 3) rfl).put (d := some 0) rfl) hs
    repeat' (first|refine bk ?_|refine bkc ?_|refine bks ?_|refine bkd ?_|refine bkq (fun q => ?_)|(refine bk2 ?_ ?_<;>(first|exact bkn|(refine bkk ?_;intro h))))
    refine WL.s (op1_someIface TT rfl rfl) rfl ?_
    repeat' (first|refine bk ?_|refine bkc ?_|refine bks ?_|refine bkd ?_|refine bkq (fun q => ?_)|(refine bk2 ?_ ?_<;>(first|exact bkn|(refine bkk ?_;intro h))))
    refine WL.s (op1_assertOk TT rfl rfl rfl) rfl ?_
    repeat' (first|refine bk ?_|refine bkc ?_|refine bks ?_|refine bkd ?_|refine bkq (fun q => ?_)|(refine bk2 ?_ ?_<;>(first|exact bkn|(refine bkk ?_;intro h))))
    exact QS.turn (G' := G) (fun w hs => hs.drop) (QS.endS (u' := .panicking [{ v := .iface 129 (.agg #[]), recovered := true }]) (.inl rfl) Tryz.results95 rfl (fun w hs => ⟨⟨_, rfl⟩, rfl, hs⟩))
/-- read: whether the call came back. -/
theorem j_read {K : Nat} {cap : List Value} (hK : Callable Tryz.prog K) (s : ByteArray) (hs : s.size ≤ 9223372036854775807) (W0 : World) (G : List SL) (R : List ByteArray → Ending → List SL → Prop) (R' : Value → List SL → Prop)
    (spec : ∀ l A c, splitP (bs s) = some l → Fn Tryz.prog K (.slice A l.length c :: cap) W0 (slc strE 9 A c l :: G) (R l)) (hout : ∀ l G', ¬ R l .outgrown G')
    (hret : ∀ l v G', splitP (bs s) = some l → R l (.returned v) G' → R' (.bool true) G') (hpan : ∀ l ch G', splitP (bs s) = some l → R l (.panicked ch) G' → ch = tornJ ∧ R' (.bool false) G') (hno : splitP (bs s) = none → R' (.bool false) G) :
    Fn Tryz.prog 53 [.string s, .func (.func K) #[] cap.toArray] W0 G (Ret R') := by
  refine Fn.enterD Tryz.func53 rfl Tryz.ntmps53 rfl ?_
  refine CS.seq ?_
  refine CS.region ?_
  repeat' (first|refine bk ?_|refine bkh ?_|refine bkw ?_|refine bkq (fun q => ?_)|((first|refine bk2 ?_ ?_|refine bk2h ?_ ?_)<;>(first|exact bkn|(refine bkk ?_;intro h))))
  refine QS.then ?_
  refine CS.seq ?_
  refine CS.region ?_
  refine WL.defer rfl ?_
  repeat' (first|refine bk ?_|refine bkc ?_|refine bks ?_|refine bkd ?_|refine bkq (fun q => ?_)|(refine bk2 ?_ ?_<;>(first|exact bkn|(refine bkk ?_;intro h))))
  refine WL.call c96 rfl rfl rfl rfl (wire_Split s hs W0 _) ?_
  cases hsp : splitP (bs s) with
  | none =>
    rintro _ G2 ⟨rfl, hG2⟩
    rw [hG2]; clear hG2 G2
    repeat' (first|refine bk ?_|refine bkc ?_|refine bks ?_|refine bkd ?_|refine bkq (fun q => ?_)|(refine bk2 ?_ ?_<;>(first|exact bkn|(refine bkk ?_;intro h))))
    refine WL.callP c55 rfl rfl rfl rfl (j_must false W0 _) (fun _ h => h) (fun _ _ h => absurd h.1 (by simp)) ?_
    rintro _ G2 ⟨_, rfl, hG2⟩
    rw [hG2]; clear hG2 G2
    repeat' (first|refine bk ?_|refine bkc ?_|refine bks ?_|refine bkd ?_|refine bkq (fun q => ?_)|(refine bk2 ?_ ?_<;>(first|exact bkn|(refine bkk ?_;intro h))))
    exact QS.panicD Tryz.results53 rfl (read_deferred _ (.inr rfl) W0 _) (hno hsp)
  | some l =>
    rintro _ G2 ⟨A, c, rfl, hG2⟩
    rw [hG2]; clear hG2 G2
    repeat' (first|refine bk ?_|refine bkc ?_|refine bks ?_|refine bkd ?_|refine bkq (fun q => ?_)|(refine bk2 ?_ ?_<;>(first|exact bkn|(refine bkk ?_;intro h))))
    refine WL.callP c55 rfl rfl rfl rfl (j_must true W0 _) (fun _ h => h) ?_ (fun _ _ h => absurd h.1 (by simp))
    rintro _ G2 ⟨_, rfl, hG2⟩
    rw [hG2]; clear hG2 G2
    repeat' (first|refine bk ?_|refine bkc ?_|refine bks ?_|refine bkd ?_|refine bkq (fun q => ?_)|(refine bk2 ?_ ?_<;>(first|exact bkn|(refine bkk ?_;intro h))))
    refine WL.callP (fst := []) (vs := [.slice A l.length c]) (cap := cap) hK rfl rfl rfl rfl (spec l A c hsp) (hout l) (fun v G' hR => ?_) (fun ch G' hR => ?_)
    · have h := hret _ _ _ hsp hR
      repeat' (first|refine bk ?_|refine bkc ?_|refine bks ?_|refine bkd ?_|refine bkq (fun q => ?_)|(refine bk2 ?_ ?_<;>(first|exact bkn|(refine bkk ?_;intro h))))
      exact QS.retD Tryz.results53 rfl (read_deferred _ (.inl rfl) W0 G') h
    · obtain ⟨rfl, h⟩ := hpan _ _ _ hsp hR
      repeat' (first|refine bk ?_|refine bkc ?_|refine bks ?_|refine bkd ?_|refine bkq (fun q => ?_)|(refine bk2 ?_ ?_<;>(first|exact bkn|(refine bkk ?_;intro h))))
      exact QS.panicD Tryz.results53 rfl (read_deferred _ (.inr rfl) W0 G') h
end Go.Proofs.YtfolmcpfdcgliaaGreat.B
