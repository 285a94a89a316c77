import Derived.Test.YtejdkcnbflpfaaaGreatMg14
import Derived.Test.YtejdkcnbflpfaaaGreatMg26
import Derived.Test.YtejdkcnbflpfaaaGreatMg22
import Derived.Test.YtejdkcnbflpfaaaGreatMg37
set_option linter.unusedVariables false
set_option linter.unusedSimpArgs false
set_option maxRecDepth 8000
/-! A journal node's blocks; its promise, its log. -/
namespace Go.Proofs.YtejdkcnbflpfaaaGreat.B
open Go Go.Proofs
attribute [local irreducible] WL CS QS WQ WH WS Fn Op1 row Sat

def jCells (bd : Nat) (A : Option Addr) (c : Nat) (J : Jn) : List Value := [.pointer (some ⟨bd, 0, none⟩), .int .i64 J.p, .int .i64 J.e, .slice A J.xs.length c, .bool J.dead]
def jA (b bd : Nat) (J : Jn) : SL := fun h => ∃ x : Option Addr × Nat, star (row b 76 (jCells bd x.1 x.2 J)) (slc entE 41 x.1 x.2 J.xs) h
section
variable {W0 : World} {F : List SL} {b bd : Nat} {J : Jn}
theorem jA_open : ∀ w, Sat W0 (jA b bd J :: F) w → ∃ x : Option Addr × Nat, Sat W0 (row b 76 (jCells bd x.1 x.2 J) :: slc entE 41 x.1 x.2 J.xs :: F) w := fun w hs => by
  obtain ⟨x, hx⟩ := Sat.ex (R := fun x : Option Addr × Nat => star (row b 76 (jCells bd x.1 x.2 J)) (slc entE 41 x.1 x.2 J.xs)) hs
  exact ⟨x, hx.split⟩
theorem jA_shut {A : Option Addr} {c : Nat} : ∀ w, Sat W0 (row b 76 (jCells bd A c J) :: slc entE 41 A c J.xs :: F) w → Sat W0 (jA b bd J :: F) w := fun w hs =>
  hs.join.imp fun hp h => ⟨(A, c), h⟩
end
attribute [local irreducible] slc diskA jA

theorem j_Promised (b bd : Nat) (J : Jn) (W0 : World) (F : List SL) :
    Fn Tryz.prog 24 [.pointer (some ⟨b, 0, none⟩)] W0 (jA b bd J :: F) (Ret fun v G' => v = .int .i64 (if J.dead = true then 0 else J.p) ∧ G' = jA b bd J :: F) := by
  refine Fn.ex (fun w hs => jA_open w hs) ?_
  rintro ⟨A, c⟩
  refine Fn.enter Tryz.func24 rfl Tryz.ntmps24 rfl ?_
  simp only [jCells]
  cases hd : J.dead
  all_goals
    repeat' (first|refine bk ?_|refine bkc ?_|refine bks ?_|refine bkd ?_|refine bkq (fun q => ?_)|(refine bk2 ?_ ?_<;>(first|exact bkn|(refine bkk ?_;intro h))))
    refine QS.turn (G' := jA b bd J :: F) (fun w hs => jA_shut (A := A) (c := c) w (by rw [jCells, hd]; exact hs)) (QS.retV Tryz.results24 rfl ⟨?_, rfl⟩)
    rfl
theorem j_Log (b bd : Nat) (J : Jn) (hl : J.xs.length ≤ 1000000) (W0 : World) (F : List SL) :
    Fn Tryz.prog 22 [.pointer (some ⟨b, 0, none⟩)] W0 (jA b bd J :: F) (Ret fun v G' => ∃ A c, v = logV (if J.dead = true then 0 else J.e) A (if J.dead = true then [] else J.xs).length c ∧ G' = slc entE 41 A c (if J.dead = true then [] else J.xs) :: jA b bd J :: F) := by
  refine Fn.ex (fun w hs => jA_open w hs) ?_
  rintro ⟨A, c⟩
  refine Fn.enter Tryz.func22 rfl Tryz.ntmps22 rfl ?_
  simp only [jCells]
  cases hd : J.dead
  · repeat' (first|refine bk ?_|refine bkc ?_|refine bks ?_|refine bkq (fun q => ?_)|(refine bk2 ?_ ?_<;>(first|exact bkn|(refine bkk ?_;intro h))))
    refine CS.drawA (row b 76 (jCells bd A c J) :: slc entE 41 A c J.xs :: F) (fun w hs => by rw [jCells, hd]; exact hs.drop) mixed (by kernel_rfl) rfl ?_
    simp only [jCells]
    repeat' (first|refine bka ?_|(refine bk2a ?_ ?_<;>(first|exact bkn|(refine bkk ?_;intro h))))
    refine WA.e1 10 (by kernel_rfl) (by kernel_rfl) rfl rfl (EffC.call c70 rfl rfl rfl (ent_Clone A _ c J.xs rfl hl W0 _ (Rd.slc (i := 2) rfl))) rfl ?_
    rintro _ _ ⟨A1, c1, rfl, rfl⟩
    refine ⟨fun w hs => by have := hs.drop.drop; rw [hd]; exact this, ?_⟩
    repeat' (first|refine bka ?_|(refine bk2a ?_ ?_<;>(first|exact bkn|(refine bkk ?_;intro h))))
    refine WA.e1 12 (by kernel_rfl) (by kernel_rfl) rfl rfl (EffC.store TT 1 rfl rfl rfl rfl rfl rfl rfl rfl rfl) rfl ?_
    rintro _ _ ⟨rfl, rfl⟩
    refine ⟨fun w hs => by have := hs.drop.drop; rw [hd]; exact this, WA.fin rfl ?_⟩
    repeat' (first|refine bk ?_|refine bkc ?_|refine bks ?_|refine bkd ?_|refine bkq (fun q => ?_)|(refine bk2 ?_ ?_<;>(first|exact bkn|(refine bkk ?_;intro h))))
    refine QS.turnR (G2 := slc entE 41 A1 c1 J.xs :: jA b bd J :: F) (fun w hs => ((jA_shut (A := A) (c := c) w (by rw [jCells, hd]; exact ((hs.kick (i := 1) rfl).front (i := 2) rfl).front (i := 2) rfl)).perm (List.Perm.swap ..))) ?_
    exact QS.retC TT 1 Tryz.results22 rfl rfl rfl rfl ⟨rfl, A1, c1, rfl, rfl⟩
  · repeat' (first|refine bk ?_|refine bkc ?_|refine bks ?_|refine bkd ?_|refine bkq (fun q => ?_)|(refine bk2 ?_ ?_<;>(first|exact bkn|(refine bkk ?_;intro h))))
    refine QS.turn (G' := slc entE 41 none 0 ([] : List Ent) :: row q 49 [.int .i64 0, .slice none 0 0] :: row b 76 (jCells bd A c J) :: slc entE 41 A c J.xs :: F) (fun w hs => by rw [jCells, hd]; exact hs.slcNil _ _) ?_
    refine QS.turnR (G2 := slc entE 41 none 0 ([] : List Ent) :: jA b bd J :: F) (fun w hs => (jA_shut (A := A) (c := c) w (((hs.kick (i := 1) rfl).front (i := 2) rfl).front (i := 2) rfl)).perm (List.Perm.swap ..)) ?_
    exact QS.retC TT 1 Tryz.results22 rfl rfl rfl rfl ⟨rfl, none, 0, rfl, rfl⟩
theorem j_place (b bd : Nat) (rest : List Value) (D : Disk) (hD : DiskOk D) (name text : ByteArray) (hn : name.size ≤ 1000000) (ht : text.size ≤ 140737488355328) (W0 : World) (F : List SL) :
    Fn Tryz.prog 125 [.pointer (some ⟨b, 0, none⟩), .string name, .string text] W0 (diskA bd D :: row b 76 (.pointer (some ⟨bd, 0, none⟩) :: rest) :: F)
      (Ret fun v G' => v = .int .i64 (place1 D (name ++ dotNew) name text).1 ∧ G' = diskA bd (place1 D (name ++ dotNew) name text).2 :: row b 76 (.pointer (some ⟨bd, 0, none⟩) :: rest) :: F) := by
  refine Fn.enter Tryz.func125 rfl Tryz.ntmps125 rfl ?_
  have h4 : (⟨#[46, 110, 101, 119]⟩ : ByteArray).size = 4 := rfl
  repeat' (first|refine bk ?_|refine bkc ?_|refine bks ?_|refine bkd ?_|refine bkq (fun q => ?_)|(refine bk2 ?_ ?_<;>(first|exact bkn|(refine bkk ?_;intro h))))
  generalize hnw : name ++ dotNew = nw at *
  refine WL.call c39 rfl rfl rfl rfl (disk_Read bd D nw W0 _) ?_
  rintro _ _ ⟨rfl, rfl⟩
  generalize hE : (D.read nw).2 = er at *
  repeat' (first|refine bk ?_|refine bkc ?_|refine bks ?_|refine bkd ?_|refine bkq (fun q => ?_)|(refine bk2 ?_ ?_<;>(first|exact bkn|(refine bkk ?_;intro h))))
  · refine WL.call c113 rfl rfl rfl rfl (disk_Delete bd D hD nw W0 _) ?_
    rintro _ _ ⟨rfl, rfl⟩
    have ok1 := delete_ok hD nw
    have e0 : place1 D nw name text = if ¬ (D.delete nw).1 = 0 then D.delete nw else place2 (D.delete nw).2 nw name text := by rw [place1, hE, if_neg (by omega), if_pos (by assumption)]
    repeat' (first|refine bk ?_|refine bkc ?_|refine bks ?_|refine bkd ?_|refine bkq (fun q => ?_)|(refine bk2 ?_ ?_<;>(first|exact bkn|(refine bkk ?_;intro h))))
    · refine QS.retV Tryz.results125 rfl ⟨?_, ?_⟩ <;> rw [e0, if_pos (by assumption)] <;> rfl
    have e1 : place1 D nw name text = place2 (D.delete nw).2 nw name text := by rw [e0, if_neg (fun e => e (by assumption))]
    refine WL.call c9 rfl rfl rfl rfl (disk_Append bd _ ok1 nw text (by omega) W0 _) ?_
    rintro _ _ ⟨rfl, rfl⟩
    have okA := append_ok ok1 nw text (fun _ => trivial)
    repeat' (first|refine bk ?_|refine bkc ?_|refine bks ?_|refine bkd ?_|refine bkq (fun q => ?_)|(refine bk2 ?_ ?_<;>(first|exact bkn|(refine bkk ?_;intro h))))
    · refine QS.retV Tryz.results125 rfl ⟨?_, ?_⟩ <;> rw [e1, place2, if_pos (by assumption)] <;> rfl
    refine WL.call c116 rfl rfl rfl rfl (disk_Sync bd _ okA nw W0 _) ?_
    rintro _ _ ⟨rfl, rfl⟩
    have okS := sync_ok okA nw
    repeat' (first|refine bk ?_|refine bkc ?_|refine bks ?_|refine bkd ?_|refine bkq (fun q => ?_)|(refine bk2 ?_ ?_<;>(first|exact bkn|(refine bkk ?_;intro h))))
    · refine QS.retV Tryz.results125 rfl ⟨?_, ?_⟩ <;> rw [e1, place2, if_neg (fun e => e (by assumption)), if_pos (by assumption)] <;> rfl
    refine WL.call c117 rfl rfl rfl rfl (disk_Rename bd _ okS nw name W0 _) ?_
    rintro _ _ ⟨rfl, rfl⟩
    repeat' (first|refine bk ?_|refine bkc ?_|refine bks ?_|refine bkd ?_|refine bkq (fun q => ?_)|(refine bk2 ?_ ?_<;>(first|exact bkn|(refine bkk ?_;intro h))))
    refine QS.retV Tryz.results125 rfl ⟨?_, ?_⟩ <;> rw [e1, place2, if_neg (fun e => e (by assumption)), if_neg (fun e => e (by assumption))] <;> rfl
  · refine QS.retV Tryz.results125 rfl ⟨?_, ?_⟩ <;> rw [place1, hE, if_neg (by assumption), if_neg (by assumption)] <;> rfl
  · have e1 : place1 D nw name text = place2 D nw name text := by rw [place1, hE, if_pos (by assumption)]
    have ok1 := hD
    refine WL.call c9 rfl rfl rfl rfl (disk_Append bd _ ok1 nw text (by omega) W0 _) ?_
    rintro _ _ ⟨rfl, rfl⟩
    have okA := append_ok ok1 nw text (fun _ => trivial)
    repeat' (first|refine bk ?_|refine bkc ?_|refine bks ?_|refine bkd ?_|refine bkq (fun q => ?_)|(refine bk2 ?_ ?_<;>(first|exact bkn|(refine bkk ?_;intro h))))
    · refine QS.retV Tryz.results125 rfl ⟨?_, ?_⟩ <;> rw [e1, place2, if_pos (by assumption)] <;> rfl
    refine WL.call c116 rfl rfl rfl rfl (disk_Sync bd _ okA nw W0 _) ?_
    rintro _ _ ⟨rfl, rfl⟩
    have okS := sync_ok okA nw
    repeat' (first|refine bk ?_|refine bkc ?_|refine bks ?_|refine bkd ?_|refine bkq (fun q => ?_)|(refine bk2 ?_ ?_<;>(first|exact bkn|(refine bkk ?_;intro h))))
    · refine QS.retV Tryz.results125 rfl ⟨?_, ?_⟩ <;> rw [e1, place2, if_neg (fun e => e (by assumption)), if_pos (by assumption)] <;> rfl
    refine WL.call c117 rfl rfl rfl rfl (disk_Rename bd _ okS nw name W0 _) ?_
    rintro _ _ ⟨rfl, rfl⟩
    repeat' (first|refine bk ?_|refine bkc ?_|refine bks ?_|refine bkd ?_|refine bkq (fun q => ?_)|(refine bk2 ?_ ?_<;>(first|exact bkn|(refine bkk ?_;intro h))))
    refine QS.retV Tryz.results125 rfl ⟨?_, ?_⟩ <;> rw [e1, place2, if_neg (fun e => e (by assumption)), if_neg (fun e => e (by assumption))] <;> rfl
theorem j_promise (b bd : Nat) (J : Jn) (D : Disk) (hD : DiskOk D) (ep : Int) (hI : I64 ep) (W0 : World) (F : List SL) :
    Fn Tryz.prog 94 [.pointer (some ⟨b, 0, none⟩), .int .i64 ep] W0 (jA b bd J :: diskA bd D :: F)
      (Ret fun v G' => v = .int .i64 (promJ J D ep).1 ∧ G' = jA b bd (promJ J D ep).2.1 :: diskA bd (promJ J D ep).2.2 :: F) := by
  refine Fn.ex (fun w hs => jA_open w hs) ?_
  rintro ⟨A, c⟩
  refine Fn.enter Tryz.func94 rfl Tryz.ntmps94 rfl ?_
  simp only [jCells]
  have hnl := num_len hI
  have hms := mk_size (numB ep)
  repeat' (first|refine bk ?_|refine bkc ?_|refine bks ?_|refine bkd ?_|refine bkq (fun q => ?_)|(refine bk2 ?_ ?_<;>(first|exact bkn|(refine bkk ?_;intro h))))
  refine WL.call c17 rfl rfl rfl rfl (wire_Num hI W0 _) ?_
  rintro _ G2 ⟨rfl, hG2⟩
  rw [hG2]; clear hG2 G2
  refine WL.call c124 rfl rfl rfl rfl (sum_Seal _ (by omega) W0 _) ?_
  rintro _ G2 ⟨rfl, hG2⟩
  rw [hG2, if_neg (by omega), bs_mk]; clear hG2 G2
  have hsl := (sealB_len (s := numB ep) (by omega)).1
  have hms2 := mk_size (sealB (numB ep))
  repeat' (first|refine bk ?_|refine bkc ?_|refine bks ?_|refine bkd ?_|refine bkq (fun q => ?_)|(refine bk2 ?_ ?_<;>(first|exact bkn|(refine bkk ?_;intro h))))
  refine WL.call c125 rfl rfl rfl rfl ((j_place b bd _ D hD jProm (mk (sealB (numB ep))) (by decide) (by omega) W0 _).pre (fun w hs => hs.front (i := 2) rfl)) ?_
  rw [show place1 D (jProm ++ dotNew) jProm (mk (sealB (numB ep))) = placeP D ep from rfl]
  rintro _ _ ⟨rfl, rfl⟩
  by_cases h0 : (placeP D ep).1 = 0
  · repeat' (first|refine bk ?_|refine bkc ?_|refine bks ?_|refine bkd ?_|refine bkq (fun q => ?_)|(refine bk2 ?_ ?_<;>(first|exact bkn|(refine bkk ?_;intro h))))
    refine QS.turn (G' := jA b bd { J with p := ep } :: diskA bd (placeP D ep).2 :: F) (fun w hs => jA_shut (A := A) (c := c) w ((hs.front (i := 2) rfl).front (i := 2) rfl)) (QS.retV Tryz.results94 rfl ⟨?_, ?_⟩)
    · rfl
    · rw [promJ, if_pos h0]
  · repeat' (first|refine bk ?_|refine bkc ?_|refine bks ?_|refine bkd ?_|refine bkq (fun q => ?_)|(refine bk2 ?_ ?_<;>(first|exact bkn|(refine bkk ?_;intro h))))
    refine QS.turn (G' := jA b bd J :: diskA bd (placeP D ep).2 :: F) (fun w hs => jA_shut (A := A) (c := c) w ((hs.front (i := 2) rfl).front (i := 2) rfl)) (QS.retV Tryz.results94 rfl ⟨?_, ?_⟩)
    · rfl
    · rw [promJ, if_neg h0]
end Go.Proofs.YtejdkcnbflpfaaaGreat.B
