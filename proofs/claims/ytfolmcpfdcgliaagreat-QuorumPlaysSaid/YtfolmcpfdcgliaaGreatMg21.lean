import Derived.Test.YtfolmcpfdcgliaaGreatMg20
import Derived.Test.YtfolmcpfdcgliaaGreatMg14
set_option linter.unusedVariables false
set_option linter.unusedSimpArgs false
set_option maxRecDepth 8000
namespace Go.Proofs.YtfolmcpfdcgliaaGreat.B
open Go Go.Proofs
attribute [local irreducible] WL CS QS WQ WH WS Fn Op1 row Sat
abbrev dotNew : ByteArray := ⟨#[46, 110, 101, 119]⟩
def place2 (D : Disk) (nw name text : ByteArray) : Int × Disk :=
  if ¬ (D.append nw text).1 = 0 then D.append nw text
  else if ¬ ((D.append nw text).2.sync nw).1 = 0 then (D.append nw text).2.sync nw
  else ((D.append nw text).2.sync nw).2.rename nw name
def place1 (D : Disk) (nw name text : ByteArray) : Int × Disk :=
  if (D.read nw).2 = 5 then place2 D nw name text
  else if (D.read nw).2 = 0 then (if ¬ (D.delete nw).1 = 0 then D.delete nw else place2 (D.delete nw).2 nw name text)
  else ((D.read nw).2, D)
def funE : EncK (Go.Fn × Array Value) := ⟨fun p => [.func p.1 #[] p.2], 1, fun _ => rfl, by decide, fun _ u hu => by simp only [List.mem_singleton] at hu; subst hu; rfl⟩
section
variable (b q3 q7 q5 : Nat) (D : Disk) (hD : DiskOk D) (nw text : ByteArray) (ht : text.size ≤ 140737488355328) (W0 : World) (F : List SL)
include hD ht in
theorem place_f1 : Fn Tryz.prog 147 [.pointer (some ⟨q3, 0, none⟩), .pointer (some ⟨q7, 0, none⟩), .pointer (some ⟨q5, 0, none⟩)] W0
      (diskA b D :: row q7 9 [.string nw] :: row q5 9 [.string text] :: row q3 76 [.pointer (some ⟨b, 0, none⟩)] :: F)
      (Ret fun v G' => v = .int .i64 (D.append nw text).1 ∧ G' = diskA b (D.append nw text).2 :: row q7 9 [.string nw] :: row q5 9 [.string text] :: row q3 76 [.pointer (some ⟨b, 0, none⟩)] :: F) := by
  refine Fn.enter Tryz.func147 rfl Tryz.ntmps147 rfl ?_
  repeat' (first|refine bA ?_|refine bkq fun q=>?_|(refine bk2 ?_ ?_<;>(first|exact bkn|(refine bkk ?_;intro h))))
  refine WL.call c148 rfl rfl rfl rfl (disk_Append b D hD nw text (by omega) W0 _) ?_
  rintro _ _ ⟨rfl, rfl⟩
  repeat' (first|refine bA ?_|refine bkq fun q=>?_|(refine bk2 ?_ ?_<;>(first|exact bkn|(refine bkk ?_;intro h))))
  exact QS.retV Tryz.results147 rfl ⟨rfl, rfl⟩
include hD in
theorem place_f2 : Fn Tryz.prog 149 [.pointer (some ⟨q3, 0, none⟩), .pointer (some ⟨q7, 0, none⟩)] W0
      (diskA b D :: row q7 9 [.string nw] :: row q5 9 [.string text] :: row q3 76 [.pointer (some ⟨b, 0, none⟩)] :: F)
      (Ret fun v G' => v = .int .i64 (D.sync nw).1 ∧ G' = diskA b (D.sync nw).2 :: row q7 9 [.string nw] :: row q5 9 [.string text] :: row q3 76 [.pointer (some ⟨b, 0, none⟩)] :: F) := by
  refine Fn.enter Tryz.func149 rfl Tryz.ntmps149 rfl ?_
  repeat' (first|refine bA ?_|refine bkq fun q=>?_|(refine bk2 ?_ ?_<;>(first|exact bkn|(refine bkk ?_;intro h))))
  refine WL.call c150 rfl rfl rfl rfl (disk_Sync b D hD nw W0 _) ?_
  rintro _ _ ⟨rfl, rfl⟩
  repeat' (first|refine bA ?_|refine bkq fun q=>?_|(refine bk2 ?_ ?_<;>(first|exact bkn|(refine bkk ?_;intro h))))
  exact QS.retV Tryz.results149 rfl ⟨rfl, rfl⟩
end
set_option maxHeartbeats 4000000 in
theorem log_place (b : Nat) (D : Disk) (hD : DiskOk D) (name text : ByteArray) (hn : name.size ≤ 1000000) (ht : text.size ≤ 140737488355328) (W0 : World) (F : List SL) :
    Fn Tryz.prog 110 [.pointer (some ⟨b, 0, none⟩), .string name, .string text] W0 (diskA b D :: F) (Ret fun v G' => v = .int .i64 (place1 D (name ++ dotNew) name text).1 ∧ G' = diskA b (place1 D (name ++ dotNew) name text).2 :: F) := by
  refine Fn.enter Tryz.func110 rfl Tryz.ntmps110 rfl ?_
  have h4 : (⟨#[46, 110, 101, 119]⟩ : ByteArray).size = 4 := rfl
  repeat' (first|refine bA ?_|refine bkq fun q=>?_|(refine bk2 ?_ ?_<;>(first|exact bkn|(refine bkk ?_;intro h))))
  generalize hnw : name ++ dotNew = nw at *
  rename_i q3 q5
  refine WL.call c62 rfl rfl rfl rfl ((disk_Read b D nw W0 _).pre (fun w hs => hs.front (i := 3) rfl)) ?_
  rintro _ _ ⟨rfl, rfl⟩
  generalize hE : (D.read nw).2 = er at *
  repeat' (first|refine bA ?_|refine bkq fun q=>?_|(refine bk2 ?_ ?_<;>(first|exact bkn|(refine bkk ?_;intro h))))
  · have e1 : place1 D nw name text = place2 D nw name text := by rw [place1, hE, if_pos (by assumption)]
    refine WL.buildSlice TT rfl rfl rfl rfl rfl rfl rfl rfl (fun qs => ?_)
    repeat' (first|refine bA ?_|refine bkq fun q=>?_|(refine bk2 ?_ ?_<;>(first|exact bkn|(refine bkk ?_;intro h))))
    have okA := append_ok hD nw text (fun _ => trivial)
    have okS := sync_ok okA nw
    refine CS.loop (X := Nat × Disk) (fun x => [(1, .string name), (3, .pointer (some ⟨q3, 0, none⟩)), (7, .pointer (some ⟨q, 0, none⟩)), (36, .slice (some ⟨qs, 0, none⟩) 2 2), (37, .int .i64 2), (38, .int .i64 (x.1 : Int))])
      (fun x => diskA b x.2 :: row q 9 [.string nw] :: row q5 9 [.string text] :: row q3 76 [.pointer (some ⟨b, 0, none⟩)] :: row qs 241 (flat funE [(.func 147, #[.pointer (some ⟨q3, 0, none⟩), .pointer (some ⟨q, 0, none⟩), .pointer (some ⟨q5, 0, none⟩)]), (.func 149, #[.pointer (some ⟨q3, 0, none⟩), .pointer (some ⟨q, 0, none⟩)])]) :: F)
      (fun x => (x.1 = 0 ∧ D = x.2) ∨ (x.1 = 1 ∧ x.2 = ((D).append nw text).2 ∧ ((D).append nw text).1 = 0) ∨ (x.1 = 2 ∧ x.2 = (((D).append nw text).2.sync nw).2 ∧ ((D).append nw text).1 = 0 ∧ (((D).append nw text).2.sync nw).1 = 0))
      (fun x => 2 - x.1) (0, D) ⟨rfl, rfl, rfl, rfl, rfl, rfl, trivial⟩ (fun w hs => ((((hs.front (i := 4) rfl).front (i := 4) rfl).front (i := 4) rfl).front (i := 4) rfl)) (.inl ⟨rfl, rfl⟩) ?_
    rintro ⟨i, D'⟩ (⟨rfl, rfl⟩ | ⟨rfl, rfl, ha⟩ | ⟨rfl, rfl, ha, hb⟩)
    · repeat' (first|refine bA ?_|refine bkq fun q=>?_|(refine bk2 ?_ ?_<;>(first|exact bkn|(refine bkk ?_;intro h))))
      refine WL.idx TT (Rd.row (E := funE) (i := 4) rfl rfl) rfl rfl rfl (Int.natCast_nonneg _) rfl rfl rfl rfl rfl (fun b2 o hA => ?_)
      refine WL.s (op1_at TT hA rfl rfl rfl rfl) rfl ?_
      repeat' (first|refine bA ?_|refine bkq fun q=>?_|(refine bk2 ?_ ?_<;>(first|exact bkn|(refine bkk ?_;intro h))))
      refine WL.call (fst := []) (vs := []) (cap := [.pointer (some ⟨q3, 0, none⟩), .pointer (some ⟨q, 0, none⟩), .pointer (some ⟨q5, 0, none⟩)]) c147 rfl rfl rfl rfl (place_f1 b q3 q q5 (D) hD nw text ht W0 _) ?_
      rintro _ _ ⟨rfl, rfl⟩
      repeat' (first|refine bA ?_|refine bkq fun q=>?_|(refine bk2 ?_ ?_<;>(first|exact bkn|(refine bkk ?_;intro h))))
      · refine QS.turn (G' := diskA b ((D).append nw text).2 :: F) (fun w hs => (((hs.kick (i := 1) rfl).kick (i := 1) rfl).kick (i := 1) rfl).kick (i := 1) rfl) (QS.retV Tryz.results110 rfl ⟨?_, ?_⟩) <;> rw [e1] <;> rw [place2, if_pos (by assumption)] <;> rfl
      · exact QS.again (1, ((D).append nw text).2) (.inr (.inl ⟨rfl, rfl, by assumption⟩)) (by simp) ⟨rfl, rfl, rfl, rfl, rfl, rfl, trivial⟩ (fun w hs => hs)
    · repeat' (first|refine bA ?_|refine bkq fun q=>?_|(refine bk2 ?_ ?_<;>(first|exact bkn|(refine bkk ?_;intro h))))
      refine WL.idx TT (Rd.row (E := funE) (i := 4) rfl rfl) rfl rfl rfl (Int.natCast_nonneg _) rfl rfl rfl rfl rfl (fun b2 o hA => ?_)
      refine WL.s (op1_at TT hA rfl rfl rfl rfl) rfl ?_
      repeat' (first|refine bA ?_|refine bkq fun q=>?_|(refine bk2 ?_ ?_<;>(first|exact bkn|(refine bkk ?_;intro h))))
      refine WL.call (fst := []) (vs := []) (cap := [.pointer (some ⟨q3, 0, none⟩), .pointer (some ⟨q, 0, none⟩)]) c149 rfl rfl rfl rfl (place_f2 b q3 q q5 _ okA nw text W0 _) ?_
      rintro _ _ ⟨rfl, rfl⟩
      repeat' (first|refine bA ?_|refine bkq fun q=>?_|(refine bk2 ?_ ?_<;>(first|exact bkn|(refine bkk ?_;intro h))))
      · refine QS.turn (G' := diskA b (((D).append nw text).2.sync nw).2 :: F) (fun w hs => (((hs.kick (i := 1) rfl).kick (i := 1) rfl).kick (i := 1) rfl).kick (i := 1) rfl) (QS.retV Tryz.results110 rfl ⟨?_, ?_⟩) <;> rw [e1] <;> rw [place2, if_neg (fun e => e ha), if_pos (by assumption)] <;> rfl
      · exact QS.again (2, (((D).append nw text).2.sync nw).2) (.inr (.inr ⟨rfl, rfl, ha, by assumption⟩)) (by simp) ⟨rfl, rfl, rfl, rfl, rfl, rfl, trivial⟩ (fun w hs => hs)
    · repeat' (first|refine bA ?_|refine bkq fun q=>?_|(refine bk2 ?_ ?_<;>(first|exact bkn|(refine bkk ?_;intro h))))
      refine WL.call c151 rfl rfl rfl rfl (disk_Rename b _ okS nw name W0 _) ?_
      rintro _ _ ⟨rfl, rfl⟩
      repeat' (first|refine bA ?_|refine bkq fun q=>?_|(refine bk2 ?_ ?_<;>(first|exact bkn|(refine bkk ?_;intro h))))
      refine QS.turn (G' := diskA b ((((D).append nw text).2.sync nw).2.rename nw name).2 :: F) (fun w hs => (((hs.kick (i := 1) rfl).kick (i := 1) rfl).kick (i := 1) rfl).kick (i := 1) rfl) (QS.retV Tryz.results110 rfl ⟨?_, ?_⟩) <;> rw [e1] <;> rw [place2, if_neg (fun e => e ha), if_neg (fun e => e hb)] <;> rfl
  · refine WL.call c146 rfl rfl rfl rfl (disk_Delete b D hD nw W0 _) ?_
    rintro _ _ ⟨rfl, rfl⟩
    have okD := delete_ok hD nw
    have e0 : place1 D nw name text = if ¬ (D.delete nw).1 = 0 then D.delete nw else place2 (D.delete nw).2 nw name text := by rw [place1, hE, if_neg (by assumption), if_pos (by assumption)]
    repeat' (first|refine bA ?_|refine bkq fun q=>?_|(refine bk2 ?_ ?_<;>(first|exact bkn|(refine bkk ?_;intro h))))
    · refine QS.turn (G' := diskA b (D.delete nw).2 :: F) (fun w hs => (((hs.kick (i := 1) rfl).kick (i := 1) rfl).kick (i := 1) rfl)) (QS.retV Tryz.results110 rfl ⟨?_, ?_⟩) <;> rw [e0, if_pos (by assumption)] <;> rfl
    · rename_i hd0
      have e1 : place1 D nw name text = place2 (D.delete nw).2 nw name text := by rw [e0, if_neg (fun e => e (by assumption))]
      refine WL.buildSlice TT rfl rfl rfl rfl rfl rfl rfl rfl (fun qs => ?_)
      repeat' (first|refine bA ?_|refine bkq fun q=>?_|(refine bk2 ?_ ?_<;>(first|exact bkn|(refine bkk ?_;intro h))))
      have okA := append_ok okD nw text (fun _ => trivial)
      have okS := sync_ok okA nw
      refine CS.loop (X := Nat × Disk) (fun x => [(1, .string name), (3, .pointer (some ⟨q3, 0, none⟩)), (7, .pointer (some ⟨q, 0, none⟩)), (36, .slice (some ⟨qs, 0, none⟩) 2 2), (37, .int .i64 2), (38, .int .i64 (x.1 : Int))])
        (fun x => diskA b x.2 :: row q 9 [.string nw] :: row q5 9 [.string text] :: row q3 76 [.pointer (some ⟨b, 0, none⟩)] :: row qs 241 (flat funE [(.func 147, #[.pointer (some ⟨q3, 0, none⟩), .pointer (some ⟨q, 0, none⟩), .pointer (some ⟨q5, 0, none⟩)]), (.func 149, #[.pointer (some ⟨q3, 0, none⟩), .pointer (some ⟨q, 0, none⟩)])]) :: F)
        (fun x => (x.1 = 0 ∧ (D.delete nw).2 = x.2) ∨ (x.1 = 1 ∧ x.2 = (((D.delete nw).2).append nw text).2 ∧ (((D.delete nw).2).append nw text).1 = 0) ∨ (x.1 = 2 ∧ x.2 = ((((D.delete nw).2).append nw text).2.sync nw).2 ∧ (((D.delete nw).2).append nw text).1 = 0 ∧ ((((D.delete nw).2).append nw text).2.sync nw).1 = 0))
        (fun x => 2 - x.1) (0, (D.delete nw).2) ⟨rfl, rfl, rfl, rfl, rfl, rfl, trivial⟩ (fun w hs => ((((hs.front (i := 4) rfl).front (i := 4) rfl).front (i := 4) rfl).front (i := 4) rfl)) (.inl ⟨rfl, rfl⟩) ?_
      rintro ⟨i, D'⟩ (⟨rfl, rfl⟩ | ⟨rfl, rfl, ha⟩ | ⟨rfl, rfl, ha, hb⟩)
      · repeat' (first|refine bA ?_|refine bkq fun q=>?_|(refine bk2 ?_ ?_<;>(first|exact bkn|(refine bkk ?_;intro h))))
        refine WL.idx TT (Rd.row (E := funE) (i := 4) rfl rfl) rfl rfl rfl (Int.natCast_nonneg _) rfl rfl rfl rfl rfl (fun b2 o hA => ?_)
        refine WL.s (op1_at TT hA rfl rfl rfl rfl) rfl ?_
        repeat' (first|refine bA ?_|refine bkq fun q=>?_|(refine bk2 ?_ ?_<;>(first|exact bkn|(refine bkk ?_;intro h))))
        refine WL.call (fst := []) (vs := []) (cap := [.pointer (some ⟨q3, 0, none⟩), .pointer (some ⟨q, 0, none⟩), .pointer (some ⟨q5, 0, none⟩)]) c147 rfl rfl rfl rfl (place_f1 b q3 q q5 ((D.delete nw).2) okD nw text ht W0 _) ?_
        rintro _ _ ⟨rfl, rfl⟩
        repeat' (first|refine bA ?_|refine bkq fun q=>?_|(refine bk2 ?_ ?_<;>(first|exact bkn|(refine bkk ?_;intro h))))
        · refine QS.turn (G' := diskA b (((D.delete nw).2).append nw text).2 :: F) (fun w hs => (((hs.kick (i := 1) rfl).kick (i := 1) rfl).kick (i := 1) rfl).kick (i := 1) rfl) (QS.retV Tryz.results110 rfl ⟨?_, ?_⟩) <;> rw [e1] <;> rw [place2, if_pos (by assumption)] <;> rfl
        · exact QS.again (1, (((D.delete nw).2).append nw text).2) (.inr (.inl ⟨rfl, rfl, by assumption⟩)) (by simp) ⟨rfl, rfl, rfl, rfl, rfl, rfl, trivial⟩ (fun w hs => hs)
      · repeat' (first|refine bA ?_|refine bkq fun q=>?_|(refine bk2 ?_ ?_<;>(first|exact bkn|(refine bkk ?_;intro h))))
        refine WL.idx TT (Rd.row (E := funE) (i := 4) rfl rfl) rfl rfl rfl (Int.natCast_nonneg _) rfl rfl rfl rfl rfl (fun b2 o hA => ?_)
        refine WL.s (op1_at TT hA rfl rfl rfl rfl) rfl ?_
        repeat' (first|refine bA ?_|refine bkq fun q=>?_|(refine bk2 ?_ ?_<;>(first|exact bkn|(refine bkk ?_;intro h))))
        refine WL.call (fst := []) (vs := []) (cap := [.pointer (some ⟨q3, 0, none⟩), .pointer (some ⟨q, 0, none⟩)]) c149 rfl rfl rfl rfl (place_f2 b q3 q q5 _ okA nw text W0 _) ?_
        rintro _ _ ⟨rfl, rfl⟩
        repeat' (first|refine bA ?_|refine bkq fun q=>?_|(refine bk2 ?_ ?_<;>(first|exact bkn|(refine bkk ?_;intro h))))
        · refine QS.turn (G' := diskA b ((((D.delete nw).2).append nw text).2.sync nw).2 :: F) (fun w hs => (((hs.kick (i := 1) rfl).kick (i := 1) rfl).kick (i := 1) rfl).kick (i := 1) rfl) (QS.retV Tryz.results110 rfl ⟨?_, ?_⟩) <;> rw [e1] <;> rw [place2, if_neg (fun e => e ha), if_pos (by assumption)] <;> rfl
        · exact QS.again (2, ((((D.delete nw).2).append nw text).2.sync nw).2) (.inr (.inr ⟨rfl, rfl, ha, by assumption⟩)) (by simp) ⟨rfl, rfl, rfl, rfl, rfl, rfl, trivial⟩ (fun w hs => hs)
      · repeat' (first|refine bA ?_|refine bkq fun q=>?_|(refine bk2 ?_ ?_<;>(first|exact bkn|(refine bkk ?_;intro h))))
        refine WL.call c151 rfl rfl rfl rfl (disk_Rename b _ okS nw name W0 _) ?_
        rintro _ _ ⟨rfl, rfl⟩
        repeat' (first|refine bA ?_|refine bkq fun q=>?_|(refine bk2 ?_ ?_<;>(first|exact bkn|(refine bkk ?_;intro h))))
        refine QS.turn (G' := diskA b (((((D.delete nw).2).append nw text).2.sync nw).2.rename nw name).2 :: F) (fun w hs => (((hs.kick (i := 1) rfl).kick (i := 1) rfl).kick (i := 1) rfl).kick (i := 1) rfl) (QS.retV Tryz.results110 rfl ⟨?_, ?_⟩) <;> rw [e1] <;> rw [place2, if_neg (fun e => e ha), if_neg (fun e => e hb)] <;> rfl
  · refine QS.turn (G' := diskA b D :: F) (fun w hs => (((hs.kick (i := 1) rfl).kick (i := 1) rfl).kick (i := 1) rfl)) (QS.retV Tryz.results110 rfl ⟨?_, ?_⟩) <;> rw [place1, hE, if_neg (by assumption), if_neg (by assumption)] <;> rfl
theorem logB_len {e : Int} {xs : List Ent} (h : logOk e xs = true) : (logB e xs).length ≤ 1300000 := by
  obtain ⟨⟨h1, h2, h3⟩, h4⟩ := logOk_iff.1 h
  have := entB_len2 h4 h3 xs.length h3
  rw [List.take_length] at this
  have hp := partB_len e (by unfold I64; constructor <;> omega) []
  rw [logB, List.length_append]
  omega
def storeM (D : Disk) (e : Int) (xs : List Ent) (name : ByteArray) : Int × Disk :=
  if logOk e xs = false ∨ name = noStr ∨ 16 < (name.size : Int) then (1, D) else place1 D (name ++ dotNew) name (mk (logB e xs))
def addM (D : Disk) (n : Int) (s name : ByteArray) : Int × Disk :=
  if 600 < (s.size : Int) ∨ n < 1 ∨ 300 < n ∨ name = noStr ∨ 16 < (name.size : Int) then (1, D)
  else if ¬ (D.read name).2 = 0 then ((D.read name).2, D)
  else if ¬ (D.append name (mk (partB n (bs s)))).1 = 0 then D.append name (mk (partB n (bs s)))
  else (D.append name (mk (partB n (bs s)))).2.sync name
set_option maxHeartbeats 2000000 in
theorem log_Store (b : Nat) (D : Disk) (hD : DiskOk D) (name : ByteArray) (e : Int) (A : Option Addr) (k c : Nat) (xs : List Ent) (hk : k = xs.length) (W0 : World) (F : List SL) (hR : Rd W0 (diskA b D :: F) entE A xs) :
    Fn Tryz.prog 66 [.pointer (some ⟨b, 0, none⟩), .string name, logV e A k c] W0 (diskA b D :: F) (Ret fun v G' => v = .int .i64 (storeM D e xs name).1 ∧ G' = diskA b (storeM D e xs name).2 :: F) := by
  refine Fn.enter Tryz.func66 rfl Tryz.ntmps66 rfl ?_
  repeat' (first|refine bA ?_|refine bkq fun q=>?_|(refine bk2 ?_ ?_<;>(first|exact bkn|(refine bkk ?_;intro h))))
  refine WL.call c100 rfl rfl rfl rfl (log_Bytes e A k c xs hk W0 _ hR.cons) ?_
  rintro _ _ ⟨rfl, rfl⟩
  cases hok : logOk e xs with
  | false =>
    simp only [Bool.false_eq_true, if_false]
    repeat' (first|refine bA ?_|refine bkq fun q=>?_|(refine bk2 ?_ ?_<;>(first|exact bkn|(refine bkk ?_;intro h))))
    refine QS.turn (G' := diskA b D :: F) (fun w hs => hs.drop) (QS.retV Tryz.results66 rfl ⟨?_, ?_⟩) <;> rw [storeM, if_pos (.inl hok)] <;> rfl
  | true =>
    have hl := logB_len hok
    have hms := mk_size (logB e xs)
    simp only [if_true]
    repeat' (first|refine bA ?_|refine bkq fun q=>?_|(refine bk2 ?_ ?_<;>(first|exact bkn|(refine bkk ?_;intro h))))
    · refine QS.turn (G' := diskA b D :: F) (fun w hs => hs.drop) (QS.retV Tryz.results66 rfl ⟨?_, ?_⟩) <;> rw [storeM, if_pos (.inr (.inl (by assumption)))] <;> rfl
    · refine QS.turn (G' := diskA b D :: F) (fun w hs => hs.drop) (QS.retV Tryz.results66 rfl ⟨?_, ?_⟩) <;> rw [storeM, if_pos (.inr (.inr (by assumption)))] <;> rfl
    · have e1 : storeM D e xs name = place1 D (name ++ dotNew) name (mk (logB e xs)) := by rw [storeM, if_neg (by simp only [hok, Bool.true_eq_false, false_or, not_or]; exact ⟨by assumption, by assumption⟩)]
      refine WL.call c110 rfl rfl rfl rfl ((log_place b D hD name (mk (logB e xs)) (by omega) (by omega) W0 _).pre (fun w hs => hs.front (i := 1) rfl)) ?_
      rintro _ _ ⟨rfl, rfl⟩
      repeat' (first|refine bA ?_|refine bkq fun q=>?_|(refine bk2 ?_ ?_<;>(first|exact bkn|(refine bkk ?_;intro h))))
      refine QS.turn (G' := diskA b _ :: F) (fun w hs => hs.kick (i := 1) rfl) (QS.retV Tryz.results66 rfl ⟨?_, ?_⟩) <;> rw [e1] <;> rfl
set_option maxHeartbeats 2000000 in
theorem log_Add (b : Nat) (D : Disk) (hD : DiskOk D) (name : ByteArray) (n : Int) (s : ByteArray) (W0 : World) (F : List SL) :
    Fn Tryz.prog 136 [.pointer (some ⟨b, 0, none⟩), .string name, .agg #[.int .i64 n, .string s]] W0 (diskA b D :: F) (Ret fun v G' => v = .int .i64 (addM D n s name).1 ∧ G' = diskA b (addM D n s name).2 :: F) := by
  refine Fn.enter Tryz.func136 rfl Tryz.ntmps136 rfl ?_
  repeat' (first|refine bA ?_|refine bkq fun q=>?_|(refine bk2 ?_ ?_<;>(first|exact bkn|(refine bkk ?_;intro h))))
  all_goals try (refine QS.turn (G' := diskA b D :: F) (fun w hs => hs.drop) (QS.retV Tryz.results136 rfl ⟨?_, ?_⟩) <;> rw [addM, if_pos (by first | exact .inl (by assumption) | exact .inr (.inl (by assumption)) | exact .inr (.inr (.inl (by assumption))) | exact .inr (.inr (.inr (.inl (by assumption)))) | exact .inr (.inr (.inr (.inr (by assumption)))))] <;> rfl)
  have hneg : ¬ (600 < (s.size : Int) ∨ n < 1 ∨ 300 < n ∨ name = noStr ∨ 16 < (name.size : Int)) := by simp only [not_or]; exact ⟨by assumption, by assumption, by assumption, by assumption, by assumption⟩
  refine WL.call c62 rfl rfl rfl rfl ((disk_Read b D name W0 _).pre (fun w hs => hs.front (i := 1) rfl)) ?_
  rintro _ _ ⟨rfl, rfl⟩
  have hI : I64 n := by unfold I64; constructor <;> omega
  have hpl := partB_len n hI (bs s)
  have hms := mk_size (partB n (bs s))
  repeat' (first|refine bA ?_|refine bkq fun q=>?_|(refine bk2 ?_ ?_<;>(first|exact bkn|(refine bkk ?_;intro h))))
  · refine QS.turn (G' := diskA b D :: F) (fun w hs => hs.kick (i := 1) rfl) (QS.retV Tryz.results136 rfl ⟨?_, ?_⟩) <;> rw [addM, if_neg hneg, if_pos (by assumption)] <;> rfl
  · refine WL.call c140 rfl rfl rfl rfl (log_part n hI s (by omega) W0 _) ?_
    rintro _ _ ⟨rfl, rfl⟩
    refine WL.call c148 rfl rfl rfl rfl (disk_Append b D hD name (mk (partB n (bs s))) (by omega) W0 _) ?_
    rintro _ _ ⟨rfl, rfl⟩
    have okA := append_ok hD name (mk (partB n (bs s))) (fun _ => trivial)
    have e0 : addM D n s name = if ¬ (D.append name (mk (partB n (bs s)))).1 = 0 then D.append name (mk (partB n (bs s))) else (D.append name (mk (partB n (bs s)))).2.sync name := by rw [addM, if_neg hneg, if_neg (fun e => e (by assumption))]
    repeat' (first|refine bA ?_|refine bkq fun q=>?_|(refine bk2 ?_ ?_<;>(first|exact bkn|(refine bkk ?_;intro h))))
    · refine QS.turn (G' := diskA b _ :: F) (fun w hs => hs.kick (i := 1) rfl) (QS.retV Tryz.results136 rfl ⟨?_, ?_⟩) <;> rw [e0, if_pos (by assumption)] <;> rfl
    · refine WL.call c150 rfl rfl rfl rfl (disk_Sync b _ okA name W0 _) ?_
      rintro _ _ ⟨rfl, rfl⟩
      repeat' (first|refine bA ?_|refine bkq fun q=>?_|(refine bk2 ?_ ?_<;>(first|exact bkn|(refine bkk ?_;intro h))))
      refine QS.turn (G' := diskA b _ :: F) (fun w hs => hs.kick (i := 1) rfl) (QS.retV Tryz.results136 rfl ⟨?_, ?_⟩) <;> rw [e0, if_neg (fun e => e (by assumption))] <;> rfl
end Go.Proofs.YtfolmcpfdcgliaaGreat.B

namespace Go.Proofs.YtfolmcpfdcgliaaGreat.B
open Go
def disk1 (room : Int) (name t : ByteArray) : Disk := ⟨[(name, ⟨t, t.size⟩)], room, t.size, 0, false⟩
theorem blow_still {D : Disk} (h : D.fuse = 0) : D.blow = (D.down, D) := by unfold Disk.blow; rw [if_neg (by omega)]
theorem append_first {room : Int} {name t : ByteArray} {files : List (ByteArray × File)} (h1 : name ≠ noStr) (h2 : name.size ≤ 30) (ht : t.size ≤ 400000) (hr : (t.size : Int) ≤ room) :
    (⟨[], room, 0, 0, false⟩ : Disk).append name t = (0, ⟨[(name, ⟨noStr ++ t, 0⟩)], room, 0 + t.size, 0, false⟩) := by
  unfold Disk.append
  rw [if_neg (by simp), if_neg (by simp only [not_or]; exact ⟨h1, by omega⟩), if_neg (by simp [Disk.at, Disk.has, aget, noStr_size]; omega), if_neg (by simp only; omega), blow_still rfl, if_neg (by simp)]
  simp [Disk.at, aget, aput]
theorem noStr_cat (t : ByteArray) : noStr ++ t = t := by apply ByteArray.ext; simp [noStr]
theorem read_none {D : Disk} {name : ByteArray} (h1 : D.down = false) (h2 : aget D.files name = none) : D.read name = (noStr, 5) := by
  unfold Disk.read; rw [if_neg (by rw [h1]; decide), if_pos (by simp [Disk.has, h2])]
theorem read_one {room used : Int} {name t : ByteArray} {k : Int} : (⟨[(name, ⟨t, k⟩)], room, used, 0, false⟩ : Disk).read name = (t, 0) := by
  unfold Disk.read; rw [if_neg (by simp), if_neg (by simp [Disk.has, aget])]; simp [Disk.at, aget]
theorem new_is {r : Int} (h : 0 ≤ r) : Disk.new r = ⟨[], r, 0, 0, false⟩ := by unfold Disk.new; rw [Int.max_eq_left h]
theorem cat_dot_ne {name : ByteArray} : name ++ dotNew ≠ name ∧ name ++ dotNew ≠ noStr ∧ (name ++ dotNew).size = name.size + 4 := by
  have h : (name ++ dotNew).size = name.size + 4 := by rw [ByteArray.size_append]; rfl
  refine ⟨fun e => ?_, fun e => ?_, h⟩
  · rw [e] at h; omega
  · rw [e, noStr_size] at h; omega
theorem place2_ok {D : Disk} (h : DiskOk D) (nw name text : ByteArray) : DiskOk (place2 D nw name text).2 := by
  unfold place2
  split
  · exact append_ok h nw text (fun _ => trivial)
  · split
    · exact sync_ok (append_ok h nw text (fun _ => trivial)) nw
    · exact rename_ok (sync_ok (append_ok h nw text (fun _ => trivial)) nw) nw name
theorem place1_ok {D : Disk} (h : DiskOk D) (nw name text : ByteArray) : DiskOk (place1 D nw name text).2 := by
  unfold place1
  split
  · exact place2_ok h _ _ _
  · split
    · split
      · exact delete_ok h nw
      · exact place2_ok (delete_ok h nw) _ _ _
    · exact h
theorem storeM_ok {D : Disk} (h : DiskOk D) (e : Int) (xs : List Ent) (name : ByteArray) : DiskOk (storeM D e xs name).2 := by
  unfold storeM
  split
  · exact h
  · exact place1_ok h _ _ _
theorem addM_ok {D : Disk} (h : DiskOk D) (n : Int) (s name : ByteArray) : DiskOk (addM D n s name).2 := by
  unfold addM
  split
  · exact h
  · split
    · exact h
    · split
      · exact append_ok h _ _ (fun _ => trivial)
      · exact sync_ok (append_ok h _ _ (fun _ => trivial)) _
end Go.Proofs.YtfolmcpfdcgliaaGreat.B

namespace Go.Proofs.YtfolmcpfdcgliaaGreat.B
open Go Go.Proofs
def joinT (l : List ByteArray) : List UInt8 := l.flatMap fun s => textB (bs s)
def joinB (l : List ByteArray) : List UInt8 := numB l.length ++ joinT l
def joinOk (l : List ByteArray) : Bool := decide (l.length ≤ 1000) && l.all fun s => decide (s.size ≤ 4000)
noncomputable def texts : Nat → List UInt8 → Option (List ByteArray × List UInt8)
  | 0, l => some ([], l)
  | n + 1, l => match takeText l with
    | none => none
    | some (x, r) => (texts n r).map fun p => (mk x :: p.1, p.2)
def splitE : Option (List ByteArray × List UInt8) → Option (List ByteArray)
  | some (xs, r) => if r = [] then some xs else none
  | none => none
noncomputable def splitP (l : List UInt8) : Option (List ByteArray) :=
  match takeNum l with
  | none => none
  | some (n, r) => if n < 0 ∨ 1000 < n then none else splitE (texts n.toNat r)
theorem joinT_cons (s : ByteArray) (l : List ByteArray) : joinT (s :: l) = textB (bs s) ++ joinT l := rfl
theorem joinT_snoc (s : ByteArray) (l : List ByteArray) : joinT (l ++ [s]) = joinT l ++ textB (bs s) := by simp [joinT]
theorem joinOk_iff {l : List ByteArray} : joinOk l = true ↔ l.length ≤ 1000 ∧ ∀ s ∈ l, s.size ≤ 4000 := by
  simp [joinOk, List.all_eq_true]
theorem texts_join : ∀ (l : List ByteArray) (r : List UInt8), (∀ s ∈ l, s.size ≤ 4000) → texts l.length (joinT l ++ r) = some (l, r)
  | [], r, _ => rfl
  | s :: l, r, h => by
    have h1 := h s (List.mem_cons_self ..)
    rw [joinT_cons, List.append_assoc, List.length_cons, texts, takeText_text (by rw [bs_len]; exact h1)]
    simp only
    rw [texts_join l r (fun x hx => h x (List.mem_cons_of_mem _ hx)), mk_bs]; rfl
theorem texts_some : ∀ {n : Nat} {l r : List UInt8} {xs : List ByteArray}, texts n l = some (xs, r) → l = joinT xs ++ r ∧ xs.length = n ∧ ∀ s ∈ xs, s.size ≤ 4000
  | 0, l, r, xs, h => by
    simp only [texts, Option.some.injEq, Prod.mk.injEq] at h
    obtain ⟨rfl, rfl⟩ := h
    exact ⟨rfl, rfl, fun s hs => by cases hs⟩
  | n + 1, l, r, xs, h => by
    rw [texts] at h
    cases ht : takeText l with
    | none => rw [ht] at h; cases h
    | some p =>
      obtain ⟨x, r1⟩ := p
      rw [ht] at h
      simp only at h
      obtain ⟨⟨ys, r2⟩, h1, h2⟩ := Option.map_eq_some_iff.1 h
      simp only [Prod.mk.injEq] at h2
      obtain ⟨rfl, rfl⟩ := h2
      obtain ⟨i1, i2, i3⟩ := texts_some h1
      obtain ⟨j1, j2⟩ := takeText_some ht
      refine ⟨by rw [j1, i1, joinT_cons, bs_mk, List.append_assoc], by rw [List.length_cons, i2], fun s hs => ?_⟩
      rcases List.mem_cons.1 hs with rfl | hs
      · rw [mk_size]; exact j2
      · exact i3 s hs
theorem splitP_join {l : List ByteArray} (h : joinOk l = true) : splitP (joinB l) = some l := by
  obtain ⟨h1, h2⟩ := joinOk_iff.1 h
  rw [splitP, joinB, takeNum_num (by unfold I64; omega)]
  simp only
  have h3 := texts_join l [] h2
  rw [List.append_nil] at h3
  rw [if_neg (by omega), Int.toNat_natCast, h3]
  simp [splitE]
theorem splitP_some {t : List UInt8} {l : List ByteArray} (h : splitP t = some l) : t = joinB l ∧ joinOk l = true := by
  rw [splitP] at h
  cases ht : takeNum t with
  | none => rw [ht] at h; cases h
  | some p =>
    obtain ⟨n, r⟩ := p
    rw [ht] at h
    simp only at h
    split at h
    · cases h
    · rename_i hn
      cases hx : texts n.toNat r with
      | none => rw [hx] at h; simp only [splitE] at h; cases h
      | some q =>
        obtain ⟨xs, r'⟩ := q
        rw [hx] at h
        simp only [splitE] at h
        split at h
        · rename_i hr
          simp only [Option.some.injEq] at h
          subst h hr
          obtain ⟨i1, i2, i3⟩ := texts_some hx
          obtain ⟨j1, j2⟩ := takeNum_some ht
          refine ⟨?_, joinOk_iff.2 ⟨by omega, i3⟩⟩
          rw [j2, i1, joinB, List.append_nil, i2]
          congr 1
          congr 1
          omega
        · cases h
theorem texts_next {n : Nat} {l r : List UInt8} {x : List UInt8} (h : takeText l = some (x, r)) : texts (n + 1) l = (texts n r).map fun p => (mk x :: p.1, p.2) := by rw [texts, h]
theorem texts_stop {n : Nat} {l : List UInt8} (h : takeText l = none) : texts (n + 1) l = none := by rw [texts, h]
theorem textB_len {s : ByteArray} (h : s.size ≤ 4000) : (textB (bs s)).length ≤ 4010 := by
  have := num_len (n := (bs s).length) (by unfold I64; rw [bs_len]; omega)
  rw [textB, List.length_append, bs_len] at *
  omega
theorem joinT_len : ∀ {l : List ByteArray}, (∀ s ∈ l, s.size ≤ 4000) → (joinT l).length ≤ l.length * 4010
  | [], _ => by simp [joinT]
  | s :: l, h => by
    have h1 := joinT_len (l := l) (fun x hx => h x (List.mem_cons_of_mem _ hx))
    have h2 := textB_len (h s (List.mem_cons_self ..))
    rw [joinT_cons, List.length_append, List.length_cons]
    omega
theorem joinB_len {l : List ByteArray} (h : joinOk l = true) : (joinB l).length ≤ 4010010 := by
  obtain ⟨h1, h2⟩ := joinOk_iff.1 h
  have := joinT_len h2
  have := num_len (n := l.length) (by unfold I64; omega)
  rw [joinB, List.length_append]
  omega
theorem texts_go {n m : Nat} {l l2 : List UInt8} {xs : List ByteArray} (h : texts n l = (texts (m + 1) l2).map fun p => (xs ++ p.1, p.2)) {x r : List UInt8} (ht : takeText l2 = some (x, r)) : texts n l = (texts m r).map fun p => (xs ++ [mk x] ++ p.1, p.2) := by
  rw [h, texts_next ht, Option.map_map]
  congr 1
  funext p
  simp
end Go.Proofs.YtfolmcpfdcgliaaGreat.B
