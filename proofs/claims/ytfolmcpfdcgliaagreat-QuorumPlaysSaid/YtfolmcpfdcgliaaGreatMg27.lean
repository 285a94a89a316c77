import Derived.Test.YtfolmcpfdcgliaaGreatMg24
import Derived.Test.YtfolmcpfdcgliaaGreatMg20
import Derived.Test.YtfolmcpfdcgliaaGreatMg21
import Derived.Test.YtfolmcpfdcgliaaGreatMg26
import Derived.Test.YtfolmcpfdcgliaaGreatMg2
set_option linter.unusedVariables false
set_option linter.unusedSimpArgs false
set_option maxRecDepth 8000
namespace Go.Proofs.YtfolmcpfdcgliaaGreat.B
open Go Go.Proofs
attribute [local irreducible] WL CS QS WQ WH WS Fn Op1 row Sat
attribute [local irreducible] slc diskA jA
theorem read_errs (D : Disk) (nm : ByteArray) : (D.read nm).2 = 12 ∨ (D.read nm).2 = 0 ∨ (D.read nm).2 = 5 := by
  unfold Disk.read; (repeat' split) <;> simp
theorem read_small {D : Disk} (hD : DiskOk D) (nm : ByteArray) : (D.read nm).1.size ≤ 400000 := by
  have h := (hD.at_ok nm).most
  unfold Disk.read
  split
  · simp [noStr_size]
  · split
    · simp [noStr_size]
    · simpa using h
def openO (bd : Nat) (r : Int × Jn × Disk) (F : List SL) (v : Value) (G' : List SL) : Prop :=
  if r.1 = 0 then ∃ b, v = .tuple #[.pointer (some ⟨b, 0, none⟩), .int .i64 0] ∧ G' = jA b bd r.2.1 :: diskA bd r.2.2 :: F
  else v = .tuple #[.pointer none, .int .i64 r.1] ∧ G' = diskA bd r.2.2 :: F
theorem openO_ok {bd b : Nat} {J : Jn} {D : Disk} {F : List SL} : openO bd (0, J, D) F (.tuple #[.pointer (some ⟨b, 0, none⟩), .int .i64 0]) (jA b bd J :: diskA bd D :: F) := by
  unfold openO; rw [if_pos rfl]; exact ⟨b, rfl, rfl⟩
theorem openO_bad {bd : Nat} {er : Int} {J : Jn} {D : Disk} {F : List SL} (h : er ≠ 0) : openO bd (er, J, D) F (.tuple #[.pointer none, .int .i64 er]) (diskA bd D :: F) := by
  unfold openO; rw [if_neg h]; exact ⟨rfl, rfl⟩
set_option maxHeartbeats 8000000 in
theorem j_Open (bd : Nat) (D : Disk) (hD : DiskOk D) (W0 : World) (F : List SL) :
    Fn Tryz.prog 26 [.pointer (some ⟨bd, 0, none⟩)] W0 (diskA bd D :: F)
      (Ret (openO bd (openJ D) F)) := by
  refine Fn.enter Tryz.func26 rfl Tryz.ntmps26 rfl ?_
  refine CS.seq ?_
  repeat' (first|refine bk ?_|refine bkc ?_|refine bkd ?_|refine bkq (fun q => ?_)|(refine bk2 ?_ ?_<;>(first|exact bkn|(refine bkk ?_;intro h))))
  refine CS.seq ?_
  repeat' (first|refine bk ?_|refine bkc ?_|refine bkd ?_|refine bkq (fun q => ?_)|(refine bk2 ?_ ?_<;>(first|exact bkn|(refine bkk ?_;intro h))))
  revert q; intro b
  refine CS.seq ?_
  have hrm := (hD.at_ok jProm).most
  refine CS.cut (X := Int) (fun _ => [(0, .pointer (some ⟨bd, 0, none⟩)), (4, .pointer (some ⟨b, 0, none⟩))])
    (fun p => row b 103 [.pointer (some ⟨bd, 0, none⟩), .int .i64 p, .int .i64 0, .slice none 0 0, .bool false] :: diskA bd D :: F) (fun p => openJ D = open2 p D) ?_ ?_
  · repeat' (first|refine bA ?_|refine bkq fun q=>?_|(refine bk2 ?_ ?_<;>(first|exact bkn|(refine bkk ?_;intro h))))
    refine WL.call c62 rfl rfl rfl rfl ((disk_Read bd D jProm W0 _).pre (fun w hs => hs.front (i := 1) rfl)) ?_
    rintro _ _ ⟨rfl, rfl⟩
    have hts := read_small hD jProm
    have hJ0 : openJ D = if (D.read jProm).2 = 5 then open2 0 D
        else if (D.read jProm).2 = 0 then (match promP (D.read jProm).1 with | some n => open2 n D | none => (2, ⟨0, 0, [], false⟩, D))
        else ((D.read jProm).2, ⟨0, 0, [], false⟩, D) := rfl
    have hErr := read_errs D jProm
    generalize D.read jProm = te at hts hJ0 hErr ⊢
    obtain ⟨t, er⟩ := te
    simp only at hts hJ0 hErr ⊢
    rcases hErr with rfl | rfl | rfl
    · rw [if_neg (by decide), if_neg (by decide)] at hJ0
      repeat' (first|refine bA ?_|refine bkq fun q=>?_|(refine bk2 ?_ ?_<;>(first|exact bkn|(refine bkk ?_;intro h))))
      refine QS.turn (G' := diskA bd D :: F) (fun w hs => hs.kick (i := 1) rfl) (QS.retV Tryz.results26 rfl ?_)
      rw [hJ0]
      exact openO_bad (by decide)
    · rw [if_neg (by decide), if_pos rfl] at hJ0
      have hP : promP t = match openB (bs t) with
        | (e, x, r) => if e = 0 ∧ r = [] then (match numP (mk x) with | some n => if 1 ≤ n ∧ n ≤ 9007199254740991 then some n else none | none => none) else none := rfl
      repeat' (first|refine bA ?_|refine bkq fun q=>?_|(refine bk2 ?_ ?_<;>(first|exact bkn|(refine bkk ?_;intro h))))
      refine WL.call c63 rfl rfl rfl rfl (sum_Open t (by omega) W0 _) ?_
      rintro _ G2 ⟨rfl, hG2⟩
      rw [hG2]; clear hG2 G2
      have hol : (openB (bs t)).2.1.length ≤ 4000 := by
        cases hO : openB (bs t) with
        | mk e p =>
          obtain ⟨x, r⟩ := p
          rw [openB] at hO
          cases ht : takeText (bs t) with
          | none => rw [ht] at hO; simp only [openT, Prod.mk.injEq] at hO; simp [← hO.2.1]
          | some q =>
            obtain ⟨y, r2⟩ := q
            have := (takeText_some ht).2
            rw [ht] at hO
            simp only [openT] at hO
            split at hO
            · simp only [Prod.mk.injEq] at hO; simp [← hO.2.1]
            · split at hO
              · simp only [Prod.mk.injEq] at hO; rw [← hO.2.1]; exact this
              · simp only [Prod.mk.injEq] at hO; simp [← hO.2.1]
      generalize openB (bs t) = oB at hP hol ⊢
      obtain ⟨e, x, r⟩ := oB
      simp only [openV] at hP hol ⊢
      have hmx := mk_size x
      repeat' (first|refine bA ?_|refine bkq fun q=>?_|(refine bk2 ?_ ?_<;>(first|exact bkn|(refine bkk ?_;intro h))))
      refine WL.call c64 rfl rfl rfl rfl (wire_TakeNum (mk x) (by omega) W0 _) ?_
      rintro _ G2 ⟨rfl, hG2⟩
      rw [hG2, bs_mk]; clear hG2 G2
      have hN : numP (mk x) = match takeNum x with | some (n, r) => if r = [] then some n else none | none => none := by rw [numP, bs_mk]; cases takeNum x <;> rfl
      cases htn : takeNum x with
      | none =>
        rw [htn] at hN
        simp only at hN ⊢
        rw [hN] at hP
        have hP2 : promP t = none := by rw [hP]; split <;> rfl
        rw [hP2] at hJ0
        repeat' (first|refine bA ?_|refine bkq fun q=>?_|(refine bk2 ?_ ?_<;>(first|exact bkn|(refine bkk ?_;intro h))))
        all_goals
          refine QS.turn (G' := diskA bd D :: F) (fun w hs => hs.kick (i := 1) rfl) (QS.retV Tryz.results26 rfl ?_)
          rw [hJ0]
          exact openO_bad (by decide)
      | some q =>
        obtain ⟨n, y⟩ := q
        rw [htn] at hN
        simp only at hN ⊢
        rw [hN] at hP
        by_cases hgood : e = 0 ∧ r = [] ∧ y = [] ∧ 1 ≤ n ∧ n ≤ 9007199254740991
        · obtain ⟨rfl, rfl, rfl, hn1, hn2⟩ := hgood
          have hP2 : promP t = some n := by rw [hP, if_pos ⟨rfl, rfl⟩, if_pos rfl]; simp only; rw [if_pos ⟨hn1, hn2⟩]
          rw [hP2] at hJ0
          repeat' (first|refine bA ?_|refine bkq fun q=>?_|(refine bk2 ?_ ?_<;>(first|exact bkn|(refine bkk ?_;intro h))))
          exact QS.met n hJ0 ⟨rfl, rfl, trivial⟩ (fun w hs => hs.front (i := 1) rfl)
        · have hP2 : promP t = none := by
            rw [hP]
            by_cases h1 : e = 0 ∧ r = []
            · rw [if_pos h1]
              by_cases h2 : y = []
              · rw [if_pos h2]
                simp only
                rw [if_neg (fun h3 => hgood ⟨h1.1, h1.2, h2, h3⟩)]
              · rw [if_neg h2]
            · rw [if_neg h1]
          rw [hP2] at hJ0
          repeat' (first|refine bA ?_|refine bkq fun q=>?_|(refine bk2 ?_ ?_<;>(first|exact bkn|(refine bkk ?_;intro h))))
          all_goals first
            | (exfalso; exact hgood ⟨by omega, congrArg bs ‹mk r = _›, congrArg bs ‹mk y = _›, by omega, by omega⟩)
            | (refine QS.turn (G' := diskA bd D :: F) (fun w hs => hs.kick (i := 1) rfl) (QS.retV Tryz.results26 rfl ?_)
               rw [hJ0]
               exact openO_bad (by decide))
    · rw [if_pos rfl] at hJ0
      repeat' (first|refine bA ?_|refine bkq fun q=>?_|(refine bk2 ?_ ?_<;>(first|exact bkn|(refine bkk ?_;intro h))))
      exact QS.met 0 hJ0 ⟨rfl, rfl, trivial⟩ (fun w hs => hs.front (i := 1) rfl)
  · intro p hp
    repeat' (first|refine bA ?_|refine bkq fun q=>?_|(refine bk2 ?_ ?_<;>(first|exact bkn|(refine bkk ?_;intro h))))
    refine WL.call c65 rfl rfl rfl rfl ((log_Load bd D jLog (by have := read_small hD jLog; omega) W0 _).pre (fun w hs => hs.front (i := 1) rfl)) ?_
    have hO : open2 p D = match loadM (bs (D.read jLog).1) (D.read jLog).2 with
      | (e, xs, w, er) => if er = 5 then (0, ⟨p, 0, [], false⟩, D) else if er ≠ 0 then (er, ⟨p, 0, [], false⟩, D)
        else if w = true then (0, ⟨p, e, xs, false⟩, D) else ((storeM D e xs jLog).1, ⟨p, e, xs, false⟩, (storeM D e xs jLog).2) := rfl
    generalize loadM (bs (D.read jLog).1) (D.read jLog).2 = M at hO ⊢
    obtain ⟨e, xs, wh, er⟩ := M
    simp only at hO
    rintro _ _ ⟨A, c, rfl, rfl⟩
    simp only
    by_cases h5 : er = 5
    · subst h5
      rw [if_pos rfl] at hO
      rw [hO] at hp
      repeat' (first|refine bA ?_|refine bkq fun q=>?_|(refine bk2 ?_ ?_<;>(first|exact bkn|(refine bkk ?_;intro h))))
      refine QS.turn (G' := jA b bd ⟨p, 0, [], false⟩ :: diskA bd D :: F) (fun w hs => jA_shut (A := none) (c := 0) w (((((hs.drop.drop).front (i := 1) rfl).slcNil entE 49)).perm (List.Perm.swap ..))) (QS.retV Tryz.results26 rfl ?_)
      rw [hp]
      exact openO_ok
    rw [if_neg h5] at hO
    by_cases h0 : er = 0
    rotate_left 1
    · rw [if_pos h0] at hO
      rw [hO] at hp
      repeat' (first|refine bA ?_|refine bkq fun q=>?_|(refine bk2 ?_ ?_<;>(first|exact bkn|(refine bkk ?_;intro h))))
      refine QS.turn (G' := diskA bd D :: F) (fun w hs => hs.drop.drop.kick (i := 1) rfl) (QS.retV Tryz.results26 rfl ?_)
      rw [hp]
      exact openO_bad h0
    subst h0
    rw [if_neg (by decide)] at hO
    cases wh with
    | true =>
      rw [if_pos rfl] at hO
      rw [hO] at hp
      repeat' (first|refine bA ?_|refine bkq fun q=>?_|(refine bk2 ?_ ?_<;>(first|exact bkn|(refine bkk ?_;intro h))))
      refine QS.turn (G' := jA b bd ⟨p, e, xs, false⟩ :: diskA bd D :: F) (fun w hs => jA_shut (A := A) (c := c) w (((hs.drop.front (i := 0) rfl).front (i := 2) rfl))) (QS.retV Tryz.results26 rfl ?_)
      rw [hp]
      exact openO_ok
    | false =>
      rw [if_neg (by decide)] at hO
      rw [hO] at hp
      repeat' (first|refine bA ?_|refine bkq fun q=>?_|(refine bk2 ?_ ?_<;>(first|exact bkn|(refine bkk ?_;intro h))))
      refine WL.call c66 rfl rfl rfl rfl ((log_Store bd D hD jLog e A _ c xs rfl W0 _ (Rd.slc (i := 2) rfl)).pre (fun w hs => hs.front (i := 2) rfl)) ?_
      rintro _ _ ⟨rfl, rfl⟩
      by_cases hs0 : (storeM D e xs jLog).1 = 0
      · rw [hs0] at hp ⊢
        repeat' (first|refine bA ?_|refine bkq fun q=>?_|(refine bk2 ?_ ?_<;>(first|exact bkn|(refine bkk ?_;intro h))))
        refine QS.turn (G' := jA b bd ⟨p, e, xs, false⟩ :: diskA bd (storeM D e xs jLog).2 :: F) (fun w hs => jA_shut (A := A) (c := c) w (((hs.kick (i := 1) rfl).front (i := 1) rfl).front (i := 2) rfl)) (QS.retV Tryz.results26 rfl ?_)
        rw [hp]
        exact openO_ok
      · repeat' (first|refine bA ?_|refine bkq fun q=>?_|(refine bk2 ?_ ?_<;>(first|exact bkn|(refine bkk ?_;intro h))))
        refine QS.turn (G' := diskA bd (storeM D e xs jLog).2 :: F) (fun w hs => ((hs.kick (i := 1) rfl).kick (i := 1) rfl).kick (i := 1) rfl) (QS.retV Tryz.results26 rfl ?_)
        rw [hp]
        exact openO_bad hs0
end Go.Proofs.YtfolmcpfdcgliaaGreat.B

namespace Go.Proofs.YtfolmcpfdcgliaaGreat.B
open Go Go.Proofs
section
variable {κ ν : Type} [DecidableEq κ]
theorem aput_new : ∀ {l : List (κ × ν)} {k : κ} {x : ν}, aget l k = none → aput l k x = l ++ [(k, x)]
  | [], k, x, _ => rfl
  | (j, z) :: r, k, x, h => by
    simp only [aget] at h
    split at h
    · cases h
    · rename_i e
      rw [aput, if_neg e, aput_new h]; rfl
theorem aget_end : ∀ {l : List (κ × ν)} {k : κ} {x : ν}, aget l k = none → aget (l ++ [(k, x)]) k = some x
  | [], k, x, _ => by simp [aget]
  | (j, z) :: r, k, x, h => by
    simp only [aget] at h
    split at h
    · cases h
    · rename_i e
      simp only [List.cons_append, aget, if_neg e]
      exact aget_end h
theorem aput_end : ∀ {l : List (κ × ν)} {k : κ} {x y : ν}, aget l k = none → aput (l ++ [(k, y)]) k x = l ++ [(k, x)]
  | [], k, x, y, _ => by simp [aput]
  | (j, z) :: r, k, x, y, h => by
    simp only [aget] at h
    split at h
    · cases h
    · rename_i e
      simp only [List.cons_append, aput, if_neg e]
      rw [aput_end h]
theorem adel_end : ∀ {l : List (κ × ν)} {k : κ} {y : ν}, aget l k = none → adel (l ++ [(k, y)]) k = l
  | [], k, y, _ => by simp [adel]
  | (j, z) :: r, k, y, h => by
    simp only [aget] at h
    split at h
    · cases h
    · rename_i e
      simp only [List.cons_append, adel, if_neg e]
      rw [adel_end h]
theorem aget_other : ∀ {l : List (κ × ν)} {k k2 : κ} {x : ν}, k ≠ k2 → aget (l ++ [(k, x)]) k2 = aget l k2
  | [], k, k2, x, h => by simp [aget, h]
  | (j, z) :: r, k, k2, x, h => by
    simp only [List.cons_append, aget, aget_other (l := r) h]
theorem aput_aput : ∀ (l : List (κ × ν)) (k : κ) (x y : ν), aput (aput l k x) k y = aput l k y
  | [], k, x, y => by simp [aput]
  | (j, z) :: r, k, x, y => by
    by_cases e : j = k
    · simp [aput, e]
    · simp [aput, e, aput_aput r k x y]
end
section
variable {D : Disk} {nw name text : ByteArray}
theorem append_well (hd : D.down = false) (hf : D.fuse = 0) (h1 : nw ≠ noStr) (h2 : nw.size ≤ 30) (h3 : ((D.at nw).data.size : Int) + text.size ≤ 400000) (h4 : D.has nw = true ∨ D.files.length < 20) (h5 : D.used + text.size ≤ D.room) :
    D.append nw text = (0, { D with files := aput D.files nw ⟨(D.at nw).data ++ text, (D.at nw).synced⟩, used := D.used + text.size }) := by
  unfold Disk.append
  rw [if_neg (by rw [hd]; decide), if_neg (by simp only [not_or]; exact ⟨h1, by omega⟩), if_neg (fun h => h.elim (fun h => by omega) (fun h => h4.elim (fun h4 => by rw [h4] at h; exact absurd h.1 (by decide)) (fun h4 => by omega))), if_neg (by omega), blow_still hf, if_neg (by simp [hd])]
theorem sync_well (hd : D.down = false) (hf : D.fuse = 0) (h : D.has nw = true) :
    D.sync nw = (0, { D with files := aput D.files nw ⟨(D.at nw).data, (D.at nw).data.size⟩ }) := by
  unfold Disk.sync
  rw [if_neg (by rw [hd]; decide), if_neg (by rw [h]; decide), blow_still hf, if_neg (by simp [hd])]
theorem rename_well (hd : D.down = false) (hf : D.fuse = 0) (h1 : name ≠ noStr) (h2 : name.size ≤ 30) (h : D.has nw = true) (hn : nw ≠ name) :
    D.rename nw name = (0, { D with files := aput (adel D.files nw) name (D.at nw), used := D.used - (D.at name).data.size }) := by
  unfold Disk.rename
  rw [if_neg (by rw [hd]; decide), if_neg (by simp only [not_or]; exact ⟨h1, by omega⟩), if_neg (by rw [h]; decide), blow_still hf, if_neg (by simp [hd]), if_neg hn]
theorem place_well (hd : D.down = false) (hf : D.fuse = 0) (hg : aget D.files nw = none) (h1 : nw ≠ noStr) (h2 : nw.size ≤ 30) (h3 : name ≠ noStr) (h4 : name.size ≤ 30) (hn : nw ≠ name)
    (ht : text.size ≤ 400000) (hl : D.files.length < 20) (hr : D.used + text.size ≤ D.room) :
    place1 D nw name text = (0, { D with files := aput D.files name ⟨text, text.size⟩, used := D.used + text.size - (D.at name).data.size }) := by
  have hat : D.at nw = ⟨noStr, 0⟩ := by simp [Disk.at, hg]
  unfold place1
  rw [read_none hd hg, if_pos rfl]
  unfold place2
  rw [append_well hd hf h1 h2 (by rw [hat]; show ((0 : Nat) : Int) + _ ≤ _; omega) (.inr hl) hr, hat, aput_new hg, noStr_cat]
  simp only [not_true_eq_false, if_false]
  have e1 : (Disk.mk (D.files ++ [(nw, (⟨text, 0⟩ : File))]) D.room (D.used + text.size) D.fuse D.down).at nw = ⟨text, 0⟩ := by simp [Disk.at, aget_end hg]
  rw [sync_well (nw := nw) (D := Disk.mk (D.files ++ [(nw, (⟨text, 0⟩ : File))]) D.room (D.used + text.size) D.fuse D.down) hd hf (by simp [Disk.has, aget_end hg]), e1]
  simp only [not_true_eq_false, if_false]
  rw [aput_end hg]
  have e2 : (Disk.mk (D.files ++ [(nw, (⟨text, text.size⟩ : File))]) D.room (D.used + text.size) D.fuse D.down).at nw = ⟨text, text.size⟩ := by simp [Disk.at, aget_end hg]
  have e3 : (Disk.mk (D.files ++ [(nw, (⟨text, text.size⟩ : File))]) D.room (D.used + text.size) D.fuse D.down).at name = D.at name := by simp [Disk.at, aget_other hn]
  rw [rename_well (nw := nw) (D := Disk.mk (D.files ++ [(nw, (⟨text, text.size⟩ : File))]) D.room (D.used + text.size) D.fuse D.down) hd hf h3 h4 (by simp [Disk.has, aget_end hg]) hn, e2, e3]
  simp only [adel_end hg]
theorem add_well {n : Int} {s t : ByteArray} (hd : D.down = false) (hf : D.fuse = 0) (hg : aget D.files name = some ⟨t, t.size⟩) (h3 : name ≠ noStr) (h4 : name.size ≤ 16) (hn : 1 ≤ n ∧ n ≤ 300) (hs : s.size ≤ 600)
    (ht : t.size + (partB n (bs s)).length ≤ 400000) (hr : D.used + (partB n (bs s)).length ≤ D.room) :
    addM D n s name = (0, { D with files := aput D.files name ⟨t ++ mk (partB n (bs s)), (t ++ mk (partB n (bs s))).size⟩, used := D.used + (partB n (bs s)).length }) := by
  have hat : D.at name = ⟨t, t.size⟩ := by simp [Disk.at, hg]
  have hhas : D.has name = true := by simp [Disk.has, hg]
  have hrd : D.read name = (t, 0) := by unfold Disk.read; rw [if_neg (by rw [hd]; decide), if_neg (by rw [hhas]; decide), hat]
  unfold addM
  rw [if_neg (by simp only [not_or]; exact ⟨by omega, by omega, by omega, h3, by omega⟩), hrd]
  simp only [not_true_eq_false, if_false]
  rw [append_well hd hf h3 (by omega) (by rw [hat, mk_size]; show (t.size : Int) + (partB n (bs s)).length ≤ _; omega) (.inl hhas) (by rw [mk_size]; exact hr), hat]
  simp only [not_true_eq_false, if_false]
  have e1 : (aget (aput D.files name (⟨t ++ mk (partB n (bs s)), (t.size : Int)⟩ : File)) name) = some ⟨t ++ mk (partB n (bs s)), t.size⟩ := by rw [aget_aput, if_pos rfl]
  rw [sync_well (nw := name) (D := Disk.mk (aput D.files name (⟨t ++ mk (partB n (bs s)), (t.size : Int)⟩ : File)) D.room (D.used + (mk (partB n (bs s))).size) D.fuse D.down) hd hf (by simp [Disk.has, e1])]
  simp only [Disk.at, e1, Option.getD_some, aput_aput, mk_size]
end
end Go.Proofs.YtfolmcpfdcgliaaGreat.B

namespace Go.Proofs.YtfolmcpfdcgliaaGreat.B
open Go Go.Proofs
theorem told_said {e : Int} (h0 : 0 ≤ e) (h1 : e ≤ 14) : toldM (saidB e) = (0, [], e) := by
  have hI : I64 e := by unfold I64; omega
  rw [toldM, saidB, splitP_join (saidL_ok hI), saidL]
  simp only
  rw [numP_num hI]
  simp only
  rw [if_pos ⟨h0, h1, .inr trivial⟩, if_pos trivial]
theorem parse_log {e : Int} {xs : List Ent} (h : logOk e xs = true) : parseP (logB e xs) = some (e, xs, []) := by
  have := parseP_log h [] (.inr (takeEnt_nil _))
  rwa [List.append_nil] at this
theorem logB_pos {e : Int} {xs : List Ent} (h : logOk e xs = true) : logB e xs ≠ [] := by
  obtain ⟨⟨h1, h2, h3⟩, h4⟩ := logOk_iff.1 h
  intro e0
  have hn := num_len (n := e) (by unfold I64; omega)
  have hs := (sealB_len (s := numB e ++ []) (by rw [List.length_append]; simp only [List.length_nil]; omega)).2
  have : (logB e xs).length = 0 := by rw [e0]; rfl
  rw [logB, List.length_append, partB, if_neg (by rw [List.length_append]; simp only [List.length_nil]; omega)] at this
  omega
theorem told_told {e : Int} {xs : List Ent} (h : logOk e xs = true) : toldM (toldB e xs) = (e, xs, 0) := by
  have hI : I64 0 := by unfold I64; decide
  rw [toldM]
  rw [show splitP (toldB e xs) = some (toldL e xs) from splitP_join (toldL_ok e xs), toldL, if_pos h]
  simp only
  rw [numP_num hI]
  simp only
  rw [if_pos ⟨by decide, by decide, .inl trivial⟩, chunks_flat (Nat.le_refl _), parse_log h, if_neg (fun hc => by
    have := chunks_flat (f := (logB e xs).length) (l := logB e xs) (Nat.le_refl _)
    rw [hc] at this
    exact logB_pos h this.symm)]
  simp
theorem readQ_join {l : List ByteArray} (h : joinOk l = true) : readQ (joinB l) = readL l := by rw [readQ, splitP_join h]; rfl
theorem readQ_prom {ep : Int} (h : I64 ep) : readQ (joinB (promL ep)) = if 1 ≤ ep ∧ ep ≤ 9007199254740991 then some ⟨kP, ep, []⟩ else none := by
  rw [readQ_join (promL_ok h), promL, readL, numP_num h]
  simp only [readK, if_true]
theorem readQ_acc {ep : Int} {xs : List Ent} (h : logOk ep xs = true) : readQ (joinB (accL ep xs)) = if 1 ≤ ep then some ⟨kA, ep, xs⟩ else none := by
  obtain ⟨⟨h1, h2, h3⟩, h4⟩ := logOk_iff.1 h
  rw [readQ_join (accL_ok h), accL, readL, numP_num (by unfold I64; omega)]
  simp only [readK]
  rw [if_neg kAP, if_pos trivial, entsF_of h4, if_pos (logOk_iff.2 ⟨⟨by decide, by decide, h3⟩, h4⟩)]
  by_cases hc : 1 ≤ ep
  · rw [if_pos ⟨hc, h2⟩, if_pos hc]
  · rw [if_neg (fun h => hc h.1), if_neg hc]
theorem readQ_add {ep : Int} {x : Ent} (h : I64 ep) (hx : 1 ≤ x.n ∧ x.n ≤ 300 ∧ x.s.size ≤ 600) : readQ (joinB (addL ep x)) = if 1 ≤ ep ∧ ep ≤ 9007199254740991 then some ⟨kW, ep, [x]⟩ else none := by
  have hI : I64 x.n := by unfold I64; omega
  rw [readQ_join (addL_ok h hI hx.2.2), addL, readL, numP_num h]
  simp only [readK]
  rw [if_neg kWP, if_neg (show ¬ kW = kA by decide), if_pos trivial, readW, numP_num hI]
  simp only
  rw [if_pos hx]
def ended (e : Int) : Bool := decide (e = 0 ∨ e = 10 ∨ e = 11)
theorem beg_refl (xs : List Ent) : begB xs xs = true := by simp [begB]
theorem place_code (D : Disk) (nw name text : ByteArray) : (place1 D nw name text).1 ≠ 10 ∧ (place1 D nw name text).1 ≠ 11 := by
  have ha : ∀ D : Disk, (D.append nw text).1 ≠ 10 ∧ (D.append nw text).1 ≠ 11 := fun D => by unfold Disk.append; (repeat' split) <;> simp
  have hs : ∀ D : Disk, (D.sync nw).1 ≠ 10 ∧ (D.sync nw).1 ≠ 11 := fun D => by unfold Disk.sync; (repeat' split) <;> simp
  have hd : ∀ D : Disk, (D.delete nw).1 ≠ 10 ∧ (D.delete nw).1 ≠ 11 := fun D => by unfold Disk.delete; (repeat' split) <;> simp
  have hr : ∀ D : Disk, (D.rename nw name).1 ≠ 10 ∧ (D.rename nw name).1 ≠ 11 := fun D => by unfold Disk.rename; (repeat' split) <;> simp
  have h2 : ∀ D : Disk, (place2 D nw name text).1 ≠ 10 ∧ (place2 D nw name text).1 ≠ 11 := fun D => by
    unfold place2
    split
    · exact ha _
    · split
      · exact hs _
      · exact hr _
  unfold place1
  split
  · exact h2 _
  · split
    · split
      · exact hd _
      · exact h2 _
    · rcases read_errs D nw with e | e | e <;> simp [e]
theorem store_code (D : Disk) (e : Int) (xs : List Ent) (name : ByteArray) : (storeM D e xs name).1 ≠ 10 ∧ (storeM D e xs name).1 ≠ 11 := by
  unfold storeM
  split
  · simp
  · exact place_code ..
theorem addM_code (D : Disk) (n : Int) (s name : ByteArray) : (addM D n s name).1 ≠ 10 ∧ (addM D n s name).1 ≠ 11 := by
  unfold addM
  split
  · simp
  · split
    · rcases read_errs D name with e | e | e <;> simp [e]
    · split
      · unfold Disk.append; (repeat' split) <;> simp
      · unfold Disk.sync; (repeat' split) <;> simp
end Go.Proofs.YtfolmcpfdcgliaaGreat.B

namespace Go.Proofs.YtfolmcpfdcgliaaGreat.B
open Go Go.Proofs
def pickM (n m : Int) : Int := (if n < 0 then -(n + 1) else n).tmod m
theorem pickM_range {n m : Int} (hm : 0 < m) : 0 ≤ pickM n m ∧ pickM n m < m := by
  unfold pickM
  have h : ∀ a : Int, 0 ≤ a → 0 ≤ a.tmod m ∧ a.tmod m < m := fun a ha => ⟨Int.tmod_nonneg m ha, Int.tmod_lt_of_pos a hm⟩
  split
  · exact h _ (by omega)
  · exact h _ (by omega)
theorem op1_rem {P : Program} (T : Tab P) {n : Nat} {ds : List Deferred} {L : TL} {W0 : World} {G : List SL} {ty : TypeId} {x y : Operand} {t t2 : Nat} {a b : Int} (hx : evL L x = some (.int .i64 a)) (hy : evL L y = some (.int .i64 b)) (h : ¬ b = 0) :
    Op1 P n ds L W0 G (.binOp .rem t x y t2) ty (.int .i64 (a.tmod b)) := by
  refine op1_pure T ?_
  simp only [pureOp, hx, hy, binV, sameK, intBin, decide_eq_false h]
end Go.Proofs.YtfolmcpfdcgliaaGreat.B
