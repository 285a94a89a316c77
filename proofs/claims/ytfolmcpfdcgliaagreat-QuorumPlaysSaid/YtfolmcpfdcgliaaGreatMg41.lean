import Derived.Test.YtfolmcpfdcgliaaGreatMg40
import Derived.Test.YtfolmcpfdcgliaaGreatMg39
import Derived.Test.YtfolmcpfdcgliaaGreatMg28
import Derived.Sort.Walk0
set_option linter.unusedVariables false
set_option linter.unusedSimpArgs false
set_option maxRecDepth 8000
namespace Go.Proofs.YtfolmcpfdcgliaaGreat.B
open Go Go.Proofs
attribute [local irreducible] WL CS QS WQ WH WS Fn Op1 row Sat
attribute [local irreducible] refA slc
set_option maxHeartbeats 1000000 in
theorem rdisk_put (b : Nat) (A : Option Addr) (c : Nat) (R : RDisk) (hl : R.files.length ≤ 1000) (f : RFile) (W0 : World) (F : List SL) :
    Fn Tryz.prog 185 [.pointer (some ⟨b, 0, none⟩), .agg #[.string f.name, .string f.data, .int .i64 f.syn]] W0 (row b 149 (refCells A c R) :: slc rfE 176 A c R.files :: F)
      (Ret fun v G' => v = .tuple #[] ∧ G' = refA b { R with files := insF f R.files } :: F) := by
  refine Fn.fact (slc_cap (i := 1) rfl) (fun hcap => ?_)
  refine Fn.enter Tryz.func185 rfl Tryz.ntmps185 rfl ?_
  simp only [refCells]
  repeat' (first|refine bA ?_|refine bkq fun q=>?_|(refine bk2 ?_ ?_<;>(first|exact bkn|(refine bkk ?_;intro h))))
  refine CS.loop (X := Nat) (fun i => [(0, .pointer (some ⟨b, 0, none⟩)), (3, .pointer (some ⟨q, 0, none⟩)), (4, .int .i64 (i : Int))]) (fun i => row q 176 [.string f.name, .string f.data, .int .i64 f.syn] :: row b 149 (refCells A c R) :: slc rfE 176 A c R.files :: F)
    (fun i => i ≤ R.files.length ∧ ∀ j g, j < i → R.files[j]? = some g → bl g.name f.name = true) (fun i => R.files.length - i) 0 ⟨rfl, rfl, rfl, trivial⟩ (fun w hs => hs) ⟨Nat.zero_le _, fun j g hj => by omega⟩ ?_
  rintro i ⟨hi, hne⟩
  simp only [refCells]
  refine CS.world fun hw => ?_
  repeat' (first|refine bA ?_|refine bkq fun q=>?_|(refine bk2 ?_ ?_<;>(first|exact bkn|(refine bkk ?_;intro h))))
  focus
    obtain ⟨x, hx⟩ : ∃ x, R.files[i]? = some x := ⟨R.files[i]'(by omega), List.getElem?_eq_getElem (by omega)⟩
    refine WQ.idx TT (Rd.slc (i := 2) rfl) rfl rfl rfl (by omega) (by rw [Int.toNat_natCast]; exact hx) rfl rfl rfl rfl hw (fun b2 o hA => ?_)
    repeat' (first|refine bA ?_|refine bkq fun q=>?_|(refine bk2 ?_ ?_<;>(first|exact bkn|(refine bkk ?_;intro h))))
    refine WQ.s (op1_atF TT 0 hA rfl rfl rfl rfl rfl) rfl ?_
    repeat' (first|refine bA ?_|refine bkq fun q=>?_|(refine bk2 ?_ ?_<;>(first|exact bkn|(refine bkk ?_;intro h))))
    · refine QS.again (i + 1) ⟨by omega, fun j g hj hg => ?_⟩ (by omega) ⟨rfl, rfl, ?_, trivial⟩ (fun w hs => hs)
      · by_cases hji : j = i
        · subst hji; rw [hx] at hg; injection hg with hg; subst hg; assumption
        · exact hne j g (by omega) hg
      · rw [show ((i + 1 : Nat) : Int) = (i : Int) + 1 from by omega]; rfl
    have hp : posF f.name R.files = i := posF_at hne hi (fun g hg => by rw [hx] at hg; injection hg with hg; subst hg; assumption)
  rotate_left
  have hp : posF f.name R.files = i := posF_at hne hi (fun g hg => by have := (List.getElem?_eq_some_iff.1 hg).1; omega)
  all_goals
    refine WL.s (op1_sliceS (E := rfE) (xs := R.files) (l := 0) (r := (i : Int)) TT (by rfl) (by rfl) rfl rfl rfl rfl rfl (by omega) hcap) rfl ?_
    simp only [Int.toNat_zero, Nat.sub_zero, Int.toNat_natCast]
    refine WL.turn (fun w hs => hs.slcNil rfE 176) ?_
    refine WL.append TT (E := rfE) (xs := ([] : List RFile)) (ys := (R.files.take i).drop 0) 0 rfl rfl rfl (by rw [List.drop_zero, List.length_take]; omega) rfl ((Rd.slc (i := 3) rfl).part (by omega) hcap) rfl rfl rfl rfl rfl (by decide) (by rw [List.drop_zero, List.length_take]; simp; omega) (fun _ _ => rfl) rfl (fun A1 c1 => ?_)
    obtain ⟨X, hX⟩ : ∃ X, X = ([] : List RFile) ++ (R.files.take i).drop 0 := ⟨_, rfl⟩
    have hXl : X.length = i := by rw [hX, List.nil_append, List.drop_zero, List.length_take]; omega
    rw [← hX]
    repeat' (first|refine bA ?_|refine bkq fun q=>?_|(refine bk2 ?_ ?_<;>(first|exact bkn|(refine bkk ?_;intro h))))
    refine WL.buildSlice TT rfl rfl rfl rfl rfl rfl rfl rfl (fun qs => ?_)
    refine WL.append TT (E := rfE) (xs := X) (ys := [f]) 1 rfl rfl rfl rfl rfl (Rd.row (i := 0) rfl rfl) rfl rfl rfl rfl rfl (by decide) (by simp only [List.length_cons, List.length_nil]; omega) (fun _ _ => rfl) rfl (fun A2 c2 => ?_)
    obtain ⟨Y, hY⟩ : ∃ Y, Y = X ++ [f] := ⟨_, rfl⟩
    have hYl : Y.length = i + 1 := by rw [hY, List.length_append, hXl]; rfl
    rw [← hY]
    repeat' (first|refine bA ?_|refine bkq fun q=>?_|(refine bk2 ?_ ?_<;>(first|exact bkn|(refine bkk ?_;intro h))))
    refine WL.s (op1_sliceS (E := rfE) (xs := R.files) (l := (i : Int)) (r := (R.files.length : Int)) TT (by rfl) (by rfl) rfl rfl rfl rfl rfl (by omega) hcap) rfl ?_
    simp only [Int.toNat_natCast]
    refine WL.append TT (E := rfE) (xs := Y) (ys := (R.files.take R.files.length).drop i) 1 rfl rfl rfl (by rw [List.take_length, List.length_drop]) rfl ((Rd.slc (i := 4) rfl).part (by omega) hcap) rfl rfl rfl rfl rfl (by decide) (by rw [List.take_length, List.length_drop]; simp only []; omega) (fun _ _ => rfl) rfl (fun A3 c3 => ?_)
    repeat' (first|refine bA ?_|refine bkq fun q=>?_|(refine bk2 ?_ ?_<;>(first|exact bkn|(refine bkk ?_;intro h))))
    have hZ : Y ++ (R.files.take R.files.length).drop i = insF f R.files := by rw [hY, hX, List.nil_append, List.drop_zero, List.take_length, insF, hp]
    rw [hZ]
    exact QS.turn (G' := refA b { R with files := insF f R.files } :: F) (fun w hs => refA_shut (A := A3) (c := c3) w (((hs.drop.kick (i := 1) rfl).kick (i := 2) rfl).perm (List.Perm.swap ..))) (QS.endV Tryz.results185 rfl ⟨rfl, rfl⟩)
set_option maxHeartbeats 2000000 in
theorem rdisk_Append0 (b : Nat) (R : RDisk) (hR : ROk R) (name data : ByteArray) (hda : data.size ≤ 9223372036854775807) (hf : findF name R.files = none) (W0 : World) (F : List SL) :
    Fn Tryz.prog 156 [.pointer (some ⟨b, 0, none⟩), .string name, .string data] W0 (refA b R :: F)
      (Ret fun v G' => v = .int .i64 (R.append name data).1 ∧ G' = refA b (R.append name data).2 :: F) := by
  have hcnt := hR.count
  have hmost := hR.most
  have hsum := sumF_bound hmost
  have hl0 := hR.left0
  have hl1 := hR.left1
  have hat : atF name R.files = -1 := by rw [atF, hf]
  refine Fn.ex (fun w hs => refA_open w hs) (fun x => ?_)
  obtain ⟨A, c⟩ := x
  simp only
  refine Fn.fact (slc_at (i := 1) rfl) (fun hcap => ?_)
  refine Fn.enter Tryz.func156 rfl Tryz.ntmps156 rfl ?_
  repeat' (first|refine bA ?_|refine bkq fun q=>?_|(refine bk2 ?_ ?_<;>(first|exact bkn|(refine bkk ?_;intro h))))
  refine WL.call c111 rfl rfl rfl rfl (rdisk_at b A c R (by omega) name W0 _) ?_
  rintro _ _ ⟨rfl, rfl⟩
  rw [hat]
  repeat' (first|refine bA ?_|refine bkq fun q=>?_|(refine bk2 ?_ ?_<;>(first|exact bkn|(refine bkk ?_;intro h))))
  refine WL.call c183 rfl rfl rfl rfl (rdisk_Name name W0 _) ?_
  rintro _ _ ⟨rfl, rfl⟩
  simp only [refCells]
  repeat' (first|refine bA ?_|refine bkq fun q=>?_|(refine bk2 ?_ ?_<;>(first|exact bkn|(refine bkk ?_;intro h))))
  · have e : R.append name data = (12, R) := by unfold RDisk.append; rw [if_pos (by assumption)]
    rw [e]
    exact QS.turn (G' := refA b R :: F) (fun w hs => refA_shut (A := A) (c := c) w hs) (QS.retV Tryz.results156 rfl ⟨rfl, rfl⟩)
  · have e : R.append name data = (1, R) := by unfold RDisk.append; rw [if_neg (by simp [*]), if_pos (by assumption)]
    rw [e]
    exact QS.turn (G' := refA b R :: F) (fun w hs => refA_shut (A := A) (c := c) w hs) (QS.retV Tryz.results156 rfl ⟨rfl, rfl⟩)
  · have e : R.append name data = (4, R) := by unfold RDisk.append; rw [if_neg (by simp [*]), if_neg (fun h => h (by assumption)), if_pos (.inl (by assumption))]
    rw [e]
    exact QS.turn (G' := refA b R :: F) (fun w hs => refA_shut (A := A) (c := c) w hs) (QS.retV Tryz.results156 rfl ⟨rfl, rfl⟩)
  · have e : R.append name data = (4, R) := by unfold RDisk.append; rw [if_neg (by simp [*]), if_neg (fun h => h (by assumption)), if_pos (.inr (.inr ⟨by omega, by assumption⟩))]
    rw [e]
    exact QS.turn (G' := refA b R :: F) (fun w hs => refA_shut (A := A) (c := c) w hs) (QS.retV Tryz.results156 rfl ⟨rfl, rfl⟩)
  · refine WQ.call c184 rfl rfl rfl rfl (rdisk_Bytes b A c R hR W0 _) ?_
    repeat' (first|refine bA ?_|refine bkq fun q=>?_|(refine bk2 ?_ ?_<;>(first|exact bkn|(refine bkk ?_;intro h))))
    · have e : R.append name data = (8, R) := by unfold RDisk.append; rw [if_neg (by simp [*]), if_neg (fun h => h (by assumption)), if_neg (by omega), if_pos (by assumption)]
      rw [e]
      exact QS.turn (G' := refA b R :: F) (fun w hs => refA_shut (A := A) (c := c) w hs) (QS.retV Tryz.results156 rfl ⟨rfl, rfl⟩)
    · refine WL.call c181 rfl rfl rfl rfl (rdisk_blows b A c R hl0 hl1 W0 _) ?_
      rintro _ _ ⟨rfl, rfl⟩
      obtain ⟨B, R2, hB⟩ : ∃ B R2, R.blow = (B, R2) := ⟨R.blow.1, R.blow.2, rfl⟩
      have hbf : R2.files = R.files := by rw [show R2 = R.blow.2 from by rw [hB]]; unfold RDisk.blow; split <;> rfl
      rw [hB]
      simp only [refCells]
      repeat' (first|refine bA ?_|refine bkq fun q=>?_|(refine bk2 ?_ ?_<;>(first|exact bkn|(refine bkk ?_;intro h))))
      · have e : R.append name data = (12, R2) := by unfold RDisk.append; rw [if_neg (by simp [*]), if_neg (fun h => h (by assumption)), if_neg (by omega), if_neg (by assumption), hB, if_pos (by assumption)]
        rw [e]
        exact QS.turn (G' := refA b R2 :: F) (fun w hs => refA_shut (A := A) (c := c) w (by simp only [refCells, hbf] at hs ⊢; exact hs)) (QS.retV Tryz.results156 rfl ⟨rfl, rfl⟩)
      · have e : R.append name data = (0, { R2 with files := insF ⟨name, data, 0⟩ R.files }) := by
          unfold RDisk.append; rw [if_neg (by simp [*]), if_neg (fun h => h (by assumption)), if_neg (by omega), if_neg (by assumption), hB, if_neg (by simp [*]), addF, hf]
        refine WL.turn (G' := row b 149 (refCells A c R2) :: slc rfE 176 A c R2.files :: F) (fun w hs => by simp only [refCells, hbf] at hs ⊢; exact hs) ?_
        refine WL.call c185 rfl rfl rfl rfl (rdisk_put b A c R2 (by rw [hbf]; omega) ⟨name, data, 0⟩ W0 _) ?_
        rintro _ _ ⟨rfl, rfl⟩
        repeat' (first|refine bA ?_|refine bkq fun q=>?_|(refine bk2 ?_ ?_<;>(first|exact bkn|(refine bkk ?_;intro h))))
        rw [e, hbf]
        exact QS.retV Tryz.results156 rfl ⟨rfl, rfl⟩
end Go.Proofs.YtfolmcpfdcgliaaGreat.B

namespace Go.Proofs.YtfolmcpfdcgliaaGreat.B
open Go Go.Proofs
attribute [local irreducible] WL CS QS WQ WH WS Fn Op1 row Sat
attribute [local irreducible] refA slc
theorem load_parse {t : List UInt8} {er : Int} (h : er = 0) : loadM t er = if (parseM t).2.2.2 = true then ((parseM t).1, (parseM t).2.1, (parseM t).2.2.1, 0) else (0, [], false, 2) := by
  rw [loadM, if_pos h, parseM]
  cases parseP t with
  | none => rfl
  | some p => rfl
set_option maxHeartbeats 2000000 in
theorem ref_Load (b : Nat) (R : RDisk) (hl : R.files.length ≤ 1000) (name : ByteArray) (hsz : (R.read name).1.size ≤ 140737488355328) (W0 : World) (F : List SL) :
    Fn Tryz.prog 70 [.pointer (some ⟨b, 0, none⟩), .string name] W0 (refA b R :: F) (Ret (toldR (loadM (bs (R.read name).1) (R.read name).2) (refA b R :: F))) := by
  refine Fn.enter Tryz.func70 rfl Tryz.ntmps70 rfl ?_
  repeat' (first|refine bA ?_|refine bkq fun q=>?_|(refine bk2 ?_ ?_<;>(first|exact bkn|(refine bkk ?_;intro h))))
  refine WL.turn (fun w hs => hs.front (i := 1) rfl) ?_
  refine WL.call c67 rfl rfl rfl rfl (rdisk_Read b R hl name W0 _) ?_
  rintro _ _ ⟨rfl, rfl⟩
  generalize hT : (R.read name).1 = t at *
  generalize hE : (R.read name).2 = er at *
  repeat' (first|refine bA ?_|refine bkq fun q=>?_|(refine bk2 ?_ ?_<;>(first|exact bkn|(refine bkk ?_;intro h))))
  · have e1 : loadM (bs t) er = (0, [], false, er) := by rw [loadM, if_neg (by assumption)]
    refine QS.turn (G' := slc entE 49 none 0 ([] : List Ent) :: refA b R :: row q 45 [.int .i64 0, .slice none 0 0] :: F) (fun w hs => hs.slcNil _ _) ?_
    refine QS.turnR (G2 := slc entE 49 none 0 ([] : List Ent) :: refA b R :: F) (fun w hs => hs.kick (i := 2) rfl) ?_
    refine QS.retC TT 2 Tryz.results70 rfl rfl rfl rfl ⟨rfl, none, 0, ?_, ?_⟩ <;> rw [e1] <;> rfl
  refine WL.call c116 rfl rfl rfl rfl (ref_Parse t hsz W0 _) ?_
  rintro _ _ ⟨A, c, rfl, rfl⟩
  obtain ⟨M, hM⟩ : ∃ M, M = parseM (bs t) := ⟨_, rfl⟩
  rw [← hM]
  repeat' (first|refine bA ?_|refine bkq fun q=>?_|(refine bk2 ?_ ?_<;>(first|exact bkn|(refine bkk ?_;intro h))))
  · have e1 : loadM (bs t) er = (0, [], false, 2) := by rw [load_parse (by assumption), ← hM, if_neg (by rw [‹M.2.2.2 = false›]; decide)]
    refine QS.turn (G' := slc entE 49 none 0 ([] : List Ent) :: row q 45 [.int .i64 M.1, .slice A M.2.1.length c] :: slc entE 49 A c M.2.1 :: refA b R :: row _ 45 [.int .i64 0, .slice none 0 0] :: F) (fun w hs => hs.slcNil _ _) ?_
    refine QS.turnR (G2 := slc entE 49 none 0 ([] : List Ent) :: refA b R :: F) (fun w hs => ((hs.kick (i := 4) rfl).kick (i := 2) rfl).kick (i := 1) rfl) ?_
    refine QS.retC TT 4 Tryz.results70 rfl rfl rfl rfl ⟨rfl, none, 0, ?_, ?_⟩ <;> rw [e1] <;> rfl
  · have e1 : loadM (bs t) er = (M.1, M.2.1, M.2.2.1, 0) := by rw [load_parse (by assumption), ← hM, if_pos (by assumption)]
    refine QS.turnR (G2 := slc entE 49 A c M.2.1 :: refA b R :: F) (fun w hs => (hs.drop.kick (i := 2) rfl)) ?_
    refine QS.retC TT 3 Tryz.results70 rfl rfl rfl rfl ⟨rfl, A, c, ?_, ?_⟩ <;> rw [e1] <;> rfl
end Go.Proofs.YtfolmcpfdcgliaaGreat.B

set_option linter.unusedSectionVars false
namespace Go.Proofs.YtfolmcpfdcgliaaGreat.B
open Go Go.Proofs
def syncF (name : ByteArray) (l : List RFile) : List RFile := match findF name l with
  | some i => (match l[i]? with | some f => l.set i { f with syn := f.data.size } | none => l)
  | none => l
def outF (name : ByteArray) (l : List RFile) : List RFile := match findF name l with
  | some i => l.eraseIdx i
  | none => l
def RDisk.fileAt (R : RDisk) (name : ByteArray) : RFile := match findF name R.files with | some i => (R.files[i]?).getD ⟨⟨#[]⟩, ⟨#[]⟩, 0⟩ | none => ⟨⟨#[]⟩, ⟨#[]⟩, 0⟩
def RDisk.sync (R : RDisk) (name : ByteArray) : Int × RDisk :=
  if R.off = true then (12, R)
  else if atF name R.files < 0 then (5, R)
  else if R.blow.1 = true then (12, R.blow.2)
  else (0, { R.blow.2 with files := syncF name R.files })
def RDisk.delete (R : RDisk) (name : ByteArray) : Int × RDisk :=
  if R.off = true then (12, R)
  else if atF name R.files < 0 then (5, R)
  else if R.blow.1 = true then (12, R.blow.2)
  else (0, { R.blow.2 with files := outF name R.files })
def RDisk.rename (R : RDisk) (frm to : ByteArray) : Int × RDisk :=
  if R.off = true then (12, R)
  else if ¬ (1 ≤ (to.size : Int) ∧ (to.size : Int) ≤ 30) then (1, R)
  else if atF frm R.files < 0 then (5, R)
  else if R.blow.1 = true then (12, R.blow.2)
  else if frm = to then (0, R.blow.2)
  else (0, { R.blow.2 with files := insF { R.fileAt frm with name := to } (outF to (outF frm R.files)) })
def RDisk.light (R : RDisk) (n : Int) : RDisk := { R with left := max n 0 }
def RDisk.list (R : RDisk) : List ByteArray := if R.off = true then [] else R.files.map (·.name)
def RDisk.usedOf (R : RDisk) : Int := if R.off = true then 0 else sumF R.files
def crE (f : RFile) (c : Int) : List RFile := match crashF ⟨f.data, f.syn⟩ c with | none => [] | some g => [⟨f.name, g.data, g.synced⟩]
def crT (keeps : List Int) (l : List RFile) : Nat → List RFile
  | 0 => []
  | i + 1 => crT keeps l i ++ (match l[i]? with | some f => crE f (keepN keeps i) | none => [])
def RDisk.crash (R : RDisk) (keeps : List Int) : RDisk := ⟨R.room, crT keeps R.files R.files.length, 0, false⟩
def ltF (a b : RFile) : Prop := toL a.name < toL b.name
def SortF (l : List RFile) : Prop := l.Pairwise ltF
theorem lt_ne {a b : RFile} (h : ltF a b) : a.name ≠ b.name := fun e => by unfold ltF at h; rw [e] at h; exact absurd h (List.lt_irrefl _)
theorem SortF.names {l : List RFile} (h : SortF l) : (l.map (·.name)).Nodup := List.pairwise_map.2 (h.imp fun h => lt_ne h)
theorem SortF.nodup {l : List RFile} (h : SortF l) : l.Nodup := List.Pairwise.imp (R := ltF) (fun {a b} h (e : a = b) => lt_ne h (congrArg RFile.name e)) h
theorem sort_ext {l l' : List RFile} (h : SortF l) (h' : SortF l') (hm : ∀ f, f ∈ l ↔ f ∈ l') : l = l' := by
  have hp := (List.perm_ext_iff_of_nodup h.nodup h'.nodup).2 hm
  refine List.Perm.eq_of_pairwise (le := ltF) (fun a b _ _ h1 h2 => ?_) h h' hp
  exact absurd (List.lt_trans h1 h2) (List.lt_irrefl _)
theorem SortF.inj {l : List RFile} (h : SortF l) {i j : Nat} {f g : RFile} (hi : l[i]? = some f) (hj : l[j]? = some g) (e : f.name = g.name) : i = j := by
  obtain ⟨li, ei⟩ := List.getElem?_eq_some_iff.1 hi
  obtain ⟨lj, ej⟩ := List.getElem?_eq_some_iff.1 hj
  have h1 := List.pairwise_iff_getElem.1 h
  rcases Nat.lt_trichotomy i j with hlt | rfl | hlt
  · have := lt_ne (h1 i j li lj hlt); rw [ei, ej] at this; exact absurd e this
  · rfl
  · have := lt_ne (h1 j i lj li hlt); rw [ei, ej] at this; exact absurd e.symm this
theorem find_of_mem {l : List RFile} (h : SortF l) {f : RFile} (hf : f ∈ l) : ∃ i, findF f.name l = some i ∧ l[i]? = some f := by
  obtain ⟨i, hi⟩ := List.mem_iff_getElem?.1 hf
  exact ⟨i, findF_some hi rfl (fun j g hj hg e => by have := h.inj hg hi e; omega), hi⟩
theorem find_no {l : List RFile} {nm : ByteArray} (h : findF nm l = none) : ∀ f ∈ l, f.name ≠ nm := fun f hf e => by
  unfold findF at h
  rw [List.findIdx?_eq_none_iff] at h
  have := h f hf
  simp [e] at this
theorem mem_set {l : List RFile} (h : SortF l) {i : Nat} {f0 f1 : RFile} (hi : l[i]? = some f0) (hn : f1.name = f0.name) {f : RFile} : f ∈ l.set i f1 ↔ f = f1 ∨ (f ∈ l ∧ f.name ≠ f0.name) := by
  obtain ⟨li, ei⟩ := List.getElem?_eq_some_iff.1 hi
  rw [List.mem_iff_getElem?]
  constructor
  · rintro ⟨j, hj⟩
    rw [List.getElem?_set] at hj
    split at hj
    · first
        | (split at hj
           · injection hj with hj; exact .inl hj.symm
           · cases hj)
        | (injection hj with hj; exact .inl hj.symm)
    · rename_i hne
      exact .inr ⟨List.mem_iff_getElem?.2 ⟨j, hj⟩, fun e => hne (h.inj hj hi e).symm⟩
  · rintro (rfl | ⟨hf, hne⟩)
    · exact ⟨i, by rw [List.getElem?_set, if_pos rfl, if_pos li]⟩
    · obtain ⟨j, hj⟩ := List.mem_iff_getElem?.1 hf
      refine ⟨j, ?_⟩
      rw [List.getElem?_set, if_neg (fun e => by subst e; rw [hi] at hj; injection hj with hj; exact hne (by rw [hj])), hj]
theorem set_sort {l : List RFile} (h : SortF l) {i : Nat} {f0 f1 : RFile} (hi : l[i]? = some f0) (hn : f1.name = f0.name) : SortF (l.set i f1) := by
  obtain ⟨li, ei⟩ := List.getElem?_eq_some_iff.1 hi
  have e : (l.set i f1).map (·.name) = l.map (·.name) := by
    rw [List.map_set, hn, ← ei, ← List.getElem_map (f := fun x : RFile => x.name) (h := by simpa using li), List.set_getElem_self]
  have h1 : ((l.set i f1).map (·.name)).Pairwise (fun a b => toL a < toL b) := by rw [e]; exact List.pairwise_map.2 h
  exact (List.pairwise_map (f := fun x : RFile => x.name)).1 h1
theorem mem_erase {l : List RFile} (h : SortF l) {i : Nat} {f0 : RFile} (hi : l[i]? = some f0) {f : RFile} : f ∈ l.eraseIdx i ↔ f ∈ l ∧ f.name ≠ f0.name := by
  rw [List.mem_eraseIdx_iff_getElem?]
  constructor
  · rintro ⟨j, hj, hjf⟩
    exact ⟨List.mem_iff_getElem?.2 ⟨j, hjf⟩, fun e => hj (h.inj hjf hi e)⟩
  · rintro ⟨hf, hne⟩
    obtain ⟨j, hj⟩ := List.mem_iff_getElem?.1 hf
    exact ⟨j, fun e => by subst e; rw [hi] at hj; injection hj with hj; exact hne (by rw [hj]), hj⟩
theorem mem_out {l : List RFile} (h : SortF l) {nm : ByteArray} {f : RFile} : f ∈ outF nm l ↔ f ∈ l ∧ f.name ≠ nm := by
  unfold outF
  cases hf : findF nm l with
  | none => exact ⟨fun h1 => ⟨h1, find_no hf f h1⟩, fun h1 => h1.1⟩
  | some i =>
    obtain ⟨f0, h0, rfl⟩ := findF_get hf
    exact mem_erase h h0
theorem out_sort {l : List RFile} (h : SortF l) (nm : ByteArray) : SortF (outF nm l) := by
  unfold outF
  split
  · exact h.sublist (List.eraseIdx_sublist ..)
  · exact h
theorem bl_iff {a b : ByteArray} : bl a b = true ↔ toL a < toL b := by
  unfold bl
  rw [bytesLess_eq, Lib.toList_data, Lib.toList_data, decide_eq_true_iff]; rfl
theorem mem_ins {f0 f : RFile} {l : List RFile} : f ∈ insF f0 l ↔ f = f0 ∨ f ∈ l := by
  unfold insF
  rw [List.mem_append, List.mem_append, List.mem_singleton]
  constructor
  · rintro ((h | h) | h)
    · exact .inr (List.mem_of_mem_take h)
    · exact .inl h
    · exact .inr (List.mem_of_mem_drop h)
  · rintro (h | h)
    · exact .inl (.inr h)
    · rw [← List.take_append_drop (posF f0.name l) l] at h
      rcases List.mem_append.1 h with h | h
      · exact .inl (.inl h)
      · exact .inr h
theorem ins_sort {f0 : RFile} {l : List RFile} (h : SortF l) (hn : ∀ f ∈ l, f.name ≠ f0.name) : SortF (insF f0 l) := by
  have ht : l.take (posF f0.name l) = l.takeWhile fun f => bl f.name f0.name := by
    unfold posF
    induction l with
    | nil => rfl
    | cons a r ih =>
      simp only [List.takeWhile_cons]
      split
      · simp only [List.length_cons, List.take_succ_cons]
        rw [ih (List.Pairwise.of_cons h) (fun f hf => hn f (List.mem_cons_of_mem _ hf))]
      · rfl
  have hdw : l.drop (posF f0.name l) = l.dropWhile fun f => bl f.name f0.name := by
    have e1 := List.take_append_drop (posF f0.name l) l
    have e2 := List.takeWhile_append_dropWhile (p := fun f : RFile => bl f.name f0.name) (l := l)
    rw [ht] at e1
    exact List.append_cancel_left (e1.trans e2.symm)
  have hsub := h.sublist (List.drop_sublist (posF f0.name l) l)
  have hd : ∀ f ∈ l.drop (posF f0.name l), ltF f0 f := by
    intro f hf
    have h0 : ∀ g, (l.drop (posF f0.name l)).head? = some g → ltF f0 g := fun g hg => by
      have hgm : g ∈ l := List.mem_of_mem_drop (List.mem_of_mem_head? (by rw [hg]; rfl))
      rw [hdw] at hg
      have hb := List.head?_dropWhile_not (fun f : RFile => bl f.name f0.name) l
      rw [hg] at hb
      have hb' : ¬ toL g.name < toL f0.name := fun e => by rw [← bl_iff] at e; simp [e] at hb
      unfold ltF
      exact Decidable.byContradiction fun hc => hn g hgm (toL_inj (List.le_antisymm (List.not_lt.1 hc) (List.not_lt.1 hb')))
    cases hl : l.drop (posF f0.name l) with
    | nil => rw [hl] at hf; cases hf
    | cons g r =>
      rw [hl] at hf h0 hsub
      have hg := h0 g rfl
      rcases List.mem_cons.1 hf with rfl | hr
      · exact hg
      · exact List.lt_trans hg ((List.pairwise_cons.1 hsub).1 f hr)
  have htk : ∀ f ∈ l.take (posF f0.name l), ltF f f0 := by
    intro f hf
    rw [ht] at hf
    have := List.all_takeWhile (p := fun f : RFile => bl f.name f0.name) (l := l)
    exact bl_iff.1 (List.all_eq_true.1 this f hf)
  unfold insF SortF
  rw [List.append_assoc, List.pairwise_append]
  refine ⟨h.sublist (List.take_sublist ..), ?_, ?_⟩
  · rw [List.singleton_append, List.pairwise_cons]
    exact ⟨hd, hsub⟩
  · intro a ha b hb
    rw [List.singleton_append] at hb
    rcases List.mem_cons.1 hb with rfl | hb
    · exact htk a ha
    · exact List.lt_trans (htk a ha) (hd b hb)
end Go.Proofs.YtfolmcpfdcgliaaGreat.B
