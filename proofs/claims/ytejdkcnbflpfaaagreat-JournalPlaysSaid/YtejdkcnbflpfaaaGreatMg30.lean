import Derived.Test.YtejdkcnbflpfaaaGreatMg29
import Derived.Test.YtejdkcnbflpfaaaGreatMg24
import Derived.Test.YtejdkcnbflpfaaaGreatMg19
import Derived.Sort.KeysCollected
set_option linter.unusedVariables false
set_option linter.unusedSimpArgs false
set_option maxRecDepth 8000
/-! What the document's disk does with its blocks: put, Append. -/
namespace Go.Proofs.YtejdkcnbflpfaaaGreat.B
open Go Go.Proofs
attribute [local irreducible] WL CS QS WQ WH WS Fn Op1 row Sat
attribute [local irreducible] refA slc

set_option maxHeartbeats 1000000 in
theorem rdisk_put (b : Nat) (A : Option Addr) (c : Nat) (R : RDisk) (hl : R.files.length ≤ 1000) (f : RFile) (W0 : World) (F : List SL) :
    Fn Tryz.prog 38 [.pointer (some ⟨b, 0, none⟩), .agg #[.string f.name, .string f.data, .int .i64 f.syn]] W0 (row b 66 (refCells A c R) :: slc rfE 73 A c R.files :: F)
      (Ret fun v G' => v = .tuple #[] ∧ G' = refA b { R with files := insF f R.files } :: F) := by
  refine Fn.fact (slc_cap (i := 1) rfl) (fun hcap => ?_)
  refine Fn.enter Tryz.func38 rfl Tryz.ntmps38 rfl ?_
  simp only [refCells]
  repeat' (first|refine bk ?_|refine bkc ?_|refine bks ?_|refine bkd ?_|refine bkq (fun q => ?_)|(refine bk2 ?_ ?_<;>(first|exact bkn|(refine bkk ?_;intro h))))
  refine CS.loop (X := Nat) (fun i => [(0, .pointer (some ⟨b, 0, none⟩)), (3, .pointer (some ⟨q, 0, none⟩)), (4, .int .i64 (i : Int))]) (fun i => row q 73 [.string f.name, .string f.data, .int .i64 f.syn] :: row b 66 (refCells A c R) :: slc rfE 73 A c R.files :: F)
    (fun i => i ≤ R.files.length ∧ ∀ j g, j < i → R.files[j]? = some g → bl g.name f.name = true) (fun i => R.files.length - i) 0 ⟨rfl, rfl, rfl, trivial⟩ (fun w hs => hs) ⟨Nat.zero_le _, fun j g hj => by omega⟩ ?_
  rintro i ⟨hi, hne⟩
  simp only [refCells]
  refine CS.world fun hw => ?_
  repeat' (first|refine bk ?_|refine bkc ?_|refine bks ?_|refine bkd ?_|refine bkq (fun q => ?_)|(refine bk2 ?_ ?_<;>(first|exact bkn|(refine bkk ?_;intro h))))
  focus
    obtain ⟨x, hx⟩ : ∃ x, R.files[i]? = some x := ⟨R.files[i]'(by omega), List.getElem?_eq_getElem (by omega)⟩
    refine WQ.idx TT (Rd.slc (i := 2) rfl) rfl rfl rfl (by omega) (by rw [Int.toNat_natCast]; exact hx) rfl rfl rfl rfl hw (fun b2 o hA => ?_)
    repeat' (first|refine bk ?_|refine bkc ?_|refine bks ?_|refine bkd ?_|refine bkq (fun q => ?_)|(refine bk2 ?_ ?_<;>(first|exact bkn|(refine bkk ?_;intro h))))
    refine WQ.s (op1_atF TT 0 hA rfl rfl rfl rfl rfl) rfl ?_
    repeat' (first|refine bk ?_|refine bkc ?_|refine bks ?_|refine bkd ?_|refine bkq (fun q => ?_)|(refine bk2 ?_ ?_<;>(first|exact bkn|(refine bkk ?_;intro h))))
    · refine QS.again (i + 1) ⟨by omega, fun j g hj hg => ?_⟩ (by omega) ⟨rfl, rfl, ?_, trivial⟩ (fun w hs => hs)
      · by_cases hji : j = i
        · subst hji; rw [hx] at hg; injection hg with hg; subst hg; assumption
        · exact hne j g (by omega) hg
      · rw [show ((i + 1 : Nat) : Int) = (i : Int) + 1 from by omega]; rfl
    have hp : posF f.name R.files = i := posF_at hne hi (fun g hg => by rw [hx] at hg; injection hg with hg; subst hg; assumption)
  rotate_left
  have hp : posF f.name R.files = i := posF_at hne hi (fun g hg => by have := (List.getElem?_eq_some_iff.1 hg).1; omega)
  all_goals
    refine WL.s (op1_sliceS (E := rfE) (xs := R.files) (l := 0) (r := (i : Int)) TT (by rfl) (by rfl) rfl rfl rfl rfl rfl (by omega) hcap) rfl ?_
    simp only [Int.toNat_zero, Nat.sub_zero, Int.toNat_natCast]
    refine WL.turn (fun w hs => hs.slcNil rfE 73) ?_
    refine WL.append TT (E := rfE) (xs := ([] : List RFile)) (ys := (R.files.take i).drop 0) 0 rfl rfl rfl (by rw [List.drop_zero, List.length_take]; omega) rfl ((Rd.slc (i := 3) rfl).part (by omega) hcap) rfl rfl rfl rfl rfl (by decide) (by rw [List.drop_zero, List.length_take]; simp; omega) (fun _ _ => rfl) rfl (fun A1 c1 => ?_)
    obtain ⟨X, hX⟩ : ∃ X, X = ([] : List RFile) ++ (R.files.take i).drop 0 := ⟨_, rfl⟩
    have hXl : X.length = i := by rw [hX, List.nil_append, List.drop_zero, List.length_take]; omega
    rw [← hX]
    repeat' (first|refine bk ?_|refine bkc ?_|refine bks ?_|refine bkd ?_|refine bkq (fun q => ?_)|(refine bk2 ?_ ?_<;>(first|exact bkn|(refine bkk ?_;intro h))))
    refine WL.buildSlice TT rfl rfl rfl rfl rfl rfl rfl rfl (fun qs => ?_)
    refine WL.append TT (E := rfE) (xs := X) (ys := [f]) 1 rfl rfl rfl rfl rfl (Rd.row (i := 0) rfl rfl) rfl rfl rfl rfl rfl (by decide) (by simp only [List.length_cons, List.length_nil]; omega) (fun _ _ => rfl) rfl (fun A2 c2 => ?_)
    obtain ⟨Y, hY⟩ : ∃ Y, Y = X ++ [f] := ⟨_, rfl⟩
    have hYl : Y.length = i + 1 := by rw [hY, List.length_append, hXl]; rfl
    rw [← hY]
    repeat' (first|refine bk ?_|refine bkc ?_|refine bks ?_|refine bkd ?_|refine bkq (fun q => ?_)|(refine bk2 ?_ ?_<;>(first|exact bkn|(refine bkk ?_;intro h))))
    refine WL.s (op1_sliceS (E := rfE) (xs := R.files) (l := (i : Int)) (r := (R.files.length : Int)) TT (by rfl) (by rfl) rfl rfl rfl rfl rfl (by omega) hcap) rfl ?_
    simp only [Int.toNat_natCast]
    refine WL.append TT (E := rfE) (xs := Y) (ys := (R.files.take R.files.length).drop i) 1 rfl rfl rfl (by rw [List.take_length, List.length_drop]) rfl ((Rd.slc (i := 4) rfl).part (by omega) hcap) rfl rfl rfl rfl rfl (by decide) (by rw [List.take_length, List.length_drop]; simp only []; omega) (fun _ _ => rfl) rfl (fun A3 c3 => ?_)
    repeat' (first|refine bk ?_|refine bkc ?_|refine bks ?_|refine bkd ?_|refine bkq (fun q => ?_)|(refine bk2 ?_ ?_<;>(first|exact bkn|(refine bkk ?_;intro h))))
    have hZ : Y ++ (R.files.take R.files.length).drop i = insF f R.files := by rw [hY, hX, List.nil_append, List.drop_zero, List.take_length, insF, hp]
    rw [hZ]
    exact QS.turn (G' := refA b { R with files := insF f R.files } :: F) (fun w hs => refA_shut (A := A3) (c := c3) w (((hs.drop.kick (i := 1) rfl).kick (i := 2) rfl).perm (List.Perm.swap ..))) (QS.endV Tryz.results38 rfl ⟨rfl, rfl⟩)

set_option maxHeartbeats 2000000 in
theorem rdisk_Append0 (b : Nat) (R : RDisk) (hR : ROk R) (name data : ByteArray) (hda : data.size ≤ 9223372036854775807) (hf : findF name R.files = none) (W0 : World) (F : List SL) :
    Fn Tryz.prog 10 [.pointer (some ⟨b, 0, none⟩), .string name, .string data] W0 (refA b R :: F)
      (Ret fun v G' => v = .int .i64 (R.append name data).1 ∧ G' = refA b (R.append name data).2 :: F) := by
  have hcnt := hR.count
  have hmost := hR.most
  have hsum := sumF_bound hmost
  have hl0 := hR.left0
  have hl1 := hR.left1
  have hat : atF name R.files = -1 := by rw [atF, hf]
  refine Fn.ex (fun w hs => refA_open w hs) (fun x => ?_)
  obtain ⟨A, c⟩ := x
  simp only
  refine Fn.fact (slc_at (i := 1) rfl) (fun hcap => ?_)
  refine Fn.enter Tryz.func10 rfl Tryz.ntmps10 rfl ?_
  repeat' (first|refine bk ?_|refine bkc ?_|refine bks ?_|refine bkd ?_|refine bkq (fun q => ?_)|(refine bk2 ?_ ?_<;>(first|exact bkn|(refine bkk ?_;intro h))))
  refine WL.call c34 rfl rfl rfl rfl (rdisk_at b A c R (by omega) name W0 _) ?_
  rintro _ _ ⟨rfl, rfl⟩
  rw [hat]
  repeat' (first|refine bk ?_|refine bkc ?_|refine bks ?_|refine bkd ?_|refine bkq (fun q => ?_)|(refine bk2 ?_ ?_<;>(first|exact bkn|(refine bkk ?_;intro h))))
  refine WL.call c35 rfl rfl rfl rfl (rdisk_Name name W0 _) ?_
  rintro _ _ ⟨rfl, rfl⟩
  simp only [refCells]
  repeat' (first|refine bk ?_|refine bkc ?_|refine bks ?_|refine bkd ?_|refine bkq (fun q => ?_)|(refine bk2 ?_ ?_<;>(first|exact bkn|(refine bkk ?_;intro h))))
  · have e : R.append name data = (12, R) := by unfold RDisk.append; rw [if_pos (by assumption)]
    rw [e]
    exact QS.turn (G' := refA b R :: F) (fun w hs => refA_shut (A := A) (c := c) w hs) (QS.retV Tryz.results10 rfl ⟨rfl, rfl⟩)
  · have e : R.append name data = (1, R) := by unfold RDisk.append; rw [if_neg (by simp [*]), if_pos (by assumption)]
    rw [e]
    exact QS.turn (G' := refA b R :: F) (fun w hs => refA_shut (A := A) (c := c) w hs) (QS.retV Tryz.results10 rfl ⟨rfl, rfl⟩)
  · have e : R.append name data = (4, R) := by unfold RDisk.append; rw [if_neg (by simp [*]), if_neg (fun h => h (by assumption)), if_pos (.inl (by assumption))]
    rw [e]
    exact QS.turn (G' := refA b R :: F) (fun w hs => refA_shut (A := A) (c := c) w hs) (QS.retV Tryz.results10 rfl ⟨rfl, rfl⟩)
  · have e : R.append name data = (4, R) := by unfold RDisk.append; rw [if_neg (by simp [*]), if_neg (fun h => h (by assumption)), if_pos (.inr (.inr ⟨by omega, by assumption⟩))]
    rw [e]
    exact QS.turn (G' := refA b R :: F) (fun w hs => refA_shut (A := A) (c := c) w hs) (QS.retV Tryz.results10 rfl ⟨rfl, rfl⟩)
  · refine WQ.call c36 rfl rfl rfl rfl (rdisk_Bytes b A c R hR W0 _) ?_
    repeat' (first|refine bk ?_|refine bkc ?_|refine bks ?_|refine bkd ?_|refine bkq (fun q => ?_)|(refine bk2 ?_ ?_<;>(first|exact bkn|(refine bkk ?_;intro h))))
    · have e : R.append name data = (8, R) := by unfold RDisk.append; rw [if_neg (by simp [*]), if_neg (fun h => h (by assumption)), if_neg (by omega), if_pos (by assumption)]
      rw [e]
      exact QS.turn (G' := refA b R :: F) (fun w hs => refA_shut (A := A) (c := c) w hs) (QS.retV Tryz.results10 rfl ⟨rfl, rfl⟩)
    · refine WL.call c37 rfl rfl rfl rfl (rdisk_blows b A c R hl0 hl1 W0 _) ?_
      rintro _ _ ⟨rfl, rfl⟩
      obtain ⟨B, R2, hB⟩ : ∃ B R2, R.blow = (B, R2) := ⟨R.blow.1, R.blow.2, rfl⟩
      have hbf : R2.files = R.files := by rw [show R2 = R.blow.2 from by rw [hB]]; unfold RDisk.blow; split <;> rfl
      rw [hB]
      simp only [refCells]
      repeat' (first|refine bk ?_|refine bkc ?_|refine bks ?_|refine bkd ?_|refine bkq (fun q => ?_)|(refine bk2 ?_ ?_<;>(first|exact bkn|(refine bkk ?_;intro h))))
      · have e : R.append name data = (12, R2) := by unfold RDisk.append; rw [if_neg (by simp [*]), if_neg (fun h => h (by assumption)), if_neg (by omega), if_neg (by assumption), hB, if_pos (by assumption)]
        rw [e]
        exact QS.turn (G' := refA b R2 :: F) (fun w hs => refA_shut (A := A) (c := c) w (by simp only [refCells, hbf] at hs ⊢; exact hs)) (QS.retV Tryz.results10 rfl ⟨rfl, rfl⟩)
      · have e : R.append name data = (0, { R2 with files := insF ⟨name, data, 0⟩ R.files }) := by
          unfold RDisk.append; rw [if_neg (by simp [*]), if_neg (fun h => h (by assumption)), if_neg (by omega), if_neg (by assumption), hB, if_neg (by simp [*]), addF, hf]
        refine WL.turn (G' := row b 66 (refCells A c R2) :: slc rfE 73 A c R2.files :: F) (fun w hs => by simp only [refCells, hbf] at hs ⊢; exact hs) ?_
        refine WL.call c38 rfl rfl rfl rfl (rdisk_put b A c R2 (by rw [hbf]; omega) ⟨name, data, 0⟩ W0 _) ?_
        rintro _ _ ⟨rfl, rfl⟩
        repeat' (first|refine bk ?_|refine bkc ?_|refine bks ?_|refine bkd ?_|refine bkq (fun q => ?_)|(refine bk2 ?_ ?_<;>(first|exact bkn|(refine bkk ?_;intro h))))
        rw [e, hbf]
        exact QS.retV Tryz.results10 rfl ⟨rfl, rfl⟩
end Go.Proofs.YtejdkcnbflpfaaaGreat.B

set_option linter.unusedVariables false
set_option linter.unusedSimpArgs false
set_option maxRecDepth 8000
/-! The document's Load. -/
namespace Go.Proofs.YtejdkcnbflpfaaaGreat.B
open Go Go.Proofs
attribute [local irreducible] WL CS QS WQ WH WS Fn Op1 row Sat
attribute [local irreducible] refA slc

theorem load_parse {t : List UInt8} {er : Int} (h : er = 0) : loadM t er = if (parseM t).2.2.2 = true then ((parseM t).1, (parseM t).2.1, (parseM t).2.2.1, 0) else (0, [], false, 2) := by
  rw [loadM, if_pos h, parseM]
  cases parseP t with
  | none => rfl
  | some p => rfl
theorem size_zero {s : ByteArray} (h : s.size = 0) : s = noStr := by
  have : bs s = [] := List.eq_nil_of_length_eq_zero (by rw [bs_len]; exact h)
  exact bs_inj this
set_option maxHeartbeats 2000000 in
theorem ref_Load (b : Nat) (R : RDisk) (hl : R.files.length ≤ 1000) (name : ByteArray) (hsz : (R.read name).1.size ≤ 140737488355328) (W0 : World) (F : List SL) :
    Fn Tryz.prog 47 [.pointer (some ⟨b, 0, none⟩), .string name] W0 (refA b R :: F) (Ret (toldR (loadM (bs (R.read name).1) (R.read name).2) (refA b R :: F))) := by
  refine Fn.enter Tryz.func47 rfl Tryz.ntmps47 rfl ?_
  repeat' (first|refine bk ?_|refine bkc ?_|refine bks ?_|refine bkd ?_|refine bkq (fun q => ?_)|(refine bk2 ?_ ?_<;>(first|exact bkn|(refine bkk ?_;intro h))))
  refine WL.turn (fun w hs => hs.front (i := 1) rfl) ?_
  refine WL.call c44 rfl rfl rfl rfl (rdisk_Read b R hl name W0 _) ?_
  rintro _ _ ⟨rfl, rfl⟩
  generalize hT : (R.read name).1 = t at *
  generalize hE : (R.read name).2 = er at *
  repeat' (first|refine bk ?_|refine bkc ?_|refine bks ?_|refine bkd ?_|refine bkq (fun q => ?_)|(refine bk2 ?_ ?_<;>(first|exact bkn|(refine bkk ?_;intro h))))
  · have e1 : loadM (bs t) er = (0, [], false, er) := by rw [loadM, if_neg (by assumption)]
    refine QS.turn (G' := slc entE 41 none 0 ([] : List Ent) :: refA b R :: row q 49 [.int .i64 0, .slice none 0 0] :: F) (fun w hs => hs.slcNil _ _) ?_
    refine QS.turnR (G2 := slc entE 41 none 0 ([] : List Ent) :: refA b R :: F) (fun w hs => hs.kick (i := 2) rfl) ?_
    refine QS.retC TT 2 Tryz.results47 rfl rfl rfl rfl ⟨rfl, none, 0, ?_, ?_⟩ <;> rw [e1] <;> rfl
  refine WL.call c89 rfl rfl rfl rfl (ref_Parse t hsz W0 _) ?_
  rintro _ _ ⟨A, c, rfl, rfl⟩
  obtain ⟨M, hM⟩ : ∃ M, M = parseM (bs t) := ⟨_, rfl⟩
  rw [← hM]
  repeat' (first|refine bk ?_|refine bkc ?_|refine bks ?_|refine bkd ?_|refine bkq (fun q => ?_)|(refine bk2 ?_ ?_<;>(first|exact bkn|(refine bkk ?_;intro h))))
  · have e1 : loadM (bs t) er = (0, [], false, 2) := by rw [load_parse (by assumption), ← hM, if_neg (by rw [‹M.2.2.2 = false›]; decide)]
    refine QS.turn (G' := slc entE 41 none 0 ([] : List Ent) :: row q 49 [.int .i64 M.1, .slice A M.2.1.length c] :: slc entE 41 A c M.2.1 :: refA b R :: row _ 49 [.int .i64 0, .slice none 0 0] :: F) (fun w hs => hs.slcNil _ _) ?_
    refine QS.turnR (G2 := slc entE 41 none 0 ([] : List Ent) :: refA b R :: F) (fun w hs => ((hs.kick (i := 4) rfl).kick (i := 2) rfl).kick (i := 1) rfl) ?_
    refine QS.retC TT 4 Tryz.results47 rfl rfl rfl rfl ⟨rfl, none, 0, ?_, ?_⟩ <;> rw [e1] <;> rfl
  · have e1 : loadM (bs t) er = (M.1, M.2.1, M.2.2.1, 0) := by rw [load_parse (by assumption), ← hM, if_pos (by assumption)]
    refine QS.turnR (G2 := slc entE 41 A c M.2.1 :: refA b R :: F) (fun w hs => (hs.drop.kick (i := 2) rfl)) ?_
    refine QS.retC TT 3 Tryz.results47 rfl rfl rfl rfl ⟨rfl, A, c, ?_, ?_⟩ <;> rw [e1] <;> rfl

end Go.Proofs.YtejdkcnbflpfaaaGreat.B

set_option linter.unusedVariables false
set_option linter.unusedSimpArgs false
set_option linter.unusedSectionVars false
set_option maxRecDepth 8000
/-! A disk's names in their order, and a crash, in plain words. -/
namespace Go.Proofs.YtejdkcnbflpfaaaGreat.B
open Go

def toL (b : ByteArray) : List UInt8 := b.data.toList
def ofL (l : List UInt8) : ByteArray := ⟨l.toArray⟩
theorem ofL_toL (b : ByteArray) : ofL (toL b) = b := by cases b; rfl
theorem toL_ofL (l : List UInt8) : toL (ofL l) = l := rfl
theorem toL_inj {a b : ByteArray} (h : toL a = toL b) : a = b := by rw [← ofL_toL a, h, ofL_toL]
abbrev leS (x y : List UInt8) : Bool := decide (x ≤ y)
def sortS (xs : List ByteArray) : List ByteArray := ((xs.map toL).mergeSort leS).map ofL
theorem sortS_perm (xs : List ByteArray) : (sortS xs).Perm xs := by
  have h := (List.mergeSort_perm (xs.map toL) leS).map ofL
  rw [List.map_map, show ofL ∘ toL = id from funext ofL_toL, List.map_id] at h
  exact h
theorem sortS_len (xs : List ByteArray) : (sortS xs).length = xs.length := (sortS_perm xs).length_eq
theorem sortS_mem {xs : List ByteArray} {a : ByteArray} : a ∈ sortS xs ↔ a ∈ xs := (sortS_perm xs).mem_iff
theorem sortS_nodup {xs : List ByteArray} (h : xs.Nodup) : (sortS xs).Nodup := (sortS_perm xs).nodup_iff.2 h
theorem sortS_le (xs : List ByteArray) : (sortS xs).Pairwise (fun a b => toL a ≤ toL b) := by
  have h := List.pairwise_mergeSort (le := leS) (fun a b c h1 h2 => by simp only [leS, decide_eq_true_eq] at *; exact List.le_trans h1 h2) (fun a b => by simp only [leS, Bool.or_eq_true, decide_eq_true_eq]; exact List.le_total a b) (xs.map toL)
  refine List.pairwise_map.2 (h.imp fun {a b} hab => ?_)
  simpa [leS, toL_ofL] using hab
theorem sortS_lt {xs : List ByteArray} (hn : xs.Nodup) : (sortS xs).Pairwise (fun a b => toL a < toL b) := by
  refine ((sortS_le xs).and (sortS_nodup hn)).imp fun {a b} ⟨h1, h2⟩ => ?_
  exact Decidable.byContradiction fun hn => h2 (toL_inj (List.le_antisymm h1 (List.not_lt.1 hn)))
theorem sortS_of_perm {xs ys : List ByteArray} (h : xs.Perm ys) : sortS xs = sortS ys := by
  unfold sortS
  rw [Go.mergeSort_of_perm (h.map toL)]

def Disk.names (D : Disk) : List ByteArray := sortS (D.files.map (·.1))
def Disk.list (D : Disk) : List ByteArray := if D.down = true then [] else D.names
def Disk.usedOf (D : Disk) : Int := if D.down = true then 0 else D.used
def Disk.light (D : Disk) (n : Int) : Disk := { D with fuse := max n 0 }

def keepN (keeps : List Int) (i : Nat) : Int := if keeps.getD i 0 < 0 then -keeps.getD i 0 - 1 else keeps.getD i 0
def crashN (f : File) (c : Int) : Int := f.synced + c % ((f.data.size : Int) - f.synced + 1)
def crashF (f : File) (c : Int) : Option File := if crashN f c = 0 ∧ f.synced = 0 then none else some ⟨f.data.extract 0 (crashN f c).toNat, crashN f c⟩
def crashOne (s : List (ByteArray × File) × Int) (nm : ByteArray) (f : File) (c : Int) : List (ByteArray × File) × Int :=
  match crashF f c with
  | none => (adel s.1 nm, s.2)
  | some g => (aput s.1 nm g, s.2 + g.synced)
def crashSt (D : Disk) (keeps : List Int) : Nat → List (ByteArray × File) × Int
  | 0 => (D.files, 0)
  | k + 1 => crashOne (crashSt D keeps k) (D.names.getD k noStr) (D.at (D.names.getD k noStr)) (keepN keeps k)
def Disk.crash (D : Disk) (keeps : List Int) : Disk := ⟨(crashSt D keeps D.names.length).1, D.room, (crashSt D keeps D.names.length).2, 0, false⟩

theorem keepN_nonneg (keeps : List Int) (i : Nat) : 0 ≤ keepN keeps i := by unfold keepN; split <;> omega
theorem crashN_ok {f : File} (hf : FileOk f) {c : Int} (hc : 0 ≤ c) : f.synced ≤ crashN f c ∧ crashN f c ≤ f.data.size := by
  have h0 := hf.s1
  have h1 := Int.emod_nonneg c (b := (f.data.size : Int) - f.synced + 1) (by omega)
  have h2 := Int.emod_lt_of_pos c (b := (f.data.size : Int) - f.synced + 1) (by omega)
  unfold crashN; omega
theorem extract0_size (b : ByteArray) (n : Nat) (h : n ≤ b.size) : (b.extract 0 n).size = n := by
  rw [ByteArray.size_extract]; omega
theorem crashF_some {f g : File} (hf : FileOk f) {c : Int} (hc : 0 ≤ c) (h : crashF f c = some g) : g.synced = crashN f c ∧ (g.data.size : Int) = g.synced ∧ g.data.size ≤ f.data.size ∧ FileOk g := by
  obtain ⟨h1, h2⟩ := crashN_ok hf hc
  have h0 := hf.s0
  have hm := hf.most
  unfold crashF at h
  split at h
  · cases h
  · injection h with h
    subst h
    have hs : (f.data.extract 0 (crashN f c).toNat).size = (crashN f c).toNat := extract0_size _ _ (by omega)
    refine ⟨rfl, by simp only [hs]; omega, by simp only [hs]; omega, ⟨by simp only; omega, by simp only [hs]; omega, by simp only [hs]; omega⟩⟩

section
variable {D : Disk} (h : DiskOk D)
include h
theorem names_nodup : D.names.Nodup := sortS_nodup h.nodup
theorem names_len : D.names.length = D.files.length := by rw [Disk.names, sortS_len, List.length_map]
theorem names_has {nm : ByteArray} : nm ∈ D.names ↔ D.has nm = true := by
  rw [Disk.names, sortS_mem, Disk.has]
  cases hg : aget D.files nm with
  | none => simp [aget_none.1 hg]
  | some f => simpa using ⟨f, aget_mem hg⟩
theorem has_at {nm : ByteArray} (hh : D.has nm = true) : aget D.files nm = some (D.at nm) := by
  unfold Disk.has at hh
  unfold Disk.at
  cases hg : aget D.files nm with
  | none => rw [hg] at hh; cases hh
  | some f => rfl
theorem names_inj {i j : Nat} (hi : i < D.names.length) (hj : j < D.names.length) (e : D.names.getD i noStr = D.names.getD j noStr) : i = j := by
  have h1 := names_nodup h
  rw [List.getD_eq_getElem?_getD, List.getD_eq_getElem?_getD, List.getElem?_eq_getElem hi, List.getElem?_eq_getElem hj] at e
  exact (List.getElem_inj h1).1 e
theorem names_at {i : Nat} (hi : i < D.names.length) : D.has (D.names.getD i noStr) = true := by
  rw [List.getD_eq_getElem?_getD, List.getElem?_eq_getElem hi]
  exact (names_has h).1 (List.getElem_mem hi)
/-- What a crash has done with the first k names. -/
theorem crashSt_nodup (keeps : List Int) : ∀ k, ((crashSt D keeps k).1.map (·.1)).Nodup
  | 0 => h.nodup
  | k + 1 => by
    have := crashSt_nodup keeps k
    simp only [crashSt, crashOne]
    split
    · exact adel_nodup this
    · exact aput_nodup this
theorem crashSt_other (keeps : List Int) : ∀ {k : Nat} {nm : ByteArray}, (∀ j, j < k → D.names.getD j noStr ≠ nm) → aget (crashSt D keeps k).1 nm = aget D.files nm
  | 0, nm, _ => rfl
  | k + 1, nm, hj => by
    have ih := crashSt_other keeps (k := k) (nm := nm) (fun j hj' => hj j (by omega))
    have hne := hj k (by omega)
    simp only [crashSt, crashOne]
    split
    · rw [aget_adel _ _ (crashSt_nodup h keeps k), if_neg hne]; exact ih
    · rw [aget_aput, if_neg hne]; exact ih
theorem crashSt_done (keeps : List Int) : ∀ {k j : Nat}, j < k → k ≤ D.names.length → aget (crashSt D keeps k).1 (D.names.getD j noStr) = crashF (D.at (D.names.getD j noStr)) (keepN keeps j)
  | 0, j, hj, _ => absurd hj (Nat.not_lt_zero j)
  | k + 1, j, hj, hk => by
    by_cases e : j = k
    · subst e
      simp only [crashSt, crashOne]
      split
      · rename_i e; rw [aget_adel _ _ (crashSt_nodup h keeps j), if_pos rfl, e]
      · rename_i g e; rw [aget_aput, if_pos rfl, e]
    · have ih := crashSt_done keeps (k := k) (j := j) (by omega) (by omega)
      have hne : D.names.getD k noStr ≠ D.names.getD j noStr := fun e' => e (names_inj h (by omega) (by omega) e').symm
      simp only [crashSt, crashOne]
      split
      · rw [aget_adel _ _ (crashSt_nodup h keeps k), if_neg hne]; exact ih
      · rw [aget_aput, if_neg hne]; exact ih
theorem crashSt_next (keeps : List Int) {k : Nat} (hk : k < D.names.length) : aget (crashSt D keeps k).1 (D.names.getD k noStr) = some (D.at (D.names.getD k noStr)) := by
  rw [crashSt_other h keeps (fun j hj e => absurd (names_inj h (by omega) hk e) (by omega))]
  exact has_at h (names_at h hk)
theorem crashSt_mem (keeps : List Int) : ∀ {k : Nat} {x : ByteArray × File}, k ≤ D.names.length → x ∈ (crashSt D keeps k).1 → FileOk x.2 ∧ 1 ≤ x.1.size ∧ x.1.size ≤ 30
  | 0, x, _, hx => ⟨h.fileOk x hx, h.keys x hx⟩
  | k + 1, x, hk, hx => by
    have ih := fun y => crashSt_mem keeps (k := k) (x := y) (by omega)
    simp only [crashSt, crashOne] at hx
    split at hx
    · exact ih x ((adel_sub _ _).mem hx)
    · rename_i g e
      rcases aput_mem hx with rfl | hx
      · have hm := aget_mem (crashSt_next h keeps (k := k) (by omega))
        exact ⟨(crashF_some (h.at_ok _) (keepN_nonneg _ _) e).2.2.2, (ih _ hm).2⟩
      · exact ih x hx
theorem crashSt_len (keeps : List Int) : ∀ {k : Nat}, k ≤ D.names.length → (crashSt D keeps k).1.length ≤ D.files.length
  | 0, _ => Nat.le_refl _
  | k + 1, hk => by
    have ih := crashSt_len keeps (k := k) (by omega)
    simp only [crashSt, crashOne]
    split
    · exact Nat.le_trans (adel_sub _ _).length_le ih
    · rw [aput_length, crashSt_next h keeps (by omega)]; exact ih
def restSum (D : Disk) (k : Nat) : Int := ((D.names.drop k).map fun nm => ((D.at nm).data.size : Int)).sum
omit h in
theorem restSum_step {k : Nat} (hk : k < D.names.length) : restSum D k = ((D.at (D.names.getD k noStr)).data.size : Int) + restSum D (k + 1) := by
  unfold restSum
  rw [List.drop_eq_getElem_cons hk, List.map_cons, List.sum_cons, List.getD_eq_getElem?_getD, List.getElem?_eq_getElem hk]; rfl
theorem restSum_all : restSum D 0 = sumSize D.files := by
  have hp := (sortS_perm (D.files.map (·.1))).map (fun nm => ((D.at nm).data.size : Int))
  unfold restSum
  rw [List.drop_zero]
  show ((Disk.names D).map _).sum = _
  have h2 : (D.names.map fun nm => ((D.at nm).data.size : Int)).sum = ((D.files.map (·.1)).map fun nm => ((D.at nm).data.size : Int)).sum := by
    have : ∀ {l l' : List Int}, l.Perm l' → l.sum = l'.sum := fun {l l'} hp => by
      induction hp with
      | nil => rfl
      | cons x _ ih => simp only [List.sum_cons, ih]
      | swap x y l => simp only [List.sum_cons]; omega
      | trans _ _ ih1 ih2 => exact ih1.trans ih2
    exact this hp
  rw [h2, List.map_map]
  unfold sumSize
  congr 1
  refine List.map_congr_left fun x hx => ?_
  simp only [Function.comp, fsize]
  obtain ⟨nm, f⟩ := x
  have : aget D.files nm = some f := by
    have hnd := h.nodup
    clear h2 hp h
    revert hx hnd
    generalize D.files = l
    intro hx hnd
    induction l with
    | nil => cases hx
    | cons y r ih =>
      obtain ⟨j, z⟩ := y
      simp only [List.map_cons, List.nodup_cons] at hnd
      simp only [aget]
      rcases List.mem_cons.1 hx with e | hx
      · injection e with e1 e2; subst e1; subst e2; simp
      · have hne : j ≠ nm := fun e => hnd.1 (e ▸ List.mem_map_of_mem hx)
        rw [if_neg hne]; exact ih hx hnd.2
  simp [Disk.at, this]
theorem crashSt_sum (keeps : List Int) : ∀ {k : Nat}, k ≤ D.names.length → sumSize (crashSt D keeps k).1 = (crashSt D keeps k).2 + restSum D k ∧ 0 ≤ (crashSt D keeps k).2 ∧ (crashSt D keeps k).2 + restSum D k ≤ D.used
  | 0, _ => ⟨by simp [crashSt, restSum_all h], Int.le_refl _, by simp [crashSt, restSum_all h, h.used]⟩
  | k + 1, hk => by
    obtain ⟨i1, i2, i3⟩ := crashSt_sum keeps (k := k) (by omega)
    have hn := crashSt_next h keeps (k := k) (by omega)
    rw [restSum_step (by omega)] at i1 i3
    simp only [crashSt, crashOne]
    split
    · rename_i e
      refine ⟨?_, i2, by simp only; omega⟩
      simp only [sum_adel, hn]; omega
    · rename_i g e
      obtain ⟨g1, g2, g3, g4⟩ := crashF_some (h.at_ok _) (keepN_nonneg _ _) e
      have := g4.s0
      refine ⟨?_, by simp only; omega, by simp only; omega⟩
      simp only [sum_aput, hn]; omega
theorem crash_ok (keeps : List Int) : DiskOk (D.crash keeps) := by
  obtain ⟨s1, s2, s3⟩ := crashSt_sum h keeps (Nat.le_refl _)
  have hl := crashSt_len h keeps (Nat.le_refl _)
  have hc := h.count
  have hr : restSum D D.names.length = 0 := by simp [restSum]
  have h0 := h.room0
  refine ⟨crashSt_nodup h keeps _, fun x hx => (crashSt_mem h keeps (Nat.le_refl _) hx).1, fun x hx => (crashSt_mem h keeps (Nat.le_refl _) hx).2, ?_, ?_, ?_, h.room1, Int.le_refl _, by simp [Disk.crash]⟩
  · simp only [Disk.crash]; omega
  · simp only [Disk.crash]; omega
  · simp only [Disk.crash]; omega
/-- What stands behind a crash. -/
theorem crash_get (keeps : List Int) {i : Nat} {nm : ByteArray} (hi : D.names[i]? = some nm) : aget (D.crash keeps).files nm = crashF (D.at nm) (keepN keeps i) := by
  obtain ⟨hlt, e⟩ := List.getElem?_eq_some_iff.1 hi
  have := crashSt_done h keeps hlt (Nat.le_refl _)
  rw [List.getD_eq_getElem?_getD, hi] at this
  exact this
theorem crash_none (keeps : List Int) {nm : ByteArray} (hn : D.has nm = false) : aget (D.crash keeps).files nm = none := by
  show aget (crashSt D keeps D.names.length).1 nm = none
  rw [crashSt_other h keeps (fun j hj e => by have := names_at h hj; rw [e, hn] at this; cases this)]
  unfold Disk.has at hn
  cases hg : aget D.files nm with
  | none => rfl
  | some f => rw [hg] at hn; cases hn
/-- .. of a name: some number of bytes above what is synced. -/
theorem crash_some (keeps : List Int) {nm : ByteArray} (hn : D.has nm = true) : ∃ c, 0 ≤ c ∧ aget (D.crash keeps).files nm = crashF (D.at nm) c := by
  obtain ⟨i, hi⟩ := List.getElem?_of_mem ((names_has h).2 hn)
  exact ⟨_, keepN_nonneg _ _, crash_get h keeps hi⟩
theorem light_ok {n : Int} (hn : n ≤ 9223372036854775807) : DiskOk (D.light n) := ⟨h.nodup, h.fileOk, h.keys, h.count, h.used, h.room0, h.room1, by simp only [Disk.light]; omega, by simp only [Disk.light]; omega⟩
end
theorem sortS_one (x : ByteArray) : sortS [x] = [x] := List.perm_singleton.1 (sortS_perm [x])
theorem sortS_nil : sortS [] = [] := List.perm_nil.1 (sortS_perm [])
theorem crash_nil (r u fu : Int) (dn : Bool) (keeps : List Int) : (Disk.mk [] r u fu dn).crash keeps = ⟨[], r, 0, 0, false⟩ := by
  have hn : (Disk.mk [] r u fu dn).names = [] := sortS_nil
  simp only [Disk.crash, hn, List.length_nil, crashSt]
theorem crash_one (nm : ByteArray) (f : File) (r u fu : Int) (dn : Bool) (keeps : List Int) : (Disk.mk [(nm, f)] r u fu dn).crash keeps =
    match crashF f (keepN keeps 0) with | none => ⟨[], r, 0, 0, false⟩ | some g => ⟨[(nm, g)], r, g.synced, 0, false⟩ := by
  have hn : (Disk.mk [(nm, f)] r u fu dn).names = [nm] := sortS_one nm
  have ha : (Disk.mk [(nm, f)] r u fu dn).at nm = f := by simp [Disk.at, aget]
  simp only [Disk.crash, hn, List.length_cons, List.length_nil, crashSt, Nat.zero_add, crashOne, List.getD_cons_zero, ha]
  cases h : crashF f (keepN keeps 0) with
  | none => simp only [adel, if_pos]
  | some g => simp only [aput, if_pos, Int.zero_add]

end Go.Proofs.YtejdkcnbflpfaaaGreat.B
