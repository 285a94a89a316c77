import Derived.Test.YtpklbelejebcfaaLk
import Derived.Test.YtpklbelejebcfaaDh
set_option linter.unusedVariables false
set_option linter.unusedSimpArgs false
set_option linter.unusedSectionVars false
set_option maxRecDepth 8000
/-! Logs behind a crash, in plain words. -/
namespace Go.Proofs.Ytpklbelejebcfaa.B
open Go Go.Proofs

abbrev nJ : ByteArray := ⟨#[106]⟩
abbrev nJn : ByteArray := ⟨#[106, 46, 110, 101, 119]⟩
theorem disk1_crash {room : Int} {name t : ByteArray} (ht : t.size ≠ 0) (keeps : List Int) : (disk1 room name t).crash keeps = disk1 room name t := by
  unfold disk1
  rw [crash_one, crashF_full (keepN_nonneg _ _), if_neg ht]
theorem logB_snoc (e : Int) (xs : List Ent) (x : Ent) : logB e (xs ++ [x]) = logB e xs ++ partB x.n (bs x.s) := by simp [logB, entB, List.append_assoc]
theorem logOk_take {e : Int} {xs : List Ent} {x : Ent} (h : logOk e (xs ++ [x]) = true) : logOk e xs = true := by
  obtain ⟨⟨h1, h2, h3⟩, h4⟩ := logOk_iff.1 h
  simp only [List.length_append, List.length_cons, List.length_nil] at h3
  exact logOk_iff.2 ⟨⟨h1, h2, by omega⟩, entsOk_take h4⟩
theorem parse_part {e : Int} {xs : List Ent} {x : Ent} (h : logOk e (xs ++ [x]) = true) {m : Nat} (hm : m < (partB x.n (bs x.s)).length) :
    loadM (logB e xs ++ (partB x.n (bs x.s)).take m) 0 = (e, xs, decide ((partB x.n (bs x.s)).take m = []), 0) := by
  obtain ⟨⟨h1, h2, h3⟩, h4⟩ := logOk_iff.1 h
  have ok := logOk_take h
  have hx := entsOk_get (i := xs.length) (x := x) h4 (by simp)
  simp only [List.length_append, List.length_cons, List.length_nil] at h3
  have hI : I64 x.n := by unfold I64; have := hx.1; constructor <;> omega
  have hn := num_len hI
  have hb := bs_len x.s
  have hl : (numB x.n ++ bs x.s).length ≤ 4000 := by rw [List.length_append]; omega
  have hc := openP_cut hI hl hm
  rw [loadM, if_pos rfl, parseP_log ok _ (.inr (by rw [takeEnt, hc]))]

section
variable {f : Int} {t s : ByteArray}
theorem fuse_blow {files : List (ByteArray × File)} {room used : Int} {dn : Bool} (hf : 1 ≤ f) : (Disk.mk files room used f dn).blow = (decide (f = 1), Disk.mk files room used (f - 1) (decide (f = 1))) := by
  unfold Disk.blow
  rw [if_pos (by show 0 < f; omega)]
  rw [show decide (f - 1 = 0) = decide (f = 1) from decide_eq_decide.2 (by omega)]
theorem fuse_append (hf : 1 ≤ f) (ht : t.size + s.size ≤ 390000) : (Disk.mk [(nJ, ⟨t, t.size⟩)] 400000 t.size f false).append nJn s =
    if f = 1 then (12, Disk.mk [(nJ, ⟨t, t.size⟩)] 400000 t.size (f - 1) true) else (0, Disk.mk [(nJ, ⟨t, t.size⟩), (nJn, ⟨s, 0⟩)] 400000 (t.size + s.size) (f - 1) false) := by
  have hat : (Disk.mk [(nJ, ⟨t, t.size⟩)] 400000 t.size f false).at nJn = ⟨noStr, 0⟩ := by simp [Disk.at, aget]
  unfold Disk.append
  rw [if_neg (by simp), if_neg (fun h => h.elim (fun h => noStr_ne (by decide) h) (fun h => absurd h (by decide))), hat, if_neg (fun h => h.elim (fun h => by simp [noStr_size] at h; omega) (fun h => by have := h.2; simp at this)),
    if_neg (by simp only; omega), fuse_blow hf]
  by_cases h1 : f = 1
  · simp [h1]
  · simp [h1, aput, noStr_app]
theorem fuse_sync (hf : 1 ≤ f) {u : Int} {k : Int} : (Disk.mk [(nJ, ⟨t, t.size⟩), (nJn, ⟨s, k⟩)] 400000 u f false).sync nJn =
    if f = 1 then (12, Disk.mk [(nJ, ⟨t, t.size⟩), (nJn, ⟨s, k⟩)] 400000 u (f - 1) true) else (0, Disk.mk [(nJ, ⟨t, t.size⟩), (nJn, ⟨s, s.size⟩)] 400000 u (f - 1) false) := by
  have hat : (Disk.mk [(nJ, ⟨t, t.size⟩), (nJn, ⟨s, k⟩)] 400000 u f false).at nJn = ⟨s, k⟩ := by simp [Disk.at, aget]
  unfold Disk.sync
  rw [if_neg (by simp), if_neg (by simp [Disk.has, aget]), hat, fuse_blow hf]
  by_cases h1 : f = 1
  · simp [h1]
  · simp [h1, aput]
theorem fuse_rename (hf : 1 ≤ f) {u : Int} : ∃ D', (Disk.mk [(nJ, ⟨t, t.size⟩), (nJn, ⟨s, s.size⟩)] 400000 u f false).rename nJn nJ = (if f = 1 then 12 else 0, D') ∧ aget D'.files nJ = some (if f = 1 then ⟨t, t.size⟩ else ⟨s, s.size⟩) := by
  have hat : (Disk.mk [(nJ, ⟨t, t.size⟩), (nJn, ⟨s, s.size⟩)] 400000 u f false).at nJn = ⟨s, s.size⟩ := by simp [Disk.at, aget]
  unfold Disk.rename
  rw [if_neg (by simp), if_neg (fun h => h.elim (fun h => noStr_ne (by decide) h) (fun h => absurd h (by decide))), if_neg (by simp [Disk.has, aget]), hat, fuse_blow hf]
  by_cases h1 : f = 1
  · exact ⟨_, by simp [h1]; rfl, by simp [h1, aget]⟩
  · exact ⟨_, by simp [h1]; rfl, by simp [h1, aget, aput, adel]⟩
/-- A log's file put in another one's place, with a fuse. -/
theorem place_fused (hf : 1 ≤ f) (ht : t.size + s.size ≤ 390000) : ∃ D', place1 (Disk.mk [(nJ, ⟨t, t.size⟩)] 400000 t.size f false) nJn nJ s = (if f ≤ 3 then 12 else 0, D') ∧ aget D'.files nJ = some (if f ≤ 3 then ⟨t, t.size⟩ else ⟨s, s.size⟩) := by
  have hr : (Disk.mk [(nJ, ⟨t, t.size⟩)] 400000 t.size f false).read nJn = (noStr, 5) := by simp [Disk.read, Disk.has, aget]
  unfold place1
  rw [hr, if_pos rfl]
  unfold place2
  rw [fuse_append hf ht]
  by_cases h1 : f = 1
  · rw [if_pos h1, if_pos (by simp), if_pos (by omega), if_pos (by omega)]
    exact ⟨_, rfl, by simp [aget]⟩
  · rw [if_neg h1, if_neg (by simp)]
    simp only
    rw [fuse_sync (by omega)]
    by_cases h2 : f - 1 = 1
    · rw [if_pos h2, if_pos (by simp), if_pos (by omega), if_pos (by omega)]
      exact ⟨_, rfl, by simp [aget]⟩
    · rw [if_neg h2, if_neg (by simp)]
      simp only
      obtain ⟨D', e1, e2⟩ := fuse_rename (f := f - 1 - 1) (t := t) (s := s) (u := t.size + s.size) (by omega)
      refine ⟨D', ?_, ?_⟩
      · rw [e1]
        by_cases h3 : f - 1 - 1 = 1
        · rw [if_pos h3, if_pos (by omega)]
        · rw [if_neg h3, if_neg (by omega)]
      · rw [e2]
        by_cases h3 : f - 1 - 1 = 1
        · rw [if_pos h3, if_pos (by omega)]
        · rw [if_neg h3, if_neg (by omega)]
theorem store_fused {e : Int} {xs : List Ent} (hok : logOk e xs = true) (hf : 1 ≤ f) (ht : t.size + (logB e xs).length ≤ 390000) :
    ∃ D', storeM (Disk.mk [(nJ, ⟨t, t.size⟩)] 400000 t.size f false) e xs nJ = (if f ≤ 3 then 12 else 0, D') ∧ aget D'.files nJ = some (if f ≤ 3 then ⟨t, t.size⟩ else ⟨mk (logB e xs), (mk (logB e xs)).size⟩) := by
  have hms := mk_size (logB e xs)
  obtain ⟨D', e1, e2⟩ := place_fused (f := f) (t := t) (s := mk (logB e xs)) hf (by omega)
  refine ⟨D', ?_, e2⟩
  unfold storeM
  rw [if_neg (by simp only [hok, Bool.true_eq_false, false_or, not_or]; exact ⟨noStr_ne (by decide), by decide⟩)]
  exact e1
/-- A part appended, with a fuse, behind a crash. -/
theorem add_fused {n : Int} (hn : 1 ≤ n ∧ n ≤ 300) (hss : s.size ≤ 600) (hf : 1 ≤ f ∧ f ≤ 3) (ht0 : t.size ≠ 0) (ht : t.size + (partB n (bs s)).length ≤ 390000) (keeps : List Int) :
    ∃ D', addM (Disk.mk [(nJ, ⟨t, t.size⟩)] 400000 t.size f false) n s nJ = (if f = 3 then 0 else 12, D') ∧
      ∃ m, m ≤ (partB n (bs s)).length ∧ (f = 3 → m = (partB n (bs s)).length) ∧ (DiskOk D' → (D'.crash keeps).read nJ = (t ++ (mk (partB n (bs s))).extract 0 m, 0)) := by
  generalize hp : mk (partB n (bs s)) = p
  have hps : p.size = (partB n (bs s)).length := by rw [← hp, mk_size]
  rw [← hps] at ht ⊢
  have hr : (Disk.mk [(nJ, ⟨t, t.size⟩)] 400000 t.size f false).read nJ = (t, 0) := by simp [Disk.read, Disk.has, Disk.at, aget]
  have hat : (Disk.mk [(nJ, ⟨t, t.size⟩)] 400000 t.size f false).at nJ = ⟨t, t.size⟩ := by simp [Disk.at, aget]
  have e0 : t ++ p.extract 0 0 = t := by rw [show p.extract 0 0 = noStr from size_zero (extract0_size _ _ (Nat.zero_le _)), app_noStr]
  have hap : (Disk.mk [(nJ, ⟨t, t.size⟩)] 400000 t.size f false).append nJ p = if f = 1 then (12, Disk.mk [(nJ, ⟨t, t.size⟩)] 400000 t.size (f - 1) true) else (0, Disk.mk [(nJ, ⟨t ++ p, t.size⟩)] 400000 (t.size + p.size) (f - 1) false) := by
    unfold Disk.append
    rw [if_neg (by simp), if_neg (fun h => h.elim (fun h => noStr_ne (by decide) h) (fun h => absurd h (by decide))), hat, if_neg (fun h => h.elim (fun h => by simp only at h; omega) (fun h => by have := h.2; simp at this)),
      if_neg (by simp only; omega), fuse_blow hf.1]
    by_cases h1 : f = 1
    · simp [h1]
    · simp [h1, aput]
  unfold addM
  rw [hp, if_neg (by simp only [not_or]; exact ⟨by omega, by omega, by omega, noStr_ne (by decide), by decide⟩), hr, if_neg (by simp), hap]
  by_cases h1 : f = 1
  · rw [if_pos h1, if_pos (by simp), if_neg (by omega)]
    refine ⟨_, rfl, 0, Nat.zero_le _, by omega, fun ho => ?_⟩
    rw [e0]
    exact read_of rfl (by rw [crash_full ho keeps (nm := nJ) (d := t) (by simp [aget]), if_neg ht0])
  · rw [if_neg h1, if_neg (by simp)]
    simp only
    have hat2 : (Disk.mk [(nJ, ⟨t ++ p, t.size⟩)] 400000 (t.size + p.size) (f - 1) false).at nJ = ⟨t ++ p, t.size⟩ := by simp [Disk.at, aget]
    have hsy : (Disk.mk [(nJ, ⟨t ++ p, t.size⟩)] 400000 (t.size + p.size) (f - 1) false).sync nJ = if f - 1 = 1 then (12, Disk.mk [(nJ, ⟨t ++ p, t.size⟩)] 400000 (t.size + p.size) (f - 1 - 1) true) else (0, Disk.mk [(nJ, ⟨t ++ p, (t ++ p).size⟩)] 400000 (t.size + p.size) (f - 1 - 1) false) := by
      unfold Disk.sync
      rw [if_neg (by simp), if_neg (by simp [Disk.has, aget]), hat2, fuse_blow (by omega)]
      by_cases h2 : f - 1 = 1
      · simp [h2]
      · simp [h2, aput]
    rw [hsy]
    have hsz : (t ++ p).size = t.size + p.size := ByteArray.size_append
    by_cases h2 : f - 1 = 1
    · rw [if_pos h2, if_neg (by omega)]
      have hfo : FileOk ⟨t ++ p, t.size⟩ := ⟨by simp, by simp only [hsz]; omega, by simp only [hsz]; omega⟩
      obtain ⟨c1, c2⟩ := crashN_ok hfo (keepN_nonneg keeps 0)
      simp only [hsz] at c1 c2
      obtain ⟨m, hm⟩ : ∃ m : Nat, crashN ⟨t ++ p, t.size⟩ (keepN keeps 0) = (t.size : Int) + m := ⟨(crashN ⟨t ++ p, t.size⟩ (keepN keeps 0) - t.size).toNat, by omega⟩
      refine ⟨_, rfl, m, by omega, by omega, fun ho => ?_⟩
      rw [crash_one]
      unfold crashF
      rw [if_neg (fun e => by have := e.2; simp only at this; omega)]
      simp only [hm]
      rw [show ((t.size : Int) + m).toNat = t.size + m from by omega, app_extract]
      simp [Disk.read, Disk.has, Disk.at, aget]
    · rw [if_neg h2, if_pos (by omega)]
      refine ⟨_, rfl, p.size, Nat.le_refl _, fun _ => rfl, fun ho => ?_⟩
      rw [crash_one, crashF_full (keepN_nonneg _ _), if_neg (by omega), cut_self]
      simp [Disk.read, Disk.has, Disk.at, aget]
end
/-- Entries of texts, behind others. -/
def addT (xs : List Ent) (ys : List ByteArray) : Nat → List Ent
  | 0 => xs
  | i + 1 => addT xs ys i ++ [⟨((addT xs ys i).length : Int) + 1, cutB (ys.getD i noStr) 100⟩]
theorem addT_len (xs : List Ent) (ys : List ByteArray) : ∀ i, (addT xs ys i).length = xs.length + i
  | 0 => rfl
  | i + 1 => by rw [addT, List.length_append, addT_len xs ys i]; rfl
theorem addT_ok {e : Int} {xs : List Ent} (ys : List ByteArray) (h : logOk e xs = true) (hl : xs.length ≤ 30) : ∀ {i}, i ≤ 20 → logOk e (addT xs ys i) = true
  | 0, _ => h
  | i + 1, hi => by
    have ih := addT_ok ys h hl (i := i) (by omega)
    have hlen := addT_len xs ys i
    obtain ⟨⟨h1, h2, h3⟩, h4⟩ := logOk_iff.1 ih
    refine logOk_iff.2 ⟨⟨h1, h2, by rw [addT, List.length_append]; simp only [List.length_cons, List.length_nil]; omega⟩, ?_⟩
    rw [addT, entsOk_snoc, h4, Bool.true_and, decide_eq_true_eq]
    have := cutB_size (ys.getD i noStr) 100
    exact ⟨by simp, by simp only; omega⟩
theorem logB_mid {e : Int} {xs : List Ent} (h : logOk e xs = true) (hl : xs.length ≤ 51) : (logB e xs).length ≤ 210000 ∧ 5 ≤ (logB e xs).length := by
  obtain ⟨⟨h1, h2, h3⟩, h4⟩ := logOk_iff.1 h
  have hI : I64 e := by unfold I64; constructor <;> omega
  have h5 : (entB (xs.take xs.length)).length ≤ 204714 := Nat.le_trans (entB_len h4 h3 xs.length) (Nat.mul_le_mul_right 4014 hl)
  rw [List.take_length] at h5
  have hp := partB_len e hI []
  have hn := num_len hI
  have hs := sealB_len (s := numB e ++ []) (by simp; omega)
  have hq : partB e [] = sealB (numB e ++ []) := by rw [partB, if_neg (by simp; omega)]
  rw [logB, List.length_append]
  rw [hq] at hp ⊢
  omega
end Go.Proofs.Ytpklbelejebcfaa.B
