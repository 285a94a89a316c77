import Derived.Test.YtfolmcpfdcgliaaGreatMg19
import Derived.Sort.KeysCollected
import Derived.Shelf.SlIter.Nil
import Derived.Shelf.SortM.Plain
import Derived.Shelf.SortM.SortNone
import Derived.Ground.GgzProg
import Derived.Ground.SlgmProg
import Derived.Test.YtfolmcpfdcgliaaGreatProg
set_option linter.unusedVariables false
set_option linter.unusedSimpArgs false
set_option linter.unusedSectionVars false
set_option maxRecDepth 8000
/-! A disk's names in their order, and a crash, in plain words. -/
namespace Go.Proofs.YtfolmcpfdcgliaaGreat.B
open Go

def toL (b : ByteArray) : List UInt8 := b.data.toList
def ofL (l : List UInt8) : ByteArray := ⟨l.toArray⟩
theorem ofL_toL (b : ByteArray) : ofL (toL b) = b := by cases b; rfl
theorem toL_ofL (l : List UInt8) : toL (ofL l) = l := rfl
theorem toL_inj {a b : ByteArray} (h : toL a = toL b) : a = b := by rw [← ofL_toL a, h, ofL_toL]
abbrev leS (x y : List UInt8) : Bool := decide (x ≤ y)
def sortS (xs : List ByteArray) : List ByteArray := ((xs.map toL).mergeSort leS).map ofL
theorem sortS_perm (xs : List ByteArray) : (sortS xs).Perm xs := by
  have h := (List.mergeSort_perm (xs.map toL) leS).map ofL
  rw [List.map_map, show ofL ∘ toL = id from funext ofL_toL, List.map_id] at h
  exact h
theorem sortS_len (xs : List ByteArray) : (sortS xs).length = xs.length := (sortS_perm xs).length_eq
theorem sortS_mem {xs : List ByteArray} {a : ByteArray} : a ∈ sortS xs ↔ a ∈ xs := (sortS_perm xs).mem_iff
theorem sortS_nodup {xs : List ByteArray} (h : xs.Nodup) : (sortS xs).Nodup := (sortS_perm xs).nodup_iff.2 h
theorem sortS_le (xs : List ByteArray) : (sortS xs).Pairwise (fun a b => toL a ≤ toL b) := by
  have h := List.pairwise_mergeSort (le := leS) (fun a b c h1 h2 => by simp only [leS, decide_eq_true_eq] at *; exact List.le_trans h1 h2) (fun a b => by simp only [leS, Bool.or_eq_true, decide_eq_true_eq]; exact List.le_total a b) (xs.map toL)
  refine List.pairwise_map.2 (h.imp fun {a b} hab => ?_)
  simpa [leS, toL_ofL] using hab
theorem sortS_lt {xs : List ByteArray} (hn : xs.Nodup) : (sortS xs).Pairwise (fun a b => toL a < toL b) := by
  refine ((sortS_le xs).and (sortS_nodup hn)).imp fun {a b} ⟨h1, h2⟩ => ?_
  exact Decidable.byContradiction fun hn => h2 (toL_inj (List.le_antisymm h1 (List.not_lt.1 hn)))
theorem sortS_of_perm {xs ys : List ByteArray} (h : xs.Perm ys) : sortS xs = sortS ys := by
  unfold sortS
  rw [Go.mergeSort_of_perm (h.map toL)]

def Disk.names (D : Disk) : List ByteArray := sortS (D.files.map (·.1))
def Disk.list (D : Disk) : List ByteArray := if D.down = true then [] else D.names
def Disk.usedOf (D : Disk) : Int := if D.down = true then 0 else D.used
def Disk.light (D : Disk) (n : Int) : Disk := { D with fuse := max n 0 }

def keepN (keeps : List Int) (i : Nat) : Int := if keeps.getD i 0 < 0 then -keeps.getD i 0 - 1 else keeps.getD i 0
def crashN (f : File) (c : Int) : Int := f.synced + c % ((f.data.size : Int) - f.synced + 1)
def crashF (f : File) (c : Int) : Option File := if crashN f c = 0 ∧ f.synced = 0 then none else some ⟨f.data.extract 0 (crashN f c).toNat, crashN f c⟩
def crashOne (s : List (ByteArray × File) × Int) (nm : ByteArray) (f : File) (c : Int) : List (ByteArray × File) × Int :=
  match crashF f c with
  | none => (adel s.1 nm, s.2)
  | some g => (aput s.1 nm g, s.2 + g.synced)
def crashSt (D : Disk) (keeps : List Int) : Nat → List (ByteArray × File) × Int
  | 0 => (D.files, 0)
  | k + 1 => crashOne (crashSt D keeps k) (D.names.getD k noStr) (D.at (D.names.getD k noStr)) (keepN keeps k)
def Disk.crash (D : Disk) (keeps : List Int) : Disk := ⟨(crashSt D keeps D.names.length).1, D.room, (crashSt D keeps D.names.length).2, 0, false⟩

theorem keepN_nonneg (keeps : List Int) (i : Nat) : 0 ≤ keepN keeps i := by unfold keepN; split <;> omega
theorem crashN_ok {f : File} (hf : FileOk f) {c : Int} (hc : 0 ≤ c) : f.synced ≤ crashN f c ∧ crashN f c ≤ f.data.size := by
  have h0 := hf.s1
  have h1 := Int.emod_nonneg c (b := (f.data.size : Int) - f.synced + 1) (by omega)
  have h2 := Int.emod_lt_of_pos c (b := (f.data.size : Int) - f.synced + 1) (by omega)
  unfold crashN; omega
theorem extract0_size (b : ByteArray) (n : Nat) (h : n ≤ b.size) : (b.extract 0 n).size = n := by
  rw [ByteArray.size_extract]; omega
theorem crashF_some {f g : File} (hf : FileOk f) {c : Int} (hc : 0 ≤ c) (h : crashF f c = some g) : g.synced = crashN f c ∧ (g.data.size : Int) = g.synced ∧ g.data.size ≤ f.data.size ∧ FileOk g := by
  obtain ⟨h1, h2⟩ := crashN_ok hf hc
  have h0 := hf.s0
  have hm := hf.most
  unfold crashF at h
  split at h
  · cases h
  · injection h with h
    subst h
    have hs : (f.data.extract 0 (crashN f c).toNat).size = (crashN f c).toNat := extract0_size _ _ (by omega)
    refine ⟨rfl, by simp only [hs]; omega, by simp only [hs]; omega, ⟨by simp only; omega, by simp only [hs]; omega, by simp only [hs]; omega⟩⟩

section
variable {D : Disk} (h : DiskOk D)
include h
theorem names_nodup : D.names.Nodup := sortS_nodup h.nodup
theorem names_len : D.names.length = D.files.length := by rw [Disk.names, sortS_len, List.length_map]
theorem names_has {nm : ByteArray} : nm ∈ D.names ↔ D.has nm = true := by
  rw [Disk.names, sortS_mem, Disk.has]
  cases hg : aget D.files nm with
  | none => simp [aget_none.1 hg]
  | some f => simpa using ⟨f, aget_mem hg⟩
theorem has_at {nm : ByteArray} (hh : D.has nm = true) : aget D.files nm = some (D.at nm) := by
  unfold Disk.has at hh
  unfold Disk.at
  cases hg : aget D.files nm with
  | none => rw [hg] at hh; cases hh
  | some f => rfl
theorem names_inj {i j : Nat} (hi : i < D.names.length) (hj : j < D.names.length) (e : D.names.getD i noStr = D.names.getD j noStr) : i = j := by
  have h1 := names_nodup h
  rw [List.getD_eq_getElem?_getD, List.getD_eq_getElem?_getD, List.getElem?_eq_getElem hi, List.getElem?_eq_getElem hj] at e
  exact (List.getElem_inj h1).1 e
theorem names_at {i : Nat} (hi : i < D.names.length) : D.has (D.names.getD i noStr) = true := by
  rw [List.getD_eq_getElem?_getD, List.getElem?_eq_getElem hi]
  exact (names_has h).1 (List.getElem_mem hi)
/-- What a crash has done with the first k names. -/
theorem crashSt_nodup (keeps : List Int) : ∀ k, ((crashSt D keeps k).1.map (·.1)).Nodup
  | 0 => h.nodup
  | k + 1 => by
    have := crashSt_nodup keeps k
    simp only [crashSt, crashOne]
    split
    · exact adel_nodup this
    · exact aput_nodup this
theorem crashSt_other (keeps : List Int) : ∀ {k : Nat} {nm : ByteArray}, (∀ j, j < k → D.names.getD j noStr ≠ nm) → aget (crashSt D keeps k).1 nm = aget D.files nm
  | 0, nm, _ => rfl
  | k + 1, nm, hj => by
    have ih := crashSt_other keeps (k := k) (nm := nm) (fun j hj' => hj j (by omega))
    have hne := hj k (by omega)
    simp only [crashSt, crashOne]
    split
    · rw [aget_adel _ _ (crashSt_nodup h keeps k), if_neg hne]; exact ih
    · rw [aget_aput, if_neg hne]; exact ih
theorem crashSt_done (keeps : List Int) : ∀ {k j : Nat}, j < k → k ≤ D.names.length → aget (crashSt D keeps k).1 (D.names.getD j noStr) = crashF (D.at (D.names.getD j noStr)) (keepN keeps j)
  | 0, j, hj, _ => absurd hj (Nat.not_lt_zero j)
  | k + 1, j, hj, hk => by
    by_cases e : j = k
    · subst e
      simp only [crashSt, crashOne]
      split
      · rename_i e; rw [aget_adel _ _ (crashSt_nodup h keeps j), if_pos rfl, e]
      · rename_i g e; rw [aget_aput, if_pos rfl, e]
    · have ih := crashSt_done keeps (k := k) (j := j) (by omega) (by omega)
      have hne : D.names.getD k noStr ≠ D.names.getD j noStr := fun e' => e (names_inj h (by omega) (by omega) e').symm
      simp only [crashSt, crashOne]
      split
      · rw [aget_adel _ _ (crashSt_nodup h keeps k), if_neg hne]; exact ih
      · rw [aget_aput, if_neg hne]; exact ih
theorem crashSt_next (keeps : List Int) {k : Nat} (hk : k < D.names.length) : aget (crashSt D keeps k).1 (D.names.getD k noStr) = some (D.at (D.names.getD k noStr)) := by
  rw [crashSt_other h keeps (fun j hj e => absurd (names_inj h (by omega) hk e) (by omega))]
  exact has_at h (names_at h hk)
theorem crashSt_mem (keeps : List Int) : ∀ {k : Nat} {x : ByteArray × File}, k ≤ D.names.length → x ∈ (crashSt D keeps k).1 → FileOk x.2 ∧ 1 ≤ x.1.size ∧ x.1.size ≤ 30
  | 0, x, _, hx => ⟨h.fileOk x hx, h.keys x hx⟩
  | k + 1, x, hk, hx => by
    have ih := fun y => crashSt_mem keeps (k := k) (x := y) (by omega)
    simp only [crashSt, crashOne] at hx
    split at hx
    · exact ih x ((adel_sub _ _).mem hx)
    · rename_i g e
      rcases aput_mem hx with rfl | hx
      · have hm := aget_mem (crashSt_next h keeps (k := k) (by omega))
        exact ⟨(crashF_some (h.at_ok _) (keepN_nonneg _ _) e).2.2.2, (ih _ hm).2⟩
      · exact ih x hx
theorem crashSt_len (keeps : List Int) : ∀ {k : Nat}, k ≤ D.names.length → (crashSt D keeps k).1.length ≤ D.files.length
  | 0, _ => Nat.le_refl _
  | k + 1, hk => by
    have ih := crashSt_len keeps (k := k) (by omega)
    simp only [crashSt, crashOne]
    split
    · exact Nat.le_trans (adel_sub _ _).length_le ih
    · rw [aput_length, crashSt_next h keeps (by omega)]; exact ih
def restSum (D : Disk) (k : Nat) : Int := ((D.names.drop k).map fun nm => ((D.at nm).data.size : Int)).sum
omit h in
theorem restSum_step {k : Nat} (hk : k < D.names.length) : restSum D k = ((D.at (D.names.getD k noStr)).data.size : Int) + restSum D (k + 1) := by
  unfold restSum
  rw [List.drop_eq_getElem_cons hk, List.map_cons, List.sum_cons, List.getD_eq_getElem?_getD, List.getElem?_eq_getElem hk]; rfl
theorem restSum_all : restSum D 0 = sumSize D.files := by
  have hp := (sortS_perm (D.files.map (·.1))).map (fun nm => ((D.at nm).data.size : Int))
  unfold restSum
  rw [List.drop_zero]
  show ((Disk.names D).map _).sum = _
  have h2 : (D.names.map fun nm => ((D.at nm).data.size : Int)).sum = ((D.files.map (·.1)).map fun nm => ((D.at nm).data.size : Int)).sum := by
    have : ∀ {l l' : List Int}, l.Perm l' → l.sum = l'.sum := fun {l l'} hp => by
      induction hp with
      | nil => rfl
      | cons x _ ih => simp only [List.sum_cons, ih]
      | swap x y l => simp only [List.sum_cons]; omega
      | trans _ _ ih1 ih2 => exact ih1.trans ih2
    exact this hp
  rw [h2, List.map_map]
  unfold sumSize
  congr 1
  refine List.map_congr_left fun x hx => ?_
  simp only [Function.comp, fsize]
  obtain ⟨nm, f⟩ := x
  have : aget D.files nm = some f := by
    have hnd := h.nodup
    clear h2 hp h
    revert hx hnd
    generalize D.files = l
    intro hx hnd
    induction l with
    | nil => cases hx
    | cons y r ih =>
      obtain ⟨j, z⟩ := y
      simp only [List.map_cons, List.nodup_cons] at hnd
      simp only [aget]
      rcases List.mem_cons.1 hx with e | hx
      · injection e with e1 e2; subst e1; subst e2; simp
      · have hne : j ≠ nm := fun e => hnd.1 (e ▸ List.mem_map_of_mem hx)
        rw [if_neg hne]; exact ih hx hnd.2
  simp [Disk.at, this]
theorem crashSt_sum (keeps : List Int) : ∀ {k : Nat}, k ≤ D.names.length → sumSize (crashSt D keeps k).1 = (crashSt D keeps k).2 + restSum D k ∧ 0 ≤ (crashSt D keeps k).2 ∧ (crashSt D keeps k).2 + restSum D k ≤ D.used
  | 0, _ => ⟨by simp [crashSt, restSum_all h], Int.le_refl _, by simp [crashSt, restSum_all h, h.used]⟩
  | k + 1, hk => by
    obtain ⟨i1, i2, i3⟩ := crashSt_sum keeps (k := k) (by omega)
    have hn := crashSt_next h keeps (k := k) (by omega)
    rw [restSum_step (by omega)] at i1 i3
    simp only [crashSt, crashOne]
    split
    · rename_i e
      refine ⟨?_, i2, by simp only; omega⟩
      simp only [sum_adel, hn]; omega
    · rename_i g e
      obtain ⟨g1, g2, g3, g4⟩ := crashF_some (h.at_ok _) (keepN_nonneg _ _) e
      have := g4.s0
      refine ⟨?_, by simp only; omega, by simp only; omega⟩
      simp only [sum_aput, hn]; omega
theorem crash_ok (keeps : List Int) : DiskOk (D.crash keeps) := by
  obtain ⟨s1, s2, s3⟩ := crashSt_sum h keeps (Nat.le_refl _)
  have hl := crashSt_len h keeps (Nat.le_refl _)
  have hc := h.count
  have hr : restSum D D.names.length = 0 := by simp [restSum]
  have h0 := h.room0
  refine ⟨crashSt_nodup h keeps _, fun x hx => (crashSt_mem h keeps (Nat.le_refl _) hx).1, fun x hx => (crashSt_mem h keeps (Nat.le_refl _) hx).2, ?_, ?_, ?_, h.room1, Int.le_refl _, by simp [Disk.crash]⟩
  · simp only [Disk.crash]; omega
  · simp only [Disk.crash]; omega
  · simp only [Disk.crash]; omega
/-- What stands behind a crash. -/
theorem crash_get (keeps : List Int) {i : Nat} {nm : ByteArray} (hi : D.names[i]? = some nm) : aget (D.crash keeps).files nm = crashF (D.at nm) (keepN keeps i) := by
  obtain ⟨hlt, e⟩ := List.getElem?_eq_some_iff.1 hi
  have := crashSt_done h keeps hlt (Nat.le_refl _)
  rw [List.getD_eq_getElem?_getD, hi] at this
  exact this
theorem crash_none (keeps : List Int) {nm : ByteArray} (hn : D.has nm = false) : aget (D.crash keeps).files nm = none := by
  show aget (crashSt D keeps D.names.length).1 nm = none
  rw [crashSt_other h keeps (fun j hj e => by have := names_at h hj; rw [e, hn] at this; cases this)]
  unfold Disk.has at hn
  cases hg : aget D.files nm with
  | none => rfl
  | some f => rw [hg] at hn; cases hn
/-- .. of a name: some number of bytes above what is synced. -/
theorem crash_some (keeps : List Int) {nm : ByteArray} (hn : D.has nm = true) : ∃ c, 0 ≤ c ∧ aget (D.crash keeps).files nm = crashF (D.at nm) c := by
  obtain ⟨i, hi⟩ := List.getElem?_of_mem ((names_has h).2 hn)
  exact ⟨_, keepN_nonneg _ _, crash_get h keeps hi⟩
theorem light_ok {n : Int} (hn : n ≤ 9223372036854775807) : DiskOk (D.light n) := ⟨h.nodup, h.fileOk, h.keys, h.count, h.used, h.room0, h.room1, by simp only [Disk.light]; omega, by simp only [Disk.light]; omega⟩
end
theorem sortS_one (x : ByteArray) : sortS [x] = [x] := List.perm_singleton.1 (sortS_perm [x])
theorem sortS_nil : sortS [] = [] := List.perm_nil.1 (sortS_perm [])
theorem crash_nil (r u fu : Int) (dn : Bool) (keeps : List Int) : (Disk.mk [] r u fu dn).crash keeps = ⟨[], r, 0, 0, false⟩ := by
  have hn : (Disk.mk [] r u fu dn).names = [] := sortS_nil
  simp only [Disk.crash, hn, List.length_nil, crashSt]
theorem crash_one (nm : ByteArray) (f : File) (r u fu : Int) (dn : Bool) (keeps : List Int) : (Disk.mk [(nm, f)] r u fu dn).crash keeps =
    match crashF f (keepN keeps 0) with | none => ⟨[], r, 0, 0, false⟩ | some g => ⟨[(nm, g)], r, g.synced, 0, false⟩ := by
  have hn : (Disk.mk [(nm, f)] r u fu dn).names = [nm] := sortS_one nm
  have ha : (Disk.mk [(nm, f)] r u fu dn).at nm = f := by simp [Disk.at, aget]
  simp only [Disk.crash, hn, List.length_cons, List.length_nil, crashSt, Nat.zero_add, crashOne, List.getD_cons_zero, ha]
  cases h : crashF f (keepN keeps 0) with
  | none => simp only [adel, if_pos]
  | some g => simp only [aput, if_pos, Int.zero_add]

end Go.Proofs.YtfolmcpfdcgliaaGreat.B

/-! The library's contracts on a map's keys, sorted, at this program. -/
namespace Go.Proofs.YtfolmcpfdcgliaaGreat.B
open Go Go.Proofs
open Go.Shelf
def it_keys102_ren : Go.Shelf.Ren := ⟨fun | 7 => 102 | 10 => 144 | n => n, fun | 23 => 133 | 26 => 9 | 3 => 138 | 28 => 190 | 0 => 0 | 27 => 189 | 33 => 237 | 4 => 4 | n => n, fun | n => n⟩
theorem it_keys102 : Go.Proofs.SlLaysZ.n7 Tryz.prog it_keys102_ren := {
  mixed := by kernel_rfl
  f7 := ⟨Tryz.f102.name, by decide, Tryz.func102.trans (congrArg some (by kernel_rfl))⟩
  f10 := ⟨Tryz.f144.name, by decide, Tryz.func144.trans (congrArg some (by kernel_rfl))⟩
  t0 := Tryz.underlying0
  a0 := Tryz.isAgg0
  z0 := Tryz.sizeOf0
  v0 := Tryz.zeroValue0
  t4 := Tryz.underlying4
  a4 := Tryz.isAgg4
  z4 := Tryz.sizeOf4
  v4 := Tryz.zeroValue4
  t23 := Tryz.underlying133
  a23 := Tryz.isAgg133
  z23 := Tryz.sizeOf133
  v23 := Tryz.zeroValue133
  t26 := Tryz.underlying9
  a26 := Tryz.isAgg9
  z26 := Tryz.sizeOf9
  v26 := Tryz.zeroValue9
  t27 := Tryz.underlying189
  a27 := Tryz.isAgg189
  z27 := Tryz.sizeOf189
  v27 := Tryz.zeroValue189
  t28 := Tryz.underlying190
  a28 := Tryz.isAgg190
  z28 := Tryz.sizeOf190
  v28 := Tryz.zeroValue190
  t33 := Tryz.underlying237
  a33 := Tryz.isAgg237
  z33 := Tryz.sizeOf237
  v33 := Tryz.zeroValue237 }
def it_sorted101_ren : Go.Shelf.Ren := ⟨fun | 6 => 101 | 8 => 142 | 9 => 143 | 11 => 177 | 13 => 123 | 12 => 178 | 23 => 172 | 24 => 173 | 14 => 194 | 15 => 195 | 16 => 196 | 17 => 197 | 18 => 198 | 19 => 199 | 20 => 200 | 21 => 201 | 22 => 202 | 25 => 205 | 26 => 188 | 27 => 189 | 28 => 206 | 29 => 207 | 30 => 208 | 31 => 210 | n => n, fun | 26 => 9 | 28 => 190 | 24 => 43 | 0 => 0 | 3 => 3 | 37 => 197 | 48 => 194 | 50 => 196 | 4 => 4 | 40 => 250 | 39 => 249 | 45 => 154 | 5 => 5 | 9 => 9 | 51 => 264 | 55 => 268 | 57 => 279 | 58 => 280 | 33 => 237 | n => n, fun | n => n⟩
theorem it_sorted101 : Go.Proofs.SlLaysZ.n6 Tryz.prog it_sorted101_ren := {
  mixed := by kernel_rfl
  f6 := ⟨Tryz.f101.name, by decide, Tryz.func101.trans (congrArg some (by kernel_rfl))⟩
  f8 := ⟨Tryz.f142.name, by decide, Tryz.func142.trans (congrArg some (by kernel_rfl))⟩
  f11 := ⟨Tryz.f177.name, by decide, Tryz.func177.trans (congrArg some (by kernel_rfl))⟩
  t0 := Tryz.underlying0
  a0 := Tryz.isAgg0
  z0 := Tryz.sizeOf0
  v0 := Tryz.zeroValue0
  t24 := Tryz.underlying43
  a24 := Tryz.isAgg43
  z24 := Tryz.sizeOf43
  v24 := Tryz.zeroValue43
  t26 := Tryz.underlying9
  a26 := Tryz.isAgg9
  z26 := Tryz.sizeOf9
  v26 := Tryz.zeroValue9
  t28 := Tryz.underlying190
  a28 := Tryz.isAgg190
  z28 := Tryz.sizeOf190
  v28 := Tryz.zeroValue190
  i26 := by kernel_rfl }
def it_sort143_ren : Go.Shelf.Ren := ⟨fun | 6 => 143 | 8 => 123 | 9 => 178 | 19 => 172 | 20 => 173 | 21 => 194 | 22 => 195 | 23 => 196 | 24 => 197 | 25 => 198 | 26 => 199 | 27 => 200 | 28 => 201 | 29 => 202 | 36 => 205 | 31 => 188 | 32 => 189 | 37 => 206 | 38 => 207 | 39 => 208 | 41 => 210 | n => n, fun | 27 => 43 | 29 => 9 | 3 => 3 | 32 => 197 | 26 => 43 | 0 => 0 | 44 => 194 | 46 => 196 | 4 => 4 | 36 => 250 | 35 => 249 | 41 => 154 | 5 => 5 | 9 => 9 | 53 => 264 | 57 => 268 | 63 => 279 | 64 => 280 | n => n, fun | n => n⟩
theorem it_sort143 : Go.Proofs.SlLaysM.n6 Tryz.prog it_sort143_ren := {
  mixed := by kernel_rfl
  f6 := ⟨Tryz.f143.name, by decide, Tryz.func143.trans (congrArg some (by kernel_rfl))⟩
  f8 := Tryz.func123.trans (congrArg some (by kernel_rfl))
  f9 := ⟨Tryz.f178.name, by decide, Tryz.func178.trans (congrArg some (by kernel_rfl))⟩
  f19 := Tryz.func172.trans (congrArg some (by kernel_rfl))
  f20 := Tryz.func173.trans (congrArg some (by kernel_rfl))
  f21 := ⟨Tryz.f194.name, by decide, Tryz.func194.trans (congrArg some (by kernel_rfl))⟩
  f22 := ⟨Tryz.f195.name, by decide, Tryz.func195.trans (congrArg some (by kernel_rfl))⟩
  f23 := ⟨Tryz.f196.name, by decide, Tryz.func196.trans (congrArg some (by kernel_rfl))⟩
  f24 := ⟨Tryz.f197.name, by decide, Tryz.func197.trans (congrArg some (by kernel_rfl))⟩
  f25 := ⟨Tryz.f198.name, by decide, Tryz.func198.trans (congrArg some (by kernel_rfl))⟩
  f26 := ⟨Tryz.f199.name, by decide, Tryz.func199.trans (congrArg some (by kernel_rfl))⟩
  f27 := ⟨Tryz.f200.name, by decide, Tryz.func200.trans (congrArg some (by kernel_rfl))⟩
  f28 := ⟨Tryz.f201.name, by decide, Tryz.func201.trans (congrArg some (by kernel_rfl))⟩
  f29 := ⟨Tryz.f202.name, by decide, Tryz.func202.trans (congrArg some (by kernel_rfl))⟩
  f31 := Tryz.func188.trans (congrArg some (by kernel_rfl))
  f32 := Tryz.func189.trans (congrArg some (by kernel_rfl))
  f36 := ⟨Tryz.f205.name, by decide, Tryz.func205.trans (congrArg some (by kernel_rfl))⟩
  f37 := ⟨Tryz.f206.name, by decide, Tryz.func206.trans (congrArg some (by kernel_rfl))⟩
  f38 := ⟨Tryz.f207.name, by decide, Tryz.func207.trans (congrArg some (by kernel_rfl))⟩
  f39 := ⟨Tryz.f208.name, by decide, Tryz.func208.trans (congrArg some (by kernel_rfl))⟩
  f41 := ⟨Tryz.f210.name, by decide, Tryz.func210.trans (congrArg some (by kernel_rfl))⟩
  t0 := Tryz.underlying0
  a0 := Tryz.isAgg0
  z0 := Tryz.sizeOf0
  v0 := Tryz.zeroValue0
  t3 := Tryz.underlying3
  a3 := Tryz.isAgg3
  z3 := Tryz.sizeOf3
  v3 := Tryz.zeroValue3
  t4 := Tryz.underlying4
  a4 := Tryz.isAgg4
  z4 := Tryz.sizeOf4
  v4 := Tryz.zeroValue4
  t5 := Tryz.underlying5
  a5 := Tryz.isAgg5
  z5 := Tryz.sizeOf5
  v5 := Tryz.zeroValue5
  t9 := Tryz.underlying9
  a9 := Tryz.isAgg9
  z9 := Tryz.sizeOf9
  v9 := Tryz.zeroValue9
  t26 := Tryz.underlying43
  a26 := Tryz.isAgg43
  z26 := Tryz.sizeOf43
  v26 := Tryz.zeroValue43
  t27 := Tryz.underlying43
  a27 := Tryz.isAgg43
  z27 := Tryz.sizeOf43
  v27 := Tryz.zeroValue43
  t29 := Tryz.underlying9
  a29 := Tryz.isAgg9
  z29 := Tryz.sizeOf9
  v29 := Tryz.zeroValue9
  t32 := Tryz.underlying197
  a32 := Tryz.isAgg197
  z32 := Tryz.sizeOf197
  v32 := Tryz.zeroValue197
  t35 := Tryz.underlying249
  a35 := Tryz.isAgg249
  z35 := Tryz.sizeOf249
  v35 := Tryz.zeroValue249
  t36 := Tryz.underlying250
  a36 := Tryz.isAgg250
  z36 := Tryz.sizeOf250
  v36 := Tryz.zeroValue250
  t41 := Tryz.underlying154
  a41 := Tryz.isAgg154
  z41 := Tryz.sizeOf154
  v41 := Tryz.zeroValue154
  t44 := Tryz.underlying194
  a44 := Tryz.isAgg194
  z44 := Tryz.sizeOf194
  v44 := Tryz.zeroValue194
  t46 := Tryz.underlying196
  a46 := Tryz.isAgg196
  z46 := Tryz.sizeOf196
  v46 := Tryz.zeroValue196
  t53 := Tryz.underlying264
  a53 := Tryz.isAgg264
  z53 := Tryz.sizeOf264
  v53 := Tryz.zeroValue264
  t57 := Tryz.underlying268
  a57 := Tryz.isAgg268
  z57 := Tryz.sizeOf268
  v57 := Tryz.zeroValue268
  t63 := Tryz.underlying279
  a63 := Tryz.isAgg279
  z63 := Tryz.sizeOf279
  v63 := Tryz.zeroValue279
  t64 := Tryz.underlying280
  a64 := Tryz.isAgg280
  z64 := Tryz.sizeOf280
  v64 := Tryz.zeroValue280 }
open Go.RowKit Go.Maps Go.Sort Go.Shelf


theorem it_sorts101 (m : Nat) : AnyZ.SortsIn Tryz.prog it_sorted101_ren Fence.wide m :=
  ⟨fun blk off cap ss W hH hblk hsz => callsIn_wide.2 (AnyM.slices_Sort_string it_sort143 blk off cap ss W hH hblk hsz),
   fun p cap W => callsIn_wide.2 (AnyM.slices_Sort_string_none it_sort143 p cap W)⟩

theorem it_maps_Keys_102 (mb : Option Nat) (W : World) : CallsIn Fence.wide 5 Tryz.prog 102 #[.map mb] W fun e w' => e = .returned (.func (.func 144) #[] #[.pointer (some ⟨W.heap.size, 0, none⟩)]) ∧ w' = W.alloc (.cells #[.map mb] 133) :=
  AnyZ.keys_in it_keys102 Fence.wide 5 trivial rfl mb W

set_option maxHeartbeats 1000000 in
theorem it_slices_Sorted_keys_101_102 {H : Type} (b nn : Nat) (D0 : DataW H) (R : Value → Option (DataW H × List MemPlace)) (w : World) (hown : w.ownsMap Tryz.prog 9 R b nn D0) (hmax : Maps.size D0 ≤ maxLen) (hbytes : Maps.size D0 * 16 ≤ 140737488355328) :
    CallsIn Fence.wide 5 Tryz.prog 101 #[.func (.func 144) #[] #[.pointer (some ⟨w.heap.size, 0, none⟩)]] (w.alloc (.cells #[.map (some b)] 133)) fun e w' => ∃ (v : Value) (ss : List (List UInt8)), e = .returned v ∧ ss.Perm (strKeys D0) ∧
      w'.ownsRow (w.alloc (.cells #[.map (some b)] 133)).heap.size 9 1 v ss.length ((ss.mergeSort (fun x y => decide (x ≤ y))).map encStr) ∧ (v = .slice none 0 0 ↔ ss = []) ∧ Below (w.alloc (.cells #[.map (some b)] 133)).heap.size (w.alloc (.cells #[.map (some b)] 133)) w' := by
  have hbl := hown.lt
  have hseq : SeqGives Fence.wide 2 Tryz.prog 144 #[.pointer (some ⟨w.heap.size, 0, none⟩)] encStr (fun ss => ss.Perm (strKeys D0)) (Maps.size D0) (w.alloc (.cells #[.map (some b)] 133)) :=
    AnyZ.keys_gives (ρ := it_keys102_ren) { it_keys102 with } Fence.wide _ trivial rfl (by omega) w.heap.size b nn D0 _ (by simp) (by simp) (by
      obtain ⟨es, clock, hb, Ft, hs, hD⟩ := hown
      exact ⟨es, clock, (Below.heap_alloc _ _ b hbl).trans hb, Ft, hs, hD⟩)
  exact AnyZ.sorted_in it_sorted101 Fence.wide 5 trivial trivial trivial trivial rfl (by omega) (it_sorts101 _) (enters_of Tryz.func143 (by kernel_rfl) rfl) 144 #[.pointer (some ⟨w.heap.size, 0, none⟩)] trivial (enters_of Tryz.func144 (by kernel_rfl) rfl) _ _ hmax hbytes _ hseq

set_option maxHeartbeats 1000000 in
theorem it_slices_Sorted_keys_nil_101_102 (w : World) :
    CallsIn Fence.wide 5 Tryz.prog 101 #[.func (.func 144) #[] #[.pointer (some ⟨w.heap.size, 0, none⟩)]] (w.alloc (.cells #[.map none] 133)) fun e w' => ∃ (v : Value) (ss : List (List UInt8)), e = .returned v ∧ ss = [] ∧
      w'.ownsRow (w.alloc (.cells #[.map none] 133)).heap.size 9 1 v ss.length ((ss.mergeSort (fun x y => decide (x ≤ y))).map encStr) ∧ (v = .slice none 0 0 ↔ ss = []) ∧ Below (w.alloc (.cells #[.map none] 133)).heap.size (w.alloc (.cells #[.map none] 133)) w' := by
  have hseq : SeqGives Fence.wide 2 Tryz.prog 144 #[.pointer (some ⟨w.heap.size, 0, none⟩)] encStr (fun ss : List (List UInt8) => ss = []) 0 (w.alloc (.cells #[.map none] 133)) :=
    AnyZ.keys_gives_nil (ρ := it_keys102_ren) { it_keys102 with } Fence.wide _ trivial rfl w.heap.size _ (by simp) (by simp)
  exact AnyZ.sorted_in it_sorted101 Fence.wide 5 trivial trivial trivial trivial rfl (by omega) (it_sorts101 _) (enters_of Tryz.func143 (by kernel_rfl) rfl) 144 #[.pointer (some ⟨w.heap.size, 0, none⟩)] trivial (enters_of Tryz.func144 (by kernel_rfl) rfl) _ 0 (Nat.zero_le _) (by omega) _ hseq



end Go.Proofs.YtfolmcpfdcgliaaGreat.B
