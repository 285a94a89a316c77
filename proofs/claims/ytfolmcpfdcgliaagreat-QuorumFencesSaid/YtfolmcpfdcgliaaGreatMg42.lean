import Derived.Test.YtfolmcpfdcgliaaGreatMg40
import Derived.Test.YtfolmcpfdcgliaaGreatMg35
import Derived.Sort.Walk0
set_option linter.unusedVariables false
set_option linter.unusedSimpArgs false
set_option linter.unusedSectionVars false
set_option maxRecDepth 8000
/-! The document's disk does what the disk does: in plain words. -/
namespace Go.Proofs.YtfolmcpfdcgliaaGreat.B
open Go Go.Proofs

def syncF (name : ByteArray) (l : List RFile) : List RFile := match findF name l with
  | some i => (match l[i]? with | some f => l.set i { f with syn := f.data.size } | none => l)
  | none => l
def outF (name : ByteArray) (l : List RFile) : List RFile := match findF name l with
  | some i => l.eraseIdx i
  | none => l
def RDisk.fileAt (R : RDisk) (name : ByteArray) : RFile := match findF name R.files with | some i => (R.files[i]?).getD ⟨⟨#[]⟩, ⟨#[]⟩, 0⟩ | none => ⟨⟨#[]⟩, ⟨#[]⟩, 0⟩
def RDisk.sync (R : RDisk) (name : ByteArray) : Int × RDisk :=
  if R.off = true then (12, R)
  else if atF name R.files < 0 then (5, R)
  else if R.blow.1 = true then (12, R.blow.2)
  else (0, { R.blow.2 with files := syncF name R.files })
def RDisk.delete (R : RDisk) (name : ByteArray) : Int × RDisk :=
  if R.off = true then (12, R)
  else if atF name R.files < 0 then (5, R)
  else if R.blow.1 = true then (12, R.blow.2)
  else (0, { R.blow.2 with files := outF name R.files })
def RDisk.rename (R : RDisk) (frm to : ByteArray) : Int × RDisk :=
  if R.off = true then (12, R)
  else if ¬ (1 ≤ (to.size : Int) ∧ (to.size : Int) ≤ 30) then (1, R)
  else if atF frm R.files < 0 then (5, R)
  else if R.blow.1 = true then (12, R.blow.2)
  else if frm = to then (0, R.blow.2)
  else (0, { R.blow.2 with files := insF { R.fileAt frm with name := to } (outF to (outF frm R.files)) })
def RDisk.light (R : RDisk) (n : Int) : RDisk := { R with left := max n 0 }
def RDisk.list (R : RDisk) : List ByteArray := if R.off = true then [] else R.files.map (·.name)
def RDisk.usedOf (R : RDisk) : Int := if R.off = true then 0 else sumF R.files
def crE (f : RFile) (c : Int) : List RFile := match crashF ⟨f.data, f.syn⟩ c with | none => [] | some g => [⟨f.name, g.data, g.synced⟩]
def crT (keeps : List Int) (l : List RFile) : Nat → List RFile
  | 0 => []
  | i + 1 => crT keeps l i ++ (match l[i]? with | some f => crE f (keepN keeps i) | none => [])
def RDisk.crash (R : RDisk) (keeps : List Int) : RDisk := ⟨R.room, crT keeps R.files R.files.length, 0, false⟩

/-! ### Lists in the order of their names -/
def ltF (a b : RFile) : Prop := toL a.name < toL b.name
def SortF (l : List RFile) : Prop := l.Pairwise ltF
theorem lt_ne {a b : RFile} (h : ltF a b) : a.name ≠ b.name := fun e => by unfold ltF at h; rw [e] at h; exact absurd h (List.lt_irrefl _)
theorem SortF.names {l : List RFile} (h : SortF l) : (l.map (·.name)).Nodup := List.pairwise_map.2 (h.imp fun h => lt_ne h)
theorem SortF.nodup {l : List RFile} (h : SortF l) : l.Nodup := List.Pairwise.imp (R := ltF) (fun {a b} h (e : a = b) => lt_ne h (congrArg RFile.name e)) h
theorem sort_ext {l l' : List RFile} (h : SortF l) (h' : SortF l') (hm : ∀ f, f ∈ l ↔ f ∈ l') : l = l' := by
  have hp := (List.perm_ext_iff_of_nodup h.nodup h'.nodup).2 hm
  refine List.Perm.eq_of_pairwise (le := ltF) (fun a b _ _ h1 h2 => ?_) h h' hp
  exact absurd (List.lt_trans h1 h2) (List.lt_irrefl _)
theorem SortF.inj {l : List RFile} (h : SortF l) {i j : Nat} {f g : RFile} (hi : l[i]? = some f) (hj : l[j]? = some g) (e : f.name = g.name) : i = j := by
  obtain ⟨li, ei⟩ := List.getElem?_eq_some_iff.1 hi
  obtain ⟨lj, ej⟩ := List.getElem?_eq_some_iff.1 hj
  have h1 := List.pairwise_iff_getElem.1 h
  rcases Nat.lt_trichotomy i j with hlt | rfl | hlt
  · have := lt_ne (h1 i j li lj hlt); rw [ei, ej] at this; exact absurd e this
  · rfl
  · have := lt_ne (h1 j i lj li hlt); rw [ei, ej] at this; exact absurd e.symm this
theorem find_of_mem {l : List RFile} (h : SortF l) {f : RFile} (hf : f ∈ l) : ∃ i, findF f.name l = some i ∧ l[i]? = some f := by
  obtain ⟨i, hi⟩ := List.mem_iff_getElem?.1 hf
  exact ⟨i, findF_some hi rfl (fun j g hj hg e => by have := h.inj hg hi e; omega), hi⟩
theorem find_no {l : List RFile} {nm : ByteArray} (h : findF nm l = none) : ∀ f ∈ l, f.name ≠ nm := fun f hf e => by
  unfold findF at h
  rw [List.findIdx?_eq_none_iff] at h
  have := h f hf
  simp [e] at this
theorem mem_set {l : List RFile} (h : SortF l) {i : Nat} {f0 f1 : RFile} (hi : l[i]? = some f0) (hn : f1.name = f0.name) {f : RFile} : f ∈ l.set i f1 ↔ f = f1 ∨ (f ∈ l ∧ f.name ≠ f0.name) := by
  obtain ⟨li, ei⟩ := List.getElem?_eq_some_iff.1 hi
  rw [List.mem_iff_getElem?]
  constructor
  · rintro ⟨j, hj⟩
    rw [List.getElem?_set] at hj
    split at hj
    · first
        | (split at hj
           · injection hj with hj; exact .inl hj.symm
           · cases hj)
        | (injection hj with hj; exact .inl hj.symm)
    · rename_i hne
      exact .inr ⟨List.mem_iff_getElem?.2 ⟨j, hj⟩, fun e => hne (h.inj hj hi e).symm⟩
  · rintro (rfl | ⟨hf, hne⟩)
    · exact ⟨i, by rw [List.getElem?_set, if_pos rfl, if_pos li]⟩
    · obtain ⟨j, hj⟩ := List.mem_iff_getElem?.1 hf
      refine ⟨j, ?_⟩
      rw [List.getElem?_set, if_neg (fun e => by subst e; rw [hi] at hj; injection hj with hj; exact hne (by rw [hj])), hj]
theorem set_sort {l : List RFile} (h : SortF l) {i : Nat} {f0 f1 : RFile} (hi : l[i]? = some f0) (hn : f1.name = f0.name) : SortF (l.set i f1) := by
  obtain ⟨li, ei⟩ := List.getElem?_eq_some_iff.1 hi
  have e : (l.set i f1).map (·.name) = l.map (·.name) := by
    rw [List.map_set, hn, ← ei, ← List.getElem_map (f := fun x : RFile => x.name) (h := by simpa using li), List.set_getElem_self]
  have h1 : ((l.set i f1).map (·.name)).Pairwise (fun a b => toL a < toL b) := by rw [e]; exact List.pairwise_map.2 h
  exact (List.pairwise_map (f := fun x : RFile => x.name)).1 h1
theorem mem_erase {l : List RFile} (h : SortF l) {i : Nat} {f0 : RFile} (hi : l[i]? = some f0) {f : RFile} : f ∈ l.eraseIdx i ↔ f ∈ l ∧ f.name ≠ f0.name := by
  rw [List.mem_eraseIdx_iff_getElem?]
  constructor
  · rintro ⟨j, hj, hjf⟩
    exact ⟨List.mem_iff_getElem?.2 ⟨j, hjf⟩, fun e => hj (h.inj hjf hi e)⟩
  · rintro ⟨hf, hne⟩
    obtain ⟨j, hj⟩ := List.mem_iff_getElem?.1 hf
    exact ⟨j, fun e => by subst e; rw [hi] at hj; injection hj with hj; exact hne (by rw [hj]), hj⟩
theorem mem_out {l : List RFile} (h : SortF l) {nm : ByteArray} {f : RFile} : f ∈ outF nm l ↔ f ∈ l ∧ f.name ≠ nm := by
  unfold outF
  cases hf : findF nm l with
  | none => exact ⟨fun h1 => ⟨h1, find_no hf f h1⟩, fun h1 => h1.1⟩
  | some i =>
    obtain ⟨f0, h0, rfl⟩ := findF_get hf
    exact mem_erase h h0
theorem out_sort {l : List RFile} (h : SortF l) (nm : ByteArray) : SortF (outF nm l) := by
  unfold outF
  split
  · exact h.sublist (List.eraseIdx_sublist ..)
  · exact h
theorem bl_iff {a b : ByteArray} : bl a b = true ↔ toL a < toL b := by
  unfold bl
  rw [bytesLess_eq, Lib.toList_data, Lib.toList_data, decide_eq_true_iff]; rfl
theorem mem_ins {f0 f : RFile} {l : List RFile} : f ∈ insF f0 l ↔ f = f0 ∨ f ∈ l := by
  unfold insF
  rw [List.mem_append, List.mem_append, List.mem_singleton]
  constructor
  · rintro ((h | h) | h)
    · exact .inr (List.mem_of_mem_take h)
    · exact .inl h
    · exact .inr (List.mem_of_mem_drop h)
  · rintro (h | h)
    · exact .inl (.inr h)
    · rw [← List.take_append_drop (posF f0.name l) l] at h
      rcases List.mem_append.1 h with h | h
      · exact .inl (.inl h)
      · exact .inr h
theorem ins_sort {f0 : RFile} {l : List RFile} (h : SortF l) (hn : ∀ f ∈ l, f.name ≠ f0.name) : SortF (insF f0 l) := by
  have ht : l.take (posF f0.name l) = l.takeWhile fun f => bl f.name f0.name := by
    unfold posF
    induction l with
    | nil => rfl
    | cons a r ih =>
      simp only [List.takeWhile_cons]
      split
      · simp only [List.length_cons, List.take_succ_cons]
        rw [ih (List.Pairwise.of_cons h) (fun f hf => hn f (List.mem_cons_of_mem _ hf))]
      · rfl
  have hdw : l.drop (posF f0.name l) = l.dropWhile fun f => bl f.name f0.name := by
    have e1 := List.take_append_drop (posF f0.name l) l
    have e2 := List.takeWhile_append_dropWhile (p := fun f : RFile => bl f.name f0.name) (l := l)
    rw [ht] at e1
    exact List.append_cancel_left (e1.trans e2.symm)
  have hsub := h.sublist (List.drop_sublist (posF f0.name l) l)
  have hd : ∀ f ∈ l.drop (posF f0.name l), ltF f0 f := by
    intro f hf
    have h0 : ∀ g, (l.drop (posF f0.name l)).head? = some g → ltF f0 g := fun g hg => by
      have hgm : g ∈ l := List.mem_of_mem_drop (List.mem_of_mem_head? (by rw [hg]; rfl))
      rw [hdw] at hg
      have hb := List.head?_dropWhile_not (fun f : RFile => bl f.name f0.name) l
      rw [hg] at hb
      have hb' : ¬ toL g.name < toL f0.name := fun e => by rw [← bl_iff] at e; simp [e] at hb
      unfold ltF
      exact Decidable.byContradiction fun hc => hn g hgm (toL_inj (List.le_antisymm (List.not_lt.1 hc) (List.not_lt.1 hb')))
    cases hl : l.drop (posF f0.name l) with
    | nil => rw [hl] at hf; cases hf
    | cons g r =>
      rw [hl] at hf h0 hsub
      have hg := h0 g rfl
      rcases List.mem_cons.1 hf with rfl | hr
      · exact hg
      · exact List.lt_trans hg ((List.pairwise_cons.1 hsub).1 f hr)
  have htk : ∀ f ∈ l.take (posF f0.name l), ltF f f0 := by
    intro f hf
    rw [ht] at hf
    have := List.all_takeWhile (p := fun f : RFile => bl f.name f0.name) (l := l)
    exact bl_iff.1 (List.all_eq_true.1 this f hf)
  unfold insF SortF
  rw [List.append_assoc, List.pairwise_append]
  refine ⟨h.sublist (List.take_sublist ..), ?_, ?_⟩
  · rw [List.singleton_append, List.pairwise_cons]
    exact ⟨hd, hsub⟩
  · intro a ha b hb
    rw [List.singleton_append] at hb
    rcases List.mem_cons.1 hb with rfl | hb
    · exact htk a ha
    · exact List.lt_trans (htk a ha) (hd b hb)
end Go.Proofs.YtfolmcpfdcgliaaGreat.B
