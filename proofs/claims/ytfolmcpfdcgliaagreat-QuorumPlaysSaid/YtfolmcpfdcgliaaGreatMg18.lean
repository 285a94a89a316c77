import Derived.Test.YtfolmcpfdcgliaaGreatMg4
set_option linter.unusedVariables false
set_option linter.unusedSimpArgs false
set_option maxRecDepth 8000
namespace Go.Proofs.YtfolmcpfdcgliaaGreat.B
open Go
structure File where
  data : ByteArray
  synced : Int
structure Disk where
  files : List (ByteArray × File)
  room : Int
  used : Int
  fuse : Int
  down : Bool
abbrev noStr : ByteArray := ⟨#[]⟩
theorem noStr_size : noStr.size = 0 := rfl
def fsize (f : ByteArray × File) : Int := (f.2.data.size : Int)
def sumSize (l : List (ByteArray × File)) : Int := (l.map fsize).sum
structure FileOk (f : File) : Prop where
  s0 : 0 ≤ f.synced
  s1 : f.synced ≤ (f.data.size : Int)
  most : f.data.size ≤ 400000
structure DiskOk (D : Disk) : Prop where
  nodup : (D.files.map (·.1)).Nodup
  fileOk : ∀ x ∈ D.files, FileOk x.2
  keys : ∀ x ∈ D.files, 1 ≤ x.1.size ∧ x.1.size ≤ 30
  count : D.files.length ≤ 20
  used : D.used = sumSize D.files
  room0 : D.used ≤ D.room
  room1 : D.room ≤ 9223372036854775807
  fuse0 : 0 ≤ D.fuse
  fuse1 : D.fuse ≤ 9223372036854775807
def Disk.blow (D : Disk) : Bool × Disk :=
  if 0 < D.fuse then (decide (D.fuse - 1 = 0), { D with fuse := D.fuse - 1, down := decide (D.fuse - 1 = 0) }) else (D.down, D)
def Disk.new (room : Int) : Disk := ⟨[], max room 0, 0, 0, false⟩
def Disk.at (D : Disk) (name : ByteArray) : File := (aget D.files name).getD ⟨noStr, 0⟩
def Disk.has (D : Disk) (name : ByteArray) : Bool := (aget D.files name).isSome
def Disk.append (D : Disk) (name data : ByteArray) : Int × Disk :=
  if D.down = true then (12, D)
  else if name = noStr ∨ 30 < (name.size : Int) then (1, D)
  else if 400000 - ((D.at name).data.size : Int) < (data.size : Int) ∨ (D.has name = false ∧ 20 ≤ (D.files.length : Int)) then (4, D)
  else if D.room - D.used < (data.size : Int) then (8, D)
  else if D.blow.1 = true then (12, D.blow.2)
  else (0, { D.blow.2 with files := aput D.files name ⟨(D.at name).data ++ data, (D.at name).synced⟩, used := D.used + data.size })
def Disk.sync (D : Disk) (name : ByteArray) : Int × Disk :=
  if D.down = true then (12, D)
  else if D.has name = false then (5, D)
  else if D.blow.1 = true then (12, D.blow.2)
  else (0, { D.blow.2 with files := aput D.files name ⟨(D.at name).data, (D.at name).data.size⟩ })
def Disk.delete (D : Disk) (name : ByteArray) : Int × Disk :=
  if D.down = true then (12, D)
  else if D.has name = false then (5, D)
  else if D.blow.1 = true then (12, D.blow.2)
  else (0, { D.blow.2 with files := adel D.files name, used := D.used - (D.at name).data.size })
def Disk.rename (D : Disk) (frm to : ByteArray) : Int × Disk :=
  if D.down = true then (12, D)
  else if to = noStr ∨ 30 < (to.size : Int) then (1, D)
  else if D.has frm = false then (5, D)
  else if D.blow.1 = true then (12, D.blow.2)
  else if frm = to then (0, D.blow.2)
  else (0, { D.blow.2 with files := aput (adel D.files frm) to (D.at frm), used := D.used - (D.at to).data.size })
def Disk.read (D : Disk) (name : ByteArray) : ByteArray × Int :=
  if D.down = true then (noStr, 12) else if D.has name = false then (noStr, 5) else ((D.at name).data, 0)
section
variable {κ ν : Type} [DecidableEq κ]
theorem aget_mem : ∀ {l : List (κ × ν)} {k : κ} {y : ν}, aget l k = some y → (k, y) ∈ l
  | [], _, _, h => by cases h
  | (k', z) :: r, k, y, h => by
    simp only [aget] at h
    split at h
    · rename_i e; subst e; injection h with h; subst h; exact List.mem_cons_self ..
    · exact List.mem_cons_of_mem _ (aget_mem h)
theorem aget_none : ∀ {l : List (κ × ν)} {k : κ}, aget l k = none ↔ k ∉ l.map (·.1)
  | [], k => by simp [aget]
  | (k', z) :: r, k => by
    simp only [aget, List.map_cons, List.mem_cons, not_or]
    split
    · rename_i e; simp [e]
    · rename_i e
      rw [aget_none]
      exact ⟨fun h => ⟨fun e' => e e'.symm, h⟩, fun h => h.2⟩
theorem aget_aput : ∀ (l : List (κ × ν)) (k k' : κ) (x : ν), aget (aput l k x) k' = if k = k' then some x else aget l k'
  | [], k, k', x => by simp only [aput, aget]
  | (j, z) :: r, k, k', x => by
    simp only [aput]
    by_cases e : j = k
    · subst e
      simp only [if_true, aget]
      split <;> rfl
    · rw [if_neg e]
      simp only [aget, aget_aput r k k' x]
      by_cases e2 : j = k'
      · subst e2
        rw [if_pos rfl, if_pos rfl, if_neg (fun h => e h.symm)]
      · rw [if_neg e2, if_neg e2]
theorem aget_adel : ∀ {l : List (κ × ν)} (k k' : κ), (l.map (·.1)).Nodup → aget (adel l k) k' = if k = k' then none else aget l k'
  | [], k, k', _ => by simp [adel, aget]
  | (j, z) :: r, k, k', h => by
    simp only [List.map_cons, List.nodup_cons] at h
    simp only [adel]
    by_cases e : j = k
    · subst e
      simp only [if_true, aget]
      split
      · rename_i e2; subst e2; exact aget_none.2 h.1
      · rfl
    · rw [if_neg e]
      simp only [aget, aget_adel k k' h.2]
      by_cases e2 : j = k'
      · subst e2
        rw [if_pos rfl, if_pos rfl, if_neg (fun h => e h.symm)]
      · rw [if_neg e2, if_neg e2]
theorem aput_keys : ∀ (l : List (κ × ν)) (k : κ) (x : ν), (aput l k x).map (·.1) = if k ∈ l.map (·.1) then l.map (·.1) else l.map (·.1) ++ [k]
  | [], k, x => by simp [aput]
  | (j, z) :: r, k, x => by
    simp only [aput]
    by_cases e : j = k
    · subst e; simp
    · rw [if_neg e]
      simp only [List.map_cons, List.mem_cons, aput_keys r k x]
      by_cases e2 : k ∈ r.map (·.1)
      · simp [e2]
      · simp [e2]
        exact fun h => e h.symm
theorem aput_nodup {l : List (κ × ν)} {k : κ} {x : ν} (h : (l.map (·.1)).Nodup) : ((aput l k x).map (·.1)).Nodup := by
  rw [aput_keys]
  split
  · exact h
  · rename_i e
    rw [List.nodup_append]
    exact ⟨h, by simp, fun a ha b hb => by simp only [List.mem_singleton] at hb; subst hb; exact fun e' => e (e' ▸ ha)⟩
theorem adel_sub : ∀ (l : List (κ × ν)) (k : κ), (adel l k).Sublist l
  | [], _ => .slnil
  | (j, z) :: r, k => by
    simp only [adel]
    split
    · exact List.sublist_cons_self ..
    · exact (adel_sub r k).cons_cons _
theorem adel_nodup {l : List (κ × ν)} {k : κ} (h : (l.map (·.1)).Nodup) : ((adel l k).map (·.1)).Nodup := h.sublist ((adel_sub l k).map _)
theorem aput_mem : ∀ {l : List (κ × ν)} {k : κ} {x : ν} {y : κ × ν}, y ∈ aput l k x → y = (k, x) ∨ y ∈ l
  | [], k, x, y, h => by simp only [aput, List.mem_singleton] at h; exact .inl h
  | (j, z) :: r, k, x, y, h => by
    simp only [aput] at h
    split at h
    · rcases List.mem_cons.1 h with h | h
      · exact .inl h
      · exact .inr (List.mem_cons_of_mem _ h)
    · rcases List.mem_cons.1 h with h | h
      · exact .inr (h ▸ List.mem_cons_self ..)
      · rcases aput_mem h with h | h
        · exact .inl h
        · exact .inr (List.mem_cons_of_mem _ h)
theorem aput_length : ∀ (l : List (κ × ν)) (k : κ) (x : ν), (aput l k x).length = match aget l k with | some _ => l.length | none => l.length + 1
  | [], k, x => by simp [aput, aget]
  | (j, z) :: r, k, x => by
    simp only [aput, aget]
    split
    · rfl
    · simp only [List.length_cons, aput_length r k x]
      split <;> rfl
end
theorem sum_aput : ∀ (l : List (ByteArray × File)) (k : ByteArray) (x : File), sumSize (aput l k x) = sumSize l + x.data.size - (match aget l k with | some y => (y.data.size : Int) | none => 0)
  | [], k, x => by simp [aput, aget, sumSize, fsize]
  | (j, z) :: r, k, x => by
    simp only [aput, aget]
    split
    · simp only [sumSize, fsize, List.map_cons, List.sum_cons]; omega
    · have := sum_aput r k x
      simp only [sumSize, List.map_cons, List.sum_cons] at this ⊢
      rw [this]; omega
theorem sum_adel : ∀ (l : List (ByteArray × File)) (k : ByteArray), sumSize (adel l k) = sumSize l - (match aget l k with | some y => (y.data.size : Int) | none => 0)
  | [], k => by simp [adel, aget, sumSize]
  | (j, z) :: r, k => by
    simp only [adel, aget]
    split
    · simp only [sumSize, fsize, List.map_cons, List.sum_cons]; omega
    · have := sum_adel r k
      simp only [sumSize, List.map_cons, List.sum_cons] at this ⊢
      rw [this]; omega
theorem sum_nonneg : ∀ (l : List (ByteArray × File)), 0 ≤ sumSize l
  | [] => by simp [sumSize]
  | x :: r => by
    have := sum_nonneg r
    simp only [sumSize, fsize, List.map_cons, List.sum_cons] at this ⊢
    omega
section
variable {D : Disk} (h : DiskOk D)
include h
theorem DiskOk.used0 : 0 ≤ D.used := by rw [h.used]; exact sum_nonneg _
theorem DiskOk.at_ok (name : ByteArray) : FileOk (D.at name) := by
  unfold Disk.at
  cases hg : aget D.files name with
  | none => exact ⟨by simp, by simp, by simp [noStr_size]⟩
  | some f => exact h.fileOk _ (aget_mem hg)
theorem DiskOk.blow : DiskOk D.blow.2 := by
  have h0 := h.fuse0
  have h1 := h.fuse1
  unfold Disk.blow
  split
  · exact ⟨h.nodup, h.fileOk, h.keys, h.count, h.used, h.room0, h.room1, by simp only; omega, by simp only; omega⟩
  · exact h
omit h in
theorem blow_same : D.blow.2.files = D.files ∧ D.blow.2.room = D.room ∧ D.blow.2.used = D.used := by unfold Disk.blow; split <;> exact ⟨rfl, rfl, rfl⟩
theorem append_ok (name data : ByteArray) (hn : name.size ≠ 0 → True) : DiskOk (D.append name data).2 := by
  unfold Disk.append
  split; · exact h
  split; · exact h
  split; · exact h
  split; · exact h
  split; · exact h.blow
  rename_i h1 h2 h3 h4 h5
  obtain ⟨e1, e2, e3⟩ := blow_same (D := D)
  have hf := h.at_ok name
  have hb := h.blow
  simp only [not_or, Int.not_lt] at h2 h3 h4
  have hsz : ((D.at name).data ++ data).size = (D.at name).data.size + data.size := ByteArray.size_append
  refine ⟨aput_nodup h.nodup, fun x hx => ?_, fun x hx => ?_, ?_, ?_, ?_, ?_, hb.fuse0, hb.fuse1⟩
  · rcases aput_mem hx with rfl | hx
    · exact ⟨hf.s0, by have := hf.s1; simp only [hsz]; omega, by simp only [hsz]; omega⟩
    · exact h.fileOk x hx
  · rcases aput_mem hx with rfl | hx
    · refine ⟨?_, by simp only; omega⟩
      rcases Nat.eq_zero_or_pos name.size with e | e
      · exfalso; exact h2.1 (by cases name with | mk d => simp only [ByteArray.size] at e; simp only [noStr, ByteArray.mk.injEq]; exact Array.eq_empty_of_size_eq_zero e)
      · exact e
    · exact h.keys x hx
  · simp only [aput_length]
    have hc := h.count
    cases hg : aget D.files name with
    | some f => exact hc
    | none =>
      simp only [Disk.has, hg, Option.isSome_none, true_and] at h3
      simp only; omega
  · simp only [sum_aput, h.used, hsz]
    unfold Disk.at
    cases hg : aget D.files name with
    | some f => simp; omega
    | none => simp [noStr_size]
  · simp only [e2]; omega
  · simp only [e2]; exact h.room1
theorem sync_ok (name : ByteArray) : DiskOk (D.sync name).2 := by
  unfold Disk.sync
  split; · exact h
  split; · exact h
  split; · exact h.blow
  rename_i h1 h2 h3
  obtain ⟨e1, e2, e3⟩ := blow_same (D := D)
  have hf := h.at_ok name
  have hb := h.blow
  cases hg : aget D.files name with
  | none => simp [Disk.has, hg] at h2
  | some f =>
    have hat : D.at name = f := by simp [Disk.at, hg]
    refine ⟨aput_nodup h.nodup, fun x hx => ?_, fun x hx => ?_, ?_, ?_, ?_, ?_, hb.fuse0, hb.fuse1⟩
    · rcases aput_mem hx with rfl | hx
      · exact ⟨by simp, by simp, hf.most⟩
      · exact h.fileOk x hx
    · rcases aput_mem hx with rfl | hx
      · have := h.keys _ (aget_mem hg); exact this
      · exact h.keys x hx
    · simp only [aput_length, hg]; exact h.count
    · simp only [sum_aput, hg, hat, e3, h.used]; omega
    · simp only [e2, e3]; exact h.room0
    · simp only [e2]; exact h.room1
theorem delete_ok (name : ByteArray) : DiskOk (D.delete name).2 := by
  unfold Disk.delete
  split; · exact h
  split; · exact h
  split; · exact h.blow
  rename_i h1 h2 h3
  obtain ⟨e1, e2, e3⟩ := blow_same (D := D)
  have hb := h.blow
  cases hg : aget D.files name with
  | none => simp [Disk.has, hg] at h2
  | some f =>
    have hat : D.at name = f := by simp [Disk.at, hg]
    refine ⟨adel_nodup h.nodup, fun x hx => h.fileOk x ((adel_sub _ _).mem hx), fun x hx => h.keys x ((adel_sub _ _).mem hx), ?_, ?_, ?_, ?_, hb.fuse0, hb.fuse1⟩
    · have := (adel_sub D.files name).length_le
      have := h.count
      simp only; omega
    · simp only [sum_adel, hg, hat, h.used]
    · have := h.room0
      simp only [e2]; omega
    · simp only [e2]; exact h.room1
theorem rename_ok (frm to : ByteArray) : DiskOk (D.rename frm to).2 := by
  unfold Disk.rename
  split; · exact h
  split; · exact h
  split; · exact h
  split; · exact h.blow
  split; · exact h.blow
  rename_i h1 h2 h3 h4 h5
  obtain ⟨e1, e2, e3⟩ := blow_same (D := D)
  have hb := h.blow
  simp only [not_or, Int.not_lt] at h2
  cases hg : aget D.files frm with
  | none => simp [Disk.has, hg] at h3
  | some f =>
    have hat : D.at frm = f := by simp [Disk.at, hg]
    have hfo := h.fileOk _ (aget_mem hg)
    have hto : aget (adel D.files frm) to = aget D.files to := by rw [aget_adel _ _ h.nodup, if_neg h5]
    have hlen : (adel D.files frm).length + 1 = D.files.length := by
      rw [adel_idx]
      have := aget_idx D.files frm
      rw [hg] at this
      cases hi : aidx D.files frm with
      | none => rw [hi] at this; cases this
      | some p =>
        obtain ⟨j, y⟩ := p
        have := (List.getElem?_eq_some_iff.1 (aidx_lt hi)).1
        simp only [List.length_eraseIdx, if_pos this]; omega
    refine ⟨aput_nodup (adel_nodup h.nodup), fun x hx => ?_, fun x hx => ?_, ?_, ?_, ?_, ?_, hb.fuse0, hb.fuse1⟩
    · rcases aput_mem hx with rfl | hx
      · rw [hat]; exact hfo
      · exact h.fileOk x ((adel_sub _ _).mem hx)
    · rcases aput_mem hx with rfl | hx
      · refine ⟨?_, by have := h2.2; simp only; omega⟩
        rcases Nat.eq_zero_or_pos to.size with e | e
        · exfalso; exact h2.1 (by cases to with | mk d => simp only [ByteArray.size] at e; simp only [noStr, ByteArray.mk.injEq]; exact Array.eq_empty_of_size_eq_zero e)
        · exact e
      · exact h.keys x ((adel_sub _ _).mem hx)
    · simp only [aput_length]
      have hc := h.count
      split
      · show (adel D.files frm).length ≤ 20
        omega
      · show (adel D.files frm).length + 1 ≤ 20
        omega
    · simp only [sum_aput, sum_adel, hg, hat, hto, h.used]
      unfold Disk.at
      cases hg2 : aget D.files to with
      | some g => simp <;> omega
      | none => simp [noStr_size] <;> omega
    · have := h.room0
      simp only [e2]; omega
    · simp only [e2]; exact h.room1
end
theorem new_ok (room : Int) (h : room ≤ 9223372036854775807) : DiskOk (Disk.new room) :=
  ⟨by simp [Disk.new], by simp [Disk.new], by simp [Disk.new], by simp [Disk.new], by simp [Disk.new, sumSize], by simp [Disk.new]; omega, by simp [Disk.new]; omega, by simp [Disk.new], by simp [Disk.new]⟩
end Go.Proofs.YtfolmcpfdcgliaaGreat.B
