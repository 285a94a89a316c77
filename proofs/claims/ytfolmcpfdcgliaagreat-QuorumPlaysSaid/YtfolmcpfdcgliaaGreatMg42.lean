import Derived.Test.YtfolmcpfdcgliaaGreatMg41
set_option linter.unusedVariables false
set_option linter.unusedSimpArgs false
set_option linter.unusedSectionVars false
set_option maxRecDepth 8000
namespace Go.Proofs.YtfolmcpfdcgliaaGreat.B
open Go Go.Proofs
def mkR (D : Disk) (nm : ByteArray) : RFile := ⟨nm, (D.at nm).data, (D.at nm).synced⟩
def recF (D : Disk) : List RFile := D.names.map (mkR D)
def toR (D : Disk) : RDisk := ⟨D.room, recF D, D.fuse, D.down⟩
section
variable {D : Disk} (h : DiskOk D)
include h
theorem rec_sort : SortF (recF D) := List.pairwise_map.2 (sortS_lt h.nodup)
theorem rec_mem {f : RFile} : f ∈ recF D ↔ aget D.files f.name = some ⟨f.data, f.syn⟩ := by
  unfold recF
  rw [List.mem_map]
  constructor
  · rintro ⟨nm, hn, rfl⟩
    exact has_at h ((names_has h).1 hn)
  · intro hg
    refine ⟨f.name, (names_has h).2 (by simp [Disk.has, hg]), ?_⟩
    simp only [mkR, Disk.at, hg, Option.getD_some]
theorem rec_unique {l : List RFile} (hs : SortF l) (hm : ∀ f, f ∈ l ↔ aget D.files f.name = some ⟨f.data, f.syn⟩) : l = recF D :=
  sort_ext hs (rec_sort h) (fun f => (hm f).trans (rec_mem h).symm)
theorem rec_some {nm : ByteArray} {g : File} (hg : aget D.files nm = some g) : ∃ i, findF nm (recF D) = some i ∧ (recF D)[i]? = some ⟨nm, g.data, g.synced⟩ :=
  find_of_mem (rec_sort h) (f := ⟨nm, g.data, g.synced⟩) ((rec_mem h).2 hg)
theorem rec_none {nm : ByteArray} (hg : aget D.files nm = none) : findF nm (recF D) = none := by
  cases hf : findF nm (recF D) with
  | none => rfl
  | some i =>
    obtain ⟨f0, h0, rfl⟩ := findF_get hf
    have := (rec_mem h).1 (List.mem_of_getElem? h0)
    rw [hg] at this; cases this
theorem rec_len : (recF D).length = D.files.length := by unfold recF; rw [List.length_map, names_len h]
theorem rec_sum : sumF (recF D) = D.used := by
  rw [h.used, ← restSum_all h]
  unfold sumF recF restSum
  rw [List.map_map, List.drop_zero]; rfl
theorem toR_ok : ROk (toR D) := by
  refine ⟨by show (recF D).length ≤ 20; rw [rec_len h]; exact h.count, fun f hf => ?_, h.fuse0, h.fuse1, Int.le_trans h.used0 h.room0, h.room1⟩
  exact (h.fileOk _ (aget_mem ((rec_mem h).1 hf))).most
theorem rec_syn {f : RFile} (hf : f ∈ recF D) : FileOk ⟨f.data, f.syn⟩ := h.fileOk _ (aget_mem ((rec_mem h).1 hf))
theorem atF_has (nm : ByteArray) : (atF nm (recF D) < 0) ↔ D.has nm = false := by
  unfold atF Disk.has
  cases hg : aget D.files nm with
  | none => rw [rec_none h hg]; simp
  | some g => obtain ⟨i, hi, _⟩ := rec_some h hg; rw [hi]; simp
theorem dataAt_eq (nm : ByteArray) : (toR D).dataAt nm = (D.at nm).data := by
  unfold RDisk.dataAt Disk.at
  cases hg : aget D.files nm with
  | none => rw [show (toR D).files = recF D from rfl, rec_none h hg]; rfl
  | some g => obtain ⟨i, hi, hi2⟩ := rec_some h hg; rw [show (toR D).files = recF D from rfl, hi]; simp only [hi2]; rfl
theorem toR_blow (hd : D.down = false) : (toR D).blow = (D.blow.1, toR D.blow.2) := by
  have h0 := h.fuse0
  unfold RDisk.blow Disk.blow
  by_cases hf : 0 < D.fuse
  · rw [if_pos hf, if_neg (by show ¬ D.fuse = 0; omega)]; rfl
  · rw [if_neg hf, if_pos (by show D.fuse = 0; omega), hd]
theorem toR_read (nm : ByteArray) : (toR D).read nm = D.read nm := by
  unfold RDisk.read Disk.read
  by_cases hd : D.down = true
  · rw [if_pos (show (toR D).off = true from hd), if_pos hd]
  · rw [if_neg (show ¬ (toR D).off = true from hd), if_neg hd]
    by_cases hh : D.has nm = false
    · rw [if_pos hh, if_pos (show atF nm (toR D).files < 0 from (atF_has h nm).2 hh)]
    · rw [if_neg hh, if_neg (show ¬ atF nm (toR D).files < 0 from fun e => hh ((atF_has h nm).1 e)), dataAt_eq h]
omit h in
theorem name_ok {nm : ByteArray} : (¬ (1 ≤ (nm.size : Int) ∧ (nm.size : Int) ≤ 30)) ↔ (nm = noStr ∨ 30 < (nm.size : Int)) := by
  constructor
  · intro hc
    by_cases h1 : 30 < (nm.size : Int)
    · exact .inr h1
    · exact .inl (by
        have : nm.size = 0 := by omega
        cases nm with | mk d => simp only [ByteArray.size] at this; simp only [noStr, ByteArray.mk.injEq]; exact Array.eq_empty_of_size_eq_zero this)
  · rintro (rfl | h1) hc
    · simp [noStr_size] at hc
    · omega
theorem toR_append (nm d : ByteArray) : (toR D).append nm d = ((D.append nm d).1, toR (D.append nm d).2) := by
  have hbs := blow_same (D := D)
  by_cases hd : D.down = true
  · rw [show D.append nm d = (12, D) from by unfold Disk.append; rw [if_pos hd], show (toR D).append nm d = (12, toR D) from by unfold RDisk.append; rw [if_pos (by exact hd)]]
  · have hdf : D.down = false := by simpa using hd
    by_cases hn : nm = noStr ∨ 30 < (nm.size : Int)
    · rw [show D.append nm d = (1, D) from by unfold Disk.append; rw [if_neg hd, if_pos hn], show (toR D).append nm d = (1, toR D) from by unfold RDisk.append; rw [if_neg (by exact hd), if_pos (name_ok.2 hn)]]
    · have hl : (400000 - ((D.at nm).data.size : Int) < (d.size : Int) ∨ (D.has nm = false ∧ 20 ≤ (D.files.length : Int))) ↔ (400000 < (d.size : Int) ∨ (0 ≤ atF nm (toR D).files ∧ 400000 < (((toR D).dataAt nm).size : Int) + d.size) ∨ (atF nm (toR D).files < 0 ∧ 20 ≤ ((toR D).files.length : Int))) := by
        rw [dataAt_eq h, show (toR D).files = recF D from rfl, rec_len h]
        have ha := atF_has h nm
        cases hh : D.has nm with
        | false =>
          have h1 := ha.2 hh
          have h2 : (D.at nm).data.size = 0 := by
            unfold Disk.has at hh
            unfold Disk.at
            cases hg : aget D.files nm with
            | none => rfl
            | some g => rw [hg] at hh; cases hh
          rw [h2]
          constructor
          · rintro (h3 | h3)
            · exact .inl (by omega)
            · exact .inr (.inr ⟨h1, h3.2⟩)
          · rintro (h3 | h3 | h3)
            · exact .inl (by omega)
            · omega
            · exact .inr ⟨rfl, h3.2⟩
        | true =>
          have h1 : ¬ atF nm (recF D) < 0 := fun e => by rw [ha.1 e] at hh; cases hh
          constructor
          · rintro (h3 | h3)
            · exact .inr (.inl ⟨by omega, by omega⟩)
            · cases h3.1
          · rintro (h3 | h3 | h3)
            · exact .inl (by omega)
            · exact .inl (by omega)
            · exact absurd h3.1 h1
      by_cases hlo : 400000 - ((D.at nm).data.size : Int) < (d.size : Int) ∨ (D.has nm = false ∧ 20 ≤ (D.files.length : Int))
      · rw [show D.append nm d = (4, D) from by unfold Disk.append; rw [if_neg hd, if_neg hn, if_pos hlo], show (toR D).append nm d = (4, toR D) from by unfold RDisk.append; rw [if_neg (by exact hd), if_neg (fun e => hn (name_ok.1 e)), if_pos (hl.1 hlo)]]
      · have hr : (toR D).room < sumF (toR D).files + d.size ↔ D.room - D.used < (d.size : Int) := by
          rw [show (toR D).files = recF D from rfl, rec_sum h, show (toR D).room = D.room from rfl]; omega
        by_cases hro : D.room - D.used < (d.size : Int)
        · rw [show D.append nm d = (8, D) from by unfold Disk.append; rw [if_neg hd, if_neg hn, if_neg hlo, if_pos hro], show (toR D).append nm d = (8, toR D) from by unfold RDisk.append; rw [if_neg (by exact hd), if_neg (fun e => hn (name_ok.1 e)), if_neg (fun e => hlo (hl.2 e)), if_pos (hr.2 hro)]]
        · by_cases hb : D.blow.1 = true
          · rw [show D.append nm d = (12, D.blow.2) from by unfold Disk.append; rw [if_neg hd, if_neg hn, if_neg hlo, if_neg hro, if_pos hb], show (toR D).append nm d = (12, toR D.blow.2) from by unfold RDisk.append; rw [if_neg (by exact hd), if_neg (fun e => hn (name_ok.1 e)), if_neg (fun e => hlo (hl.2 e)), if_neg (fun e => hro (hr.1 e)), toR_blow h hdf, if_pos hb]]
          · have ho := append_ok h nm d (fun _ => trivial)
            have e1 : D.append nm d = (0, { D.blow.2 with files := aput D.files nm ⟨(D.at nm).data ++ d, (D.at nm).synced⟩, used := D.used + d.size }) := by unfold Disk.append; rw [if_neg hd, if_neg hn, if_neg hlo, if_neg hro, if_neg hb]
            have e2 : (toR D).append nm d = (0, { toR D.blow.2 with files := addF nm d (recF D) }) := by unfold RDisk.append; rw [if_neg (by exact hd), if_neg (fun e => hn (name_ok.1 e)), if_neg (fun e => hlo (hl.2 e)), if_neg (fun e => hro (hr.1 e)), toR_blow h hdf, if_neg hb]; rfl
            rw [e1] at ho ⊢
            rw [e2]
            have key : addF nm d (recF D) = recF { D.blow.2 with files := aput D.files nm ⟨(D.at nm).data ++ d, (D.at nm).synced⟩, used := D.used + d.size } := by
              refine rec_unique ho ?_ (fun f => ?_)
              · unfold addF
                cases hg : aget D.files nm with
                | none =>
                  rw [rec_none h hg]
                  exact ins_sort (rec_sort h) (find_no (rec_none h hg))
                | some g =>
                  obtain ⟨i, hi, hi2⟩ := rec_some h hg
                  rw [hi]; simp only [hi2]
                  exact set_sort (rec_sort h) hi2 rfl
              · simp only [aget_aput]
                unfold addF
                cases hg : aget D.files nm with
                | none =>
                  have hat : D.at nm = ⟨noStr, 0⟩ := by simp [Disk.at, hg]
                  rw [rec_none h hg, hat]
                  simp only
                  rw [mem_ins, rec_mem h]
                  by_cases e : nm = f.name
                  · subst e
                    rw [if_pos rfl, hg]
                    simp only [reduceCtorEq, or_false, Option.some.injEq, File.mk.injEq]
                    rw [show noStr ++ d = d from by apply ByteArray.ext; simp [noStr, ByteArray.data_append]]
                    constructor
                    · intro h3; rw [h3]; exact ⟨rfl, rfl⟩
                    · rintro ⟨rfl, h3⟩; cases f; simp only at h3 ⊢; subst h3; rfl
                  · rw [if_neg e]
                    constructor
                    · rintro (h3 | h3)
                      · rw [h3] at e; exact absurd rfl e
                      · exact h3
                    · exact .inr
                | some g =>
                  obtain ⟨i, hi, hi2⟩ := rec_some h hg
                  have hat : D.at nm = g := by simp [Disk.at, hg]
                  rw [hi, hat]
                  simp only [hi2]
                  rw [mem_set (rec_sort h) (f1 := ⟨nm, g.data ++ d, g.synced⟩) hi2 rfl, rec_mem h]
                  by_cases e : nm = f.name
                  · subst e
                    rw [if_pos rfl]
                    simp only [ne_eq, not_true, and_false, or_false, Option.some.injEq, File.mk.injEq]
                    constructor
                    · intro h3; rw [h3]; exact ⟨rfl, rfl⟩
                    · rintro ⟨h3, h4⟩; cases f; simp only at h3 h4 ⊢; subst h3; subst h4; rfl
                  · rw [if_neg e]
                    constructor
                    · rintro (h3 | h3)
                      · rw [h3] at e; exact absurd rfl e
                      · exact h3.1
                    · exact fun h3 => .inr ⟨h3, fun e' => e e'.symm⟩
            rw [key]; rfl
theorem toR_light (n : Int) : (toR D).light n = toR (D.light n) := rfl
theorem toR_sync (nm : ByteArray) : (toR D).sync nm = ((D.sync nm).1, toR (D.sync nm).2) := by
  by_cases hd : D.down = true
  · rw [show D.sync nm = (12, D) from by unfold Disk.sync; rw [if_pos hd], show (toR D).sync nm = (12, toR D) from by unfold RDisk.sync; rw [if_pos (by exact hd)]]
  · have hdf : D.down = false := by simpa using hd
    by_cases hh : D.has nm = false
    · rw [show D.sync nm = (5, D) from by unfold Disk.sync; rw [if_neg hd, if_pos hh], show (toR D).sync nm = (5, toR D) from by unfold RDisk.sync; rw [if_neg (by exact hd), if_pos (show atF nm (toR D).files < 0 from (atF_has h nm).2 hh)]]
    · have hnn : ¬ atF nm (toR D).files < 0 := fun e => hh ((atF_has h nm).1 e)
      by_cases hb : D.blow.1 = true
      · rw [show D.sync nm = (12, D.blow.2) from by unfold Disk.sync; rw [if_neg hd, if_neg hh, if_pos hb], show (toR D).sync nm = (12, toR D.blow.2) from by unfold RDisk.sync; rw [if_neg (by exact hd), if_neg hnn, toR_blow h hdf, if_pos hb]]
      · have ho := sync_ok h nm
        have e1 : D.sync nm = (0, { D.blow.2 with files := aput D.files nm ⟨(D.at nm).data, (D.at nm).data.size⟩ }) := by unfold Disk.sync; rw [if_neg hd, if_neg hh, if_neg hb]
        have e2 : (toR D).sync nm = (0, { toR D.blow.2 with files := syncF nm (recF D) }) := by unfold RDisk.sync; rw [if_neg (by exact hd), if_neg hnn, toR_blow h hdf, if_neg hb]; rfl
        rw [e1] at ho ⊢
        rw [e2]
        obtain ⟨g, hg⟩ : ∃ g, aget D.files nm = some g := ⟨_, has_at h (by simpa using hh)⟩
        have hat : D.at nm = g := by simp [Disk.at, hg]
        obtain ⟨i, hi, hi2⟩ := rec_some h hg
        have key : syncF nm (recF D) = recF { D.blow.2 with files := aput D.files nm ⟨(D.at nm).data, (D.at nm).data.size⟩ } := by
          refine rec_unique ho ?_ (fun f => ?_)
          · unfold syncF
            rw [hi]; simp only [hi2]
            exact set_sort (rec_sort h) hi2 rfl
          · simp only [aget_aput]
            unfold syncF
            rw [hi, hat]; simp only [hi2]
            rw [mem_set (rec_sort h) (f1 := ⟨nm, g.data, g.data.size⟩) hi2 rfl, rec_mem h]
            by_cases e : nm = f.name
            · subst e
              rw [if_pos rfl]
              simp only [ne_eq, not_true, and_false, or_false, Option.some.injEq, File.mk.injEq]
              constructor
              · intro h3; rw [h3]; exact ⟨rfl, rfl⟩
              · rintro ⟨h3, h4⟩; cases f; simp only at h3 h4 ⊢; subst h3; subst h4; rfl
            · rw [if_neg e]
              constructor
              · rintro (h3 | h3)
                · rw [h3] at e; exact absurd rfl e
                · exact h3.1
              · exact fun h3 => .inr ⟨h3, fun e' => e e'.symm⟩
        rw [key]; rfl
theorem toR_delete (nm : ByteArray) : (toR D).delete nm = ((D.delete nm).1, toR (D.delete nm).2) := by
  by_cases hd : D.down = true
  · rw [show D.delete nm = (12, D) from by unfold Disk.delete; rw [if_pos hd], show (toR D).delete nm = (12, toR D) from by unfold RDisk.delete; rw [if_pos (by exact hd)]]
  · have hdf : D.down = false := by simpa using hd
    by_cases hh : D.has nm = false
    · rw [show D.delete nm = (5, D) from by unfold Disk.delete; rw [if_neg hd, if_pos hh], show (toR D).delete nm = (5, toR D) from by unfold RDisk.delete; rw [if_neg (by exact hd), if_pos (show atF nm (toR D).files < 0 from (atF_has h nm).2 hh)]]
    · have hnn : ¬ atF nm (toR D).files < 0 := fun e => hh ((atF_has h nm).1 e)
      by_cases hb : D.blow.1 = true
      · rw [show D.delete nm = (12, D.blow.2) from by unfold Disk.delete; rw [if_neg hd, if_neg hh, if_pos hb], show (toR D).delete nm = (12, toR D.blow.2) from by unfold RDisk.delete; rw [if_neg (by exact hd), if_neg hnn, toR_blow h hdf, if_pos hb]]
      · have ho := delete_ok h nm
        have e1 : D.delete nm = (0, { D.blow.2 with files := adel D.files nm, used := D.used - (D.at nm).data.size }) := by unfold Disk.delete; rw [if_neg hd, if_neg hh, if_neg hb]
        have e2 : (toR D).delete nm = (0, { toR D.blow.2 with files := outF nm (recF D) }) := by unfold RDisk.delete; rw [if_neg (by exact hd), if_neg hnn, toR_blow h hdf, if_neg hb]; rfl
        rw [e1] at ho ⊢
        rw [e2]
        have key : outF nm (recF D) = recF { D.blow.2 with files := adel D.files nm, used := D.used - (D.at nm).data.size } := by
          refine rec_unique ho (out_sort (rec_sort h) nm) (fun f => ?_)
          simp only [aget_adel _ _ h.nodup]
          rw [mem_out (rec_sort h), rec_mem h]
          by_cases e : nm = f.name
          · rw [if_pos e]
            exact ⟨fun h3 => absurd e.symm h3.2, fun h3 => by cases h3⟩
          · rw [if_neg e]
            exact ⟨fun h3 => h3.1, fun h3 => ⟨h3, fun e' => e e'.symm⟩⟩
        rw [key]; rfl
theorem toR_rename (frm to : ByteArray) : (toR D).rename frm to = ((D.rename frm to).1, toR (D.rename frm to).2) := by
  by_cases hd : D.down = true
  · rw [show D.rename frm to = (12, D) from by unfold Disk.rename; rw [if_pos hd], show (toR D).rename frm to = (12, toR D) from by unfold RDisk.rename; rw [if_pos (by exact hd)]]
  · have hdf : D.down = false := by simpa using hd
    by_cases hn : to = noStr ∨ 30 < (to.size : Int)
    · rw [show D.rename frm to = (1, D) from by unfold Disk.rename; rw [if_neg hd, if_pos hn], show (toR D).rename frm to = (1, toR D) from by unfold RDisk.rename; rw [if_neg (by exact hd), if_pos (name_ok.2 hn)]]
    · by_cases hh : D.has frm = false
      · rw [show D.rename frm to = (5, D) from by unfold Disk.rename; rw [if_neg hd, if_neg hn, if_pos hh], show (toR D).rename frm to = (5, toR D) from by unfold RDisk.rename; rw [if_neg (by exact hd), if_neg (fun e => hn (name_ok.1 e)), if_pos (show atF frm (toR D).files < 0 from (atF_has h frm).2 hh)]]
      · have hnn : ¬ atF frm (toR D).files < 0 := fun e => hh ((atF_has h frm).1 e)
        by_cases hb : D.blow.1 = true
        · rw [show D.rename frm to = (12, D.blow.2) from by unfold Disk.rename; rw [if_neg hd, if_neg hn, if_neg hh, if_pos hb], show (toR D).rename frm to = (12, toR D.blow.2) from by unfold RDisk.rename; rw [if_neg (by exact hd), if_neg (fun e => hn (name_ok.1 e)), if_neg hnn, toR_blow h hdf, if_pos hb]]
        · by_cases hft : frm = to
          · rw [show D.rename frm to = (0, D.blow.2) from by unfold Disk.rename; rw [if_neg hd, if_neg hn, if_neg hh, if_neg hb, if_pos hft], show (toR D).rename frm to = (0, toR D.blow.2) from by unfold RDisk.rename; rw [if_neg (by exact hd), if_neg (fun e => hn (name_ok.1 e)), if_neg hnn, toR_blow h hdf, if_neg hb, if_pos hft]]
          · have ho := rename_ok h frm to
            have e1 : D.rename frm to = (0, { D.blow.2 with files := aput (adel D.files frm) to (D.at frm), used := D.used - (D.at to).data.size }) := by unfold Disk.rename; rw [if_neg hd, if_neg hn, if_neg hh, if_neg hb, if_neg hft]
            have e2 : (toR D).rename frm to = (0, { toR D.blow.2 with files := insF { (toR D).fileAt frm with name := to } (outF to (outF frm (recF D))) }) := by unfold RDisk.rename; rw [if_neg (by exact hd), if_neg (fun e => hn (name_ok.1 e)), if_neg hnn, toR_blow h hdf, if_neg hb, if_neg hft]; rfl
            rw [e1] at ho ⊢
            rw [e2]
            obtain ⟨g, hg⟩ : ∃ g, aget D.files frm = some g := ⟨_, has_at h (by simpa using hh)⟩
            have hat : D.at frm = g := by simp [Disk.at, hg]
            obtain ⟨i, hi, hi2⟩ := rec_some h hg
            have hfa : ({ (toR D).fileAt frm with name := to } : RFile) = ⟨to, g.data, g.synced⟩ := by
              unfold RDisk.fileAt
              rw [show (toR D).files = recF D from rfl, hi]; simp only [hi2]; rfl
            rw [hfa]
            have s1 := out_sort (rec_sort h) frm
            have s2 := out_sort s1 to
            have key : insF ⟨to, g.data, g.synced⟩ (outF to (outF frm (recF D))) = recF { D.blow.2 with files := aput (adel D.files frm) to (D.at frm), used := D.used - (D.at to).data.size } := by
              refine rec_unique ho (ins_sort s2 (fun f hf => ((mem_out s1).1 hf).2)) (fun f => ?_)
              simp only [aget_aput, aget_adel _ _ h.nodup]
              rw [mem_ins, mem_out s1, mem_out (rec_sort h), rec_mem h, hat]
              by_cases e : to = f.name
              · subst e
                rw [if_pos rfl]
                simp only [ne_eq, not_true, and_false, or_false, Option.some.injEq]
                constructor
                · intro h3; rw [h3]
                · intro h3; cases f; simp only at h3 ⊢; rw [h3]
              · rw [if_neg e]
                by_cases e3 : frm = f.name
                · rw [if_pos e3]
                  constructor
                  · rintro (h3 | h3)
                    · rw [h3] at e; exact absurd rfl e
                    · exact absurd e3.symm h3.1.2
                  · intro h3; cases h3
                · rw [if_neg e3]
                  constructor
                  · rintro (h3 | h3)
                    · rw [h3] at e; exact absurd rfl e
                    · exact h3.1.1
                  · exact fun h3 => .inr ⟨⟨h3, fun e' => e3 e'.symm⟩, fun e' => e e'.symm⟩
            rw [key]; rfl
omit h in
theorem crE_mem {x f : RFile} {c : Int} : f ∈ crE x c ↔ ∃ g, crashF ⟨x.data, x.syn⟩ c = some g ∧ f = ⟨x.name, g.data, g.synced⟩ := by
  unfold crE
  cases hc : crashF ⟨x.data, x.syn⟩ c with
  | none => simp
  | some g => simp
omit h in
theorem crT_mem {keeps : List Int} {l : List RFile} {f : RFile} : ∀ {n : Nat}, f ∈ crT keeps l n ↔ ∃ i x, i < n ∧ l[i]? = some x ∧ f ∈ crE x (keepN keeps i)
  | 0 => by simp [crT]
  | n + 1 => by
    rw [crT, List.mem_append, crT_mem (n := n)]
    constructor
    · rintro (⟨i, x, hi, hx, hf⟩ | hf)
      · exact ⟨i, x, by omega, hx, hf⟩
      · cases hl : l[n]? with
        | none => rw [hl] at hf; cases hf
        | some x => rw [hl] at hf; exact ⟨n, x, by omega, hl, hf⟩
    · rintro ⟨i, x, hi, hx, hf⟩
      by_cases e : i = n
      · subst e; right; rw [hx]; exact hf
      · exact .inl ⟨i, x, by omega, hx, hf⟩
omit h in
theorem crT_sort {keeps : List Int} {l : List RFile} (hs : SortF l) : ∀ n, SortF (crT keeps l n)
  | 0 => List.Pairwise.nil
  | n + 1 => by
    unfold crT SortF
    rw [List.pairwise_append]
    refine ⟨crT_sort hs n, ?_, ?_⟩
    · cases hl : l[n]? with
      | none => exact List.Pairwise.nil
      | some x =>
        simp only
        unfold crE
        split
        · exact List.Pairwise.nil
        · exact List.pairwise_singleton ..
    · intro a ha b hb
      obtain ⟨i, x, hi, hx, hax⟩ := crT_mem.1 ha
      cases hl : l[n]? with
      | none => rw [hl] at hb; cases hb
      | some y =>
        rw [hl] at hb
        obtain ⟨g, _, rfl⟩ := crE_mem.1 hax
        obtain ⟨g2, _, rfl⟩ := crE_mem.1 hb
        obtain ⟨li, ei⟩ := List.getElem?_eq_some_iff.1 hx
        obtain ⟨ln, en⟩ := List.getElem?_eq_some_iff.1 hl
        have := List.pairwise_iff_getElem.1 hs i n li ln hi
        rw [ei, en] at this
        exact this
theorem toR_crash (keeps : List Int) : (toR D).crash keeps = toR (D.crash keeps) := by
  have ho := crash_ok h keeps
  have key : crT keeps (recF D) (recF D).length = recF (D.crash keeps) := by
    refine rec_unique ho (crT_sort (rec_sort h) _) (fun f => ?_)
    rw [crT_mem]
    constructor
    · rintro ⟨i, x, hi, hx, hf⟩
      obtain ⟨g, hg, rfl⟩ := crE_mem.1 hf
      unfold recF at hx
      rw [List.getElem?_map, Option.map_eq_some_iff] at hx
      obtain ⟨nm, hnm, rfl⟩ := hx
      simp only [mkR] at hg ⊢
      rw [crash_get h keeps hnm, hg]
    · intro hg
      have hh : D.has f.name = true := by
        cases hh : D.has f.name with
        | true => rfl
        | false => rw [crash_none h keeps hh] at hg; cases hg
      obtain ⟨i, hi⟩ := List.getElem?_of_mem ((names_has h).2 hh)
      rw [crash_get h keeps hi] at hg
      have hl := (List.getElem?_eq_some_iff.1 hi).1
      refine ⟨i, mkR D f.name, by unfold recF; rw [List.length_map]; exact hl, by unfold recF; rw [List.getElem?_map, hi]; rfl, crE_mem.2 ⟨_, hg, rfl⟩⟩
  unfold RDisk.crash
  rw [show (toR D).files = recF D from rfl, key]; rfl
end
theorem toR_new (r : Int) : toR (Disk.new r) = RDisk.new r := by
  unfold toR recF
  rw [show (Disk.new r).names = [] from sortS_nil]; rfl
end Go.Proofs.YtfolmcpfdcgliaaGreat.B
