import Derived.Test.YtpklbelejebcfaaDn
set_option linter.unusedVariables false
set_option linter.unusedSimpArgs false
set_option linter.unusedSectionVars false
set_option maxRecDepth 8000
/-! Disks of one file, and beginnings of strings, in plain words. -/
namespace Go.Proofs.Ytpklbelejebcfaa.B
open Go Go.Proofs

theorem noStr_ne {a : ByteArray} (h : 0 < a.size) : ¬ a = noStr := fun e => by subst e; simp [noStr_size] at h

def cutB (s : ByteArray) (m : Nat) : ByteArray := s.extract 0 (min s.size m)
theorem cutB_size (s : ByteArray) (m : Nat) : (cutB s m).size = min s.size m := extract0_size _ _ (Nat.min_le_left ..)
theorem noStr_app (a : ByteArray) : noStr ++ a = a := by
  apply ByteArray.ext
  simp [noStr, ByteArray.data_append]
theorem app_noStr (a : ByteArray) : a ++ noStr = a := by
  apply ByteArray.ext
  simp [noStr, ByteArray.data_append]
theorem size_zero {a : ByteArray} (h : a.size = 0) : a = noStr := by
  cases a with | mk d => simp only [ByteArray.size] at h; simp only [noStr, ByteArray.mk.injEq]; exact Array.eq_empty_of_size_eq_zero h
theorem app_extract (a b : ByteArray) (n : Nat) : (a ++ b).extract 0 (a.size + n) = a ++ b.extract 0 n := by
  apply ByteArray.ext
  have h1 : a.size = a.data.size := rfl
  have h2 : a.data.extract 0 (a.data.size + n) = a.data := by
    apply Array.toList_inj.1
    rw [Array.toList_extract, List.extract_eq_take_drop, List.drop_zero, List.take_of_length_le (by simp)]
  simp only [ByteArray.data_extract, ByteArray.data_append, h1, Array.extract_append, h2]
  simp
theorem cut_self (d : ByteArray) : d.extract 0 d.size = d := ByteArray.extract_zero_size
theorem new_append {nm d : ByteArray} {r : Int} (hn : 1 ≤ nm.size ∧ nm.size ≤ 30) (hd : d.size ≤ 400000) (hr : (d.size : Int) ≤ r) : (Disk.mk [] r 0 0 false).append nm d = (0, Disk.mk [(nm, ⟨d, 0⟩)] r d.size 0 false) := by
  have hat : (Disk.mk [] r 0 0 false).at nm = ⟨noStr, 0⟩ := rfl
  have hb : (Disk.mk [] r 0 0 false).blow = (false, Disk.mk [] r 0 0 false) := by simp [Disk.blow]
  unfold Disk.append
  rw [if_neg (by simp), if_neg (fun h => h.elim (fun h => noStr_ne (by omega) h) (fun h => by omega)), hat, if_neg (fun h => h.elim (fun h => by simp [noStr_size] at h; omega) (fun h => by have := h.2; simp at this)),
    if_neg (by simp only; omega), hb, if_neg (by simp)]
  simp only [aput, Int.zero_add]
  rw [show noStr ++ d = d from by apply ByteArray.ext; simp [noStr, ByteArray.data_append]]
theorem one_sync {nm d : ByteArray} {r u s : Int} : (Disk.mk [(nm, ⟨d, s⟩)] r u 0 false).sync nm = (0, Disk.mk [(nm, ⟨d, d.size⟩)] r u 0 false) := by
  have hat : (Disk.mk [(nm, ⟨d, s⟩)] r u 0 false).at nm = ⟨d, s⟩ := by simp [Disk.at, aget]
  have hb : (Disk.mk [(nm, ⟨d, s⟩)] r u 0 false).blow = (false, Disk.mk [(nm, ⟨d, s⟩)] r u 0 false) := by simp [Disk.blow]
  unfold Disk.sync
  rw [if_neg (by simp), if_neg (by simp [Disk.has, aget]), hat, hb, if_neg (by simp)]
  simp [aput]
theorem one_ok {nm d : ByteArray} {r s fu : Int} {dn : Bool} (hn : 1 ≤ nm.size ∧ nm.size ≤ 30) (hd : d.size ≤ 400000) (hs : 0 ≤ s ∧ s ≤ d.size) (hr : (d.size : Int) ≤ r ∧ r ≤ 9223372036854775807) (hf : 0 ≤ fu ∧ fu ≤ 9223372036854775807) : DiskOk (Disk.mk [(nm, ⟨d, s⟩)] r d.size fu dn) := by
  refine ⟨by simp, fun x hx => ?_, fun x hx => ?_, by simp, by simp [sumSize, fsize], hr.1, hr.2, hf.1, hf.2⟩
  · simp at hx; subst hx; exact ⟨hs.1, hs.2, hd⟩
  · simp at hx; subst hx; exact hn
theorem nil_ok {r fu : Int} {dn : Bool} (hr : 0 ≤ r ∧ r ≤ 9223372036854775807) (hf : 0 ≤ fu ∧ fu ≤ 9223372036854775807) : DiskOk (Disk.mk [] r 0 fu dn) :=
  ⟨by simp, fun x hx => by simp at hx, fun x hx => by simp at hx, by simp, by simp [sumSize], hr.1, hr.2, hf.1, hf.2⟩
/-- A file that is synced lasts. -/
theorem crashF_full {d : ByteArray} {c : Int} (hc : 0 ≤ c) : crashF ⟨d, d.size⟩ c = if d.size = 0 then none else some ⟨d, d.size⟩ := by
  have hn : crashN ⟨d, d.size⟩ c = d.size := by
    simp only [crashN, Int.sub_self, Int.zero_add, Int.emod_one, Int.add_zero]
  unfold crashF
  rw [hn]
  by_cases h : d.size = 0
  · rw [if_pos h, if_pos ⟨by omega, by simp only; omega⟩]
  · rw [if_neg h, if_neg (fun e => by have := e.1; omega), Int.toNat_natCast, cut_self]
theorem crash_full {D : Disk} (h : DiskOk D) {nm d : ByteArray} (keeps : List Int) (hg : aget D.files nm = some ⟨d, d.size⟩) : aget (D.crash keeps).files nm = if d.size = 0 then none else some ⟨d, d.size⟩ := by
  have hh : D.has nm = true := by simp [Disk.has, hg]
  have ha : D.at nm = ⟨d, d.size⟩ := by simp [Disk.at, hg]
  obtain ⟨c, hc, e⟩ := crash_some h keeps hh
  rw [e, ha, crashF_full hc]
theorem read_of {D : Disk} {nm : ByteArray} {f : File} (hd : D.down = false) (hg : aget D.files nm = some f) : D.read nm = (f.data, 0) := by
  simp [Disk.read, hd, Disk.has, Disk.at, hg]
theorem read_no {D : Disk} {nm : ByteArray} (hd : D.down = false) (hg : aget D.files nm = none) : D.read nm = (noStr, 5) := by
  simp [Disk.read, hd, Disk.has, hg]
theorem read_down {D : Disk} {nm : ByteArray} (hd : D.down = true) : D.read nm = (noStr, 12) := by simp [Disk.read, hd]

end Go.Proofs.Ytpklbelejebcfaa.B
