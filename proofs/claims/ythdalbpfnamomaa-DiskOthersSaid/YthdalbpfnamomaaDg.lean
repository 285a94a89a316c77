import Derived.Test.YthdalbpfnamomaaDx
set_option linter.unusedVariables false
set_option linter.unusedSimpArgs false
set_option maxRecDepth 8000
/-! Disks of one or two files, in plain words. -/
namespace Go.Proofs.Ythdalbpfnamomaa.B
open Go Go.Proofs

theorem cut_self (d : ByteArray) : d.extract 0 d.size = d := ByteArray.extract_zero_size
theorem new_append {nm d : ByteArray} {r : Int} (hn : 1 ≤ nm.size ∧ nm.size ≤ 30) (hd : d.size ≤ 400000) (hr : (d.size : Int) ≤ r) : (Disk.mk [] r 0 0 false).append nm d = (0, Disk.mk [(nm, ⟨d, 0⟩)] r d.size 0 false) := by
  have hat : (Disk.mk [] r 0 0 false).at nm = ⟨noStr, 0⟩ := rfl
  have hb : (Disk.mk [] r 0 0 false).blow = (false, Disk.mk [] r 0 0 false) := by simp [Disk.blow]
  unfold Disk.append
  rw [if_neg (by simp), if_neg (fun h => h.elim (fun h => noStr_ne (by omega) h) (fun h => by omega)), hat, if_neg (fun h => h.elim (fun h => by simp [noStr_size] at h; omega) (fun h => by have := h.2; simp at this)),
    if_neg (by simp only; omega), hb, if_neg (by simp)]
  simp only [aput, Int.zero_add]
  rw [show noStr ++ d = d from by apply ByteArray.ext; simp [noStr, ByteArray.data_append]]
theorem one_sync {nm d : ByteArray} {r u s : Int} : (Disk.mk [(nm, ⟨d, s⟩)] r u 0 false).sync nm = (0, Disk.mk [(nm, ⟨d, d.size⟩)] r u 0 false) := by
  have hat : (Disk.mk [(nm, ⟨d, s⟩)] r u 0 false).at nm = ⟨d, s⟩ := by simp [Disk.at, aget]
  have hb : (Disk.mk [(nm, ⟨d, s⟩)] r u 0 false).blow = (false, Disk.mk [(nm, ⟨d, s⟩)] r u 0 false) := by simp [Disk.blow]
  unfold Disk.sync
  rw [if_neg (by simp), if_neg (by simp [Disk.has, aget]), hat, hb, if_neg (by simp)]
  simp [aput]
theorem one_ok {nm d : ByteArray} {r s fu : Int} {dn : Bool} (hn : 1 ≤ nm.size ∧ nm.size ≤ 30) (hd : d.size ≤ 400000) (hs : 0 ≤ s ∧ s ≤ d.size) (hr : (d.size : Int) ≤ r ∧ r ≤ 9223372036854775807) (hf : 0 ≤ fu ∧ fu ≤ 9223372036854775807) : DiskOk (Disk.mk [(nm, ⟨d, s⟩)] r d.size fu dn) := by
  refine ⟨by simp, fun x hx => ?_, fun x hx => ?_, by simp, by simp [sumSize, fsize], hr.1, hr.2, hf.1, hf.2⟩
  · simp at hx; subst hx; exact ⟨hs.1, hs.2, hd⟩
  · simp at hx; subst hx; exact hn
theorem nil_ok {r fu : Int} {dn : Bool} (hr : 0 ≤ r ∧ r ≤ 9223372036854775807) (hf : 0 ≤ fu ∧ fu ≤ 9223372036854775807) : DiskOk (Disk.mk [] r 0 fu dn) :=
  ⟨by simp, fun x hx => by simp at hx, fun x hx => by simp at hx, by simp, by simp [sumSize], hr.1, hr.2, hf.1, hf.2⟩
/-- A file that is synced lasts. -/
theorem crashF_full {d : ByteArray} {c : Int} (hc : 0 ≤ c) : crashF ⟨d, d.size⟩ c = if d.size = 0 then none else some ⟨d, d.size⟩ := by
  have hn : crashN ⟨d, d.size⟩ c = d.size := by
    simp only [crashN, Int.sub_self, Int.zero_add, Int.emod_one, Int.add_zero]
  unfold crashF
  rw [hn]
  by_cases h : d.size = 0
  · rw [if_pos h, if_pos ⟨by omega, by simp only; omega⟩]
  · rw [if_neg h, if_neg (fun e => by have := e.1; omega), Int.toNat_natCast, cut_self]
theorem crash_full {D : Disk} (h : DiskOk D) {nm d : ByteArray} (keeps : List Int) (hg : aget D.files nm = some ⟨d, d.size⟩) : aget (D.crash keeps).files nm = if d.size = 0 then none else some ⟨d, d.size⟩ := by
  have hh : D.has nm = true := by simp [Disk.has, hg]
  have ha : D.at nm = ⟨d, d.size⟩ := by simp [Disk.at, hg]
  obtain ⟨c, hc, e⟩ := crash_some h keeps hh
  rw [e, ha, crashF_full hc]
theorem read_of {D : Disk} {nm : ByteArray} {f : File} (hd : D.down = false) (hg : aget D.files nm = some f) : D.read nm = (f.data, 0) := by
  simp [Disk.read, hd, Disk.has, Disk.at, hg]
theorem read_no {D : Disk} {nm : ByteArray} (hd : D.down = false) (hg : aget D.files nm = none) : D.read nm = (noStr, 5) := by
  simp [Disk.read, hd, Disk.has, hg]
theorem read_down {D : Disk} {nm : ByteArray} (hd : D.down = true) : D.read nm = (noStr, 12) := by simp [Disk.read, hd]

abbrev nB : ByteArray := ⟨#[98]⟩
def repX : Nat → ByteArray
  | 0 => noStr
  | m + 1 => repX m ++ ⟨#[120]⟩
theorem repX_size : ∀ m, (repX m).size = m
  | 0 => rfl
  | m + 1 => by rw [repX, ByteArray.size_append, repX_size m]; rfl
/-- The disk of DiskFuse behind m calls. -/
def fz (n : Int) (d : ByteArray) (m : Nat) : Disk := ⟨(nA, ⟨d, d.size⟩) :: (if m = 0 then [] else [(nB, ⟨repX m, 0⟩)]), 400000, (d.size : Int) + m, n - m, false⟩
theorem fz_at {n : Int} {d : ByteArray} {m : Nat} : (fz n d m).at nB = ⟨repX m, 0⟩ := by
  unfold Disk.at fz
  by_cases h : m = 0
  · subst h; simp [aget]; rfl
  · simp [aget, h]
theorem fz_append {n : Int} {d : ByteArray} {m : Nat} (hd : d.size ≤ 1000) (hm : (m : Int) + 1 < n) (hn : n ≤ 8) : (fz n d m).append nB ⟨#[120]⟩ = (0, fz n d (m + 1)) := by
  have hs : (⟨#[120]⟩ : ByteArray).size = 1 := rfl
  have hb : (fz n d m).blow = (false, { fz n d m with fuse := n - m - 1, down := false }) := by
    have e1 : (fz n d m).fuse = n - m := rfl
    unfold Disk.blow
    rw [e1, if_pos (by omega), decide_eq_false (by omega)]
  unfold Disk.append
  rw [if_neg (by simp [fz]), if_neg (fun h => h.elim (fun h => noStr_ne (by decide) h) (fun h => absurd h (by decide))), fz_at,
    if_neg (fun h => h.elim (fun h => by simp only [repX_size, hs] at h; omega) (fun h => by have := h.2; simp only [fz] at this; split at this <;> simp at this)),
    if_neg (by simp only [fz, hs]; omega), hb, if_neg (by simp)]
  have hf : aput (fz n d m).files nB ⟨repX m ++ ⟨#[120]⟩, 0⟩ = (fz n d (m + 1)).files := by
    unfold fz
    by_cases h : m = 0
    · subst h; simp [aput, repX]
    · simp [aput, h, repX]
  rw [show (({ fz n d m with fuse := n - m - 1, down := false } : Disk)) = ⟨(fz n d m).files, 400000, (d.size : Int) + m, n - m - 1, false⟩ from rfl]
  simp only [hf]
  simp only [fz, hs, Prod.mk.injEq, Disk.mk.injEq, true_and, and_true]
  constructor <;> omega
theorem fz_last {n : Int} {d : ByteArray} {m : Nat} (hd : d.size ≤ 1000) (hm : (m : Int) + 1 = n) (hn : n ≤ 8) (ch : UInt8) : (fz n d m).append nB ⟨#[ch]⟩ = (12, { fz n d m with fuse := 0, down := true }) := by
  have hs : (⟨#[ch]⟩ : ByteArray).size = 1 := rfl
  have hb : (fz n d m).blow = (true, { fz n d m with fuse := 0, down := true }) := by
    have e1 : (fz n d m).fuse = n - m := rfl
    unfold Disk.blow
    rw [e1, if_pos (by omega), show n - m - 1 = 0 from by omega]; rfl
  unfold Disk.append
  rw [if_neg (by simp [fz]), if_neg (fun h => h.elim (fun h => noStr_ne (by decide) h) (fun h => absurd h (by decide))), fz_at,
    if_neg (fun h => h.elim (fun h => by simp only [repX_size, hs] at h; omega) (fun h => by have := h.2; simp only [fz] at this; split at this <;> simp at this)),
    if_neg (by simp only [fz, hs]; omega), hb, if_pos (by simp)]
theorem fz_ok {n : Int} {d : ByteArray} (hd : d.size ≤ 1000) (hn : 1 ≤ n ∧ n ≤ 8) : ∀ {m : Nat}, (m : Int) < n → DiskOk (fz n d m)
  | 0, _ => by
    have := one_ok (nm := nA) (d := d) (r := 400000) (s := d.size) (fu := n) (dn := false) (by decide) (by omega) (by omega) (by omega) (by omega)
    simpa [fz] using this
  | m + 1, hm => by
    have ih := fz_ok hd hn (m := m) (by omega)
    have := append_ok ih nB ⟨#[120]⟩ (fun _ => trivial)
    rwa [fz_append hd (by omega) hn.2] at this
end Go.Proofs.Ythdalbpfnamomaa.B
