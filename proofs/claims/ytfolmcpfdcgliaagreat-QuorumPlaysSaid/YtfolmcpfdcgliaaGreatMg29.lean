import Derived.Test.YtfolmcpfdcgliaaGreatMg28
set_option linter.unusedVariables false
set_option linter.unusedSimpArgs false
set_option maxRecDepth 8000
namespace Go.Proofs.YtfolmcpfdcgliaaGreat.B
open Go Go.Proofs
def szOf : Option File → Int
  | some f => (f.data.size : Int)
  | none => 0
theorem szOf_nonneg (o : Option File) : 0 ≤ szOf o := by cases o <;> simp [szOf]
theorem sum_adel2 (l : List (ByteArray × File)) (k : ByteArray) : sumSize (adel l k) = sumSize l - szOf (aget l k) := by
  rw [sum_adel]; cases aget l k <;> rfl
theorem adel_len : ∀ (l : List (ByteArray × File)) (k : ByteArray), l.length ≤ (adel l k).length + 1
  | [], _ => by simp
  | (j, z) :: r, k => by
    simp only [adel]
    split
    · simp
    · have := adel_len r k
      simp only [List.length_cons]; omega
theorem sz_adel {l : List (ByteArray × File)} (h : (l.map (·.1)).Nodup) (a k : ByteArray) : szOf (aget (adel l a) k) ≤ szOf (aget l k) := by
  rw [aget_adel _ _ h]
  split
  · exact szOf_nonneg _
  · exact Int.le_refl _
theorem four_names {l : List (ByteArray × File)} (h : (l.map (·.1)).Nodup) {a b c d : ByteArray} (hk : ∀ k, k ≠ a → k ≠ b → k ≠ c → k ≠ d → aget l k = none) :
    sumSize l ≤ szOf (aget l a) + szOf (aget l b) + szOf (aget l c) + szOf (aget l d) ∧ l.length ≤ 4 := by
  have n1 := adel_nodup (k := a) h
  have n2 := adel_nodup (k := b) n1
  have n3 := adel_nodup (k := c) n2
  have e4 : adel (adel (adel (adel l a) b) c) d = [] := by
    cases hl : adel (adel (adel (adel l a) b) c) d with
    | nil => rfl
    | cons y r =>
      have hg : aget (adel (adel (adel (adel l a) b) c) d) y.1 = some y.2 := by rw [hl]; simp [aget]
      rw [aget_adel _ _ n3, aget_adel _ _ n2, aget_adel _ _ n1, aget_adel _ _ h] at hg
      by_cases h1 : d = y.1
      · rw [if_pos h1] at hg; cases hg
      by_cases h2 : c = y.1
      · rw [if_neg h1, if_pos h2] at hg; cases hg
      by_cases h3 : b = y.1
      · rw [if_neg h1, if_neg h2, if_pos h3] at hg; cases hg
      by_cases h4 : a = y.1
      · rw [if_neg h1, if_neg h2, if_neg h3, if_pos h4] at hg; cases hg
      rw [if_neg h1, if_neg h2, if_neg h3, if_neg h4, hk y.1 (fun e => h4 e.symm) (fun e => h3 e.symm) (fun e => h2 e.symm) (fun e => h1 e.symm)] at hg
      cases hg
  have s1 := sum_adel2 l a
  have s2 := sum_adel2 (adel l a) b
  have s3 := sum_adel2 (adel (adel l a) b) c
  have s4 := sum_adel2 (adel (adel (adel l a) b) c) d
  rw [e4] at s4
  have z0 : sumSize [] = 0 := rfl
  have t2 := sz_adel h a b
  have t3 := Int.le_trans (sz_adel n1 b c) (sz_adel h a c)
  have t4 := Int.le_trans (sz_adel n2 c d) (Int.le_trans (sz_adel n1 b d) (sz_adel h a d))
  have l1 := adel_len l a
  have l2 := adel_len (adel l a) b
  have l3 := adel_len (adel (adel l a) b) c
  have l4 := adel_len (adel (adel (adel l a) b) c) d
  rw [e4] at l4
  simp only [List.length_nil] at l4
  omega
theorem blow_down (D : Disk) : D.blow.1 = D.blow.2.down := by unfold Disk.blow; split <;> rfl
section
variable (D : Disk) (nm : ByteArray)
theorem append_eff (t : ByteArray) : ((D.append nm t).1 = 0 ∧ (D.append nm t).2.down = false ∧ (D.append nm t).2.files = aput D.files nm ⟨(D.at nm).data ++ t, (D.at nm).synced⟩ ∧ (D.append nm t).2.room = D.room) ∨
    ((D.append nm t).1 ≠ 0 ∧ (D.append nm t).2.files = D.files ∧ (D.append nm t).2.room = D.room) := by
  obtain ⟨e1, e2, e3⟩ := blow_same (D := D)
  unfold Disk.append
  split
  · exact .inr ⟨by simp, rfl, rfl⟩
  split
  · exact .inr ⟨by simp, rfl, rfl⟩
  split
  · exact .inr ⟨by simp, rfl, rfl⟩
  split
  · exact .inr ⟨by simp, rfl, rfl⟩
  split
  · exact .inr ⟨by simp, e1, e2⟩
  · rename_i h
    exact .inl ⟨rfl, by simp only; rw [← blow_down]; simpa using h, rfl, e2⟩
theorem sync_eff : ((D.sync nm).1 = 0 ∧ (D.sync nm).2.down = false ∧ (D.sync nm).2.files = aput D.files nm ⟨(D.at nm).data, (D.at nm).data.size⟩ ∧ (D.sync nm).2.room = D.room) ∨
    ((D.sync nm).1 ≠ 0 ∧ (D.sync nm).2.files = D.files ∧ (D.sync nm).2.room = D.room) := by
  obtain ⟨e1, e2, e3⟩ := blow_same (D := D)
  unfold Disk.sync
  split
  · exact .inr ⟨by simp, rfl, rfl⟩
  split
  · exact .inr ⟨by simp, rfl, rfl⟩
  split
  · exact .inr ⟨by simp, e1, e2⟩
  · rename_i h
    exact .inl ⟨rfl, by simp only; rw [← blow_down]; simpa using h, rfl, e2⟩
theorem delete_eff : ((D.delete nm).1 = 0 ∧ (D.delete nm).2.down = false ∧ (D.delete nm).2.files = adel D.files nm ∧ (D.delete nm).2.room = D.room) ∨
    ((D.delete nm).1 ≠ 0 ∧ (D.delete nm).2.files = D.files ∧ (D.delete nm).2.room = D.room) := by
  obtain ⟨e1, e2, e3⟩ := blow_same (D := D)
  unfold Disk.delete
  split
  · exact .inr ⟨by simp, rfl, rfl⟩
  split
  · exact .inr ⟨by simp, rfl, rfl⟩
  split
  · exact .inr ⟨by simp, e1, e2⟩
  · rename_i h
    exact .inl ⟨rfl, by simp only; rw [← blow_down]; simpa using h, rfl, e2⟩
theorem rename_eff {to : ByteArray} (hne : nm ≠ to) : ((D.rename nm to).1 = 0 ∧ (D.rename nm to).2.down = false ∧ (D.rename nm to).2.files = aput (adel D.files nm) to (D.at nm) ∧ (D.rename nm to).2.room = D.room) ∨
    ((D.rename nm to).1 ≠ 0 ∧ (D.rename nm to).2.files = D.files ∧ (D.rename nm to).2.room = D.room) := by
  obtain ⟨e1, e2, e3⟩ := blow_same (D := D)
  unfold Disk.rename
  split
  · exact .inr ⟨by simp, rfl, rfl⟩
  split
  · exact .inr ⟨by simp, rfl, rfl⟩
  split
  · exact .inr ⟨by simp, rfl, rfl⟩
  split
  · exact .inr ⟨by simp, e1, e2⟩
  · rename_i h
    first | rw [if_neg hne] | skip
    · exact .inl ⟨rfl, by simp only; rw [← blow_down]; simpa using h, rfl, e2⟩
end
structure Left (D D' : Disk) (nw : ByteArray) (n : Nat) : Prop where
  room : D'.room = D.room
  same : ∀ k, k ≠ nw → aget D'.files k = aget D.files k
  new : ∀ f, aget D'.files nw = some f → f.data.size ≤ n ∨ aget D.files nw = some f
structure Placed (D D' : Disk) (nw name text : ByteArray) : Prop where
  down : D'.down = false
  room : D'.room = D.room
  same : ∀ k, k ≠ nw → k ≠ name → aget D'.files k = aget D.files k
  new : aget D'.files nw = none
  file : aget D'.files name = some ⟨text, text.size⟩
theorem place2_eff {D : Disk} {nw name text : ByteArray} (hD : DiskOk D) (hg : aget D.files nw = none) (hne : nw ≠ name) :
    ((place2 D nw name text).1 = 0 ∧ Placed D (place2 D nw name text).2 nw name text) ∨ ((place2 D nw name text).1 ≠ 0 ∧ Left D (place2 D nw name text).2 nw text.size) := by
  have hat : D.at nw = ⟨noStr, 0⟩ := by simp [Disk.at, hg]
  have ok1 := append_ok hD nw text (fun _ => trivial)
  have ok2 := sync_ok ok1 nw
  unfold place2
  rcases append_eff D nw text with ⟨a1, a2, a3, a4⟩ | ⟨a1, a3, a4⟩
  · rw [if_neg (by simpa using a1)]
    rw [hat] at a3
    simp only [noStr_cat] at a3
    have g1 : ∀ k, aget (D.append nw text).2.files k = if nw = k then some ⟨text, 0⟩ else aget D.files k := fun k => by rw [a3, aget_aput]
    have at1 : (D.append nw text).2.at nw = ⟨text, 0⟩ := by simp [Disk.at, g1]
    rcases sync_eff (D.append nw text).2 nw with ⟨b1, b2, b3, b4⟩ | ⟨b1, b3, b4⟩
    · rw [if_neg (by simpa using b1)]
      rw [at1] at b3
      have g2 : ∀ k, aget ((D.append nw text).2.sync nw).2.files k = if nw = k then some ⟨text, text.size⟩ else aget D.files k := fun k => by
        rw [b3, aget_aput, g1]
        split <;> rfl
      have at2 : ((D.append nw text).2.sync nw).2.at nw = ⟨text, text.size⟩ := by simp [Disk.at, g2]
      rcases rename_eff ((D.append nw text).2.sync nw).2 nw hne with ⟨c1, c2, c3, c4⟩ | ⟨c1, c3, c4⟩
      · rw [at2] at c3
        have g3 : ∀ k, aget (((D.append nw text).2.sync nw).2.rename nw name).2.files k = if name = k then some ⟨text, text.size⟩ else if nw = k then none else aget D.files k := fun k => by
          rw [c3, aget_aput, aget_adel _ _ ok2.nodup, g2]
          by_cases e1 : name = k
          · rw [if_pos e1, if_pos e1]
          · rw [if_neg e1, if_neg e1]
            by_cases e2 : nw = k
            · rw [if_pos e2, if_pos e2]
            · rw [if_neg e2, if_neg e2, if_neg e2]
        exact .inl ⟨c1, c2, by rw [c4, b4, a4], fun k k1 k2 => by rw [g3, if_neg (fun e => k2 e.symm), if_neg (fun e => k1 e.symm)], by rw [g3, if_neg (fun e => hne e.symm), if_pos rfl], by rw [g3, if_pos rfl]⟩
      · refine .inr ⟨c1, by rw [c4, b4, a4], fun k hk => by rw [c3, g2, if_neg (fun e => hk e.symm)], fun f hf => ?_⟩
        rw [c3, g2, if_pos rfl] at hf
        cases hf; exact .inl (Nat.le_refl _)
    · rw [if_pos (by simpa using b1)]
      refine .inr ⟨b1, by rw [b4, a4], fun k hk => by rw [b3, g1, if_neg (fun e => hk e.symm)], fun f hf => ?_⟩
      rw [b3, g1, if_pos rfl] at hf
      cases hf; exact .inl (Nat.le_refl _)
  · rw [if_pos (by simpa using a1)]
    exact .inr ⟨a1, a4, fun k _ => by rw [a3], fun f hf => .inr (by rw [a3] at hf; exact hf)⟩
theorem place_eff {D : Disk} {nw name text : ByteArray} (hD : DiskOk D) (hd : D.down = false) (hne : nw ≠ name) :
    ((place1 D nw name text).1 = 0 ∧ Placed D (place1 D nw name text).2 nw name text) ∨ ((place1 D nw name text).1 ≠ 0 ∧ Left D (place1 D nw name text).2 nw text.size) := by
  unfold place1
  cases hg : aget D.files nw with
  | none =>
    rw [read_none hd hg, if_pos rfl]
    exact place2_eff hD hg hne
  | some f =>
    have hr : D.read nw = (f.data, 0) := read_of hd hg
    rw [hr]
    simp only [if_true]
    rw [if_neg (by decide)]
    rcases delete_eff D nw with ⟨a1, a2, a3, a4⟩ | ⟨a1, a3, a4⟩
    · rw [if_neg (by simpa using a1)]
      have g1 : ∀ k, aget (D.delete nw).2.files k = if nw = k then none else aget D.files k := fun k => by rw [a3, aget_adel _ _ hD.nodup]
      rcases place2_eff (name := name) (text := text) (delete_ok hD nw) (by rw [g1, if_pos rfl]) hne with ⟨b1, b2⟩ | ⟨b1, b2⟩
      · exact .inl ⟨b1, b2.down, by rw [b2.room, a4], fun k k1 k2 => by rw [b2.same k k1 k2, g1, if_neg (fun e => k1 e.symm)], b2.new, b2.file⟩
      · refine .inr ⟨b1, by rw [b2.room, a4], fun k hk => by rw [b2.same k hk, g1, if_neg (fun e => hk e.symm)], fun f hf => ?_⟩
        rcases b2.new f hf with h | h
        · exact .inl h
        · rw [g1, if_pos rfl] at h; cases h
    · rw [if_pos (by simpa using a1)]
      exact .inr ⟨a1, a4, fun k _ => by rw [a3], fun f hf => .inr (by rw [a3] at hf; exact hf)⟩
theorem place_done {D : Disk} {nw name text : ByteArray} (hD : DiskOk D) (hd : D.down = false) (hf : D.fuse = 0) (h1 : nw ≠ noStr) (h2 : nw.size ≤ 30) (h3 : name ≠ noStr) (h4 : name.size ≤ 30) (hne : nw ≠ name)
    (ht : text.size ≤ 400000) (hl : D.files.length < 20) (hr : D.used - szOf (aget D.files nw) + text.size ≤ D.room) : (place1 D nw name text).1 = 0 := by
  cases hg : aget D.files nw with
  | none =>
    rw [hg] at hr
    simp only [szOf] at hr
    rw [place_well hd hf hg h1 h2 h3 h4 hne ht hl (by omega)]
  | some f =>
    rw [hg] at hr
    simp only [szOf] at hr
    unfold place1
    have hrd : D.read nw = (f.data, 0) := read_of hd hg
    rw [hrd]
    simp only [if_true]
    rw [if_neg (by decide)]
    have hhas : D.has nw = true := by simp [Disk.has, hg]
    have hat : D.at nw = f := by simp [Disk.at, hg]
    have hdel : D.delete nw = (0, { D with files := adel D.files nw, used := D.used - f.data.size }) := by
      unfold Disk.delete
      rw [if_neg (by rw [hd]; decide), if_neg (by rw [hhas]; decide), blow_still hf, if_neg (by simp [hd]), hat]
    rw [hdel]
    simp only [not_true_eq_false, if_false]
    have hg2 : aget (adel D.files nw) nw = none := by rw [aget_adel _ _ hD.nodup, if_pos rfl]
    have hp := place_well (D := { D with files := adel D.files nw, used := D.used - f.data.size }) (nw := nw) (name := name) (text := text) hd hf hg2 h1 h2 h3 h4 hne ht
      (by have := (adel_sub D.files nw).length_le; simp only; omega) (by simp only; omega)
    unfold place1 at hp
    rw [read_none (D := { D with files := adel D.files nw, used := D.used - f.data.size }) hd hg2, if_pos rfl] at hp
    rw [hp]
end Go.Proofs.YtfolmcpfdcgliaaGreat.B
