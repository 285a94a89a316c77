import Derived.Test.YtejdkcnbflpfaaaGreatMg30
import Derived.Test.YtejdkcnbflpfaaaGreatMg31
set_option linter.unusedVariables false
set_option linter.unusedSimpArgs false
set_option maxRecDepth 8000
/-! A journal node in plain words, whenever the power goes: its disk. -/
namespace Go.Proofs.YtejdkcnbflpfaaaGreat.B
open Go Go.Proofs

/-! ### Files of four names -/
def szOf : Option File → Int
  | some f => (f.data.size : Int)
  | none => 0
theorem szOf_nonneg (o : Option File) : 0 ≤ szOf o := by cases o <;> simp [szOf]
theorem sum_adel2 (l : List (ByteArray × File)) (k : ByteArray) : sumSize (adel l k) = sumSize l - szOf (aget l k) := by
  rw [sum_adel]; cases aget l k <;> rfl
theorem adel_len : ∀ (l : List (ByteArray × File)) (k : ByteArray), l.length ≤ (adel l k).length + 1
  | [], _ => by simp
  | (j, z) :: r, k => by
    simp only [adel]
    split
    · simp
    · have := adel_len r k
      simp only [List.length_cons]; omega
theorem sz_adel {l : List (ByteArray × File)} (h : (l.map (·.1)).Nodup) (a k : ByteArray) : szOf (aget (adel l a) k) ≤ szOf (aget l k) := by
  rw [aget_adel _ _ h]
  split
  · exact szOf_nonneg _
  · exact Int.le_refl _
theorem four_names {l : List (ByteArray × File)} (h : (l.map (·.1)).Nodup) {a b c d : ByteArray} (hk : ∀ k, k ≠ a → k ≠ b → k ≠ c → k ≠ d → aget l k = none) :
    sumSize l ≤ szOf (aget l a) + szOf (aget l b) + szOf (aget l c) + szOf (aget l d) ∧ l.length ≤ 4 := by
  have n1 := adel_nodup (k := a) h
  have n2 := adel_nodup (k := b) n1
  have n3 := adel_nodup (k := c) n2
  have e4 : adel (adel (adel (adel l a) b) c) d = [] := by
    cases hl : adel (adel (adel (adel l a) b) c) d with
    | nil => rfl
    | cons y r =>
      have hg : aget (adel (adel (adel (adel l a) b) c) d) y.1 = some y.2 := by rw [hl]; simp [aget]
      rw [aget_adel _ _ n3, aget_adel _ _ n2, aget_adel _ _ n1, aget_adel _ _ h] at hg
      by_cases h1 : d = y.1
      · rw [if_pos h1] at hg; cases hg
      by_cases h2 : c = y.1
      · rw [if_neg h1, if_pos h2] at hg; cases hg
      by_cases h3 : b = y.1
      · rw [if_neg h1, if_neg h2, if_pos h3] at hg; cases hg
      by_cases h4 : a = y.1
      · rw [if_neg h1, if_neg h2, if_neg h3, if_pos h4] at hg; cases hg
      rw [if_neg h1, if_neg h2, if_neg h3, if_neg h4, hk y.1 (fun e => h4 e.symm) (fun e => h3 e.symm) (fun e => h2 e.symm) (fun e => h1 e.symm)] at hg
      cases hg
  have s1 := sum_adel2 l a
  have s2 := sum_adel2 (adel l a) b
  have s3 := sum_adel2 (adel (adel l a) b) c
  have s4 := sum_adel2 (adel (adel (adel l a) b) c) d
  rw [e4] at s4
  have z0 : sumSize [] = 0 := rfl
  have t2 := sz_adel h a b
  have t3 := Int.le_trans (sz_adel n1 b c) (sz_adel h a c)
  have t4 := Int.le_trans (sz_adel n2 c d) (Int.le_trans (sz_adel n1 b d) (sz_adel h a d))
  have l1 := adel_len l a
  have l2 := adel_len (adel l a) b
  have l3 := adel_len (adel (adel l a) b) c
  have l4 := adel_len (adel (adel (adel l a) b) c) d
  rw [e4] at l4
  simp only [List.length_nil] at l4
  omega

/-! ### What each operation leaves -/
theorem blow_down (D : Disk) : D.blow.1 = D.blow.2.down := by unfold Disk.blow; split <;> rfl
section
variable (D : Disk) (nm : ByteArray)
theorem append_eff (t : ByteArray) : ((D.append nm t).1 = 0 ∧ (D.append nm t).2.down = false ∧ (D.append nm t).2.files = aput D.files nm ⟨(D.at nm).data ++ t, (D.at nm).synced⟩ ∧ (D.append nm t).2.room = D.room) ∨
    ((D.append nm t).1 ≠ 0 ∧ (D.append nm t).2.files = D.files ∧ (D.append nm t).2.room = D.room) := by
  obtain ⟨e1, e2, e3⟩ := blow_same (D := D)
  unfold Disk.append
  split
  · exact .inr ⟨by simp, rfl, rfl⟩
  split
  · exact .inr ⟨by simp, rfl, rfl⟩
  split
  · exact .inr ⟨by simp, rfl, rfl⟩
  split
  · exact .inr ⟨by simp, rfl, rfl⟩
  split
  · exact .inr ⟨by simp, e1, e2⟩
  · rename_i h
    exact .inl ⟨rfl, by simp only; rw [← blow_down]; simpa using h, rfl, e2⟩
theorem sync_eff : ((D.sync nm).1 = 0 ∧ (D.sync nm).2.down = false ∧ (D.sync nm).2.files = aput D.files nm ⟨(D.at nm).data, (D.at nm).data.size⟩ ∧ (D.sync nm).2.room = D.room) ∨
    ((D.sync nm).1 ≠ 0 ∧ (D.sync nm).2.files = D.files ∧ (D.sync nm).2.room = D.room) := by
  obtain ⟨e1, e2, e3⟩ := blow_same (D := D)
  unfold Disk.sync
  split
  · exact .inr ⟨by simp, rfl, rfl⟩
  split
  · exact .inr ⟨by simp, rfl, rfl⟩
  split
  · exact .inr ⟨by simp, e1, e2⟩
  · rename_i h
    exact .inl ⟨rfl, by simp only; rw [← blow_down]; simpa using h, rfl, e2⟩
theorem delete_eff : ((D.delete nm).1 = 0 ∧ (D.delete nm).2.down = false ∧ (D.delete nm).2.files = adel D.files nm ∧ (D.delete nm).2.room = D.room) ∨
    ((D.delete nm).1 ≠ 0 ∧ (D.delete nm).2.files = D.files ∧ (D.delete nm).2.room = D.room) := by
  obtain ⟨e1, e2, e3⟩ := blow_same (D := D)
  unfold Disk.delete
  split
  · exact .inr ⟨by simp, rfl, rfl⟩
  split
  · exact .inr ⟨by simp, rfl, rfl⟩
  split
  · exact .inr ⟨by simp, e1, e2⟩
  · rename_i h
    exact .inl ⟨rfl, by simp only; rw [← blow_down]; simpa using h, rfl, e2⟩
theorem rename_eff {to : ByteArray} (hne : nm ≠ to) : ((D.rename nm to).1 = 0 ∧ (D.rename nm to).2.down = false ∧ (D.rename nm to).2.files = aput (adel D.files nm) to (D.at nm) ∧ (D.rename nm to).2.room = D.room) ∨
    ((D.rename nm to).1 ≠ 0 ∧ (D.rename nm to).2.files = D.files ∧ (D.rename nm to).2.room = D.room) := by
  obtain ⟨e1, e2, e3⟩ := blow_same (D := D)
  unfold Disk.rename
  split
  · exact .inr ⟨by simp, rfl, rfl⟩
  split
  · exact .inr ⟨by simp, rfl, rfl⟩
  split
  · exact .inr ⟨by simp, rfl, rfl⟩
  split
  · exact .inr ⟨by simp, e1, e2⟩
  · rename_i h
    first | rw [if_neg hne] | skip
    · exact .inl ⟨rfl, by simp only; rw [← blow_down]; simpa using h, rfl, e2⟩
end
/-- What is left of a placing that came to no end: the new file alone is another one. -/
structure Left (D D' : Disk) (nw : ByteArray) (n : Nat) : Prop where
  room : D'.room = D.room
  same : ∀ k, k ≠ nw → aget D'.files k = aget D.files k
  new : ∀ f, aget D'.files nw = some f → f.data.size ≤ n ∨ aget D.files nw = some f
structure Placed (D D' : Disk) (nw name text : ByteArray) : Prop where
  down : D'.down = false
  room : D'.room = D.room
  same : ∀ k, k ≠ nw → k ≠ name → aget D'.files k = aget D.files k
  new : aget D'.files nw = none
  file : aget D'.files name = some ⟨text, text.size⟩
theorem place2_eff {D : Disk} {nw name text : ByteArray} (hD : DiskOk D) (hg : aget D.files nw = none) (hne : nw ≠ name) :
    ((place2 D nw name text).1 = 0 ∧ Placed D (place2 D nw name text).2 nw name text) ∨ ((place2 D nw name text).1 ≠ 0 ∧ Left D (place2 D nw name text).2 nw text.size) := by
  have hat : D.at nw = ⟨noStr, 0⟩ := by simp [Disk.at, hg]
  have ok1 := append_ok hD nw text (fun _ => trivial)
  have ok2 := sync_ok ok1 nw
  unfold place2
  rcases append_eff D nw text with ⟨a1, a2, a3, a4⟩ | ⟨a1, a3, a4⟩
  · rw [if_neg (by simpa using a1)]
    rw [hat] at a3
    simp only [noStr_cat] at a3
    have g1 : ∀ k, aget (D.append nw text).2.files k = if nw = k then some ⟨text, 0⟩ else aget D.files k := fun k => by rw [a3, aget_aput]
    have at1 : (D.append nw text).2.at nw = ⟨text, 0⟩ := by simp [Disk.at, g1]
    rcases sync_eff (D.append nw text).2 nw with ⟨b1, b2, b3, b4⟩ | ⟨b1, b3, b4⟩
    · rw [if_neg (by simpa using b1)]
      rw [at1] at b3
      have g2 : ∀ k, aget ((D.append nw text).2.sync nw).2.files k = if nw = k then some ⟨text, text.size⟩ else aget D.files k := fun k => by
        rw [b3, aget_aput, g1]
        split <;> rfl
      have at2 : ((D.append nw text).2.sync nw).2.at nw = ⟨text, text.size⟩ := by simp [Disk.at, g2]
      rcases rename_eff ((D.append nw text).2.sync nw).2 nw hne with ⟨c1, c2, c3, c4⟩ | ⟨c1, c3, c4⟩
      · rw [at2] at c3
        have g3 : ∀ k, aget (((D.append nw text).2.sync nw).2.rename nw name).2.files k = if name = k then some ⟨text, text.size⟩ else if nw = k then none else aget D.files k := fun k => by
          rw [c3, aget_aput, aget_adel _ _ ok2.nodup, g2]
          by_cases e1 : name = k
          · rw [if_pos e1, if_pos e1]
          · rw [if_neg e1, if_neg e1]
            by_cases e2 : nw = k
            · rw [if_pos e2, if_pos e2]
            · rw [if_neg e2, if_neg e2, if_neg e2]
        exact .inl ⟨c1, c2, by rw [c4, b4, a4], fun k k1 k2 => by rw [g3, if_neg (fun e => k2 e.symm), if_neg (fun e => k1 e.symm)], by rw [g3, if_neg (fun e => hne e.symm), if_pos rfl], by rw [g3, if_pos rfl]⟩
      · refine .inr ⟨c1, by rw [c4, b4, a4], fun k hk => by rw [c3, g2, if_neg (fun e => hk e.symm)], fun f hf => ?_⟩
        rw [c3, g2, if_pos rfl] at hf
        cases hf; exact .inl (Nat.le_refl _)
    · rw [if_pos (by simpa using b1)]
      refine .inr ⟨b1, by rw [b4, a4], fun k hk => by rw [b3, g1, if_neg (fun e => hk e.symm)], fun f hf => ?_⟩
      rw [b3, g1, if_pos rfl] at hf
      cases hf; exact .inl (Nat.le_refl _)
  · rw [if_pos (by simpa using a1)]
    exact .inr ⟨a1, a4, fun k _ => by rw [a3], fun f hf => .inr (by rw [a3] at hf; exact hf)⟩
theorem place_eff {D : Disk} {nw name text : ByteArray} (hD : DiskOk D) (hd : D.down = false) (hne : nw ≠ name) :
    ((place1 D nw name text).1 = 0 ∧ Placed D (place1 D nw name text).2 nw name text) ∨ ((place1 D nw name text).1 ≠ 0 ∧ Left D (place1 D nw name text).2 nw text.size) := by
  unfold place1
  cases hg : aget D.files nw with
  | none =>
    rw [read_none hd hg, if_pos rfl]
    exact place2_eff hD hg hne
  | some f =>
    have hr : D.read nw = (f.data, 0) := read_of hd hg
    rw [hr]
    simp only [if_true]
    rw [if_neg (by decide)]
    rcases delete_eff D nw with ⟨a1, a2, a3, a4⟩ | ⟨a1, a3, a4⟩
    · rw [if_neg (by simpa using a1)]
      have g1 : ∀ k, aget (D.delete nw).2.files k = if nw = k then none else aget D.files k := fun k => by rw [a3, aget_adel _ _ hD.nodup]
      rcases place2_eff (name := name) (text := text) (delete_ok hD nw) (by rw [g1, if_pos rfl]) hne with ⟨b1, b2⟩ | ⟨b1, b2⟩
      · exact .inl ⟨b1, b2.down, by rw [b2.room, a4], fun k k1 k2 => by rw [b2.same k k1 k2, g1, if_neg (fun e => k1 e.symm)], b2.new, b2.file⟩
      · refine .inr ⟨b1, by rw [b2.room, a4], fun k hk => by rw [b2.same k hk, g1, if_neg (fun e => hk e.symm)], fun f hf => ?_⟩
        rcases b2.new f hf with h | h
        · exact .inl h
        · rw [g1, if_pos rfl] at h; cases h
    · rw [if_pos (by simpa using a1)]
      exact .inr ⟨a1, a4, fun k _ => by rw [a3], fun f hf => .inr (by rw [a3] at hf; exact hf)⟩
/-- A placing on a disk with room and no fuse. -/
theorem place_done {D : Disk} {nw name text : ByteArray} (hD : DiskOk D) (hd : D.down = false) (hf : D.fuse = 0) (h1 : nw ≠ noStr) (h2 : nw.size ≤ 30) (h3 : name ≠ noStr) (h4 : name.size ≤ 30) (hne : nw ≠ name)
    (ht : text.size ≤ 400000) (hl : D.files.length < 20) (hr : D.used - szOf (aget D.files nw) + text.size ≤ D.room) : (place1 D nw name text).1 = 0 := by
  cases hg : aget D.files nw with
  | none =>
    rw [hg] at hr
    simp only [szOf] at hr
    rw [place_well hd hf hg h1 h2 h3 h4 hne ht hl (by omega)]
  | some f =>
    rw [hg] at hr
    simp only [szOf] at hr
    unfold place1
    have hrd : D.read nw = (f.data, 0) := read_of hd hg
    rw [hrd]
    simp only [if_true]
    rw [if_neg (by decide)]
    have hhas : D.has nw = true := by simp [Disk.has, hg]
    have hat : D.at nw = f := by simp [Disk.at, hg]
    have hdel : D.delete nw = (0, { D with files := adel D.files nw, used := D.used - f.data.size }) := by
      unfold Disk.delete
      rw [if_neg (by rw [hd]; decide), if_neg (by rw [hhas]; decide), blow_still hf, if_neg (by simp [hd]), hat]
    rw [hdel]
    simp only [not_true_eq_false, if_false]
    have hg2 : aget (adel D.files nw) nw = none := by rw [aget_adel _ _ hD.nodup, if_pos rfl]
    have hp := place_well (D := { D with files := adel D.files nw, used := D.used - f.data.size }) (nw := nw) (name := name) (text := text) hd hf hg2 h1 h2 h3 h4 hne ht
      (by have := (adel_sub D.files nw).length_le; simp only; omega) (by simp only; omega)
    unfold place1 at hp
    rw [read_none (D := { D with files := adel D.files nw, used := D.used - f.data.size }) hd hg2, if_pos rfl] at hp
    rw [hp]
end Go.Proofs.YtejdkcnbflpfaaaGreat.B

set_option linter.unusedVariables false
set_option linter.unusedSimpArgs false
set_option maxRecDepth 8000
/-! A journal node in plain words, whenever the power goes: the node. -/
namespace Go.Proofs.YtejdkcnbflpfaaaGreat.B
open Go Go.Proofs

abbrev pNew : ByteArray := jProm ++ dotNew
abbrev lNew : ByteArray := jLog ++ dotNew
theorem four_ne : pNew ≠ jProm ∧ lNew ≠ jLog ∧ jProm ≠ jLog ∧ pNew ≠ jLog ∧ lNew ≠ jProm ∧ pNew ≠ lNew := by decide
structure JBase (J : Jn) (D : Disk) : Prop where
  ok : JnOk J
  ep : J.e ≤ J.p
  zero : J.e = 0 → J.xs = []
  disk : DiskOk D
  room : D.room = 400000
  prom : aget D.files jProm = if J.p = 0 then none else some (pFile J.p)
  few : ∀ k, k ≠ jProm → k ≠ jLog → k ≠ pNew → k ≠ lNew → aget D.files k = none
  pn : ∀ f, aget D.files pNew = some f → f.data.size ≤ 24
  ln : ∀ f, aget D.files lNew = some f → f.data.size ≤ 187900
def logIs (J : Jn) (D : Disk) : Prop := aget D.files jLog = if J.e = 0 then none else some (lFile J.e J.xs)
structure Keep (J : Jn) (D : Disk) : Prop extends JBase J D where
  log : logIs J D
structure Torn (J : Jn) (D : Disk) : Prop extends JBase J D where
  log : logIs J D ∨ ∃ x : Ent, J.e ≠ 0 ∧ logOk J.e (J.xs ++ [x]) = true ∧ aget D.files jLog = some ⟨mk (logB J.e J.xs) ++ mk (partB x.n (bs x.s)), (mk (logB J.e J.xs)).size⟩
theorem Keep.torn {J : Jn} {D : Disk} (h : Keep J D) : Torn J D := ⟨h.toJBase, .inl h.log⟩
structure Grown (J K : Jn) : Prop where
  p : J.p ≤ K.p
  e : J.e ≤ K.e
  xs : J.e = K.e → begB J.xs K.xs = true
theorem Grown.refl (J : Jn) : Grown J J := ⟨Int.le_refl _, Int.le_refl _, fun _ => beg_refl _⟩
theorem beg_snoc (xs : List Ent) (x : Ent) : begB xs (xs ++ [x]) = true := by simp [begB]
theorem Keep.light {J : Jn} {D : Disk} (h : Keep J D) {n : Int} (hn : n ≤ 9223372036854775807) : Keep J (D.light n) :=
  ⟨⟨h.ok, h.ep, h.zero, light_ok h.disk hn, h.room, h.prom, h.few, h.pn, h.ln⟩, h.log⟩
theorem prom_keep {J : Jn} {D : Disk} (h : Keep J D) (hd : D.down = false) {ep : Int} (he : J.p < ep ∧ ep ≤ 9007199254740991) :
    ((promJ J D ep).1 = 0 ∧ (promJ J D ep).2.1 = { J with p := ep } ∧ (promJ J D ep).2.2.down = false ∧ Keep { J with p := ep } (promJ J D ep).2.2) ∨ ((promJ J D ep).1 ≠ 0 ∧ (promJ J D ep).2.1 = J ∧ Keep J (promJ J D ep).2.2) := by
  have h0 := h.ok.p0
  have hI : I64 ep := by unfold I64; omega
  have hsz := seal_num hI
  have hok := (prom_jok h.ok h.disk (ep := ep) ⟨by omega, he.2⟩).2
  obtain ⟨n1, n2, n3, n4, n5, n6⟩ := four_ne
  have hp := place_eff (name := jProm) (text := mk (sealB (numB ep))) h.disk hd n1
  have e0 : (promJ J D ep).1 = (place1 D pNew jProm (mk (sealB (numB ep)))).1 := rfl
  have e2 : (promJ J D ep).2.2 = (place1 D pNew jProm (mk (sealB (numB ep)))).2 := rfl
  have e1 : (promJ J D ep).2.1 = if (promJ J D ep).1 = 0 then { J with p := ep } else J := rfl
  rw [← e0, ← e2] at hp
  rcases hp with ⟨a1, a2⟩ | ⟨a1, a2⟩
  · rw [if_pos a1] at e1
    refine .inl ⟨a1, e1, a2.down, ⟨⟨by simp only; omega, he.2, h.ok.log⟩, by have := h.ep; simp only; omega, h.zero, hok, by rw [a2.room, h.room], ?_, ?_, ?_, ?_⟩, ?_⟩
    · simp only; rw [if_neg (by omega), a2.file]; rfl
    · intro k k1 k2 k3 k4; rw [a2.same k k3 k1]; exact h.few k k1 k2 k3 k4
    · intro f hf; rw [a2.new] at hf; cases hf
    · intro f hf; rw [a2.same _ (fun e => n6 e.symm) n5] at hf; exact h.ln f hf
    · unfold logIs; simp only; rw [a2.same _ (fun e => n4 e.symm) (fun e => n3 e.symm)]; exact h.log
  · rw [if_neg a1] at e1
    refine .inr ⟨a1, e1, ⟨h.ok, h.ep, h.zero, hok, by rw [a2.room, h.room], ?_, ?_, ?_, ?_⟩, ?_⟩
    · rw [a2.same _ (fun e => n1 e.symm)]; exact h.prom
    · intro k k1 k2 k3 k4; rw [a2.same k k3]; exact h.few k k1 k2 k3 k4
    · intro f hf
      rcases a2.new f hf with h' | h'
      · omega
      · exact h.pn f h'
    · intro f hf; rw [a2.same _ (fun e => n6 e.symm)] at hf; exact h.ln f hf
    · unfold logIs; rw [a2.same _ (fun e => n4 e.symm)]; exact h.log
/-- A log in the place of what stands there. -/
theorem store_base {J : Jn} {D : Disk} (h : JBase J D) (hd : D.down = false) {ep : Int} {xs : List Ent} (hl : logOk ep xs = true) (he : 1 ≤ ep ∧ ep ≤ J.p) :
    ((storeM D ep xs jLog).1 = 0 ∧ (storeM D ep xs jLog).2.down = false ∧ Keep { J with e := ep, xs := xs } (storeM D ep xs jLog).2) ∨ ((storeM D ep xs jLog).1 ≠ 0 ∧ JBase J (storeM D ep xs jLog).2 ∧ aget (storeM D ep xs jLog).2.files jLog = aget D.files jLog) := by
  have hsm := logB_small hl
  have hok := storeM_ok h.disk ep xs jLog
  obtain ⟨n1, n2, n3, n4, n5, n6⟩ := four_ne
  have hp := place_eff (name := jLog) (text := mk (logB ep xs)) h.disk hd n2
  have e0 : storeM D ep xs jLog = place1 D lNew jLog (mk (logB ep xs)) := by
    unfold storeM
    rw [if_neg (by simp only [hl, Bool.true_eq_false, false_or, not_or]; exact ⟨name_ne (by decide), by decide⟩)]
  rw [e0] at hok ⊢
  rcases hp with ⟨a1, a2⟩ | ⟨a1, a2⟩
  · refine .inl ⟨a1, a2.down, ⟨⟨h.ok.p0, h.ok.p1, hl⟩, he.2, fun h0 => by simp only at h0; omega, hok, by rw [a2.room, h.room], ?_, ?_, ?_, ?_⟩, ?_⟩
    · rw [a2.same _ (fun e => n5 e.symm) n3]; exact h.prom
    · intro k k1 k2 k3 k4; rw [a2.same k k4 k2]; exact h.few k k1 k2 k3 k4
    · intro f hf; rw [a2.same _ n6 n4] at hf; exact h.pn f hf
    · intro f hf; rw [a2.new] at hf; cases hf
    · unfold logIs; simp only; rw [if_neg (by omega), a2.file]; rfl
  · refine .inr ⟨a1, ⟨h.ok, h.ep, h.zero, hok, by rw [a2.room, h.room], ?_, ?_, ?_, ?_⟩, ?_⟩
    · rw [a2.same _ (fun e => n5 e.symm)]; exact h.prom
    · intro k k1 k2 k3 k4; rw [a2.same k k4]; exact h.few k k1 k2 k3 k4
    · intro f hf; rw [a2.same _ n6] at hf; exact h.pn f hf
    · intro f hf
      rcases a2.new f hf with h' | h'
      · have := mk_size (logB ep xs); omega
      · exact h.ln f h'
    · rw [a2.same _ (fun e => n2 e.symm)]
theorem store_keep {J : Jn} {D : Disk} (h : Torn J D) (hd : D.down = false) {ep : Int} {xs : List Ent} (hl : logOk ep xs = true) (he : 1 ≤ ep ∧ ep ≤ J.p) :
    ((storeM D ep xs jLog).1 = 0 ∧ (storeM D ep xs jLog).2.down = false ∧ Keep { J with e := ep, xs := xs } (storeM D ep xs jLog).2) ∨ ((storeM D ep xs jLog).1 ≠ 0 ∧ Torn J (storeM D ep xs jLog).2) := by
  rcases store_base h.toJBase hd hl he with h1 | ⟨h1, h2, h3⟩
  · exact .inl h1
  · exact .inr ⟨h1, h2, by unfold logIs; rw [h3]; exact h.log⟩
theorem add_keep {J : Jn} {D : Disk} (h : Keep J D) (hd : D.down = false) {x : Ent} (he : J.e ≠ 0) (hx : x.n = (J.xs.length : Int) + 1) (hx2 : x.n ≤ 300) (hs : x.s.size ≤ 600) :
    ((addM D x.n x.s jLog).1 = 0 ∧ (addM D x.n x.s jLog).2.down = false ∧ Keep { J with xs := J.xs ++ [x] } (addM D x.n x.s jLog).2) ∨ ((addM D x.n x.s jLog).1 ≠ 0 ∧ Torn J (addM D x.n x.s jLog).2) := by
  obtain ⟨n1, n2, n3, n4, n5, n6⟩ := four_ne
  have hok := addM_ok h.disk x.n x.s jLog
  have hg : aget D.files jLog = some (lFile J.e J.xs) := by have := h.log; unfold logIs at this; rwa [if_neg he] at this
  have hat : D.at jLog = lFile J.e J.xs := by simp [Disk.at, hg]
  have hlog : logOk J.e (J.xs ++ [x]) = true := by
    obtain ⟨⟨l1, l2, l3⟩, l4⟩ := logOk_iff.1 h.ok.log
    refine logOk_iff.2 ⟨⟨l1, l2, by simp only [List.length_append, List.length_cons, List.length_nil]; omega⟩, ?_⟩
    rw [entsOk_snoc, l4, decide_eq_true ⟨by omega, hs⟩]; rfl
  have e0 : addM D x.n x.s jLog = if ¬ (D.append jLog (mk (partB x.n (bs x.s)))).1 = 0 then D.append jLog (mk (partB x.n (bs x.s))) else (D.append jLog (mk (partB x.n (bs x.s)))).2.sync jLog := by
    unfold addM
    rw [if_neg (by simp only [not_or]; exact ⟨by omega, by omega, by omega, name_ne (by decide), by decide⟩), read_of hd hg, if_neg (by simp)]
  rw [e0] at hok ⊢
  have base : ∀ D' : Disk, DiskOk D' → D'.room = D.room → (∀ k, k ≠ jLog → aget D'.files k = aget D.files k) → JBase J D' := fun D' k0 k1 k2 =>
    ⟨h.ok, h.ep, h.zero, k0, by rw [k1, h.room], by rw [k2 _ n3]; exact h.prom, fun k a b c d => by rw [k2 k b]; exact h.few k a b c d, fun f hf => h.pn f (by rwa [k2 _ n4] at hf), fun f hf => h.ln f (by rwa [k2 _ n2] at hf)⟩
  rcases append_eff D jLog (mk (partB x.n (bs x.s))) with ⟨a1, a2, a3, a4⟩ | ⟨a1, a3, a4⟩
  · rw [if_neg (by simpa using a1)] at hok ⊢
    rw [hat] at a3
    have g1 : ∀ k, aget (D.append jLog (mk (partB x.n (bs x.s)))).2.files k = if jLog = k then some ⟨mk (logB J.e J.xs) ++ mk (partB x.n (bs x.s)), (mk (logB J.e J.xs)).size⟩ else aget D.files k := fun k => by rw [a3, aget_aput]; rfl
    have at1 : (D.append jLog (mk (partB x.n (bs x.s)))).2.at jLog = ⟨mk (logB J.e J.xs) ++ mk (partB x.n (bs x.s)), (mk (logB J.e J.xs)).size⟩ := by simp [Disk.at, g1]
    rcases sync_eff (D.append jLog (mk (partB x.n (bs x.s)))).2 jLog with ⟨b1, b2, b3, b4⟩ | ⟨b1, b3, b4⟩
    · rw [at1] at b3
      have g2 : ∀ k, aget ((D.append jLog (mk (partB x.n (bs x.s)))).2.sync jLog).2.files k = if jLog = k then some (lFile J.e (J.xs ++ [x])) else aget D.files k := fun k => by
        rw [b3, aget_aput, g1]
        split
        · simp only [lFile, logB_put, mk_cat]
        · rfl
      have hb := base _ hok (by rw [b4, a4]) (fun k hk => by rw [g2, if_neg (fun e => hk e.symm)])
      exact .inl ⟨b1, b2, ⟨⟨hb.ok.p0, hb.ok.p1, hlog⟩, hb.ep, fun h0 => absurd h0 he, hb.disk, hb.room, hb.prom, hb.few, hb.pn, hb.ln⟩, by unfold logIs; simp only; rw [if_neg he, g2, if_pos rfl]⟩
    · exact .inr ⟨b1, base _ hok (by rw [b4, a4]) (fun k hk => by rw [b3, g1, if_neg (fun e => hk e.symm)]), .inr ⟨x, he, hlog, by rw [b3, g1, if_pos rfl]⟩⟩
  · rw [if_pos (by simpa using a1)] at hok ⊢
    exact .inr ⟨a1, base _ hok a4 (fun k _ => by rw [a3]), .inl (by unfold logIs; rw [a3]; exact h.log)⟩
/-- A request, whenever the power goes. -/
theorem hand_keep {J : Jn} {D : Disk} (h : Keep J D) (ha : J.dead = false) (hd : D.down = false) (s : List UInt8) :
    ((handJ J D s).2.1.dead = false ∧ (handJ J D s).2.2.down = false ∧ Keep (handJ J D s).2.1 (handJ J D s).2.2 ∧ Grown J (handJ J D s).2.1) ∨
    ((handJ J D s).2.1.dead = true ∧ ∃ K, K.dead = false ∧ Torn K (handJ J D s).2.2 ∧ Grown J K) := by
  have hal : ¬ J.dead = true := by rw [ha]; decide
  cases hq : readQ s with
  | none => rw [hand_none hal hq]; exact .inl ⟨ha, hd, h, Grown.refl J⟩
  | some q =>
    rw [hand_some hal hq]
    have hqo := readQ_ok hq
    have hq0 := hqo.e0
    have hq1 := hqo.e1
    have hep := h.ep
    have hje := h.ok.e0
    have same : ∀ e : Int, (e = 0 ∨ e = 10 ∨ e = 11) → (ansJ q (e, J, D)).2 = (J, D) := fun e he => by rw [ans_well (J := J) he]
    have good : ∀ (K : Jn) (E : Disk), K.dead = false → E.down = false → Keep K E → Grown J K → ((ansJ q (0, K, E)).2.1.dead = false ∧ (ansJ q (0, K, E)).2.2.down = false ∧ Keep (ansJ q (0, K, E)).2.1 (ansJ q (0, K, E)).2.2 ∧ Grown J (ansJ q (0, K, E)).2.1) := fun K E k1 k2 k3 k4 => by
      rw [ans_well (J := J) (.inl rfl)]; exact ⟨k1, k2, k3, k4⟩
    have calm : ∀ e : Int, (e = 0 ∨ e = 10 ∨ e = 11) → ((ansJ q (e, J, D)).2.1.dead = false ∧ (ansJ q (e, J, D)).2.2.down = false ∧ Keep (ansJ q (e, J, D)).2.1 (ansJ q (e, J, D)).2.2 ∧ Grown J (ansJ q (e, J, D)).2.1) := fun e he => by
      rw [same e he]; exact ⟨ha, hd, h, Grown.refl J⟩
    have bad : ∀ (r : Int × Jn × Disk), r.1 ≠ 0 → r.1 ≠ 10 → r.1 ≠ 11 → (∃ K, K.dead = false ∧ Torn K r.2.2 ∧ Grown J K) → ((ansJ q r).2.1.dead = true ∧ ∃ K, K.dead = false ∧ Torn K (ansJ q r).2.2 ∧ Grown J K) := fun r r0 r1 r2 hk => by
      unfold ansJ
      rw [if_neg (fun h => h.elim r1 r2), if_pos r0]
      exact ⟨rfl, hk⟩
    by_cases h1 : q.kind = kP
    · by_cases h2 : q.epoch ≤ J.p
      · rw [doJ, if_pos h1, if_pos h2]; exact .inl (calm 10 (.inr (.inl rfl)))
      · rw [doJ, if_pos h1, if_neg h2]
        have hc := place_code D (jProm ++ dotNew) jProm (mk (sealB (numB q.epoch)))
        rcases prom_keep h hd ⟨by omega, hq1⟩ with ⟨a1, a2, a3, a4⟩ | ⟨a1, a2, a4⟩
        · have e : promJ J D q.epoch = (0, { J with p := q.epoch }, (promJ J D q.epoch).2.2) := by rw [← a2, ← a1]
          rw [e]
          exact .inl (good _ _ ha a3 a4 ⟨by simp only; omega, Int.le_refl _, fun _ => beg_refl _⟩)
        · exact .inr (bad _ a1 hc.1 hc.2 ⟨J, ha, a4.torn, Grown.refl J⟩)
    · by_cases h2 : q.epoch < J.p ∨ (q.kind = kW ∧ (q.epoch ≠ J.p ∨ q.epoch ≠ J.e))
      · rw [doJ, if_neg h1, if_pos h2]; exact .inl (calm 10 (.inr (.inl rfl)))
      · by_cases h3 : q.kind = kW
        · rw [doJ, if_neg h1, if_neg h2, if_pos h3]
          obtain ⟨x, hx, x1, x2, x3⟩ : ∃ x : Ent, q.xs = [x] ∧ 1 ≤ x.n ∧ x.n ≤ 300 ∧ x.s.size ≤ 600 := by
            rcases hqo.kind with ⟨h, _⟩ | ⟨h, _⟩ | ⟨_, h⟩
            · exact absurd h h1
            · rw [h] at h3; exact absurd h3 kAW
            · exact h
          have hne : q.epoch = J.e := Decidable.byContradiction fun h => h2 (.inr ⟨h3, .inr h⟩)
          rw [hx]
          simp only [List.headD_cons]
          by_cases h4 : (J.xs.length : Int) + 1 < x.n ∨ (x.n ≤ (J.xs.length : Int) ∧ J.xs[(x.n - 1).toNat]? ≠ some x)
          · rw [addJ, if_pos h4]; exact .inl (calm 11 (.inr (.inr rfl)))
          · by_cases h5 : x.n ≤ (J.xs.length : Int)
            · rw [addJ, if_neg h4, if_pos h5]; exact .inl (calm 0 (.inl rfl))
            · have h6 : x.n = (J.xs.length : Int) + 1 := by
                rcases Int.lt_or_le ((J.xs.length : Int) + 1) x.n with h | h
                · exact absurd (.inl h) h4
                · omega
              rw [addJ, if_neg h4, if_neg h5]
              have hc := addM_code D x.n x.s jLog
              rcases add_keep h hd (by omega) h6 x2 x3 with ⟨a1, a2, a3⟩ | ⟨a1, a3⟩
              · rw [a1]; simp only [if_true]
                exact .inl (good _ _ ha a2 a3 ⟨Int.le_refl _, Int.le_refl _, fun _ => beg_snoc _ _⟩)
              · rw [if_neg a1]
                exact .inr (bad _ a1 hc.1 hc.2 ⟨J, ha, a3, Grown.refl J⟩)
        · have hlog : logOk q.epoch q.xs = true := by
            rcases hqo.kind with ⟨h, _⟩ | ⟨_, h⟩ | ⟨h, _⟩
            · exact absurd h h1
            · obtain ⟨⟨_, _, l3⟩, l4⟩ := logOk_iff.1 h
              exact logOk_iff.2 ⟨⟨by omega, by omega, l3⟩, l4⟩
            · exact absurd h h3
          by_cases h4 : q.epoch = J.e
          · rw [doJ, if_neg h1, if_neg h2, if_neg h3, if_pos h4]
            split
            · exact .inl (calm 0 (.inl rfl))
            · exact .inl (calm 11 (.inr (.inr rfl)))
          · rw [doJ, if_neg h1, if_neg h2, if_neg h3, if_neg h4]
            have hge : ¬ q.epoch < J.p := fun h => h2 (.inl h)
            have hst : ∀ (K : Jn) (E : Disk), K.dead = false → E.down = false → Keep K E → K.p = q.epoch → K.e = J.e → Grown J K →
                ((ansJ q (storeJ K E q.epoch q.xs)).2.1.dead = false ∧ (ansJ q (storeJ K E q.epoch q.xs)).2.2.down = false ∧ Keep (ansJ q (storeJ K E q.epoch q.xs)).2.1 (ansJ q (storeJ K E q.epoch q.xs)).2.2 ∧ Grown J (ansJ q (storeJ K E q.epoch q.xs)).2.1) ∨
                ((ansJ q (storeJ K E q.epoch q.xs)).2.1.dead = true ∧ ∃ L, L.dead = false ∧ Torn L (ansJ q (storeJ K E q.epoch q.xs)).2.2 ∧ Grown J L) := fun K E k1 k2 k3 k4 k5 k6 => by
              have hc := store_code E q.epoch q.xs jLog
              rcases store_keep k3.torn k2 hlog ⟨hq0, by omega⟩ with ⟨a1, a2, a3⟩ | ⟨a1, a3⟩
              · have e : storeJ K E q.epoch q.xs = (0, { K with e := q.epoch, xs := q.xs }, (storeM E q.epoch q.xs jLog).2) := by unfold storeJ; rw [a1]; simp
                rw [e]
                exact .inl (good _ _ k1 a2 a3 ⟨k6.p, by simp only; omega, fun h => by simp only at h; omega⟩)
              · exact .inr (bad _ a1 hc.1 hc.2 ⟨K, k1, a3, k6⟩)
            rw [accJ]
            by_cases h5 : J.p < q.epoch
            · rw [if_pos h5]
              have hc := place_code D (jProm ++ dotNew) jProm (mk (sealB (numB q.epoch)))
              rcases prom_keep h hd ⟨h5, hq1⟩ with ⟨a1, a2, a3, a4⟩ | ⟨a1, a2, a4⟩
              · rw [if_pos a1, a2]
                exact hst _ _ ha a3 a4 rfl rfl ⟨by simp only; omega, Int.le_refl _, fun _ => beg_refl _⟩
              · rw [if_neg a1]
                exact .inr (bad _ a1 hc.1 hc.2 ⟨J, ha, a4.torn, Grown.refl J⟩)
            · rw [if_neg h5]
              exact hst J D ha hd h (by omega) rfl (Grown.refl J)
end Go.Proofs.YtejdkcnbflpfaaaGreat.B
