import Derived.Test.YtfolmcpfdcgliaaGreatMg27
import Derived.Test.YtfolmcpfdcgliaaGreatMg18
import Derived.Sort.KeysCollected
set_option linter.unusedVariables false
set_option linter.unusedSimpArgs false
set_option maxRecDepth 8000
namespace Go.Proofs.YtfolmcpfdcgliaaGreat.B
open Go Go.Proofs
theorem logB_put (e : Int) (xs : List Ent) (x : Ent) : logB e (xs ++ [x]) = logB e xs ++ partB x.n (bs x.s) := by simp [logB, entB, List.append_assoc]
theorem name_ne {a : ByteArray} (h : 0 < a.size) : ¬ a = noStr := fun e => by subst e; simp [noStr_size] at h
def pFile (p : Int) : File := ⟨mk (sealB (numB p)), (mk (sealB (numB p))).size⟩
def lFile (e : Int) (xs : List Ent) : File := ⟨mk (logB e xs), (mk (logB e xs)).size⟩
def jFiles (p e : Int) (xs : List Ent) : List (ByteArray × File) := (if p = 0 then [] else [(jProm, pFile p)]) ++ (if e = 0 then [] else [(jLog, lFile e xs)])
def jD (R : Int) (J : Jn) : Disk := ⟨jFiles J.p J.e J.xs, R, sumSize (jFiles J.p J.e J.xs), 0, false⟩
structure JWell (J : Jn) : Prop where
  ok : JnOk J
  alive : J.dead = false
  ep : J.e ≤ J.p
  none : J.e = 0 → J.xs = []
theorem seal_num {p : Int} (h : I64 p) : (mk (sealB (numB p))).size ≤ 24 := by
  have h1 := num_len h
  have := (sealB_len (s := numB p) (by omega)).1
  rw [mk_size]; omega
theorem jFiles_get {p e : Int} {xs : List Ent} : aget (jFiles p e xs) jProm = (if p = 0 then none else some (pFile p)) ∧ aget (jFiles p e xs) jLog = (if e = 0 then none else some (lFile e xs)) ∧
    aget (jFiles p e xs) (jProm ++ dotNew) = none ∧ aget (jFiles p e xs) (jLog ++ dotNew) = none ∧ (jFiles p e xs).length ≤ 2 := by
  have a1 : ¬ jProm = jLog := by decide
  have a2 : ¬ jLog = jProm := by decide
  have a3 : ¬ jProm = jProm ++ dotNew := by decide
  have a4 : ¬ jLog = jProm ++ dotNew := by decide
  have a5 : ¬ jProm = jLog ++ dotNew := by decide
  have a6 : ¬ jLog = jLog ++ dotNew := by decide
  unfold jFiles
  by_cases hp : p = 0 <;> by_cases he : e = 0 <;> simp only [hp, he, if_true, if_false, List.nil_append, List.append_nil, List.cons_append, aget, a1, a2, a3, a4, a5, a6, List.length_nil, List.length_cons] <;> simp
theorem used_put {D : Disk} (h : D.used = sumSize D.files) (name : ByteArray) (x : File) : D.used + x.data.size - (D.at name).data.size = sumSize (aput D.files name x) := by
  rw [sum_aput, ← h]
  unfold Disk.at
  cases aget D.files name <;> simp [noStr_size]
theorem prom_well {R : Int} {J : Jn} (hJ : JWell J) {ep : Int} (he : 1 ≤ ep ∧ ep ≤ 9007199254740991) (hr : sumSize (jFiles J.p J.e J.xs) + 24 ≤ R) :
    promJ J (jD R J) ep = (0, { J with p := ep }, jD R { J with p := ep }) := by
  obtain ⟨g1, g2, g3, g4, g5⟩ := jFiles_get (p := J.p) (e := J.e) (xs := J.xs)
  have hsz := seal_num (p := ep) (by unfold I64; omega)
  have hpl : placeP (jD R J) ep = (0, jD R { J with p := ep }) := by
    rw [placeP, place_well (D := jD R J) rfl rfl g3 (cat_dot_ne.2.1) (by rw [cat_dot_ne.2.2]; decide) (name_ne (by decide)) (by decide) (by decide) (by omega) (by show (jFiles J.p J.e J.xs).length < 20; omega) (by show sumSize (jFiles J.p J.e J.xs) + _ ≤ R; omega)]
    have hf : aput (jFiles J.p J.e J.xs) jProm (pFile ep) = jFiles ep J.e J.xs := by
      have hne : ¬ ep = 0 := by omega
      have h0 := hJ.ok.p0
      have h1 := hJ.ep
      have h2 := hJ.ok.e0.1
      unfold jFiles
      rw [if_neg hne]
      by_cases hp : J.p = 0
      · rw [if_pos hp, if_pos (by omega)]; rfl
      · rw [if_neg hp]; simp [aput]
    have hu := used_put (D := jD R J) rfl jProm (pFile ep)
    have hu2 : (jD R J).used + (mk (sealB (numB ep))).size - ((jD R J).at jProm).data.size = sumSize (jFiles ep J.e J.xs) := by rw [← hf]; exact hu
    rw [hu2]
    show (0, Disk.mk (aput (jFiles J.p J.e J.xs) jProm (pFile ep)) R _ 0 false) = _
    rw [hf]
    rfl
  rw [promJ, hpl]; simp
theorem store_well {R : Int} {J : Jn} (hJ : JWell J) {ep : Int} {xs : List Ent} (hl : logOk ep xs = true) (he : 1 ≤ ep ∧ ep ≤ J.p) (hr : sumSize (jFiles J.p J.e J.xs) + (logB ep xs).length ≤ R) :
    storeJ J (jD R J) ep xs = (0, { J with e := ep, xs := xs }, jD R { J with e := ep, xs := xs }) := by
  obtain ⟨g1, g2, g3, g4, g5⟩ := jFiles_get (p := J.p) (e := J.e) (xs := J.xs)
  have hsm := logB_small hl
  have hpl : storeM (jD R J) ep xs jLog = (0, jD R { J with e := ep, xs := xs }) := by
    unfold storeM
    rw [if_neg (by simp only [hl, Bool.true_eq_false, false_or, not_or]; exact ⟨name_ne (by decide), by decide⟩)]
    rw [place_well (D := jD R J) rfl rfl g4 (cat_dot_ne.2.1) (by rw [cat_dot_ne.2.2]; decide) (name_ne (by decide)) (by decide) (by decide) (by rw [mk_size]; omega) (by show (jFiles J.p J.e J.xs).length < 20; omega) (by show sumSize (jFiles J.p J.e J.xs) + _ ≤ R; rw [mk_size]; exact hr)]
    have hf : aput (jFiles J.p J.e J.xs) jLog (lFile ep xs) = jFiles J.p ep xs := by
      have hne : ¬ ep = 0 := by omega
      have hp : ¬ J.p = 0 := by omega
      have a1 : ¬ jProm = jLog := by decide
      unfold jFiles
      rw [if_neg hne, if_neg hp]
      by_cases he0 : J.e = 0
      · rw [if_pos he0]; simp [aput, a1]
      · rw [if_neg he0]; simp [aput, a1]
    have hu := used_put (D := jD R J) rfl jLog (lFile ep xs)
    have hu2 : (jD R J).used + (mk (logB ep xs)).size - ((jD R J).at jLog).data.size = sumSize (jFiles J.p ep xs) := by rw [← hf]; exact hu
    rw [hu2]
    show (0, Disk.mk (aput (jFiles J.p J.e J.xs) jLog (lFile ep xs)) R _ 0 false) = _
    rw [hf]
    rfl
  rw [storeJ, hpl]; simp
theorem addM_well {R : Int} {J : Jn} (hJ : JWell J) {x : Ent} (he : J.e ≠ 0) (hx : 1 ≤ x.n ∧ x.n ≤ 300) (hs : x.s.size ≤ 600) (hr : sumSize (jFiles J.p J.e J.xs) + (partB x.n (bs x.s)).length ≤ R) :
    addM (jD R J) x.n x.s jLog = (0, jD R { J with xs := J.xs ++ [x] }) := by
  obtain ⟨g1, g2, g3, g4, g5⟩ := jFiles_get (p := J.p) (e := J.e) (xs := J.xs)
  rw [if_neg he] at g2
  have hsm := logB_small hJ.ok.log
  have hps := partB_short (n := x.n) (by unfold I64; omega) (s := bs x.s) (by rw [bs_len]; exact hs)
  rw [add_well (D := jD R J) rfl rfl g2 (name_ne (by decide)) (by decide) hx hs (by rw [mk_size]; omega) hr]
  have hcat : mk (logB J.e J.xs) ++ mk (partB x.n (bs x.s)) = mk (logB J.e (J.xs ++ [x])) := by rw [mk_cat, logB_put]
  rw [hcat]
  have hf : aput (jFiles J.p J.e J.xs) jLog (lFile J.e (J.xs ++ [x])) = jFiles J.p J.e (J.xs ++ [x]) := by
    have a1 : ¬ jProm = jLog := by decide
    unfold jFiles
    rw [if_neg he, if_neg he]
    by_cases hp : J.p = 0
    · rw [if_pos hp]; simp [aput]
    · rw [if_neg hp]; simp [aput, a1]
  have hu := used_put (D := jD R J) rfl jLog (lFile J.e (J.xs ++ [x]))
  have hat : (jD R J).at jLog = lFile J.e J.xs := by unfold Disk.at; rw [show aget (jD R J).files jLog = _ from g2]; rfl
  rw [hat] at hu
  have hu2 : (jD R J).used + (partB x.n (bs x.s)).length = sumSize (jFiles J.p J.e (J.xs ++ [x])) := by
    rw [← hf]
    have : ((lFile J.e (J.xs ++ [x])).data.size : Int) - (lFile J.e J.xs).data.size = (partB x.n (bs x.s)).length := by
      simp only [lFile, mk_size, logB_put, List.length_append]; omega
    have h2 : (jD R J).files = jFiles J.p J.e J.xs := rfl
    rw [← h2, ← hu]; omega
  rw [hu2]
  show (0, Disk.mk (aput (jFiles J.p J.e J.xs) jLog (lFile J.e (J.xs ++ [x]))) R _ 0 false) = _
  rw [hf]
  rfl
theorem addJ_well {R : Int} {J : Jn} (hJ : JWell J) {x : Ent} (he : J.e ≠ 0) (hx : x.n = (J.xs.length : Int) + 1) (hx2 : x.n ≤ 300) (hs : x.s.size ≤ 600) (hr : sumSize (jFiles J.p J.e J.xs) + (partB x.n (bs x.s)).length ≤ R) :
    addJ J (jD R J) x = (0, { J with xs := J.xs ++ [x] }, jD R { J with xs := J.xs ++ [x] }) := by
  rw [addJ, if_neg (fun h => h.elim (fun h => by omega) (fun h => by have := h.1; omega)), if_neg (by omega), addM_well hJ he (by omega) hs hr]
  simp
theorem files_small {J : Jn} (hJ : JWell J) : sumSize (jFiles J.p J.e J.xs) ≤ 24 + 187900 := by
  have h1 := seal_num (p := J.p) (by have := hJ.ok.p0; have := hJ.ok.p1; unfold I64; omega)
  have h2 := logB_small hJ.ok.log
  unfold jFiles
  by_cases hp : J.p = 0 <;> by_cases he : J.e = 0 <;> simp only [hp, he, if_true, if_false, List.nil_append, List.append_nil, List.cons_append, sumSize, fsize, pFile, lFile, List.map_nil, List.map_cons, List.sum_nil, List.sum_cons, mk_size] at h1 h2 ⊢ <;> omega
theorem new_jD {R : Int} (h : 0 ≤ R) : Disk.new R = jD R ⟨0, 0, [], false⟩ := by rw [new_is h]; simp [jD, jFiles, sumSize]
theorem open_new (R : Int) (h : 0 ≤ R) : openJ (Disk.new R) = (0, ⟨0, 0, [], false⟩, jD R ⟨0, 0, [], false⟩) := by
  have r1 : ∀ nm, (Disk.new R).read nm = (noStr, 5) := fun nm => read_none rfl (by simp [Disk.new, aget])
  rw [openJ, r1, if_pos rfl, open2, r1]
  simp only [loadM]
  rw [← new_jD h]
  simp
theorem well0 : JWell ⟨0, 0, [], false⟩ := ⟨⟨Int.le_refl _, by decide, by decide⟩, rfl, Int.le_refl _, fun _ => rfl⟩
theorem readQ_ok {s : List UInt8} {q : Rq} (hq : readQ s = some q) : RqOk q := by
  unfold readQ at hq
  cases hsp : splitP s with
  | none => rw [hsp] at hq; cases hq
  | some l => rw [hsp] at hq; exact readL_ok hq
theorem ans_well {J J' : Jn} {D : Disk} {q : Rq} {e : Int} (he : e = 0 ∨ e = 10 ∨ e = 11) : ansJ q (e, J', D) = (if e = 0 then (if q.kind = kP then toldB J'.e J'.xs else saidB 0) else saidB e, J', D) := by
  unfold ansJ
  rcases he with rfl | rfl | rfl
  · simp; split <;> rfl
  · simp
  · simp
theorem store_jok {J : Jn} {D : Disk} (hJ : JnOk J) (hD : DiskOk D) {ep : Int} {xs : List Ent} (hl : logOk ep xs = true) : JnOk (storeJ J D ep xs).2.1 ∧ DiskOk (storeJ J D ep xs).2.2 := by
  refine ⟨?_, storeM_ok hD ep xs jLog⟩
  unfold storeJ; simp only
  split
  · exact ⟨hJ.p0, hJ.p1, hl⟩
  · exact hJ
theorem prom_jok {J : Jn} {D : Disk} (hJ : JnOk J) (hD : DiskOk D) {ep : Int} (he : 1 ≤ ep ∧ ep ≤ 9007199254740991) : JnOk (promJ J D ep).2.1 ∧ DiskOk (promJ J D ep).2.2 := by
  refine ⟨?_, place1_ok hD _ _ _⟩
  unfold promJ; simp only
  split
  · exact ⟨by simp only; omega, he.2, hJ.log⟩
  · exact hJ
theorem add_jok {J : Jn} {D : Disk} (hJ : JnOk J) (hD : DiskOk D) {x : Ent} (hx : 1 ≤ x.n ∧ x.n ≤ 300 ∧ x.s.size ≤ 600) : JnOk (addJ J D x).2.1 ∧ DiskOk (addJ J D x).2.2 := by
  unfold addJ
  split
  · exact ⟨hJ, hD⟩
  · rename_i h1
    split
    · exact ⟨hJ, hD⟩
    · rename_i h2
      refine ⟨?_, addM_ok hD _ _ _⟩
      simp only
      split
      · obtain ⟨⟨l1, l2, l3⟩, l4⟩ := logOk_iff.1 hJ.log
        simp only [not_or] at h1
        refine ⟨hJ.p0, hJ.p1, logOk_iff.2 ⟨⟨l1, l2, by simp only [List.length_append, List.length_cons, List.length_nil]; omega⟩, ?_⟩⟩
        rw [entsOk_snoc, l4, decide_eq_true ⟨by omega, hx.2.2⟩]; rfl
      · exact hJ
theorem do_jok {J : Jn} {D : Disk} (hJ : JnOk J) (hD : DiskOk D) {q : Rq} (hq : RqOk q) : JnOk (doJ J D q).2.1 ∧ DiskOk (doJ J D q).2.2 := by
  have he := And.intro hq.e0 hq.e1
  unfold doJ
  split
  · split
    · exact ⟨hJ, hD⟩
    · exact prom_jok hJ hD he
  · rename_i h1
    split
    · exact ⟨hJ, hD⟩
    · rename_i h2
      split
      · rename_i h3
        refine add_jok hJ hD ?_
        rcases hq.kind with ⟨h, _⟩ | ⟨h, _⟩ | ⟨_, x, hx, h4⟩
        · exact absurd h h1
        · rw [h] at h3; exact absurd h3 kAW
        · rw [hx]; exact h4
      · rename_i h3
        have hl : logOk q.epoch q.xs = true := by
          rcases hq.kind with ⟨h, _⟩ | ⟨_, h⟩ | ⟨h, _⟩
          · exact absurd h h1
          · obtain ⟨⟨_, _, l3⟩, l4⟩ := logOk_iff.1 h
            exact logOk_iff.2 ⟨⟨by omega, by omega, l3⟩, l4⟩
          · exact absurd h h3
        split
        · split <;> exact ⟨hJ, hD⟩
        · unfold accJ
          split
          · have hp := prom_jok hJ hD he
            split
            · exact store_jok hp.1 hp.2 hl
            · exact hp
          · exact store_jok hJ hD hl
theorem hand_jok {J : Jn} {D : Disk} (hJ : JnOk J) (hD : DiskOk D) (s : List UInt8) : JnOk (handJ J D s).2.1 ∧ DiskOk (handJ J D s).2.2 := by
  unfold handJ
  split
  · exact ⟨hJ, hD⟩
  · cases hq : readQ s with
    | none => exact ⟨hJ, hD⟩
    | some q =>
      have h := do_jok hJ hD (readQ_ok hq)
      simp only
      unfold ansJ
      split
      · exact h
      · split
        · exact ⟨⟨h.1.p0, h.1.p1, h.1.log⟩, h.2⟩
        · split <;> exact h
noncomputable def askM (kind ep : Int) (l : List Ent) (x : Ent) (raw : ByteArray) : ByteArray :=
  if pickM kind 8 = 0 then mk (joinB (promL ep))
  else if pickM kind 8 = 1 then (if logOk ep l = true then mk (joinB (accL ep l)) else ⟨#[]⟩)
  else if pickM kind 8 ≤ 4 then (if 1 ≤ x.n ∧ x.n ≤ 300 ∧ x.s.size ≤ 600 then mk (joinB (addL ep x)) else ⟨#[]⟩)
  else raw
theorem hand_some {J : Jn} {D : Disk} {s : List UInt8} {q : Rq} (hd : ¬ J.dead = true) (hq : readQ s = some q) : handJ J D s = ansJ q (doJ J D q) := by rw [handJ, if_neg hd, hq]
theorem hand_none {J : Jn} {D : Disk} {s : List UInt8} (hd : ¬ J.dead = true) (hq : readQ s = none) : handJ J D s = (saidB 2, J, D) := by rw [handJ, if_neg hd, hq]
abbrev jx : ByteArray := ⟨#[120]⟩
abbrev jy : ByteArray := ⟨#[121]⟩
end Go.Proofs.YtfolmcpfdcgliaaGreat.B

set_option linter.unusedSectionVars false
namespace Go.Proofs.YtfolmcpfdcgliaaGreat.B
open Go
def toL (b : ByteArray) : List UInt8 := b.data.toList
def ofL (l : List UInt8) : ByteArray := ⟨l.toArray⟩
theorem ofL_toL (b : ByteArray) : ofL (toL b) = b := by cases b; rfl
theorem toL_ofL (l : List UInt8) : toL (ofL l) = l := rfl
theorem toL_inj {a b : ByteArray} (h : toL a = toL b) : a = b := by rw [← ofL_toL a, h, ofL_toL]
abbrev leS (x y : List UInt8) : Bool := decide (x ≤ y)
def sortS (xs : List ByteArray) : List ByteArray := ((xs.map toL).mergeSort leS).map ofL
theorem sortS_perm (xs : List ByteArray) : (sortS xs).Perm xs := by
  have h := (List.mergeSort_perm (xs.map toL) leS).map ofL
  rw [List.map_map, show ofL ∘ toL = id from funext ofL_toL, List.map_id] at h
  exact h
theorem sortS_len (xs : List ByteArray) : (sortS xs).length = xs.length := (sortS_perm xs).length_eq
theorem sortS_mem {xs : List ByteArray} {a : ByteArray} : a ∈ sortS xs ↔ a ∈ xs := (sortS_perm xs).mem_iff
theorem sortS_nodup {xs : List ByteArray} (h : xs.Nodup) : (sortS xs).Nodup := (sortS_perm xs).nodup_iff.2 h
theorem sortS_le (xs : List ByteArray) : (sortS xs).Pairwise (fun a b => toL a ≤ toL b) := by
  have h := List.pairwise_mergeSort (le := leS) (fun a b c h1 h2 => by simp only [leS, decide_eq_true_eq] at *; exact List.le_trans h1 h2) (fun a b => by simp only [leS, Bool.or_eq_true, decide_eq_true_eq]; exact List.le_total a b) (xs.map toL)
  refine List.pairwise_map.2 (h.imp fun {a b} hab => ?_)
  simpa [leS, toL_ofL] using hab
theorem sortS_lt {xs : List ByteArray} (hn : xs.Nodup) : (sortS xs).Pairwise (fun a b => toL a < toL b) := by
  refine ((sortS_le xs).and (sortS_nodup hn)).imp fun {a b} ⟨h1, h2⟩ => ?_
  exact Decidable.byContradiction fun hn => h2 (toL_inj (List.le_antisymm h1 (List.not_lt.1 hn)))
def Disk.names (D : Disk) : List ByteArray := sortS (D.files.map (·.1))
def Disk.list (D : Disk) : List ByteArray := if D.down = true then [] else D.names
def Disk.usedOf (D : Disk) : Int := if D.down = true then 0 else D.used
def Disk.light (D : Disk) (n : Int) : Disk := { D with fuse := max n 0 }
def keepN (keeps : List Int) (i : Nat) : Int := if keeps.getD i 0 < 0 then -keeps.getD i 0 - 1 else keeps.getD i 0
def crashN (f : File) (c : Int) : Int := f.synced + c % ((f.data.size : Int) - f.synced + 1)
def crashF (f : File) (c : Int) : Option File := if crashN f c = 0 ∧ f.synced = 0 then none else some ⟨f.data.extract 0 (crashN f c).toNat, crashN f c⟩
def crashOne (s : List (ByteArray × File) × Int) (nm : ByteArray) (f : File) (c : Int) : List (ByteArray × File) × Int :=
  match crashF f c with
  | none => (adel s.1 nm, s.2)
  | some g => (aput s.1 nm g, s.2 + g.synced)
def crashSt (D : Disk) (keeps : List Int) : Nat → List (ByteArray × File) × Int
  | 0 => (D.files, 0)
  | k + 1 => crashOne (crashSt D keeps k) (D.names.getD k noStr) (D.at (D.names.getD k noStr)) (keepN keeps k)
def Disk.crash (D : Disk) (keeps : List Int) : Disk := ⟨(crashSt D keeps D.names.length).1, D.room, (crashSt D keeps D.names.length).2, 0, false⟩
theorem keepN_nonneg (keeps : List Int) (i : Nat) : 0 ≤ keepN keeps i := by unfold keepN; split <;> omega
theorem crashN_ok {f : File} (hf : FileOk f) {c : Int} (hc : 0 ≤ c) : f.synced ≤ crashN f c ∧ crashN f c ≤ f.data.size := by
  have h0 := hf.s1
  have h1 := Int.emod_nonneg c (b := (f.data.size : Int) - f.synced + 1) (by omega)
  have h2 := Int.emod_lt_of_pos c (b := (f.data.size : Int) - f.synced + 1) (by omega)
  unfold crashN; omega
theorem extract0_size (b : ByteArray) (n : Nat) (h : n ≤ b.size) : (b.extract 0 n).size = n := by
  rw [ByteArray.size_extract]; omega
theorem crashF_some {f g : File} (hf : FileOk f) {c : Int} (hc : 0 ≤ c) (h : crashF f c = some g) : g.synced = crashN f c ∧ (g.data.size : Int) = g.synced ∧ g.data.size ≤ f.data.size ∧ FileOk g := by
  obtain ⟨h1, h2⟩ := crashN_ok hf hc
  have h0 := hf.s0
  have hm := hf.most
  unfold crashF at h
  split at h
  · cases h
  · injection h with h
    subst h
    have hs : (f.data.extract 0 (crashN f c).toNat).size = (crashN f c).toNat := extract0_size _ _ (by omega)
    refine ⟨rfl, by simp only [hs]; omega, by simp only [hs]; omega, ⟨by simp only; omega, by simp only [hs]; omega, by simp only [hs]; omega⟩⟩
section
variable {D : Disk} (h : DiskOk D)
include h
theorem names_nodup : D.names.Nodup := sortS_nodup h.nodup
theorem names_len : D.names.length = D.files.length := by rw [Disk.names, sortS_len, List.length_map]
theorem names_has {nm : ByteArray} : nm ∈ D.names ↔ D.has nm = true := by
  rw [Disk.names, sortS_mem, Disk.has]
  cases hg : aget D.files nm with
  | none => simp [aget_none.1 hg]
  | some f => simpa using ⟨f, aget_mem hg⟩
theorem has_at {nm : ByteArray} (hh : D.has nm = true) : aget D.files nm = some (D.at nm) := by
  unfold Disk.has at hh
  unfold Disk.at
  cases hg : aget D.files nm with
  | none => rw [hg] at hh; cases hh
  | some f => rfl
theorem names_inj {i j : Nat} (hi : i < D.names.length) (hj : j < D.names.length) (e : D.names.getD i noStr = D.names.getD j noStr) : i = j := by
  have h1 := names_nodup h
  rw [List.getD_eq_getElem?_getD, List.getD_eq_getElem?_getD, List.getElem?_eq_getElem hi, List.getElem?_eq_getElem hj] at e
  exact (List.getElem_inj h1).1 e
theorem names_at {i : Nat} (hi : i < D.names.length) : D.has (D.names.getD i noStr) = true := by
  rw [List.getD_eq_getElem?_getD, List.getElem?_eq_getElem hi]
  exact (names_has h).1 (List.getElem_mem hi)
theorem crashSt_nodup (keeps : List Int) : ∀ k, ((crashSt D keeps k).1.map (·.1)).Nodup
  | 0 => h.nodup
  | k + 1 => by
    have := crashSt_nodup keeps k
    simp only [crashSt, crashOne]
    split
    · exact adel_nodup this
    · exact aput_nodup this
theorem crashSt_other (keeps : List Int) : ∀ {k : Nat} {nm : ByteArray}, (∀ j, j < k → D.names.getD j noStr ≠ nm) → aget (crashSt D keeps k).1 nm = aget D.files nm
  | 0, nm, _ => rfl
  | k + 1, nm, hj => by
    have ih := crashSt_other keeps (k := k) (nm := nm) (fun j hj' => hj j (by omega))
    have hne := hj k (by omega)
    simp only [crashSt, crashOne]
    split
    · rw [aget_adel _ _ (crashSt_nodup h keeps k), if_neg hne]; exact ih
    · rw [aget_aput, if_neg hne]; exact ih
theorem crashSt_done (keeps : List Int) : ∀ {k j : Nat}, j < k → k ≤ D.names.length → aget (crashSt D keeps k).1 (D.names.getD j noStr) = crashF (D.at (D.names.getD j noStr)) (keepN keeps j)
  | 0, j, hj, _ => absurd hj (Nat.not_lt_zero j)
  | k + 1, j, hj, hk => by
    by_cases e : j = k
    · subst e
      simp only [crashSt, crashOne]
      split
      · rename_i e; rw [aget_adel _ _ (crashSt_nodup h keeps j), if_pos rfl, e]
      · rename_i g e; rw [aget_aput, if_pos rfl, e]
    · have ih := crashSt_done keeps (k := k) (j := j) (by omega) (by omega)
      have hne : D.names.getD k noStr ≠ D.names.getD j noStr := fun e' => e (names_inj h (by omega) (by omega) e').symm
      simp only [crashSt, crashOne]
      split
      · rw [aget_adel _ _ (crashSt_nodup h keeps k), if_neg hne]; exact ih
      · rw [aget_aput, if_neg hne]; exact ih
theorem crashSt_next (keeps : List Int) {k : Nat} (hk : k < D.names.length) : aget (crashSt D keeps k).1 (D.names.getD k noStr) = some (D.at (D.names.getD k noStr)) := by
  rw [crashSt_other h keeps (fun j hj e => absurd (names_inj h (by omega) hk e) (by omega))]
  exact has_at h (names_at h hk)
theorem crashSt_mem (keeps : List Int) : ∀ {k : Nat} {x : ByteArray × File}, k ≤ D.names.length → x ∈ (crashSt D keeps k).1 → FileOk x.2 ∧ 1 ≤ x.1.size ∧ x.1.size ≤ 30
  | 0, x, _, hx => ⟨h.fileOk x hx, h.keys x hx⟩
  | k + 1, x, hk, hx => by
    have ih := fun y => crashSt_mem keeps (k := k) (x := y) (by omega)
    simp only [crashSt, crashOne] at hx
    split at hx
    · exact ih x ((adel_sub _ _).mem hx)
    · rename_i g e
      rcases aput_mem hx with rfl | hx
      · have hm := aget_mem (crashSt_next h keeps (k := k) (by omega))
        exact ⟨(crashF_some (h.at_ok _) (keepN_nonneg _ _) e).2.2.2, (ih _ hm).2⟩
      · exact ih x hx
theorem crashSt_len (keeps : List Int) : ∀ {k : Nat}, k ≤ D.names.length → (crashSt D keeps k).1.length ≤ D.files.length
  | 0, _ => Nat.le_refl _
  | k + 1, hk => by
    have ih := crashSt_len keeps (k := k) (by omega)
    simp only [crashSt, crashOne]
    split
    · exact Nat.le_trans (adel_sub _ _).length_le ih
    · rw [aput_length, crashSt_next h keeps (by omega)]; exact ih
def restSum (D : Disk) (k : Nat) : Int := ((D.names.drop k).map fun nm => ((D.at nm).data.size : Int)).sum
omit h in
theorem restSum_step {k : Nat} (hk : k < D.names.length) : restSum D k = ((D.at (D.names.getD k noStr)).data.size : Int) + restSum D (k + 1) := by
  unfold restSum
  rw [List.drop_eq_getElem_cons hk, List.map_cons, List.sum_cons, List.getD_eq_getElem?_getD, List.getElem?_eq_getElem hk]; rfl
theorem restSum_all : restSum D 0 = sumSize D.files := by
  have hp := (sortS_perm (D.files.map (·.1))).map (fun nm => ((D.at nm).data.size : Int))
  unfold restSum
  rw [List.drop_zero]
  show ((Disk.names D).map _).sum = _
  have h2 : (D.names.map fun nm => ((D.at nm).data.size : Int)).sum = ((D.files.map (·.1)).map fun nm => ((D.at nm).data.size : Int)).sum := by
    have : ∀ {l l' : List Int}, l.Perm l' → l.sum = l'.sum := fun {l l'} hp => by
      induction hp with
      | nil => rfl
      | cons x _ ih => simp only [List.sum_cons, ih]
      | swap x y l => simp only [List.sum_cons]; omega
      | trans _ _ ih1 ih2 => exact ih1.trans ih2
    exact this hp
  rw [h2, List.map_map]
  unfold sumSize
  congr 1
  refine List.map_congr_left fun x hx => ?_
  simp only [Function.comp, fsize]
  obtain ⟨nm, f⟩ := x
  have : aget D.files nm = some f := by
    have hnd := h.nodup
    clear h2 hp h
    revert hx hnd
    generalize D.files = l
    intro hx hnd
    induction l with
    | nil => cases hx
    | cons y r ih =>
      obtain ⟨j, z⟩ := y
      simp only [List.map_cons, List.nodup_cons] at hnd
      simp only [aget]
      rcases List.mem_cons.1 hx with e | hx
      · injection e with e1 e2; subst e1; subst e2; simp
      · have hne : j ≠ nm := fun e => hnd.1 (e ▸ List.mem_map_of_mem hx)
        rw [if_neg hne]; exact ih hx hnd.2
  simp [Disk.at, this]
theorem crashSt_sum (keeps : List Int) : ∀ {k : Nat}, k ≤ D.names.length → sumSize (crashSt D keeps k).1 = (crashSt D keeps k).2 + restSum D k ∧ 0 ≤ (crashSt D keeps k).2 ∧ (crashSt D keeps k).2 + restSum D k ≤ D.used
  | 0, _ => ⟨by simp [crashSt, restSum_all h], Int.le_refl _, by simp [crashSt, restSum_all h, h.used]⟩
  | k + 1, hk => by
    obtain ⟨i1, i2, i3⟩ := crashSt_sum keeps (k := k) (by omega)
    have hn := crashSt_next h keeps (k := k) (by omega)
    rw [restSum_step (by omega)] at i1 i3
    simp only [crashSt, crashOne]
    split
    · rename_i e
      refine ⟨?_, i2, by simp only; omega⟩
      simp only [sum_adel, hn]; omega
    · rename_i g e
      obtain ⟨g1, g2, g3, g4⟩ := crashF_some (h.at_ok _) (keepN_nonneg _ _) e
      have := g4.s0
      refine ⟨?_, by simp only; omega, by simp only; omega⟩
      simp only [sum_aput, hn]; omega
theorem crash_ok (keeps : List Int) : DiskOk (D.crash keeps) := by
  obtain ⟨s1, s2, s3⟩ := crashSt_sum h keeps (Nat.le_refl _)
  have hl := crashSt_len h keeps (Nat.le_refl _)
  have hc := h.count
  have hr : restSum D D.names.length = 0 := by simp [restSum]
  have h0 := h.room0
  refine ⟨crashSt_nodup h keeps _, fun x hx => (crashSt_mem h keeps (Nat.le_refl _) hx).1, fun x hx => (crashSt_mem h keeps (Nat.le_refl _) hx).2, ?_, ?_, ?_, h.room1, Int.le_refl _, by simp [Disk.crash]⟩
  · simp only [Disk.crash]; omega
  · simp only [Disk.crash]; omega
  · simp only [Disk.crash]; omega
theorem crash_get (keeps : List Int) {i : Nat} {nm : ByteArray} (hi : D.names[i]? = some nm) : aget (D.crash keeps).files nm = crashF (D.at nm) (keepN keeps i) := by
  obtain ⟨hlt, e⟩ := List.getElem?_eq_some_iff.1 hi
  have := crashSt_done h keeps hlt (Nat.le_refl _)
  rw [List.getD_eq_getElem?_getD, hi] at this
  exact this
theorem crash_none (keeps : List Int) {nm : ByteArray} (hn : D.has nm = false) : aget (D.crash keeps).files nm = none := by
  show aget (crashSt D keeps D.names.length).1 nm = none
  rw [crashSt_other h keeps (fun j hj e => by have := names_at h hj; rw [e, hn] at this; cases this)]
  unfold Disk.has at hn
  cases hg : aget D.files nm with
  | none => rfl
  | some f => rw [hg] at hn; cases hn
theorem crash_some (keeps : List Int) {nm : ByteArray} (hn : D.has nm = true) : ∃ c, 0 ≤ c ∧ aget (D.crash keeps).files nm = crashF (D.at nm) c := by
  obtain ⟨i, hi⟩ := List.getElem?_of_mem ((names_has h).2 hn)
  exact ⟨_, keepN_nonneg _ _, crash_get h keeps hi⟩
theorem light_ok {n : Int} (hn : n ≤ 9223372036854775807) : DiskOk (D.light n) := ⟨h.nodup, h.fileOk, h.keys, h.count, h.used, h.room0, h.room1, by simp only [Disk.light]; omega, by simp only [Disk.light]; omega⟩
end
theorem sortS_nil : sortS [] = [] := List.perm_nil.1 (sortS_perm [])
end Go.Proofs.YtfolmcpfdcgliaaGreat.B

namespace Go.Proofs.YtfolmcpfdcgliaaGreat.B
open Go Go.Proofs
def cutB (s : ByteArray) (m : Nat) : ByteArray := s.extract 0 (min s.size m)
theorem size_zero {a : ByteArray} (h : a.size = 0) : a = noStr := by
  cases a with | mk d => simp only [ByteArray.size] at h; simp only [noStr, ByteArray.mk.injEq]; exact Array.eq_empty_of_size_eq_zero h
theorem app_extract (a b : ByteArray) (n : Nat) : (a ++ b).extract 0 (a.size + n) = a ++ b.extract 0 n := by
  apply ByteArray.ext
  have h1 : a.size = a.data.size := rfl
  have h2 : a.data.extract 0 (a.data.size + n) = a.data := by
    apply Array.toList_inj.1
    rw [Array.toList_extract, List.extract_eq_take_drop, List.drop_zero, List.take_of_length_le (by simp)]
  simp only [ByteArray.data_extract, ByteArray.data_append, h1, Array.extract_append, h2]
  simp
theorem cut_self (d : ByteArray) : d.extract 0 d.size = d := ByteArray.extract_zero_size
theorem crashF_full {d : ByteArray} {c : Int} (hc : 0 ≤ c) : crashF ⟨d, d.size⟩ c = if d.size = 0 then none else some ⟨d, d.size⟩ := by
  have hn : crashN ⟨d, d.size⟩ c = d.size := by
    simp only [crashN, Int.sub_self, Int.zero_add, Int.emod_one, Int.add_zero]
  unfold crashF
  rw [hn]
  by_cases h : d.size = 0
  · rw [if_pos h, if_pos ⟨by omega, by simp only; omega⟩]
  · rw [if_neg h, if_neg (fun e => by have := e.1; omega), Int.toNat_natCast, cut_self]
theorem crash_full {D : Disk} (h : DiskOk D) {nm d : ByteArray} (keeps : List Int) (hg : aget D.files nm = some ⟨d, d.size⟩) : aget (D.crash keeps).files nm = if d.size = 0 then none else some ⟨d, d.size⟩ := by
  have hh : D.has nm = true := by simp [Disk.has, hg]
  have ha : D.at nm = ⟨d, d.size⟩ := by simp [Disk.at, hg]
  obtain ⟨c, hc, e⟩ := crash_some h keeps hh
  rw [e, ha, crashF_full hc]
theorem read_of {D : Disk} {nm : ByteArray} {f : File} (hd : D.down = false) (hg : aget D.files nm = some f) : D.read nm = (f.data, 0) := by
  simp [Disk.read, hd, Disk.has, Disk.at, hg]
theorem read_no {D : Disk} {nm : ByteArray} (hd : D.down = false) (hg : aget D.files nm = none) : D.read nm = (noStr, 5) := by
  simp [Disk.read, hd, Disk.has, hg]
end Go.Proofs.YtfolmcpfdcgliaaGreat.B
