import Derived.Test.YtfolmcpfdcgliaaGreatMg29
set_option linter.unusedVariables false
set_option linter.unusedSimpArgs false
set_option maxRecDepth 8000
/-! A journal node's files, on a disk that is well. -/
namespace Go.Proofs.YtfolmcpfdcgliaaGreat.B
open Go Go.Proofs

theorem logB_put (e : Int) (xs : List Ent) (x : Ent) : logB e (xs ++ [x]) = logB e xs ++ partB x.n (bs x.s) := by simp [logB, entB, List.append_assoc]
theorem name_ne {a : ByteArray} (h : 0 < a.size) : ¬ a = noStr := fun e => by subst e; simp [noStr_size] at h
def pFile (p : Int) : File := ⟨mk (sealB (numB p)), (mk (sealB (numB p))).size⟩
def lFile (e : Int) (xs : List Ent) : File := ⟨mk (logB e xs), (mk (logB e xs)).size⟩
def jFiles (p e : Int) (xs : List Ent) : List (ByteArray × File) := (if p = 0 then [] else [(jProm, pFile p)]) ++ (if e = 0 then [] else [(jLog, lFile e xs)])
def jD (R : Int) (J : Jn) : Disk := ⟨jFiles J.p J.e J.xs, R, sumSize (jFiles J.p J.e J.xs), 0, false⟩
structure JWell (J : Jn) : Prop where
  ok : JnOk J
  alive : J.dead = false
  ep : J.e ≤ J.p
  none : J.e = 0 → J.xs = []
theorem seal_num {p : Int} (h : I64 p) : (mk (sealB (numB p))).size ≤ 24 := by
  have h1 := num_len h
  have := (sealB_len (s := numB p) (by omega)).1
  rw [mk_size]; omega
theorem dot_ne (nm : ByteArray) (h : nm = jProm ∨ nm = jLog) : nm ≠ noStr ∧ nm.size ≤ 16 := by
  rcases h with rfl | rfl
  · exact ⟨name_ne (by decide), by decide⟩
  · exact ⟨name_ne (by decide), by decide⟩
theorem jFiles_get {p e : Int} {xs : List Ent} : aget (jFiles p e xs) jProm = (if p = 0 then none else some (pFile p)) ∧ aget (jFiles p e xs) jLog = (if e = 0 then none else some (lFile e xs)) ∧
    aget (jFiles p e xs) (jProm ++ dotNew) = none ∧ aget (jFiles p e xs) (jLog ++ dotNew) = none ∧ (jFiles p e xs).length ≤ 2 := by
  have a1 : ¬ jProm = jLog := by decide
  have a2 : ¬ jLog = jProm := by decide
  have a3 : ¬ jProm = jProm ++ dotNew := by decide
  have a4 : ¬ jLog = jProm ++ dotNew := by decide
  have a5 : ¬ jProm = jLog ++ dotNew := by decide
  have a6 : ¬ jLog = jLog ++ dotNew := by decide
  unfold jFiles
  by_cases hp : p = 0 <;> by_cases he : e = 0 <;> simp only [hp, he, if_true, if_false, List.nil_append, List.append_nil, List.cons_append, aget, a1, a2, a3, a4, a5, a6, List.length_nil, List.length_cons] <;> simp
theorem used_put {D : Disk} (h : D.used = sumSize D.files) (name : ByteArray) (x : File) : D.used + x.data.size - (D.at name).data.size = sumSize (aput D.files name x) := by
  rw [sum_aput, ← h]
  unfold Disk.at
  cases aget D.files name <;> simp [noStr_size]
theorem prom_well {R : Int} {J : Jn} (hJ : JWell J) {ep : Int} (he : 1 ≤ ep ∧ ep ≤ 9007199254740991) (hr : sumSize (jFiles J.p J.e J.xs) + 24 ≤ R) :
    promJ J (jD R J) ep = (0, { J with p := ep }, jD R { J with p := ep }) := by
  obtain ⟨g1, g2, g3, g4, g5⟩ := jFiles_get (p := J.p) (e := J.e) (xs := J.xs)
  have hsz := seal_num (p := ep) (by unfold I64; omega)
  have hpl : placeP (jD R J) ep = (0, jD R { J with p := ep }) := by
    rw [placeP, place_well (D := jD R J) rfl rfl g3 (cat_dot_ne.2.1) (by rw [cat_dot_ne.2.2]; decide) (name_ne (by decide)) (by decide) (by decide) (by omega) (by show (jFiles J.p J.e J.xs).length < 20; omega) (by show sumSize (jFiles J.p J.e J.xs) + _ ≤ R; omega)]
    have hf : aput (jFiles J.p J.e J.xs) jProm (pFile ep) = jFiles ep J.e J.xs := by
      have hne : ¬ ep = 0 := by omega
      have h0 := hJ.ok.p0
      have h1 := hJ.ep
      have h2 := hJ.ok.e0.1
      unfold jFiles
      rw [if_neg hne]
      by_cases hp : J.p = 0
      · rw [if_pos hp, if_pos (by omega)]; rfl
      · rw [if_neg hp]; simp [aput]
    have hu := used_put (D := jD R J) rfl jProm (pFile ep)
    have hu2 : (jD R J).used + (mk (sealB (numB ep))).size - ((jD R J).at jProm).data.size = sumSize (jFiles ep J.e J.xs) := by rw [← hf]; exact hu
    rw [hu2]
    show (0, Disk.mk (aput (jFiles J.p J.e J.xs) jProm (pFile ep)) R _ 0 false) = _
    rw [hf]
    rfl
  rw [promJ, hpl]; simp
theorem store_well {R : Int} {J : Jn} (hJ : JWell J) {ep : Int} {xs : List Ent} (hl : logOk ep xs = true) (he : 1 ≤ ep ∧ ep ≤ J.p) (hr : sumSize (jFiles J.p J.e J.xs) + (logB ep xs).length ≤ R) :
    storeJ J (jD R J) ep xs = (0, { J with e := ep, xs := xs }, jD R { J with e := ep, xs := xs }) := by
  obtain ⟨g1, g2, g3, g4, g5⟩ := jFiles_get (p := J.p) (e := J.e) (xs := J.xs)
  have hsm := logB_small hl
  have hpl : storeM (jD R J) ep xs jLog = (0, jD R { J with e := ep, xs := xs }) := by
    unfold storeM
    rw [if_neg (by simp only [hl, Bool.true_eq_false, false_or, not_or]; exact ⟨name_ne (by decide), by decide⟩)]
    rw [place_well (D := jD R J) rfl rfl g4 (cat_dot_ne.2.1) (by rw [cat_dot_ne.2.2]; decide) (name_ne (by decide)) (by decide) (by decide) (by rw [mk_size]; omega) (by show (jFiles J.p J.e J.xs).length < 20; omega) (by show sumSize (jFiles J.p J.e J.xs) + _ ≤ R; rw [mk_size]; exact hr)]
    have hf : aput (jFiles J.p J.e J.xs) jLog (lFile ep xs) = jFiles J.p ep xs := by
      have hne : ¬ ep = 0 := by omega
      have hp : ¬ J.p = 0 := by omega
      have a1 : ¬ jProm = jLog := by decide
      unfold jFiles
      rw [if_neg hne, if_neg hp]
      by_cases he0 : J.e = 0
      · rw [if_pos he0]; simp [aput, a1]
      · rw [if_neg he0]; simp [aput, a1]
    have hu := used_put (D := jD R J) rfl jLog (lFile ep xs)
    have hu2 : (jD R J).used + (mk (logB ep xs)).size - ((jD R J).at jLog).data.size = sumSize (jFiles J.p ep xs) := by rw [← hf]; exact hu
    rw [hu2]
    show (0, Disk.mk (aput (jFiles J.p J.e J.xs) jLog (lFile ep xs)) R _ 0 false) = _
    rw [hf]
    rfl
  rw [storeJ, hpl]; simp
theorem addM_well {R : Int} {J : Jn} (hJ : JWell J) {x : Ent} (he : J.e ≠ 0) (hx : 1 ≤ x.n ∧ x.n ≤ 300) (hs : x.s.size ≤ 600) (hr : sumSize (jFiles J.p J.e J.xs) + (partB x.n (bs x.s)).length ≤ R) :
    addM (jD R J) x.n x.s jLog = (0, jD R { J with xs := J.xs ++ [x] }) := by
  obtain ⟨g1, g2, g3, g4, g5⟩ := jFiles_get (p := J.p) (e := J.e) (xs := J.xs)
  rw [if_neg he] at g2
  have hsm := logB_small hJ.ok.log
  have hps := partB_short (n := x.n) (by unfold I64; omega) (s := bs x.s) (by rw [bs_len]; exact hs)
  rw [add_well (D := jD R J) rfl rfl g2 (name_ne (by decide)) (by decide) hx hs (by rw [mk_size]; omega) hr]
  have hcat : mk (logB J.e J.xs) ++ mk (partB x.n (bs x.s)) = mk (logB J.e (J.xs ++ [x])) := by rw [mk_cat, logB_put]
  rw [hcat]
  have hf : aput (jFiles J.p J.e J.xs) jLog (lFile J.e (J.xs ++ [x])) = jFiles J.p J.e (J.xs ++ [x]) := by
    have a1 : ¬ jProm = jLog := by decide
    unfold jFiles
    rw [if_neg he, if_neg he]
    by_cases hp : J.p = 0
    · rw [if_pos hp]; simp [aput]
    · rw [if_neg hp]; simp [aput, a1]
  have hu := used_put (D := jD R J) rfl jLog (lFile J.e (J.xs ++ [x]))
  have hat : (jD R J).at jLog = lFile J.e J.xs := by unfold Disk.at; rw [show aget (jD R J).files jLog = _ from g2]; rfl
  rw [hat] at hu
  have hu2 : (jD R J).used + (partB x.n (bs x.s)).length = sumSize (jFiles J.p J.e (J.xs ++ [x])) := by
    rw [← hf]
    have : ((lFile J.e (J.xs ++ [x])).data.size : Int) - (lFile J.e J.xs).data.size = (partB x.n (bs x.s)).length := by
      simp only [lFile, mk_size, logB_put, List.length_append]; omega
    have h2 : (jD R J).files = jFiles J.p J.e J.xs := rfl
    rw [← h2, ← hu]; omega
  rw [hu2]
  show (0, Disk.mk (aput (jFiles J.p J.e J.xs) jLog (lFile J.e (J.xs ++ [x]))) R _ 0 false) = _
  rw [hf]
  rfl
theorem addJ_well {R : Int} {J : Jn} (hJ : JWell J) {x : Ent} (he : J.e ≠ 0) (hx : x.n = (J.xs.length : Int) + 1) (hx2 : x.n ≤ 300) (hs : x.s.size ≤ 600) (hr : sumSize (jFiles J.p J.e J.xs) + (partB x.n (bs x.s)).length ≤ R) :
    addJ J (jD R J) x = (0, { J with xs := J.xs ++ [x] }, jD R { J with xs := J.xs ++ [x] }) := by
  rw [addJ, if_neg (fun h => h.elim (fun h => by omega) (fun h => by have := h.1; omega)), if_neg (by omega), addM_well hJ he (by omega) hs hr]
  simp
theorem files_small {J : Jn} (hJ : JWell J) : sumSize (jFiles J.p J.e J.xs) ≤ 24 + 187900 := by
  have h1 := seal_num (p := J.p) (by have := hJ.ok.p0; have := hJ.ok.p1; unfold I64; omega)
  have h2 := logB_small hJ.ok.log
  unfold jFiles
  by_cases hp : J.p = 0 <;> by_cases he : J.e = 0 <;> simp only [hp, he, if_true, if_false, List.nil_append, List.append_nil, List.cons_append, sumSize, fsize, pFile, lFile, List.map_nil, List.map_cons, List.sum_nil, List.sum_cons, mk_size] at h1 h2 ⊢ <;> omega
theorem new_jD {R : Int} (h : 0 ≤ R) : Disk.new R = jD R ⟨0, 0, [], false⟩ := by rw [new_is h]; simp [jD, jFiles, sumSize]
theorem open_new (R : Int) (h : 0 ≤ R) : openJ (Disk.new R) = (0, ⟨0, 0, [], false⟩, jD R ⟨0, 0, [], false⟩) := by
  have r1 : ∀ nm, (Disk.new R).read nm = (noStr, 5) := fun nm => read_none rfl (by simp [Disk.new, aget])
  rw [openJ, r1, if_pos rfl, open2, r1]
  simp only [loadM]
  rw [← new_jD h]
  simp
theorem well0 : JWell ⟨0, 0, [], false⟩ := ⟨⟨Int.le_refl _, by decide, by decide⟩, rfl, Int.le_refl _, fun _ => rfl⟩
/-- A request, of a node that is well. -/
theorem do_well {J : Jn} (hJ : JWell J) {q : Rq} (hq : RqOk q) : ∃ e J', doJ J (jD 400000 J) q = (e, J', jD 400000 J') ∧ (e = 0 ∨ e = 10 ∨ e = 11) ∧ JWell J' ∧
    (q.kind = kP → (if J.p < q.epoch then e = 0 ∧ J' = { J with p := q.epoch } else e = 10 ∧ J' = J)) ∧
    (q.kind = kA → J.p < q.epoch → e = 0 ∧ J' = ⟨q.epoch, q.epoch, q.xs, false⟩) := by
  have hfs := files_small hJ
  have hj0 := hJ.ok.p0
  have hj1 := hJ.ok.p1
  have hje := hJ.ok.e0
  have hjep := hJ.ep
  have hal := hJ.alive
  have hq0 := hq.e0
  have hq1 := hq.e1
  have hpw : J.p < q.epoch → JWell { J with p := q.epoch } := fun h => ⟨⟨by simp only; omega, hq1, hJ.ok.log⟩, hal, by simp only; omega, hJ.none⟩
  by_cases h1 : q.kind = kP
  · have hk : ¬ q.kind = kA := fun h => by rw [h] at h1; exact kAP h1
    by_cases h2 : q.epoch ≤ J.p
    · exact ⟨10, J, by rw [doJ, if_pos h1, if_pos h2], .inr (.inl rfl), hJ, fun _ => by rw [if_neg (by omega)]; exact ⟨rfl, rfl⟩, fun h => absurd h hk⟩
    · refine ⟨0, { J with p := q.epoch }, by rw [doJ, if_pos h1, if_neg h2, prom_well hJ ⟨hq0, hq1⟩ (by omega)], .inl rfl, hpw (by omega), fun _ => by rw [if_pos (by omega)]; exact ⟨rfl, rfl⟩, fun h => absurd h hk⟩
  · by_cases h2 : q.epoch < J.p ∨ (q.kind = kW ∧ (q.epoch ≠ J.p ∨ q.epoch ≠ J.e))
    · refine ⟨10, J, by rw [doJ, if_neg h1, if_pos h2], .inr (.inl rfl), hJ, fun h => absurd h h1, fun h h3 => ?_⟩
      rcases h2 with h2 | h2
      · omega
      · rw [h] at h2; exact absurd h2.1 kAW
    · by_cases h3 : q.kind = kW
      · have hk : ¬ q.kind = kA := fun h => by rw [h] at h3; exact kAW h3
        obtain ⟨x, hx, x1, x2, x3⟩ : ∃ x : Ent, q.xs = [x] ∧ 1 ≤ x.n ∧ x.n ≤ 300 ∧ x.s.size ≤ 600 := by
          rcases hq.kind with ⟨h, _⟩ | ⟨h, _⟩ | ⟨_, h⟩
          · exact absurd h h1
          · exact absurd h hk
          · exact h
        have hne : q.epoch = J.p ∧ q.epoch = J.e := by
          refine ⟨Decidable.byContradiction fun h => h2 (.inr ⟨h3, .inl h⟩), Decidable.byContradiction fun h => h2 (.inr ⟨h3, .inr h⟩)⟩
        have e1 : doJ J (jD 400000 J) q = addJ J (jD 400000 J) x := by rw [doJ, if_neg h1, if_neg h2, if_pos h3, hx]; rfl
        rw [e1]
        by_cases h4 : (J.xs.length : Int) + 1 < x.n ∨ (x.n ≤ (J.xs.length : Int) ∧ J.xs[(x.n - 1).toNat]? ≠ some x)
        · exact ⟨11, J, by rw [addJ, if_pos h4], .inr (.inr rfl), hJ, fun h => absurd h h1, fun h => absurd h hk⟩
        · by_cases h5 : x.n ≤ (J.xs.length : Int)
          · exact ⟨0, J, by rw [addJ, if_neg h4, if_pos h5], .inl rfl, hJ, fun h => absurd h h1, fun h => absurd h hk⟩
          · have h6 : x.n = (J.xs.length : Int) + 1 := by
              rcases Int.lt_or_le ((J.xs.length : Int) + 1) x.n with h | h
              · exact absurd (.inl h) h4
              · omega
            have hps := partB_short (n := x.n) (by unfold I64; omega) (s := bs x.s) (by rw [bs_len]; exact x3)
            refine ⟨0, { J with xs := J.xs ++ [x] }, addJ_well hJ (by omega) h6 x2 x3 (by omega), .inl rfl, ⟨⟨hj0, hj1, ?_⟩, hal, hjep, fun h => by simp only at h; omega⟩, fun h => absurd h h1, fun h => absurd h hk⟩
            obtain ⟨⟨l1, l2, l3⟩, l4⟩ := logOk_iff.1 hJ.ok.log
            refine logOk_iff.2 ⟨⟨l1, l2, by simp only [List.length_append, List.length_cons, List.length_nil]; omega⟩, ?_⟩
            rw [entsOk_snoc, l4, decide_eq_true ⟨by omega, x3⟩]; rfl
      · have hlog : logOk q.epoch q.xs = true := by
          rcases hq.kind with ⟨h, _⟩ | ⟨_, h⟩ | ⟨h, _⟩
          · exact absurd h h1
          · obtain ⟨⟨_, _, l3⟩, l4⟩ := logOk_iff.1 h
            exact logOk_iff.2 ⟨⟨by omega, by omega, l3⟩, l4⟩
          · exact absurd h h3
        have hlb := logB_small hlog
        by_cases h4 : q.epoch = J.e
        · have e2 : doJ J (jD 400000 J) q = (if begB q.xs J.xs = true then (0, J, jD 400000 J) else (11, J, jD 400000 J)) := by rw [doJ, if_neg h1, if_neg h2, if_neg h3, if_pos h4]
          rw [e2]
          split
          · exact ⟨0, J, rfl, .inl rfl, hJ, fun h => absurd h h1, fun _ h => by omega⟩
          · exact ⟨11, J, rfl, .inr (.inr rfl), hJ, fun h => absurd h h1, fun _ h => by omega⟩
        · have e2 : doJ J (jD 400000 J) q = accJ J (jD 400000 J) q := by rw [doJ, if_neg h1, if_neg h2, if_neg h3, if_neg h4]
          rw [e2, accJ]
          have hep : ¬ q.epoch < J.p := fun h => h2 (.inl h)
          by_cases h5 : J.p < q.epoch
          · rw [if_pos h5, prom_well hJ ⟨hq0, hq1⟩ (by omega)]
            simp only [if_true]
            have hw := hpw h5
            rw [store_well hw hlog ⟨hq0, Int.le_refl _⟩ (by have := files_small hw; omega)]
            exact ⟨0, _, rfl, .inl rfl, ⟨⟨by simp only; omega, hq1, hlog⟩, hal, Int.le_refl _, fun h => by simp only at h; omega⟩, fun h => absurd h h1, fun _ _ => ⟨rfl, by simp only [hal]⟩⟩
          · rw [if_neg h5, store_well hJ hlog ⟨hq0, by omega⟩ (by omega)]
            exact ⟨0, _, rfl, .inl rfl, ⟨⟨hj0, hj1, hlog⟩, hal, by simp only; omega, fun h => by simp only at h; omega⟩, fun h => absurd h h1, fun _ h => by omega⟩
theorem readQ_ok {s : List UInt8} {q : Rq} (hq : readQ s = some q) : RqOk q := by
  unfold readQ at hq
  cases hsp : splitP s with
  | none => rw [hsp] at hq; cases hq
  | some l => rw [hsp] at hq; exact readL_ok hq
theorem ans_well {J J' : Jn} {D : Disk} {q : Rq} {e : Int} (he : e = 0 ∨ e = 10 ∨ e = 11) : ansJ q (e, J', D) = (if e = 0 then (if q.kind = kP then toldB J'.e J'.xs else saidB 0) else saidB e, J', D) := by
  unfold ansJ
  rcases he with rfl | rfl | rfl
  · simp; split <;> rfl
  · simp
  · simp
theorem hand_well {J : Jn} (hJ : JWell J) (s : List UInt8) : ∃ a J', handJ J (jD 400000 J) s = (a, J', jD 400000 J') ∧ JWell J' := by
  have hd : ¬ J.dead = true := by rw [hJ.alive]; decide
  rw [handJ, if_neg hd]
  cases hq : readQ s with
  | none => exact ⟨_, J, rfl, hJ⟩
  | some q =>
    obtain ⟨e, J', h1, h2, h3, h4⟩ := do_well hJ (readQ_ok hq)
    simp only
    rw [h1, ans_well (J := J) h2]
    exact ⟨_, J', rfl, h3⟩
/-! ### What stays right, whatever the disk -/
theorem store_jok {J : Jn} {D : Disk} (hJ : JnOk J) (hD : DiskOk D) {ep : Int} {xs : List Ent} (hl : logOk ep xs = true) : JnOk (storeJ J D ep xs).2.1 ∧ DiskOk (storeJ J D ep xs).2.2 := by
  refine ⟨?_, storeM_ok hD ep xs jLog⟩
  unfold storeJ; simp only
  split
  · exact ⟨hJ.p0, hJ.p1, hl⟩
  · exact hJ
theorem prom_jok {J : Jn} {D : Disk} (hJ : JnOk J) (hD : DiskOk D) {ep : Int} (he : 1 ≤ ep ∧ ep ≤ 9007199254740991) : JnOk (promJ J D ep).2.1 ∧ DiskOk (promJ J D ep).2.2 := by
  refine ⟨?_, place1_ok hD _ _ _⟩
  unfold promJ; simp only
  split
  · exact ⟨by simp only; omega, he.2, hJ.log⟩
  · exact hJ
theorem add_jok {J : Jn} {D : Disk} (hJ : JnOk J) (hD : DiskOk D) {x : Ent} (hx : 1 ≤ x.n ∧ x.n ≤ 300 ∧ x.s.size ≤ 600) : JnOk (addJ J D x).2.1 ∧ DiskOk (addJ J D x).2.2 := by
  unfold addJ
  split
  · exact ⟨hJ, hD⟩
  · rename_i h1
    split
    · exact ⟨hJ, hD⟩
    · rename_i h2
      refine ⟨?_, addM_ok hD _ _ _⟩
      simp only
      split
      · obtain ⟨⟨l1, l2, l3⟩, l4⟩ := logOk_iff.1 hJ.log
        simp only [not_or] at h1
        refine ⟨hJ.p0, hJ.p1, logOk_iff.2 ⟨⟨l1, l2, by simp only [List.length_append, List.length_cons, List.length_nil]; omega⟩, ?_⟩⟩
        rw [entsOk_snoc, l4, decide_eq_true ⟨by omega, hx.2.2⟩]; rfl
      · exact hJ
theorem do_jok {J : Jn} {D : Disk} (hJ : JnOk J) (hD : DiskOk D) {q : Rq} (hq : RqOk q) : JnOk (doJ J D q).2.1 ∧ DiskOk (doJ J D q).2.2 := by
  have he := And.intro hq.e0 hq.e1
  unfold doJ
  split
  · split
    · exact ⟨hJ, hD⟩
    · exact prom_jok hJ hD he
  · rename_i h1
    split
    · exact ⟨hJ, hD⟩
    · rename_i h2
      split
      · rename_i h3
        refine add_jok hJ hD ?_
        rcases hq.kind with ⟨h, _⟩ | ⟨h, _⟩ | ⟨_, x, hx, h4⟩
        · exact absurd h h1
        · rw [h] at h3; exact absurd h3 kAW
        · rw [hx]; exact h4
      · rename_i h3
        have hl : logOk q.epoch q.xs = true := by
          rcases hq.kind with ⟨h, _⟩ | ⟨_, h⟩ | ⟨h, _⟩
          · exact absurd h h1
          · obtain ⟨⟨_, _, l3⟩, l4⟩ := logOk_iff.1 h
            exact logOk_iff.2 ⟨⟨by omega, by omega, l3⟩, l4⟩
          · exact absurd h h3
        split
        · split <;> exact ⟨hJ, hD⟩
        · unfold accJ
          split
          · have hp := prom_jok hJ hD he
            split
            · exact store_jok hp.1 hp.2 hl
            · exact hp
          · exact store_jok hJ hD hl
theorem hand_jok {J : Jn} {D : Disk} (hJ : JnOk J) (hD : DiskOk D) (s : List UInt8) : JnOk (handJ J D s).2.1 ∧ DiskOk (handJ J D s).2.2 := by
  unfold handJ
  split
  · exact ⟨hJ, hD⟩
  · cases hq : readQ s with
    | none => exact ⟨hJ, hD⟩
    | some q =>
      have h := do_jok hJ hD (readQ_ok hq)
      simp only
      unfold ansJ
      split
      · exact h
      · split
        · exact ⟨⟨h.1.p0, h.1.p1, h.1.log⟩, h.2⟩
        · split <;> exact h

/-! ### What a deed asks -/
noncomputable def askM (kind ep : Int) (l : List Ent) (x : Ent) (raw : ByteArray) : ByteArray :=
  if pickM kind 8 = 0 then mk (joinB (promL ep))
  else if pickM kind 8 = 1 then (if logOk ep l = true then mk (joinB (accL ep l)) else ⟨#[]⟩)
  else if pickM kind 8 ≤ 4 then (if 1 ≤ x.n ∧ x.n ≤ 300 ∧ x.s.size ≤ 600 then mk (joinB (addL ep x)) else ⟨#[]⟩)
  else raw
theorem ask_epoch {kind ep : Int} {l : List Ent} {x : Ent} {raw : ByteArray} (hI : I64 ep) (hk : pickM kind 8 ≤ 4) {q : Rq} (h : readQ (bs (askM kind ep l x raw)) = some q) : q.epoch = ep := by
  have e0 : readQ (bs ⟨#[]⟩) = none := readQ_nil
  unfold askM at h
  split at h
  · rw [bs_mk, readQ_prom hI] at h
    split at h
    · cases h; rfl
    · cases h
  · split at h
    · split at h
      · rename_i hl
        rw [bs_mk, readQ_acc hl] at h
        split at h
        · cases h; rfl
        · cases h
      · rw [e0] at h; cases h
    · split at h
      · rename_i hx
        rw [bs_mk, readQ_add hI hx] at h
        split at h
        · cases h; rfl
        · cases h
      · rw [e0] at h; cases h
theorem ask_size {kind ep : Int} {l : List Ent} {x : Ent} {raw : ByteArray} (hI : I64 ep) (hr : raw.size ≤ 9223372036854775807) : (askM kind ep l x raw).size ≤ 9223372036854775807 := by
  have h0 : (⟨#[]⟩ : ByteArray).size ≤ 9223372036854775807 := by decide
  have hj : ∀ {l : List ByteArray}, joinOk l = true → (mk (joinB l)).size ≤ 9223372036854775807 := fun h => by rw [mk_size]; have := joinB_len h; omega
  unfold askM
  split
  · exact hj (promL_ok hI)
  · split
    · split
      · rename_i hl; exact hj (accL_ok hl)
      · exact h0
    · split
      · split
        · rename_i hx; exact hj (addL_ok hI (by unfold I64; omega) hx.2.2)
        · exact h0
      · exact hr
theorem hand_some {J : Jn} {D : Disk} {s : List UInt8} {q : Rq} (hd : ¬ J.dead = true) (hq : readQ s = some q) : handJ J D s = ansJ q (doJ J D q) := by rw [handJ, if_neg hd, hq]
theorem hand_none {J : Jn} {D : Disk} {s : List UInt8} (hd : ¬ J.dead = true) (hq : readQ s = none) : handJ J D s = (saidB 2, J, D) := by rw [handJ, if_neg hd, hq]
/-- Behind a promise: what is of an earlier epoch. -/
theorem hand_late {J : Jn} {D : Disk} {s : List UInt8} (hl : ∀ q, readQ s = some q → q.epoch < J.p) : (handJ J D s).2 = (J, D) := by
  unfold handJ
  split
  · rfl
  · cases hq : readQ s with
    | none => rfl
    | some q =>
      have h := hl q hq
      simp only
      have e : doJ J D q = (10, J, D) := by
        unfold doJ
        by_cases h1 : q.kind = kP
        · rw [if_pos h1, if_pos (by omega)]
        · rw [if_neg h1, if_pos (.inl h)]
      rw [e, ansJ, if_pos (.inl rfl)]
/-- A promise that was answered with OK. -/
theorem hand_prom {J : Jn} {D : Disk} {ep : Int} (hJ : JnOk J) (hI : I64 ep) (h : (toldM (handJ J D (joinB (promL ep))).1).2.2 = 0) :
    (handJ J D (joinB (promL ep))).2.1.p = ep ∧ (handJ J D (joinB (promL ep))).2.1.dead = false := by
  by_cases hd : J.dead = true
  · have e : handJ J D (joinB (promL ep)) = (saidB 12, J, D) := by rw [handJ, if_pos hd]
    rw [e, told_said (by decide) (by decide)] at h
    simp at h
  · have hq := readQ_prom hI
    split at hq
    · rename_i he
      have e := hand_some (D := D) hd hq
      rw [e] at h ⊢
      have e2 : doJ J D ⟨kP, ep, []⟩ = if ep ≤ J.p then (10, J, D) else promJ J D ep := by rw [doJ, if_pos rfl]
      rw [e2] at h ⊢
      by_cases h2 : ep ≤ J.p
      · rw [if_pos h2, ansJ, if_pos (.inl rfl)] at h
        simp only at h
        rw [told_said (by decide) (by decide)] at h
        simp at h
      · rw [if_neg h2] at h ⊢
        have hc := place_code D (jProm ++ dotNew) jProm (mk (sealB (numB ep)))
        by_cases hz : (placeP D ep).1 = 0
        · have e3 : promJ J D ep = (0, { J with p := ep }, (placeP D ep).2) := by rw [promJ, hz]; simp
          rw [e3, ansJ, if_neg (by simp), if_neg (by simp), if_pos rfl]
          exact ⟨rfl, by simpa using hd⟩
        · have e3 : (promJ J D ep).1 = (placeP D ep).1 := rfl
          rw [ansJ, if_neg (fun h => h.elim (fun h => hc.1 h) (fun h => hc.2 h)), if_pos (show (promJ J D ep).1 ≠ 0 from hz), told_said (by decide) (by decide)] at h
          simp at h
    · have e := hand_none (D := D) hd hq
      rw [e, told_said (by decide) (by decide)] at h
      simp at h
/-- A promise, asked of a node that is well. -/
theorem hand_promW {J : Jn} (hJ : JWell J) {ep : Int} (hI : I64 ep) :
    handJ J (jD 400000 J) (joinB (promL ep)) = (if 1 ≤ ep ∧ ep ≤ 9007199254740991 then (if J.p < ep then (toldB J.e J.xs, { J with p := ep }, jD 400000 { J with p := ep }) else (saidB 10, J, jD 400000 J)) else (saidB 2, J, jD 400000 J)) := by
  have hd : ¬ J.dead = true := by rw [hJ.alive]; decide
  rw [handJ, if_neg hd, readQ_prom hI]
  by_cases h1 : 1 ≤ ep ∧ ep ≤ 9007199254740991
  · rw [if_pos h1, if_pos h1]
    obtain ⟨e, J', d1, d2, d3, d4, _⟩ := do_well hJ (q := ⟨kP, ep, []⟩) ⟨h1.1, h1.2, .inl ⟨rfl, rfl⟩⟩
    simp only
    rw [d1, ans_well (J := J) d2]
    have d5 := d4 rfl
    simp only at d5
    by_cases h2 : J.p < ep
    · rw [if_pos h2] at d5 ⊢
      obtain ⟨rfl, rfl⟩ := d5
      simp
    · rw [if_neg h2] at d5 ⊢
      obtain ⟨rfl, rfl⟩ := d5
      simp
  · rw [if_neg h1, if_neg h1]
/-- A log, given to a node that is new. -/
theorem hand_accW {ep : Int} {xs : List Ent} (hl : logOk ep xs = true) (h1 : 1 ≤ ep) :
    handJ ⟨0, 0, [], false⟩ (jD 400000 ⟨0, 0, [], false⟩) (joinB (accL ep xs)) = (saidB 0, ⟨ep, ep, xs, false⟩, jD 400000 ⟨ep, ep, xs, false⟩) := by
  obtain ⟨⟨l1, l2, l3⟩, l4⟩ := logOk_iff.1 hl
  rw [handJ, if_neg (by simp), readQ_acc hl, if_pos h1]
  obtain ⟨e, J', d1, d2, d3, _, d4⟩ := do_well well0 (q := ⟨kA, ep, xs⟩) ⟨h1, l2, .inr (.inl ⟨rfl, logOk_iff.2 ⟨⟨by decide, by decide, l3⟩, l4⟩⟩)⟩
  simp only
  rw [d1, ans_well (J := ⟨0, 0, [], false⟩) d2]
  obtain ⟨rfl, rfl⟩ := d4 rfl (by simp only; omega)
  simp only [if_true, if_neg kAP]

/-! ### The chapter's example -/
abbrev jx : ByteArray := ⟨#[120]⟩
abbrev jy : ByteArray := ⟨#[121]⟩
theorem partB_tight {n : Int} (hn : I64 n) {s : List UInt8} (hs : s.length ≤ 600) : (partB n s).length ≤ s.length + 24 := by
  have h1 := num_len hn
  have h2 : (numB n ++ s).length ≤ 10 + s.length := by rw [List.length_append]; omega
  rw [partB, if_neg (by omega)]
  have := (sealB_len (s := numB n ++ s) (by omega)).1
  omega
theorem example_j : let J0 : Jn := ⟨0, 0, [], false⟩; let J1 : Jn := ⟨1, 0, [], false⟩; let K1 : Jn := ⟨1, 1, [], false⟩; let K2 : Jn := ⟨1, 1, [⟨1, jx⟩], false⟩
    handJ J0 (jD 1000 J0) (joinB (promL 1)) = (toldB 0 [], J1, jD 1000 J1) ∧ handJ J1 (jD 1000 J1) (joinB (promL 1)) = (saidB 10, J1, jD 1000 J1) ∧
    handJ J1 (jD 1000 J1) (joinB (addL 1 ⟨1, jx⟩)) = (saidB 10, J1, jD 1000 J1) ∧ handJ J0 (jD 1000 J0) (joinB (accL 1 [])) = (saidB 0, K1, jD 1000 K1) ∧
    handJ K1 (jD 1000 K1) (joinB (addL 1 ⟨1, jx⟩)) = (saidB 0, K2, jD 1000 K2) ∧ handJ K2 (jD 1000 K2) (joinB (addL 1 ⟨3, jy⟩)) = (saidB 11, K2, jD 1000 K2) := by
  intro J0 J1 K1 K2
  have i1 : I64 1 := by unfold I64; decide
  have w0 : JWell J0 := well0
  have w1 : JWell J1 := ⟨⟨by decide, by decide, by decide⟩, rfl, by decide, fun _ => rfl⟩
  have v1 : JWell K1 := ⟨⟨by decide, by decide, by decide⟩, rfl, by decide, fun _ => rfl⟩
  have f0 : sumSize (jFiles 0 0 []) = 0 := by simp [jFiles, sumSize]
  have hs := seal_num i1
  have f1 : sumSize (jFiles 1 0 []) ≤ 24 := by simp [jFiles, sumSize, fsize, pFile]; omega
  have hl1 : (logB 1 []).length ≤ 24 := by
    have := partB_tight i1 (s := []) (by simp)
    simp only [List.length_nil] at this
    rw [logB, List.length_append]; simp only [entB, List.flatMap_nil, List.length_nil]; omega
  have f2 : sumSize (jFiles 1 1 []) ≤ 48 := by
    have := mk_size (logB 1 [])
    simp [jFiles, sumSize, fsize, pFile, lFile]; omega
  have hp1 := partB_tight i1 (s := bs jx) (by decide)
  have hb : (bs jx).length = 1 := rfl
  have e1 : promJ J0 (jD 1000 J0) 1 = (0, J1, jD 1000 J1) := prom_well w0 ⟨by decide, by decide⟩ (by show sumSize (jFiles 0 0 []) + 24 ≤ _; omega)
  have e2 : storeJ J1 (jD 1000 J1) 1 [] = (0, K1, jD 1000 K1) := store_well w1 (by decide) ⟨by decide, by decide⟩ (by show sumSize (jFiles 1 0 []) + _ ≤ _; omega)
  have e3 : addJ K1 (jD 1000 K1) ⟨1, jx⟩ = (0, K2, jD 1000 K2) := addJ_well v1 (by decide) (by decide) (by decide) (by decide) (by show sumSize (jFiles 1 1 []) + (partB 1 (bs jx)).length ≤ _; omega)
  have q1 : readQ (joinB (promL 1)) = some ⟨kP, 1, []⟩ := by rw [readQ_prom i1, if_pos ⟨by decide, by decide⟩]
  have q2 : readQ (joinB (addL 1 ⟨1, jx⟩)) = some ⟨kW, 1, [⟨1, jx⟩]⟩ := by rw [readQ_add i1 ⟨by decide, by decide, by decide⟩, if_pos ⟨by decide, by decide⟩]
  have q3 : readQ (joinB (addL 1 ⟨3, jy⟩)) = some ⟨kW, 1, [⟨3, jy⟩]⟩ := by rw [readQ_add i1 ⟨by decide, by decide, by decide⟩, if_pos ⟨by decide, by decide⟩]
  have q4 : readQ (joinB (accL 1 [])) = some ⟨kA, 1, []⟩ := by rw [readQ_acc (by decide), if_pos (by decide)]
  have alive : ∀ (J : Jn) D s q, J.dead = false → readQ s = some q → handJ J D s = ansJ q (doJ J D q) := fun J D s q h1 h2 => by rw [handJ, if_neg (by rw [h1]; decide), h2]
  refine ⟨?_, ?_, ?_, ?_, ?_, ?_⟩
  · rw [alive _ _ _ _ rfl q1, doJ, if_pos rfl, if_neg (by decide), e1]; rfl
  · rw [alive _ _ _ _ rfl q1, doJ, if_pos rfl, if_pos (by decide)]; rfl
  · rw [alive _ _ _ _ rfl q2, doJ, if_neg kWP, if_pos (.inr ⟨rfl, .inr (by decide)⟩)]; rfl
  · rw [alive _ _ _ _ rfl q4, doJ, if_neg kAP, if_neg (fun h => h.elim (fun h => absurd h (by decide)) (fun h => absurd h.1 kAW)), if_neg kAW, if_neg (by decide), accJ, if_pos (by decide), e1]
    show ansJ _ (storeJ J1 (jD 1000 J1) 1 []) = _
    rw [e2, ansJ, if_neg (by simp), if_neg (by simp), if_neg kAP]
  · rw [alive _ _ _ _ rfl q2, doJ, if_neg kWP, if_neg (fun h => h.elim (fun h => absurd h (by decide)) (fun h => h.2.elim (fun h => h rfl) (fun h => h rfl))), if_pos rfl]
    show ansJ _ (addJ K1 (jD 1000 K1) ⟨1, jx⟩) = _
    rw [e3, ansJ, if_neg (by simp), if_neg (by simp), if_neg kWP]
  · rw [alive _ _ _ _ rfl q3, doJ, if_neg kWP, if_neg (fun h => h.elim (fun h => absurd h (by decide)) (fun h => h.2.elim (fun h => h rfl) (fun h => h rfl))), if_pos rfl]
    show ansJ _ (addJ K2 (jD 1000 K2) ⟨3, jy⟩) = _
    rw [addJ, if_pos (.inl (by decide))]; rfl
end Go.Proofs.YtfolmcpfdcgliaaGreat.B
