import Derived.Test.YtfolmcpfdcgliaaGreatMg28
import Derived.Test.YtfolmcpfdcgliaaGreatMg2
set_option linter.unusedVariables false
set_option linter.unusedSimpArgs false
set_option maxRecDepth 8000
/-! A journal node in plain words: the node and its files, on a disk that is well. -/
namespace Go.Proofs.YtfolmcpfdcgliaaGreat.B
open Go Go.Proofs

/-! ### What is asked, what is told -/
theorem told_said {e : Int} (h0 : 0 ≤ e) (h1 : e ≤ 14) : toldM (saidB e) = (0, [], e) := by
  have hI : I64 e := by unfold I64; omega
  rw [toldM, saidB, splitP_join (saidL_ok hI), saidL]
  simp only
  rw [numP_num hI]
  simp only
  rw [if_pos ⟨h0, h1, .inr trivial⟩, if_pos trivial]
theorem parse_log {e : Int} {xs : List Ent} (h : logOk e xs = true) : parseP (logB e xs) = some (e, xs, []) := by
  have := parseP_log h [] (.inr (takeEnt_nil _))
  rwa [List.append_nil] at this
theorem logB_pos {e : Int} {xs : List Ent} (h : logOk e xs = true) : logB e xs ≠ [] := by
  obtain ⟨⟨h1, h2, h3⟩, h4⟩ := logOk_iff.1 h
  intro e0
  have hn := num_len (n := e) (by unfold I64; omega)
  have hs := (sealB_len (s := numB e ++ []) (by rw [List.length_append]; simp only [List.length_nil]; omega)).2
  have : (logB e xs).length = 0 := by rw [e0]; rfl
  rw [logB, List.length_append, partB, if_neg (by rw [List.length_append]; simp only [List.length_nil]; omega)] at this
  omega
theorem told_told {e : Int} {xs : List Ent} (h : logOk e xs = true) : toldM (toldB e xs) = (e, xs, 0) := by
  have hI : I64 0 := by unfold I64; decide
  rw [toldM]
  rw [show splitP (toldB e xs) = some (toldL e xs) from splitP_join (toldL_ok e xs), toldL, if_pos h]
  simp only
  rw [numP_num hI]
  simp only
  rw [if_pos ⟨by decide, by decide, .inl trivial⟩, chunks_flat (Nat.le_refl _), parse_log h, if_neg (fun hc => by
    have := chunks_flat (f := (logB e xs).length) (l := logB e xs) (Nat.le_refl _)
    rw [hc] at this
    exact logB_pos h this.symm)]
  simp
theorem readQ_join {l : List ByteArray} (h : joinOk l = true) : readQ (joinB l) = readL l := by rw [readQ, splitP_join h]; rfl
theorem readQ_prom {ep : Int} (h : I64 ep) : readQ (joinB (promL ep)) = if 1 ≤ ep ∧ ep ≤ 9007199254740991 then some ⟨kP, ep, []⟩ else none := by
  rw [readQ_join (promL_ok h), promL, readL, numP_num h]
  simp only [readK, if_true]
theorem readQ_acc {ep : Int} {xs : List Ent} (h : logOk ep xs = true) : readQ (joinB (accL ep xs)) = if 1 ≤ ep then some ⟨kA, ep, xs⟩ else none := by
  obtain ⟨⟨h1, h2, h3⟩, h4⟩ := logOk_iff.1 h
  rw [readQ_join (accL_ok h), accL, readL, numP_num (by unfold I64; omega)]
  simp only [readK]
  rw [if_neg kAP, if_pos trivial, entsF_of h4, if_pos (logOk_iff.2 ⟨⟨by decide, by decide, h3⟩, h4⟩)]
  by_cases hc : 1 ≤ ep
  · rw [if_pos ⟨hc, h2⟩, if_pos hc]
  · rw [if_neg (fun h => hc h.1), if_neg hc]
theorem readQ_add {ep : Int} {x : Ent} (h : I64 ep) (hx : 1 ≤ x.n ∧ x.n ≤ 300 ∧ x.s.size ≤ 600) : readQ (joinB (addL ep x)) = if 1 ≤ ep ∧ ep ≤ 9007199254740991 then some ⟨kW, ep, [x]⟩ else none := by
  have hI : I64 x.n := by unfold I64; omega
  rw [readQ_join (addL_ok h hI hx.2.2), addL, readL, numP_num h]
  simp only [readK]
  rw [if_neg kWP, if_neg (show ¬ kW = kA by decide), if_pos trivial, readW, numP_num hI]
  simp only
  rw [if_pos hx]
theorem readQ_nil : readQ [] = none := by
  rw [readQ, splitP, takeNum_nil]; rfl

/-! ### What is asked a second time -/
def ended (e : Int) : Bool := decide (e = 0 ∨ e = 10 ∨ e = 11)
theorem beg_refl (xs : List Ent) : begB xs xs = true := by simp [begB]
theorem place_code (D : Disk) (nw name text : ByteArray) : (place1 D nw name text).1 ≠ 10 ∧ (place1 D nw name text).1 ≠ 11 := by
  have ha : ∀ D : Disk, (D.append nw text).1 ≠ 10 ∧ (D.append nw text).1 ≠ 11 := fun D => by unfold Disk.append; (repeat' split) <;> simp
  have hs : ∀ D : Disk, (D.sync nw).1 ≠ 10 ∧ (D.sync nw).1 ≠ 11 := fun D => by unfold Disk.sync; (repeat' split) <;> simp
  have hd : ∀ D : Disk, (D.delete nw).1 ≠ 10 ∧ (D.delete nw).1 ≠ 11 := fun D => by unfold Disk.delete; (repeat' split) <;> simp
  have hr : ∀ D : Disk, (D.rename nw name).1 ≠ 10 ∧ (D.rename nw name).1 ≠ 11 := fun D => by unfold Disk.rename; (repeat' split) <;> simp
  have h2 : ∀ D : Disk, (place2 D nw name text).1 ≠ 10 ∧ (place2 D nw name text).1 ≠ 11 := fun D => by
    unfold place2
    split
    · exact ha _
    · split
      · exact hs _
      · exact hr _
  unfold place1
  split
  · exact h2 _
  · split
    · split
      · exact hd _
      · exact h2 _
    · rcases read_errs D nw with e | e | e <;> simp [e]
theorem store_code (D : Disk) (e : Int) (xs : List Ent) (name : ByteArray) : (storeM D e xs name).1 ≠ 10 ∧ (storeM D e xs name).1 ≠ 11 := by
  unfold storeM
  split
  · simp
  · exact place_code ..
theorem addM_code (D : Disk) (n : Int) (s name : ByteArray) : (addM D n s name).1 ≠ 10 ∧ (addM D n s name).1 ≠ 11 := by
  unfold addM
  split
  · simp
  · split
    · rcases read_errs D name with e | e | e <;> simp [e]
    · split
      · unfold Disk.append; (repeat' split) <;> simp
      · unfold Disk.sync; (repeat' split) <;> simp
/-- What was done, and went well, is not done again. -/
theorem do_again {J : Jn} {D : Disk} {q : Rq} (hJ : JnOk J) (hq : RqOk q) (h : (doJ J D q).1 = 0 ∨ (doJ J D q).1 = 10 ∨ (doJ J D q).1 = 11) :
    ∃ e, (e = 0 ∨ e = 10 ∨ e = 11) ∧ doJ (doJ J D q).2.1 (doJ J D q).2.2 q = (e, (doJ J D q).2) ∧ (q.kind = kP → e = 10) := by
  generalize hr : doJ J D q = r at h ⊢
  by_cases h1 : q.kind = kP
  · by_cases h2 : q.epoch ≤ J.p
    · have e1 : doJ J D q = (10, J, D) := by rw [doJ, if_pos h1, if_pos h2]
      rw [e1] at hr; subst hr
      exact ⟨10, .inr (.inl rfl), e1, fun _ => rfl⟩
    · have e1 : doJ J D q = promJ J D q.epoch := by rw [doJ, if_pos h1, if_neg h2]
      rw [e1] at hr; subst hr
      have hc := place_code D (jProm ++ dotNew) jProm (mk (sealB (numB q.epoch)))
      have hz : (placeP D q.epoch).1 = 0 := h.elim id (fun h => h.elim (fun h => absurd h hc.1) (fun h => absurd h hc.2))
      refine ⟨10, .inr (.inl rfl), ?_, fun _ => rfl⟩
      rw [doJ, if_pos h1, if_pos]
      simp only [promJ, hz, if_true]; exact Int.le_refl _
  · have hk : ∀ e, q.kind = kP → e = (10 : Int) := fun _ h => absurd h h1
    by_cases h2 : q.epoch < J.p ∨ (q.kind = kW ∧ (q.epoch ≠ J.p ∨ q.epoch ≠ J.e))
    · have e1 : doJ J D q = (10, J, D) := by rw [doJ, if_neg h1, if_pos h2]
      rw [e1] at hr; subst hr
      exact ⟨10, .inr (.inl rfl), e1, hk _⟩
    · by_cases h3 : q.kind = kW
      · have e1 : ∀ J D, ¬ (q.epoch < J.p ∨ (q.kind = kW ∧ (q.epoch ≠ J.p ∨ q.epoch ≠ J.e))) → doJ J D q = addJ J D (q.xs.headD ⟨0, ⟨#[]⟩⟩) := fun J D h2 => by rw [doJ, if_neg h1, if_neg h2, if_pos h3]
        rw [e1 _ _ h2] at hr
        have hx1 : 1 ≤ (q.xs.headD ⟨0, ⟨#[]⟩⟩).n := by
          rcases hq.kind with ⟨h, _⟩ | ⟨h, _⟩ | ⟨_, x, hx, h4, _⟩
          · exact absurd h h1
          · rw [h] at h3; exact absurd h3 kAW
          · rw [hx]; exact h4
        generalize q.xs.headD ⟨0, ⟨#[]⟩⟩ = x at hr e1 hx1
        by_cases h4 : (J.xs.length : Int) + 1 < x.n ∨ (x.n ≤ (J.xs.length : Int) ∧ J.xs[(x.n - 1).toNat]? ≠ some x)
        · have e2 : addJ J D x = (11, J, D) := by rw [addJ, if_pos h4]
          rw [e2] at hr; subst hr
          exact ⟨11, .inr (.inr rfl), by rw [e1 _ _ h2, e2], hk _⟩
        · by_cases h5 : x.n ≤ (J.xs.length : Int)
          · have e2 : addJ J D x = (0, J, D) := by rw [addJ, if_neg h4, if_pos h5]
            rw [e2] at hr; subst hr
            exact ⟨0, .inl rfl, by rw [e1 _ _ h2, e2], hk _⟩
          · have e2 : addJ J D x = ((addM D x.n x.s jLog).1, if (addM D x.n x.s jLog).1 = 0 then { J with xs := J.xs ++ [x] } else J, (addM D x.n x.s jLog).2) := by rw [addJ, if_neg h4, if_neg h5]
            rw [e2] at hr; subst hr
            have hc := addM_code D x.n x.s jLog
            have hz : (addM D x.n x.s jLog).1 = 0 := h.elim id (fun h => h.elim (fun h => absurd h hc.1) (fun h => absurd h hc.2))
            refine ⟨0, .inl rfl, ?_, hk _⟩
            have hn : x.n = (J.xs.length : Int) + 1 := by
              rcases Int.lt_or_le ((J.xs.length : Int) + 1) x.n with h6 | h6
              · exact absurd (.inl h6) h4
              · omega
            simp only [hz, if_true]
            rw [e1 { p := J.p, e := J.e, xs := J.xs ++ [x], dead := J.dead } _ h2, addJ, if_neg, if_pos (by simp only [List.length_append, List.length_cons, List.length_nil]; omega)]
            simp only [List.length_append, List.length_cons, List.length_nil, not_or, not_and, Decidable.not_not, ne_eq]
            refine ⟨by omega, fun _ => ?_⟩
            rw [show (x.n - 1).toNat = J.xs.length from by omega]
            simp
      · by_cases h4 : q.epoch = J.e
        · have e2 : doJ J D q = (if begB q.xs J.xs = true then (0, J, D) else (11, J, D)) := by rw [doJ, if_neg h1, if_neg h2, if_neg h3, if_pos h4]
          have e3 : ∃ e, (e = 0 ∨ e = 10 ∨ e = 11) ∧ doJ J D q = (e, J, D) := by
            rw [e2]; split
            · exact ⟨0, .inl rfl, rfl⟩
            · exact ⟨11, .inr (.inr rfl), rfl⟩
          obtain ⟨e, he, e3⟩ := e3
          rw [e3] at hr; subst hr
          exact ⟨e, he, e3, hk _⟩
        · have e2 : doJ J D q = accJ J D q := by rw [doJ, if_neg h1, if_neg h2, if_neg h3, if_neg h4]
          rw [e2] at hr
          have hep : ¬ q.epoch < J.p := fun h => h2 (.inl h)
          have hstore : ∀ (J' : Jn) (D' : Disk), J'.p = q.epoch → r = storeJ J' D' q.epoch q.xs → ∃ e, (e = 0 ∨ e = 10 ∨ e = 11) ∧ doJ r.2.1 r.2.2 q = (e, r.2) ∧ (q.kind = kP → e = 10) := fun J' D' hp hrs => by
            subst hrs
            have hc := store_code D' q.epoch q.xs jLog
            have hz : (storeM D' q.epoch q.xs jLog).1 = 0 := h.elim id (fun h => h.elim (fun h => absurd h hc.1) (fun h => absurd h hc.2))
            refine ⟨0, .inl rfl, ?_, hk _⟩
            simp only [storeJ, hz, if_true]
            rw [doJ, if_neg h1, if_neg (fun h => h.elim (fun h => by simp only [hp] at h; omega) (fun h => h3 h.1)), if_neg h3, if_pos rfl, if_pos (beg_refl _)]
          rw [accJ] at hr
          by_cases h5 : J.p < q.epoch
          · rw [if_pos h5] at hr
            have hc := place_code D (jProm ++ dotNew) jProm (mk (sealB (numB q.epoch)))
            by_cases h6 : (promJ J D q.epoch).1 = 0
            · rw [if_pos h6] at hr
              refine hstore _ _ ?_ hr.symm
              have h7 : (placeP D q.epoch).1 = 0 := h6
              simp only [promJ, h7, if_true]
            · rw [if_neg h6] at hr
              subst hr
              exact (h.elim (fun h => absurd h h6) (fun h => h.elim (fun h => absurd h hc.1) (fun h => absurd h hc.2)))
          · rw [if_neg h5] at hr
            exact hstore J D (by omega) hr.symm
/-- What is asked a second time changes nothing. -/
theorem hand_again {J : Jn} {D : Disk} (s : List UInt8) (hJ : JnOk J) : (handJ (handJ J D s).2.1 (handJ J D s).2.2 s).2 = (handJ J D s).2 := by
  by_cases hd : J.dead = true
  · have e : handJ J D s = (saidB 12, J, D) := by rw [handJ, if_pos hd]
    rw [e]; simp only; rw [e]
  · cases hq : readQ s with
    | none =>
      have e : handJ J D s = (saidB 2, J, D) := by rw [handJ, if_neg hd, hq]
      rw [e]; simp only; rw [e]
    | some q =>
      have e : handJ J D s = ansJ q (doJ J D q) := by rw [handJ, if_neg hd, hq]
      have hqo : RqOk q := by
        unfold readQ at hq
        cases hsp : splitP s with
        | none => rw [hsp] at hq; cases hq
        | some l => rw [hsp] at hq; exact readL_ok hq
      have alive : ∀ (J' : Jn) D', J'.dead = false → handJ J' D' s = ansJ q (doJ J' D' q) := fun J' D' hd' => by rw [handJ, if_neg (by rw [hd']; decide), hq]
      rw [e]
      by_cases hc : (doJ J D q).1 = 0 ∨ (doJ J D q).1 = 10 ∨ (doJ J D q).1 = 11
      · obtain ⟨e2, he2, h1, h2⟩ := do_again hJ hqo hc
        have same : ∀ r : Int × Jn × Disk, (r.1 = 0 ∨ r.1 = 10 ∨ r.1 = 11) → (ansJ q r).2 = r.2 := fun r hr => by
          unfold ansJ
          by_cases h3 : r.1 = 10 ∨ r.1 = 11
          · rw [if_pos h3]
          · have h4 : r.1 = 0 := hr.elim id (fun h => absurd h h3)
            rw [if_neg h3, if_neg (fun h => h h4)]
            split <;> rfl
        have hdead : (doJ J D q).2.1.dead = false := by
          have hJd : J.dead = false := by simpa using hd
          have sj : ∀ (J' : Jn) D' e xs, J'.dead = false → (storeJ J' D' e xs).2.1.dead = false := fun J' D' e xs h => by unfold storeJ; simp only; split <;> exact h
          have pj : ∀ (J' : Jn) D' e, J'.dead = false → (promJ J' D' e).2.1.dead = false := fun J' D' e h => by unfold promJ; simp only; split <;> exact h
          unfold doJ
          split
          · split
            · exact hJd
            · exact pj _ _ _ hJd
          · split
            · exact hJd
            · split
              · unfold addJ
                split
                · exact hJd
                · split
                  · exact hJd
                  · simp only; split <;> exact hJd
              · split
                · split <;> exact hJd
                · unfold accJ
                  split
                  · split
                    · exact sj _ _ _ _ (pj _ _ _ hJd)
                    · exact pj _ _ _ hJd
                  · exact sj _ _ _ _ hJd
        rw [same _ hc, alive _ _ hdead, h1, same _ he2]
      · have e3 : ansJ q (doJ J D q) = (saidB 12, { (doJ J D q).2.1 with dead := true }, (doJ J D q).2.2) := by
          unfold ansJ
          rw [if_neg (fun h => hc (.inr h)), if_pos (fun h => hc (.inl h))]
        rw [e3]
        simp only
        rw [handJ, if_pos rfl]
end Go.Proofs.YtfolmcpfdcgliaaGreat.B

set_option linter.unusedVariables false
/-! What a number speaks of. -/
namespace Go.Proofs.YtfolmcpfdcgliaaGreat.B
open Go Go.Proofs
def pickM (n m : Int) : Int := (if n < 0 then -(n + 1) else n).tmod m
theorem pickM_range {n m : Int} (hm : 0 < m) : 0 ≤ pickM n m ∧ pickM n m < m := by
  unfold pickM
  have h : ∀ a : Int, 0 ≤ a → 0 ≤ a.tmod m ∧ a.tmod m < m := fun a ha => ⟨Int.tmod_nonneg m ha, Int.tmod_lt_of_pos a hm⟩
  split
  · exact h _ (by omega)
  · exact h _ (by omega)
theorem op1_rem {P : Program} (T : Tab P) {n : Nat} {ds : List Deferred} {L : TL} {W0 : World} {G : List SL} {ty : TypeId} {x y : Operand} {t t2 : Nat} {a b : Int} (hx : evL L x = some (.int .i64 a)) (hy : evL L y = some (.int .i64 b)) (h : ¬ b = 0) :
    Op1 P n ds L W0 G (.binOp .rem t x y t2) ty (.int .i64 (a.tmod b)) := by
  refine op1_pure T ?_
  simp only [pureOp, hx, hy, binV, sameK, intBin, decide_eq_false h]
end Go.Proofs.YtfolmcpfdcgliaaGreat.B
