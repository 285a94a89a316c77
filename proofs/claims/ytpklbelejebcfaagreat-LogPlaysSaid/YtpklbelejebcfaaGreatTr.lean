import Derived.Test.YtpklbelejebcfaaGreatTq
import Derived.Test.YtpklbelejebcfaaGreatTm
set_option linter.unusedVariables false
set_option linter.unusedSimpArgs false
set_option linter.unusedSectionVars false
set_option maxRecDepth 8000
/-! More operations that write, in a drawn region. -/
namespace Go.Proofs.YtpklbelejebcfaaGreat.B
open Go Go.Proofs
section
variable {P : Program} (T : Tab P) {n : Nat} {ds : List Deferred} {L : TL} {W0 : World} {G : List SL} {ty : TypeId} {pos : String} {af : Array Edge} {g : Option (Nat × Bool)}
include T in
theorem EffC.alloc {d : Nat} {t : Nat} {e : TE} {cs : List Value} (hl : lk T.tab t = some e) (hc : cellsO e.zero = some cs) :
    EffC P n ds L W0 G ⟨some d, .alloc t, ty, pos, af, g⟩ (fun v G' => ∃ b, v = .pointer (some ⟨b, 0, none⟩) ∧ G' = row b t cs :: G) := fun a w hf hs => by
  have hz := T.zeroValue (w := w) hl
  have hcell := cellsO_eq hc
  have hr : (execOp a.eval ⟨some d, .alloc t, ty, pos, af, g⟩).run P w = .ok (.value (.pointer (some ⟨w.heap.size, 0, none⟩))) (w.alloc (.cells cs.toArray t)) := by
    simp [execOp, Instr.alloc, hz, newVar, newRow, hcell]
  unfold runs
  rw [hr]
  exact ⟨_, ⟨_, rfl, rfl⟩, hs.alloc _⟩
include T in
theorem EffC.box {d : Nat} {t : Nat} {x : Operand} {v : Value} {cs : List Value} (hx : evL L x = some v) (hc : cellsO v = some cs) :
    EffC P n ds L W0 G ⟨some d, .box t x, ty, pos, af, g⟩ (fun v G' => ∃ b, v = .pointer (some ⟨b, 0, none⟩) ∧ G' = row b t cs :: G) := fun a w hf hs => by
  have hcell := cellsO_eq hc
  have hr : (execOp a.eval ⟨some d, .box t x, ty, pos, af, g⟩).run P w = .ok (.value (.pointer (some ⟨w.heap.size, 0, none⟩))) (w.alloc (.cells cs.toArray t)) := by
    simp [execOp, hf.ev hx, Instr.box, newVar, newRow, hcell]
  unfold runs
  rw [hr]
  exact ⟨_, ⟨_, rfl, rfl⟩, hs.alloc _⟩
include T in
theorem EffC.store (i : Nat) {x y : Operand} {b o t tt : Nat} {e : TE} {v : Value} {cs vs cs' : List Value} {G' : List SL} (hx : evL L x = some (.pointer (some ⟨b, o, none⟩))) (hy : evL L y = some v)
    (hc : cellsO v = some vs) (hl : lk T.tab t = some e) (hz : Nat.beq vs.length e.size = true) (h1 : allOne vs = true)
    (hG : G[i]? = some (row b tt cs)) (hs' : setN cs o vs = some cs') (hG' : setG G i (row b tt cs') = some G') :
    EffC P n ds L W0 G ⟨none, .store t x y, ty, pos, af, g⟩ (fun v G2 => v = undef ∧ G2 = G') := fun a w hf hs => by
  have hb := hs.at hG
  obtain ⟨h2, h3⟩ := setN_eq hs'
  have hst := run_storeCells_at P b o tt vs 0 cs.toArray w hb (by simpa using h2) (allOne_eq h1)
  simp only [Nat.add_zero] at hst
  have hr : (execOp a.eval ⟨none, .store t x y, ty, pos, af, g⟩).run P w = .ok .skip (w.setRow b (cs.toArray.toList.take o ++ vs ++ cs.toArray.toList.drop (o + vs.length)).toArray) := by
    have hzz := T.sizeOf (w := w) hl
    have hcell := cellsO_eq hc
    have hsz : v.cells.size = e.size := by rw [hcell]; simpa using Nat.eq_of_beq_eq_true hz
    have hlist : v.cells.toList = vs := by rw [hcell]
    simp only [execOp, hf.ev hx, hf.ev hy, Instr.storeAt, Instr.sureAddr, Sem.run_bind, Sem.run_pure, Result.andThen_ok, storeVar, hzz, hsz, ne_eq, not_true_eq_false, if_false, hlist, hst]
  unfold runs
  rw [hr]
  refine ⟨_, ⟨rfl, rfl⟩, ?_⟩
  obtain ⟨r, hr⟩ := getG_pick hG
  have s1 := hs.perm (pickG_eq hr).1.symm
  have s2 : Sat W0 (row b tt cs' :: r) (w.setRow b (cs.toArray.toList.take o ++ vs ++ cs.toArray.toList.drop (o + vs.length)).toArray) := by
    refine Sat.put (o' := .cells cs'.toArray tt (0, 0)) s1 ?_ (fun k hk => ?_) ⟨rfl, rfl, rfl⟩
    · rw [h3]
      simp only [World.setRow, Array.getElem?_modify, hb]
      simp
    · simp only [World.setRow, Array.getElem?_modify]
      rw [if_neg (fun e => hk e.symm)]
  exact s2.perm (setG_eq hr hG')
end
end Go.Proofs.YtpklbelejebcfaaGreat.B
