import Derived.Test.YtpklbelejebcfaaGreatTc
set_option linter.unusedVariables false
/-! What a number speaks of. -/
namespace Go.Proofs.YtpklbelejebcfaaGreat.B
open Go Go.Proofs
def pickM (n m : Int) : Int := (if n < 0 then -(n + 1) else n).tmod m
theorem pickM_range {n m : Int} (hm : 0 < m) : 0 ≤ pickM n m ∧ pickM n m < m := by
  unfold pickM
  have h : ∀ a : Int, 0 ≤ a → 0 ≤ a.tmod m ∧ a.tmod m < m := fun a ha => ⟨Int.tmod_nonneg m ha, Int.tmod_lt_of_pos a hm⟩
  split
  · exact h _ (by omega)
  · exact h _ (by omega)
theorem op1_rem {P : Program} (T : Tab P) {n : Nat} {ds : List Deferred} {L : TL} {W0 : World} {G : List SL} {ty : TypeId} {x y : Operand} {t t2 : Nat} {a b : Int} (hx : evL L x = some (.int .i64 a)) (hy : evL L y = some (.int .i64 b)) (h : ¬ b = 0) :
    Op1 P n ds L W0 G (.binOp .rem t x y t2) ty (.int .i64 (a.tmod b)) := by
  refine op1_pure T ?_
  simp only [pureOp, hx, hy, binV, sameK, intBin, decide_eq_false h]
end Go.Proofs.YtpklbelejebcfaaGreat.B
