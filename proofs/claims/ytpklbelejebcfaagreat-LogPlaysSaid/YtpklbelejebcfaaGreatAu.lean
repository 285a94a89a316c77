import Derived.Test.YtpklbelejebcfaaGreatTab
import Derived.Test.YtpklbelejebcfaaGreatTr
set_option linter.unusedVariables false
/-! Steps that take themselves: what is to be shown before a row of steps, from what is to be shown behind it. -/
namespace Go.Proofs.YtpklbelejebcfaaGreat.B
open Go Go.Proofs
/-- Operations in a row, and quiet ones. -/
theorem bk {A B : Prop} (a : A) (f : PLift A → B := by
  intro k
  first | ((first | apply WL.s | apply WQ.s); (focus (first|exact op1_pure1 TT rfl|exact op1_load TT 0 rfl rfl rfl|exact op1_load TT 1 rfl rfl rfl|exact op1_load TT 2 rfl rfl rfl|exact op1_load TT 3 rfl rfl rfl|exact op1_load TT 4 rfl rfl rfl|exact op1_add TT rfl rfl (by omega)|exact op1_sub TT rfl rfl (by omega)|exact op1_mul TT rfl rfl (by omega)|exact op1_conv TT rfl rfl rfl (by omega)|exact op1_neg TT rfl (by omega)|exact op1_cat rfl rfl (by omega)|exact op1_pure TT rfl|exact op1_build TT rfl rfl rfl rfl rfl rfl|exact op1_buildA TT rfl rfl rfl rfl rfl|exact op1_lenM TT 0 rfl rfl rfl|exact op1_lenM TT 1 rfl rfl rfl|exact op1_lenM TT 2 rfl rfl rfl|exact op1_lenM TT 3 rfl rfl rfl)); exact rfl) | (refine isWL ?_; (first|refine WL.nil ?_|refine WL.store TT 0 rfl rfl rfl rfl rfl rfl rfl rfl rfl ?_|refine WL.store TT 1 rfl rfl rfl rfl rfl rfl rfl rfl rfl ?_|refine WL.store TT 2 rfl rfl rfl rfl rfl rfl rfl rfl rfl ?_|refine WL.store TT 3 rfl rfl rfl rfl rfl rfl rfl rfl rfl ?_|refine WL.store TT 4 rfl rfl rfl rfl rfl rfl rfl rfl rfl ?_|refine WL.guardT rfl rfl ?_|refine WL.guardF rfl rfl rfl ?_)) | (refine isWQ ?_; (first|refine WQ.nil ?_|refine WQ.guardT rfl rfl ?_|refine WQ.guardF rfl rfl rfl ?_)) | fail
  repeat (first | ((first | apply WL.s | apply WQ.s); (focus (first|exact op1_pure1 TT rfl|exact op1_load TT 0 rfl rfl rfl|exact op1_load TT 1 rfl rfl rfl|exact op1_load TT 2 rfl rfl rfl|exact op1_load TT 3 rfl rfl rfl|exact op1_load TT 4 rfl rfl rfl|exact op1_add TT rfl rfl (by omega)|exact op1_sub TT rfl rfl (by omega)|exact op1_mul TT rfl rfl (by omega)|exact op1_conv TT rfl rfl rfl (by omega)|exact op1_neg TT rfl (by omega)|exact op1_cat rfl rfl (by omega)|exact op1_pure TT rfl|exact op1_build TT rfl rfl rfl rfl rfl rfl|exact op1_buildA TT rfl rfl rfl rfl rfl|exact op1_lenM TT 0 rfl rfl rfl|exact op1_lenM TT 1 rfl rfl rfl|exact op1_lenM TT 2 rfl rfl rfl|exact op1_lenM TT 3 rfl rfl rfl)); exact rfl) | (refine isWL ?_; (first|refine WL.nil ?_|refine WL.store TT 0 rfl rfl rfl rfl rfl rfl rfl rfl rfl ?_|refine WL.store TT 1 rfl rfl rfl rfl rfl rfl rfl rfl rfl ?_|refine WL.store TT 2 rfl rfl rfl rfl rfl rfl rfl rfl rfl ?_|refine WL.store TT 3 rfl rfl rfl rfl rfl rfl rfl rfl rfl ?_|refine WL.store TT 4 rfl rfl rfl rfl rfl rfl rfl rfl rfl ?_|refine WL.guardT rfl rfl ?_|refine WL.guardF rfl rfl rfl ?_)) | (refine isWQ ?_; (first|refine WQ.nil ?_|refine WQ.guardT rfl rfl ?_|refine WQ.guardF rfl rfl rfl ?_)) | fail)
  exact k.down) : B := f ⟨a⟩
/-- A block is made. -/
theorem bkq {A : Nat → Prop} {B : Prop} (a : ∀ q, A q) (f : PLift (∀ q, A q) → B := by
  intro k
  first | refine WL.alloc TT rfl rfl rfl k.down | refine WL.box rfl rfl rfl k.down | fail) : B := f ⟨a⟩
/-- Code, and exits. -/
theorem bkc {A B : Prop} (a : A) (f : PLift A → B := by
  intro k
  first | (refine isCS ?_; (first|refine CS.region ?_|refine CS.skip ?_|refine CS.ret ?_|refine CS.block ?_|refine CS.exit ?_|refine CS.condT rfl ?_|refine CS.condF rfl ?_)) | (refine isQS ?_; (first|refine QS.then ?_|refine QS.thenExit ?_|refine QS.thenRet ?_|refine QS.thenPanic ?_|refine QS.blockHere ?_|refine QS.blockOther rfl ?_|refine QS.blockNormal ?_|refine QS.blockRet ?_|refine QS.blockPanic ?_)) | fail
  repeat (first | (refine isCS ?_; (first|refine CS.region ?_|refine CS.skip ?_|refine CS.ret ?_|refine CS.block ?_|refine CS.exit ?_|refine CS.condT rfl ?_|refine CS.condF rfl ?_)) | (refine isQS ?_; (first|refine QS.then ?_|refine QS.thenExit ?_|refine QS.thenRet ?_|refine QS.thenPanic ?_|refine QS.blockHere ?_|refine QS.blockOther rfl ?_|refine QS.blockNormal ?_|refine QS.blockRet ?_|refine QS.blockPanic ?_)) | fail)
  exact k.down) : B := f ⟨a⟩
/-- Code behind code. -/
theorem bks {A B : Prop} (a : A) (f : PLift A → B := by
  first | (intro k; refine CS.seq ?_; exact k.down) | fail) : B := f ⟨a⟩
/-- A region that draws its order, with what is quiet. -/
theorem bkd {A B : Prop} (a : A) (f : PLift A → B := by
  intro k
  first | refine CS.drawQ rfl mixed (by kernel_rfl) ?_ | refine CS.drawW rfl rfl mixed (by kernel_rfl) ?_ | fail
  exact k.down) : B := f ⟨a⟩
/-- Heads of drawn regions. -/
theorem bkh {A B : Prop} (a : A) (f : PLift A → B := by
  intro k
  first | (apply WH.s; (focus (first|exact op1_pure1 TT rfl|exact op1_load TT 0 rfl rfl rfl|exact op1_load TT 1 rfl rfl rfl|exact op1_load TT 2 rfl rfl rfl|exact op1_load TT 3 rfl rfl rfl|exact op1_load TT 4 rfl rfl rfl|exact op1_add TT rfl rfl (by omega)|exact op1_sub TT rfl rfl (by omega)|exact op1_mul TT rfl rfl (by omega)|exact op1_conv TT rfl rfl rfl (by omega)|exact op1_neg TT rfl (by omega)|exact op1_cat rfl rfl (by omega)|exact op1_pure TT rfl|exact op1_build TT rfl rfl rfl rfl rfl rfl|exact op1_buildA TT rfl rfl rfl rfl rfl|exact op1_lenM TT 0 rfl rfl rfl|exact op1_lenM TT 1 rfl rfl rfl|exact op1_lenM TT 2 rfl rfl rfl|exact op1_lenM TT 3 rfl rfl rfl)); exact rfl) | (refine isWH ?_; (first|refine WH.nil ?_|refine WH.guardT rfl rfl ?_|refine WH.guardF rfl rfl rfl ?_)) | fail
  repeat (first | (apply WH.s; (focus (first|exact op1_pure1 TT rfl|exact op1_load TT 0 rfl rfl rfl|exact op1_load TT 1 rfl rfl rfl|exact op1_load TT 2 rfl rfl rfl|exact op1_load TT 3 rfl rfl rfl|exact op1_load TT 4 rfl rfl rfl|exact op1_add TT rfl rfl (by omega)|exact op1_sub TT rfl rfl (by omega)|exact op1_mul TT rfl rfl (by omega)|exact op1_conv TT rfl rfl rfl (by omega)|exact op1_neg TT rfl (by omega)|exact op1_cat rfl rfl (by omega)|exact op1_pure TT rfl|exact op1_build TT rfl rfl rfl rfl rfl rfl|exact op1_buildA TT rfl rfl rfl rfl rfl|exact op1_lenM TT 0 rfl rfl rfl|exact op1_lenM TT 1 rfl rfl rfl|exact op1_lenM TT 2 rfl rfl rfl|exact op1_lenM TT 3 rfl rfl rfl)); exact rfl) | (refine isWH ?_; (first|refine WH.nil ?_|refine WH.guardT rfl rfl ?_|refine WH.guardF rfl rfl rfl ?_)) | fail)
  exact k.down) : B := f ⟨a⟩
theorem bkw {A B : Prop} (a : A) (f : PLift A → B := by
  first | (intro k; apply WS.s; (focus (first|exact op1_pure1 TT rfl|exact op1_load TT 0 rfl rfl rfl|exact op1_load TT 1 rfl rfl rfl|exact op1_load TT 2 rfl rfl rfl|exact op1_load TT 3 rfl rfl rfl|exact op1_load TT 4 rfl rfl rfl|exact op1_add TT rfl rfl (by omega)|exact op1_sub TT rfl rfl (by omega)|exact op1_mul TT rfl rfl (by omega)|exact op1_conv TT rfl rfl rfl (by omega)|exact op1_neg TT rfl (by omega)|exact op1_cat rfl rfl (by omega)|exact op1_pure TT rfl|exact op1_build TT rfl rfl rfl rfl rfl rfl|exact op1_buildA TT rfl rfl rfl rfl rfl|exact op1_lenM TT 0 rfl rfl rfl|exact op1_lenM TT 1 rfl rfl rfl|exact op1_lenM TT 2 rfl rfl rfl|exact op1_lenM TT 3 rfl rfl rfl)); exact rfl; exact k.down) | fail) : B := f ⟨a⟩
theorem bkz {A B : Prop} (a : A) (f : PLift A → B := by
  first | (intro k; apply WZ.s; (focus (first|exact op1_pure1 TT rfl|exact op1_load TT 0 rfl rfl rfl|exact op1_load TT 1 rfl rfl rfl|exact op1_load TT 2 rfl rfl rfl|exact op1_load TT 3 rfl rfl rfl|exact op1_load TT 4 rfl rfl rfl|exact op1_add TT rfl rfl (by omega)|exact op1_sub TT rfl rfl (by omega)|exact op1_mul TT rfl rfl (by omega)|exact op1_conv TT rfl rfl rfl (by omega)|exact op1_neg TT rfl (by omega)|exact op1_cat rfl rfl (by omega)|exact op1_pure TT rfl|exact op1_build TT rfl rfl rfl rfl rfl rfl|exact op1_buildA TT rfl rfl rfl rfl rfl|exact op1_lenM TT 0 rfl rfl rfl|exact op1_lenM TT 1 rfl rfl rfl|exact op1_lenM TT 2 rfl rfl rfl|exact op1_lenM TT 3 rfl rfl rfl)); exact rfl; exact rfl; exact k.down) | fail) : B := f ⟨a⟩
theorem bka {A B : Prop} (a : A) (f : PLift A → B := by
  intro k
  first | (first|(apply WA.s rfl rfl (by kernel_rfl) rfl;(focus (first|exact op1_pure1 TT rfl|exact op1_load TT 0 rfl rfl rfl|exact op1_load TT 1 rfl rfl rfl|exact op1_load TT 2 rfl rfl rfl|exact op1_load TT 3 rfl rfl rfl|exact op1_load TT 4 rfl rfl rfl|exact op1_add TT rfl rfl (by omega)|exact op1_sub TT rfl rfl (by omega)|exact op1_mul TT rfl rfl (by omega)|exact op1_conv TT rfl rfl rfl (by omega)|exact op1_neg TT rfl (by omega)|exact op1_cat rfl rfl (by omega)|exact op1_pure TT rfl|exact op1_build TT rfl rfl rfl rfl rfl rfl|exact op1_buildA TT rfl rfl rfl rfl rfl|exact op1_lenM TT 0 rfl rfl rfl|exact op1_lenM TT 1 rfl rfl rfl|exact op1_lenM TT 2 rfl rfl rfl|exact op1_lenM TT 3 rfl rfl rfl));exact rfl)|refine WA.off rfl rfl (by kernel_rfl) rfl rfl rfl ?_) | fail
  repeat (first | (first|(apply WA.s rfl rfl (by kernel_rfl) rfl;(focus (first|exact op1_pure1 TT rfl|exact op1_load TT 0 rfl rfl rfl|exact op1_load TT 1 rfl rfl rfl|exact op1_load TT 2 rfl rfl rfl|exact op1_load TT 3 rfl rfl rfl|exact op1_load TT 4 rfl rfl rfl|exact op1_add TT rfl rfl (by omega)|exact op1_sub TT rfl rfl (by omega)|exact op1_mul TT rfl rfl (by omega)|exact op1_conv TT rfl rfl rfl (by omega)|exact op1_neg TT rfl (by omega)|exact op1_cat rfl rfl (by omega)|exact op1_pure TT rfl|exact op1_build TT rfl rfl rfl rfl rfl rfl|exact op1_buildA TT rfl rfl rfl rfl rfl|exact op1_lenM TT 0 rfl rfl rfl|exact op1_lenM TT 1 rfl rfl rfl|exact op1_lenM TT 2 rfl rfl rfl|exact op1_lenM TT 3 rfl rfl rfl));exact rfl)|refine WA.off rfl rfl (by kernel_rfl) rfl rfl rfl ?_) | fail)
  exact k.down) : B := f ⟨a⟩
/-- Two ways. -/
theorem bk2 {A C B : Prop} (a : A) (c : C) (f : PLift A → PLift C → B := by
  intro k l
  first | refine WL.guardS rfl rfl k.down l.down | refine WQ.guardS rfl rfl k.down l.down | refine CS.cond rfl k.down l.down | fail) : B := f ⟨a⟩ ⟨c⟩
theorem bk2h {A C B : Prop} (a : A) (c : C) (f : PLift A → PLift C → B := by
  first | (intro k l; refine WH.guardS rfl rfl k.down l.down) | fail) : B := f ⟨a⟩ ⟨c⟩
theorem bk2a {A C B : Prop} (a : A) (c : C) (f : PLift A → PLift C → B := by
  first | (intro k l; refine WA.guardS rfl rfl rfl rfl k.down l.down) | fail) : B := f ⟨a⟩ ⟨c⟩
/-- A way that is not there. -/
theorem bkn {p B : Prop} (f : p → B := by
  first | (intro h; (try simp only [decide_eq_true_eq, decide_eq_false_iff_not, Decidable.not_not, Bool.not_eq_true', Bool.not_eq_false'] at h) <;> (exfalso; first | omega | exact h trivial | exact h rfl)) | fail) : p → B := f
/-- What is known on a way. -/
theorem bkk {p p' B : Prop} (a : p' → B) (f : PLift (p' → B) → p → B := by
  intro k h
  (try simp only [decide_eq_true_eq, decide_eq_false_iff_not, Decidable.not_not, Bool.not_eq_true', Bool.not_eq_false'] at h)
  exact k.down h) : p → B := f ⟨a⟩
end Go.Proofs.YtpklbelejebcfaaGreat.B
