import Derived.Test.YtpklbelejebcfaaGreatAu
import Derived.Test.YtpklbelejebcfaaGreatLp
import Derived.Test.YtpklbelejebcfaaGreatRows
import Derived.WalkKit
import Derived.ProofKit
import Derived.OpenShut
import Derived.JoinedCond
import Derived.Carry
import Derived.Lib.SmallJoins
import Derived.SliceStrings
import Derived.ChangeMaps5
set_option linter.unusedVariables false
set_option linter.unusedSimpArgs false
set_option maxRecDepth 8000
/-! The rows' opening and closing. -/
namespace Go.Proofs.YtpklbelejebcfaaGreat.B
open Go Go.Proofs Go.ChangeShapes Go.WideShapes Go.ChangeAt Go.RowKit

section
variable {H : Type} {enc : TypeId × Value → H} {P : Program} {W W' : World}
theorem trodAll_below (hl : laidOutB P = true) (hb : Below W.heap.size W W') : ∀ {ts : List TypeId} {vs : List Value} {ds : List (DataW H)} {ps : List MemPlace}, (∀ t ∈ ts, P.readableRec t = true ∧ t < P.types.size) →
    DataW.TrodAll enc P W 0 (fun _ => true) true ts vs ds ps → (∀ x ∈ ps, x.block < W.heap.size) → DataW.TrodAll enc P W' 0 (fun b => decide (b < W.heap.size)) true ts vs ds ps
  | [], [], [], _, _, h, _ => h
  | _ :: _, _ :: _, _ :: _, _, ht, ⟨p, q, h1, h2, e⟩, hlt => by
    subst e
    have h3 := ht _ (List.mem_cons_self ..)
    exact ⟨p, q, Below.trod hl h3.1 h3.2 h1 hb (fun x hx => hlt x (List.mem_append_left _ hx)), trodAll_below hl hb (fun t h => ht t (List.mem_cons_of_mem _ h)) h2 (fun x hx => hlt x (List.mem_append_right _ hx)), rfl⟩
/-- A law's post, of a walk that leaves the old blocks alone. -/
theorem law_post {f : Func} {s : ChangeSpec} {fresh handsOn : Bool} {args : Array Value} {ds gs : List (DataW H)} {before : List MemPlace} {v : Value}
    (hl : laidOutB P = true) (hvars : s.vars = []) (ht : f.params.toList.all (fun t => P.readableRec t && decide (t < P.types.size)) = true)
    (hW : DataW.Whole enc P f.params.toList s.vars false W args.toList ds gs before) (hb : Below W.heap.size W W')
    (hres : DataW.TrodAll enc P W' (match fresh with | true => W.heap.size | false => 0) (fun _ => false) handsOn f.resultTypes.toList (v.resultList f.resultTypes.size) (s.fn H ds).results [])
    (hargs : (s.fn H ds).args = ds) (hv2 : (s.fn H ds).vars = []) : s.post enc P f false fresh handsOn false W args v W' := by
  have hlt := hW.lt
  have hW' := hW
  obtain ⟨p, q, hA, hV, rfl, hfz, hnd⟩ := hW
  rw [hvars] at hV
  obtain ⟨rfl, rfl⟩ := trodVars_none hV
  refine ⟨ds, [], p ++ [], [], p, [], hW', ?_, ?_, ?_, ?_, fun h => (by cases h)⟩
  · rw [List.append_nil]; exact hres
  · rw [List.append_nil, hargs]
    refine trodAll_below hl hb (fun t h => ?_) hA (fun x hx => hlt x (List.mem_append_left _ hx))
    have := List.all_eq_true.1 ht t h
    simpa using this
  · rw [List.append_nil, hvars, hv2]; rfl
  · exact hb.frame _
end
theorem spot_none {w : World} {a : Addr} {v : Value} (h : w.cell? a = some v) : a.spot = none := by
  unfold World.cell? at h
  split at h
  · cases hs : a.spot with
    | none => rfl
    | some x => rw [hs] at h; simp at h
  · cases h
theorem wf_i64 {n : Int} (h : (Lit.int .i64 n).wf = true) : I64 n := by
  unfold I64
  simp only [Lit.wf, Bool.and_eq_true, decide_eq_true_eq] at h
  exact h
theorem Rd.old {α : Type} {E : EncK α} {W : World} {A : Option Addr} {xs : List α} (h : RdC W A (flat E xs)) : Rd W [B.old W W.heap.size] E A xs := fun w hs => by
  have hb := hs.oldBelow rfl
  rcases h with h | ⟨b, o, rfl, hc⟩
  · exact .inl h
  · refine .inr ⟨b, o, rfl, fun j u hj => ?_⟩
    have h1 := hc j u hj
    have hlt := World.block_lt_of_cell? W ⟨b, o + j, none⟩ (u := u) h1
    rw [World.cell?_of_block (w := W) (hb.block b hlt)]
    exact h1
/-- A walk from the beginning, for a row. -/
theorem Fn.row {P : Program} {K : Nat} {vs : List Value} {W : World} {u : Value} (h : Fn P K vs W [B.old W W.heap.size] (Ret fun v G' => v = u ∧ G' = [B.old W W.heap.size])) :
    Calls P K vs.toArray W fun e w' => e = .returned u ∧ Below W.heap.size W w' := by
  refine (h W (Sat.start W)).mono ?_
  rintro e w' ⟨G', hR, hs⟩
  cases e with
  | returned v => obtain ⟨rfl, rfl⟩ := hR; exact ⟨rfl, hs.oldBelow rfl⟩
  | panicked ch => exact hR.elim
  | outgrown => exact hR.elim

theorem prog_own : ownKnob Tryz.prog.godebug = none := by kernel_rfl
theorem prog_laid : laidOutB Tryz.prog = true := by kernel_rfl
end Go.Proofs.YtpklbelejebcfaaGreat.B
