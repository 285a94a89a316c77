import Derived.Test.YtpmekjailifaiaaTab
import Derived.Test.YtpmekjailifaiaaLp
import Derived.Test.YtpmekjailifaiaaRows
import Derived.WalkKit
import Derived.ProofKit
import Derived.OpenShut
import Derived.JoinedCond
import Derived.Carry
import Derived.Lib.SmallJoins
import Derived.SliceStrings
import Derived.ChangeMaps5
set_option linter.unusedVariables false
set_option linter.unusedSimpArgs false
set_option maxRecDepth 8000
/-! The rows' opening and closing. -/
namespace Go.Proofs.Ytpmekjailifaiaa.B
open Go Go.Proofs Go.ChangeShapes Go.WideShapes Go.ChangeAt Go.RowKit

section
variable {H : Type} {enc : TypeId × Value → H} {P : Program} {W W' : World}
theorem trodAll_below (hl : laidOutB P = true) (hb : Below W.heap.size W W') : ∀ {ts : List TypeId} {vs : List Value} {ds : List (DataW H)} {ps : List MemPlace}, (∀ t ∈ ts, P.readableRec t = true ∧ t < P.types.size) →
    DataW.TrodAll enc P W 0 (fun _ => true) true ts vs ds ps → (∀ x ∈ ps, x.block < W.heap.size) → DataW.TrodAll enc P W' 0 (fun b => decide (b < W.heap.size)) true ts vs ds ps
  | [], [], [], _, _, h, _ => h
  | _ :: _, _ :: _, _ :: _, _, ht, ⟨p, q, h1, h2, e⟩, hlt => by
    subst e
    have h3 := ht _ (List.mem_cons_self ..)
    exact ⟨p, q, Below.trod hl h3.1 h3.2 h1 hb (fun x hx => hlt x (List.mem_append_left _ hx)), trodAll_below hl hb (fun t h => ht t (List.mem_cons_of_mem _ h)) h2 (fun x hx => hlt x (List.mem_append_right _ hx)), rfl⟩
/-- A law's post, of a walk that leaves the old blocks alone. -/
theorem law_post {f : Func} {s : ChangeSpec} {fresh handsOn : Bool} {args : Array Value} {ds gs : List (DataW H)} {before : List MemPlace} {v : Value}
    (hl : laidOutB P = true) (hvars : s.vars = []) (ht : f.params.toList.all (fun t => P.readableRec t && decide (t < P.types.size)) = true)
    (hW : DataW.Whole enc P f.params.toList s.vars false W args.toList ds gs before) (hb : Below W.heap.size W W')
    (hres : DataW.TrodAll enc P W' (match fresh with | true => W.heap.size | false => 0) (fun _ => false) handsOn f.resultTypes.toList (v.resultList f.resultTypes.size) (s.fn H ds).results [])
    (hargs : (s.fn H ds).args = ds) (hv2 : (s.fn H ds).vars = []) : s.post enc P f false fresh handsOn false W args v W' := by
  have hlt := hW.lt
  have hW' := hW
  obtain ⟨p, q, hA, hV, rfl, hfz, hnd⟩ := hW
  rw [hvars] at hV
  obtain ⟨rfl, rfl⟩ := trodVars_none hV
  refine ⟨ds, [], p ++ [], [], p, [], hW', ?_, ?_, ?_, ?_, fun h => (by cases h)⟩
  · rw [List.append_nil]; exact hres
  · rw [List.append_nil, hargs]
    refine trodAll_below hl hb (fun t h => ?_) hA (fun x hx => hlt x (List.mem_append_left _ hx))
    have := List.all_eq_true.1 ht t h
    simpa using this
  · rw [List.append_nil, hvars, hv2]; rfl
  · exact hb.frame _
end
theorem spot_none {w : World} {a : Addr} {v : Value} (h : w.cell? a = some v) : a.spot = none := by
  unfold World.cell? at h
  split at h
  · cases hs : a.spot with
    | none => rfl
    | some x => rw [hs] at h; simp at h
  · cases h
section
variable {H : Type} {enc : TypeId × Value → H} {w : World} {sp : Nat → Bool} {held : Bool}
/-- A slice of entries that can be read. -/
theorem open_entries {fuel : Nat} {v : Value} {x : DataW H × List MemPlace} (h : DataW.trod enc Try.prog w 0 sp held fuel 24 [v] = some x) :
    ∃ A k c xs, v = .slice A k c ∧ k = xs.length ∧ k ≤ c ∧ RdC w A (flat entE xs) := by
  rcases DataW.trod_slice Try.underlying24 h with ⟨hc, _⟩ | ⟨a, len, cap, elems, rest, n, _, hcs, _, hb, hl, hm, hlen, hel, _⟩
  · simp only [List.cons.injEq, and_true] at hc
    exact ⟨none, 0, 0, [], hc, rfl, Nat.le_refl _, .inl rfl⟩
  · simp only [List.cons.injEq, and_true] at hcs
    subst hcs
    have hC : Try.prog.cellsOf 28 = 2 := by kernel_rfl
    have each : ∀ i, i < len → ∃ y : Ent, w.cell? (a.add (i * 2)) = some (.int .i64 y.n) ∧ w.cell? ((a.add (i * 2)).add 1) = some (.string y.s) := fun i hi => by
      have h1 := hel i hi
      rw [hC, List.getElem?_eq_getElem (by omega), Option.bind_eq_some_iff] at h1
      obtain ⟨cs, h2, h3⟩ := h1
      obtain ⟨_, hl2, hg⟩ := World.cells?_some h2
      obtain ⟨c0, c1, rfl⟩ : ∃ c0 c1, cs = [c0, c1] := by
        match cs, hl2 with
        | [c0, c1], _ => exact ⟨c0, c1, rfl⟩
      obtain ⟨zs, m, _, hx, _, hzl, hz⟩ := DataW.trod_struct Try.underlying28 h3
      have hc3 : Try.prog.cellsOf 3 = 1 := by kernel_rfl
      have hc9 : Try.prog.cellsOf 9 = 1 := by kernel_rfl
      have hz0 : DataW.trod enc Try.prog w 0 sp held m 3 (([c0, c1].drop 0).take (Try.prog.cellsOf 3)) = zs[0]? := hz 0 _ rfl
      have hz1 : DataW.trod enc Try.prog w 0 sp held m 9 (([c0, c1].drop 1).take (Try.prog.cellsOf 9)) = zs[1]? := hz 1 _ rfl
      rw [hc3] at hz0
      rw [hc9] at hz1
      have hzl' : zs.length = 2 := hzl
      rw [List.getElem?_eq_getElem (by omega)] at hz0 hz1
      obtain ⟨k, hk, _⟩ := DataW.trod_int Try.underlying3 hz0
      obtain ⟨s, hs, _⟩ := DataW.trod_string Try.underlying9 hz1
      simp at hk hs
      have g0 := hg 0 (by omega)
      have g1 := hg 1 (by omega)
      simp only [List.getElem?_cons_zero, List.getElem?_cons_succ, hk, hs] at g0 g1
      exact ⟨⟨k, s⟩, by simpa [Addr.add] using g0, g1⟩
    have build : ∀ m, m ≤ len → ∃ xs : List Ent, xs.length = m ∧ ∀ i y, xs[i]? = some y → w.cell? (a.add (i * 2)) = some (.int .i64 y.n) ∧ w.cell? ((a.add (i * 2)).add 1) = some (.string y.s) := by
      intro m
      induction m with
      | zero => intro _; exact ⟨[], rfl, fun i y h => by simp at h⟩
      | succ m ih =>
        intro hm
        obtain ⟨xs, hl3, hx3⟩ := ih (by omega)
        obtain ⟨y, hy⟩ := each m (by omega)
        refine ⟨xs ++ [y], by simp [hl3], fun i z hz => ?_⟩
        by_cases hi : i < xs.length
        · rw [List.getElem?_append_left hi] at hz; exact hx3 i z hz
        · rw [List.getElem?_append_right (by omega)] at hz
          have : i - xs.length = 0 := by
            have := (List.getElem?_eq_some_iff.1 hz).1
            simp at this; omega
          rw [this] at hz
          simp at hz
          subst hz
          rw [show i = m from by omega]; exact hy
    obtain ⟨xs, hxl, hx⟩ := build len (Nat.le_refl _)
    refine ⟨some a, len, cap, xs, rfl, hxl.symm, hl, ?_⟩
    cases hxs : xs with
    | nil => exact .inl rfl
    | cons y0 yr =>
      have hy0 := hx 0 y0 (by rw [hxs]; rfl)
      have hsp : a.spot = none := by have := spot_none hy0.1; simpa [Addr.add] using this
      obtain ⟨b, o, spt⟩ := a
      simp only at hsp
      subst hsp
      refine .inr ⟨b, o, rfl, fun j u hj => ?_⟩
      rw [← hxs] at hj
      have hjl : j < xs.length * 2 := by
        have := (List.getElem?_eq_some_iff.1 hj).1
        rwa [flat_len] at this
      obtain ⟨y, hy⟩ : ∃ y, xs[j / 2]? = some y := ⟨xs[j / 2]'(by omega), List.getElem?_eq_getElem (by omega)⟩
      have h2 := hx _ _ hy
      rcases Nat.mod_two_eq_zero_or_one j with hm2 | hm2
      · have h3 := flat_get entE xs (j / 2) 0 y (.int .i64 y.n) hy rfl
        have ej : j / 2 * entE.sz + 0 = j := by show j / 2 * 2 + 0 = j; omega
        rw [ej, hj] at h3
        injection h3 with h3
        rw [h3]
        have := h2.1
        rw [add_off] at this
        rwa [show o + j = o + j / 2 * 2 from by omega]
      · have h3 := flat_get entE xs (j / 2) 1 y (.string y.s) hy rfl
        have ej : j / 2 * entE.sz + 1 = j := by show j / 2 * 2 + 1 = j; omega
        rw [ej, hj] at h3
        injection h3 with h3
        rw [h3]
        have := h2.2
        rw [add_off, add_off] at this
        rwa [show o + j = o + j / 2 * 2 + 1 from by omega]
theorem open_ents {base : Nat} {r : Reach} {v : Value} {d : DataW H} {ps : List MemPlace} (hval : Value.okWide Try.prog w r base 24 v) (h : DataW.Trod enc Try.prog w 0 sp held 24 v d ps) :
    ∃ A k c xs, v = .slice A k c ∧ k = xs.length ∧ k ≤ c ∧ c ≤ maxLen ∧ RdC w A (flat entE xs) := by
  obtain ⟨A, k, c, rfl⟩ := okWide_slice Try.underlying24 hval
  obtain ⟨n, hf⟩ := h
  have hm : c ≤ maxLen := by
    rcases DataW.trod_slice Try.underlying24 hf with ⟨hc, _⟩ | ⟨a, len, cap, elems, rest, n, _, hcs, _, hb, hl, hm, hlen, hel, _⟩
    · simp [Value.cells] at hc
      rw [hc.2.2]; simp [maxLen]
    · simp [Value.cells] at hcs
      rw [hcs.2.2]; exact hm
  obtain ⟨A', k', c', xs, he, hk, hc, hR⟩ := open_entries (v := .slice A k c) hf
  cases he
  exact ⟨A, k, c, xs, rfl, hk, hc, hm, hR⟩
end
theorem wf_i64 {n : Int} (h : (Lit.int .i64 n).wf = true) : I64 n := by
  unfold I64
  simp only [Lit.wf, Bool.and_eq_true, decide_eq_true_eq] at h
  exact h
theorem Rd.old {α : Type} {E : EncK α} {W : World} {A : Option Addr} {xs : List α} (h : RdC W A (flat E xs)) : Rd W [B.old W W.heap.size] E A xs := fun w hs => by
  have hb := hs.oldBelow rfl
  rcases h with h | ⟨b, o, rfl, hc⟩
  · exact .inl h
  · refine .inr ⟨b, o, rfl, fun j u hj => ?_⟩
    have h1 := hc j u hj
    have hlt := World.block_lt_of_cell? W ⟨b, o + j, none⟩ (u := u) h1
    rw [World.cell?_of_block (w := W) (hb.block b hlt)]
    exact h1
/-- A walk from the beginning, for a row. -/
theorem Fn.row {P : Program} {K : Nat} {vs : List Value} {W : World} {u : Value} (h : Fn P K vs W [B.old W W.heap.size] (Ret fun v G' => v = u ∧ G' = [B.old W W.heap.size])) :
    Calls P K vs.toArray W fun e w' => e = .returned u ∧ Below W.heap.size W w' := by
  refine (h W (Sat.start W)).mono ?_
  rintro e w' ⟨G', hR, hs⟩
  cases e with
  | returned v => obtain ⟨rfl, rfl⟩ := hR; exact ⟨rfl, hs.oldBelow rfl⟩
  | panicked ch => exact hR.elim
  | outgrown => exact hR.elim

theorem prog_own : ownKnob Try.prog.godebug = none := by kernel_rfl
theorem prog_laid : laidOutB Try.prog = true := by kernel_rfl
end Go.Proofs.Ytpmekjailifaiaa.B
