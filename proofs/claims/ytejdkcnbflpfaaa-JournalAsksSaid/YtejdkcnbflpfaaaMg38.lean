import Derived.Test.YtejdkcnbflpfaaaMg37
import Derived.Test.YtejdkcnbflpfaaaMg18
import Derived.Test.YtejdkcnbflpfaaaMg9
import Derived.Test.YtejdkcnbflpfaaaRows
import Derived.WalkKit
import Derived.ProofKit
import Derived.OpenShut
import Derived.JoinedCond
import Derived.Carry
import Derived.Lib.SmallJoins
import Derived.SliceStrings
import Derived.ChangeMaps5
set_option linter.unusedVariables false
set_option linter.unusedSimpArgs false
set_option linter.unusedSectionVars false
set_option maxRecDepth 8000
/-! Opening the deeds of law15. -/
namespace Go.Proofs.Ytejdkcnbflpfaaa.B
open Go Go.Proofs Go.ChangeShapes Go.WideShapes Go.ChangeAt Go.RowKit
structure EntOk (d : Ent) : Prop where
  n : I64 d.n
  s : d.s.size ≤ maxLen
structure DeedJ where
  kind : Int
  epoch : Int
  lA : Option Addr
  l : List Ent
  lc : Nat
  xn : Int
  xs : ByteArray
  raw : ByteArray
  n : Int
  keepsA : Option Addr
  keeps : List Int
  keepsc : Nat
def djE : EncK DeedJ := ⟨fun d => [.int .i64 d.kind, .int .i64 d.epoch, .slice d.lA d.l.length d.lc, .int .i64 d.xn, .string d.xs, .string d.raw, .int .i64 d.n, .slice d.keepsA d.keeps.length d.keepsc], 8, fun _ => rfl, by decide, fun _ u hu => by
  simp only [List.mem_cons, List.not_mem_nil, or_false] at hu
  rcases hu with rfl | rfl | rfl | rfl | rfl | rfl | rfl | rfl <;> rfl⟩
structure DeedJOk (d : DeedJ) : Prop where
  kind : I64 d.kind
  epoch : I64 d.epoch
  l : (d.l.length ≤ d.lc ∧ d.lc ≤ maxLen) ∧ ∀ a ∈ d.l, EntOk a
  xn : I64 d.xn
  xs : d.xs.size ≤ maxLen
  raw : d.raw.size ≤ maxLen
  n : I64 d.n
  keeps : (d.keeps.length ≤ d.keepsc ∧ d.keepsc ≤ maxLen) ∧ ∀ a ∈ d.keeps, I64 a
structure DeedJRd (w : World) (d : DeedJ) : Prop where
  l : RdC w d.lA (flat entE d.l)
  keeps : RdC w d.keepsA (flat intE d.keeps)
section
variable {H : Type} {enc : TypeId × Value → H} {w : World} {sp : Nat → Bool} {held : Bool}
theorem open_EntC {fuel : Nat} {cs : List Value} {x : DataW H × List MemPlace} (hl : cs.length = 2) (h : DataW.trod enc Try.prog w 0 sp held fuel 24 cs = some x) :
    ∃ d : Ent, cs = entE.enc d ∧ EntOk d := by
  obtain ⟨c0, c1, rfl⟩ : ∃ c0 c1, cs = [c0, c1] := by
    match cs, hl with
    | [c0, c1], _ => exact ⟨c0, c1, rfl⟩
  obtain ⟨zs, m, _, hx, _, hzl, hz⟩ := DataW.trod_struct Try.underlying24 h
  have hzl' : zs.length = 2 := hzl
  obtain ⟨z_0, e_0⟩ : ∃ z, zs[0]? = some z := ⟨zs[0]'(by omega), List.getElem?_eq_getElem (by omega)⟩
  have h_0 : DataW.trod enc Try.prog w 0 sp held m 3 (([c0, c1].drop 0).take (Try.prog.cellsOf 3)) = zs[0]? := hz 0 _ rfl
  rw [show Try.prog.cellsOf 3 = 1 from by kernel_rfl, e_0] at h_0
  simp only [List.drop_zero, List.take_succ_cons, List.take_zero, List.drop_succ_cons] at h_0
  obtain ⟨v_0, k_0, _, w_0⟩ := DataW.trod_int Try.underlying3 h_0
  simp only [List.cons.injEq, and_true] at k_0
  obtain ⟨z_1, e_1⟩ : ∃ z, zs[1]? = some z := ⟨zs[1]'(by omega), List.getElem?_eq_getElem (by omega)⟩
  have h_1 : DataW.trod enc Try.prog w 0 sp held m 9 (([c0, c1].drop 1).take (Try.prog.cellsOf 9)) = zs[1]? := hz 1 _ rfl
  rw [show Try.prog.cellsOf 9 = 1 from by kernel_rfl, e_1] at h_1
  simp only [List.drop_zero, List.take_succ_cons, List.take_zero, List.drop_succ_cons] at h_1
  obtain ⟨v_1, k_1, _, w_1⟩ := DataW.trod_string Try.underlying9 h_1
  simp only [List.cons.injEq, and_true] at k_1
  subst k_0 k_1
  exact ⟨⟨v_0, v_1⟩, rfl, ⟨wf_i64 w_0, w_1⟩⟩
theorem open_DeedJC {fuel : Nat} {cs : List Value} {x : DataW H × List MemPlace} (hl : cs.length = 8) (h : DataW.trod enc Try.prog w 0 sp held fuel 45 cs = some x) :
    ∃ d : DeedJ, cs = djE.enc d ∧ DeedJOk d ∧ DeedJRd w d := by
  obtain ⟨c0, c1, c2, c3, c4, c5, c6, c7, rfl⟩ : ∃ c0 c1 c2 c3 c4 c5 c6 c7, cs = [c0, c1, c2, c3, c4, c5, c6, c7] := by
    match cs, hl with
    | [c0, c1, c2, c3, c4, c5, c6, c7], _ => exact ⟨c0, c1, c2, c3, c4, c5, c6, c7, rfl⟩
  obtain ⟨zs, m, _, hx, _, hzl, hz⟩ := DataW.trod_struct Try.underlying45 h
  have hzl' : zs.length = 7 := hzl
  obtain ⟨z_0, e_0⟩ : ∃ z, zs[0]? = some z := ⟨zs[0]'(by omega), List.getElem?_eq_getElem (by omega)⟩
  have h_0 : DataW.trod enc Try.prog w 0 sp held m 3 (([c0, c1, c2, c3, c4, c5, c6, c7].drop 0).take (Try.prog.cellsOf 3)) = zs[0]? := hz 0 _ rfl
  rw [show Try.prog.cellsOf 3 = 1 from by kernel_rfl, e_0] at h_0
  simp only [List.drop_zero, List.take_succ_cons, List.take_zero, List.drop_succ_cons] at h_0
  obtain ⟨v_0, k_0, _, w_0⟩ := DataW.trod_int Try.underlying3 h_0
  simp only [List.cons.injEq, and_true] at k_0
  obtain ⟨z_1, e_1⟩ : ∃ z, zs[1]? = some z := ⟨zs[1]'(by omega), List.getElem?_eq_getElem (by omega)⟩
  have h_1 : DataW.trod enc Try.prog w 0 sp held m 3 (([c0, c1, c2, c3, c4, c5, c6, c7].drop 1).take (Try.prog.cellsOf 3)) = zs[1]? := hz 1 _ rfl
  rw [show Try.prog.cellsOf 3 = 1 from by kernel_rfl, e_1] at h_1
  simp only [List.drop_zero, List.take_succ_cons, List.take_zero, List.drop_succ_cons] at h_1
  obtain ⟨v_1, k_1, _, w_1⟩ := DataW.trod_int Try.underlying3 h_1
  simp only [List.cons.injEq, and_true] at k_1
  obtain ⟨z_2, e_2⟩ : ∃ z, zs[2]? = some z := ⟨zs[2]'(by omega), List.getElem?_eq_getElem (by omega)⟩
  have h_2 : DataW.trod enc Try.prog w 0 sp held m 22 (([c0, c1, c2, c3, c4, c5, c6, c7].drop 2).take (Try.prog.cellsOf 22)) = zs[2]? := hz 2 _ rfl
  rw [show Try.prog.cellsOf 22 = 1 from by kernel_rfl, e_2] at h_2
  simp only [List.drop_zero, List.take_succ_cons, List.take_zero, List.drop_succ_cons] at h_2
  obtain ⟨A_2, k_2, cc_2, x_2, v_2, hk_2, hc_2, hm_2, R_2, I_2, _⟩ := open_slcG entE (fun a _ => EntOk a) Try.underlying22 (by kernel_rfl) (fun {fuel cs x} hl h => open_EntC hl h) h_2
  obtain ⟨z_3, e_3⟩ : ∃ z, zs[3]? = some z := ⟨zs[3]'(by omega), List.getElem?_eq_getElem (by omega)⟩
  have h_3 : DataW.trod enc Try.prog w 0 sp held m 24 (([c0, c1, c2, c3, c4, c5, c6, c7].drop 3).take (Try.prog.cellsOf 24)) = zs[3]? := hz 3 _ rfl
  rw [show Try.prog.cellsOf 24 = 2 from by kernel_rfl, e_3] at h_3
  simp only [List.drop_zero, List.take_succ_cons, List.take_zero, List.drop_succ_cons] at h_3
  obtain ⟨zs_3, m_3, _, hx_3, _, hzl_3, hz_3⟩ := DataW.trod_struct Try.underlying24 h_3
  have hzl'_3 : zs_3.length = 2 := hzl_3
  obtain ⟨z_3_0, e_3_0⟩ : ∃ z, zs_3[0]? = some z := ⟨zs_3[0]'(by omega), List.getElem?_eq_getElem (by omega)⟩
  have h_3_0 : DataW.trod enc Try.prog w 0 sp held m_3 3 (([c3, c4].drop 0).take (Try.prog.cellsOf 3)) = zs_3[0]? := hz_3 0 _ rfl
  rw [show Try.prog.cellsOf 3 = 1 from by kernel_rfl, e_3_0] at h_3_0
  simp only [List.drop_zero, List.take_succ_cons, List.take_zero, List.drop_succ_cons] at h_3_0
  obtain ⟨v_3_0, k_3_0, _, w_3_0⟩ := DataW.trod_int Try.underlying3 h_3_0
  simp only [List.cons.injEq, and_true] at k_3_0
  obtain ⟨z_3_1, e_3_1⟩ : ∃ z, zs_3[1]? = some z := ⟨zs_3[1]'(by omega), List.getElem?_eq_getElem (by omega)⟩
  have h_3_1 : DataW.trod enc Try.prog w 0 sp held m_3 9 (([c3, c4].drop 1).take (Try.prog.cellsOf 9)) = zs_3[1]? := hz_3 1 _ rfl
  rw [show Try.prog.cellsOf 9 = 1 from by kernel_rfl, e_3_1] at h_3_1
  simp only [List.drop_zero, List.take_succ_cons, List.take_zero, List.drop_succ_cons] at h_3_1
  obtain ⟨v_3_1, k_3_1, _, w_3_1⟩ := DataW.trod_string Try.underlying9 h_3_1
  simp only [List.cons.injEq, and_true] at k_3_1
  obtain ⟨z_4, e_4⟩ : ∃ z, zs[4]? = some z := ⟨zs[4]'(by omega), List.getElem?_eq_getElem (by omega)⟩
  have h_4 : DataW.trod enc Try.prog w 0 sp held m 9 (([c0, c1, c2, c3, c4, c5, c6, c7].drop 5).take (Try.prog.cellsOf 9)) = zs[4]? := hz 4 _ rfl
  rw [show Try.prog.cellsOf 9 = 1 from by kernel_rfl, e_4] at h_4
  simp only [List.drop_zero, List.take_succ_cons, List.take_zero, List.drop_succ_cons] at h_4
  obtain ⟨v_4, k_4, _, w_4⟩ := DataW.trod_string Try.underlying9 h_4
  simp only [List.cons.injEq, and_true] at k_4
  obtain ⟨z_5, e_5⟩ : ∃ z, zs[5]? = some z := ⟨zs[5]'(by omega), List.getElem?_eq_getElem (by omega)⟩
  have h_5 : DataW.trod enc Try.prog w 0 sp held m 3 (([c0, c1, c2, c3, c4, c5, c6, c7].drop 6).take (Try.prog.cellsOf 3)) = zs[5]? := hz 5 _ rfl
  rw [show Try.prog.cellsOf 3 = 1 from by kernel_rfl, e_5] at h_5
  simp only [List.drop_zero, List.take_succ_cons, List.take_zero, List.drop_succ_cons] at h_5
  obtain ⟨v_5, k_5, _, w_5⟩ := DataW.trod_int Try.underlying3 h_5
  simp only [List.cons.injEq, and_true] at k_5
  obtain ⟨z_6, e_6⟩ : ∃ z, zs[6]? = some z := ⟨zs[6]'(by omega), List.getElem?_eq_getElem (by omega)⟩
  have h_6 : DataW.trod enc Try.prog w 0 sp held m 43 (([c0, c1, c2, c3, c4, c5, c6, c7].drop 7).take (Try.prog.cellsOf 43)) = zs[6]? := hz 6 _ rfl
  rw [show Try.prog.cellsOf 43 = 1 from by kernel_rfl, e_6] at h_6
  simp only [List.drop_zero, List.take_succ_cons, List.take_zero, List.drop_succ_cons] at h_6
  obtain ⟨A_6, k_6, cc_6, x_6, v_6, hk_6, hc_6, hm_6, R_6, I_6, _⟩ := open_slcG intE (fun a _ => I64 a) Try.underlying43 (by kernel_rfl) (fun {fuel cs x} hl h => by
    obtain ⟨n, rfl, _, hw⟩ := DataW.trod_int Try.underlying3 h
    exact ⟨n, rfl, wf_i64 hw⟩) h_6
  subst k_0 k_1 v_2 hk_2 k_3_0 k_3_1 k_4 k_5 v_6 hk_6
  exact ⟨⟨v_0, v_1, A_2, x_2, cc_2, v_3_0, v_3_1, v_4, v_5, A_6, x_6, cc_6⟩, rfl, ⟨wf_i64 w_0, wf_i64 w_1, ⟨⟨hc_2, hm_2⟩, fun a ha => (I_2 a ha).choose_spec.1⟩, wf_i64 w_3_0, w_3_1, w_4, wf_i64 w_5, ⟨⟨hc_6, hm_6⟩, fun a ha => (I_6 a ha).choose_spec.1⟩⟩, ⟨R_2, R_6⟩⟩
theorem open_DeedJs {base : Nat} {r : Reach} {v : Value} {d : DataW H} {ps : List MemPlace} (hval : Value.okWide Try.prog w r base 42 v) (h : DataW.Trod enc Try.prog w 0 sp held 42 v d ps) :
    ∃ A k c ls, v = .slice A k c ∧ k = ls.length ∧ k ≤ c ∧ c ≤ maxLen ∧ RdC w A (flat djE ls) ∧ ∀ l ∈ ls, DeedJOk l ∧ DeedJRd w l := by
  obtain ⟨A, k, c, rfl⟩ := okWide_slice Try.underlying42 hval
  obtain ⟨fuel, hf⟩ := h
  obtain ⟨A', k', c', ls, h1, h2, h3, h4, h5, h6, _⟩ := open_slcG djE (fun l _ => DeedJOk l ∧ DeedJRd w l) Try.underlying42 (by kernel_rfl) (fun {fuel cs x} hl h => open_DeedJC hl h) (v := .slice A k c) hf
  exact ⟨A', k', c', ls, h1, h2, h3, h4, h5, fun l hl => (h6 l hl).choose_spec.1⟩
end
end Go.Proofs.Ytejdkcnbflpfaaa.B

set_option linter.unusedVariables false
set_option maxRecDepth 8000
/-! Opening a deed handed in by itself. -/
namespace Go.Proofs.Ytejdkcnbflpfaaa.B
open Go Go.Proofs Go.ChangeShapes Go.WideShapes Go.ChangeAt Go.RowKit
section
variable {H : Type} {enc : TypeId × Value → H} {w : World} {sp : Nat → Bool} {held : Bool}
theorem open_DeedJV {base : Nat} {r : Reach} {v : Value} {d : DataW H} {ps : List MemPlace} (hval : Value.okWide Try.prog w r base 45 v) (h : DataW.Trod enc Try.prog w 0 sp held 45 v d ps) :
    ∃ u : DeedJ, v = .agg ⟨djE.enc u⟩ ∧ DeedJOk u ∧ DeedJRd w u := by
  obtain ⟨cs, rfl, hcs⟩ := okWide_struct Try.underlying45 hval
  rw [show Try.prog.cellsOf 45 = 8 from by kernel_rfl] at hcs
  obtain ⟨fuel, hf⟩ := h
  obtain ⟨cl⟩ := cs
  obtain ⟨u, hu, h1⟩ := open_DeedJC (cs := cl) hcs hf
  exact ⟨u, by rw [hu], h1⟩
theorem open_EntV {base : Nat} {r : Reach} {v : Value} {d : DataW H} {ps : List MemPlace} (hval : Value.okWide Try.prog w r base 24 v) (h : DataW.Trod enc Try.prog w 0 sp held 24 v d ps) :
    ∃ u : Ent, v = .agg ⟨entE.enc u⟩ ∧ EntOk u := by
  obtain ⟨cs, rfl, hcs⟩ := okWide_struct Try.underlying24 hval
  rw [show Try.prog.cellsOf 24 = 2 from by kernel_rfl] at hcs
  obtain ⟨fuel, hf⟩ := h
  obtain ⟨cl⟩ := cs
  obtain ⟨u, hu, h1⟩ := open_EntC (cs := cl) hcs hf
  exact ⟨u, by rw [hu], h1⟩
end
end Go.Proofs.Ytejdkcnbflpfaaa.B

set_option linter.unusedVariables false
set_option linter.unusedSimpArgs false
set_option maxRecDepth 8000
/-! Opening a slice of entries. -/
namespace Go.Proofs.Ytejdkcnbflpfaaa.B
open Go Go.Proofs Go.ChangeShapes Go.WideShapes Go.ChangeAt Go.RowKit
section
variable {H : Type} {enc : TypeId × Value → H} {w : World} {sp : Nat → Bool} {held : Bool}
/-- A slice of entries that can be read. -/
theorem open_entries {fuel : Nat} {v : Value} {x : DataW H × List MemPlace} (h : DataW.trod enc Try.prog w 0 sp held fuel 22 [v] = some x) :
    ∃ A k c xs, v = .slice A k c ∧ k = xs.length ∧ k ≤ c ∧ RdC w A (flat entE xs) := by
  rcases DataW.trod_slice Try.underlying22 h with ⟨hc, _⟩ | ⟨a, len, cap, elems, rest, n, _, hcs, _, hb, hl, hm, hlen, hel, _⟩
  · simp only [List.cons.injEq, and_true] at hc
    exact ⟨none, 0, 0, [], hc, rfl, Nat.le_refl _, .inl rfl⟩
  · simp only [List.cons.injEq, and_true] at hcs
    subst hcs
    have hC : Try.prog.cellsOf 24 = 2 := by kernel_rfl
    have each : ∀ i, i < len → ∃ y : Ent, w.cell? (a.add (i * 2)) = some (.int .i64 y.n) ∧ w.cell? ((a.add (i * 2)).add 1) = some (.string y.s) := fun i hi => by
      have h1 := hel i hi
      rw [hC, List.getElem?_eq_getElem (by omega), Option.bind_eq_some_iff] at h1
      obtain ⟨cs, h2, h3⟩ := h1
      obtain ⟨_, hl2, hg⟩ := World.cells?_some h2
      obtain ⟨c0, c1, rfl⟩ : ∃ c0 c1, cs = [c0, c1] := by
        match cs, hl2 with
        | [c0, c1], _ => exact ⟨c0, c1, rfl⟩
      obtain ⟨zs, m, _, hx, _, hzl, hz⟩ := DataW.trod_struct Try.underlying24 h3
      have hc3 : Try.prog.cellsOf 3 = 1 := by kernel_rfl
      have hc9 : Try.prog.cellsOf 9 = 1 := by kernel_rfl
      have hz0 : DataW.trod enc Try.prog w 0 sp held m 3 (([c0, c1].drop 0).take (Try.prog.cellsOf 3)) = zs[0]? := hz 0 _ rfl
      have hz1 : DataW.trod enc Try.prog w 0 sp held m 9 (([c0, c1].drop 1).take (Try.prog.cellsOf 9)) = zs[1]? := hz 1 _ rfl
      rw [hc3] at hz0
      rw [hc9] at hz1
      have hzl' : zs.length = 2 := hzl
      rw [List.getElem?_eq_getElem (by omega)] at hz0 hz1
      obtain ⟨k, hk, _⟩ := DataW.trod_int Try.underlying3 hz0
      obtain ⟨s, hs, _⟩ := DataW.trod_string Try.underlying9 hz1
      simp at hk hs
      have g0 := hg 0 (by omega)
      have g1 := hg 1 (by omega)
      simp only [List.getElem?_cons_zero, List.getElem?_cons_succ, hk, hs] at g0 g1
      exact ⟨⟨k, s⟩, by simpa [Addr.add] using g0, g1⟩
    have build : ∀ m, m ≤ len → ∃ xs : List Ent, xs.length = m ∧ ∀ i y, xs[i]? = some y → w.cell? (a.add (i * 2)) = some (.int .i64 y.n) ∧ w.cell? ((a.add (i * 2)).add 1) = some (.string y.s) := by
      intro m
      induction m with
      | zero => intro _; exact ⟨[], rfl, fun i y h => by simp at h⟩
      | succ m ih =>
        intro hm
        obtain ⟨xs, hl3, hx3⟩ := ih (by omega)
        obtain ⟨y, hy⟩ := each m (by omega)
        refine ⟨xs ++ [y], by simp [hl3], fun i z hz => ?_⟩
        by_cases hi : i < xs.length
        · rw [List.getElem?_append_left hi] at hz; exact hx3 i z hz
        · rw [List.getElem?_append_right (by omega)] at hz
          have : i - xs.length = 0 := by
            have := (List.getElem?_eq_some_iff.1 hz).1
            simp at this; omega
          rw [this] at hz
          simp at hz
          subst hz
          rw [show i = m from by omega]; exact hy
    obtain ⟨xs, hxl, hx⟩ := build len (Nat.le_refl _)
    refine ⟨some a, len, cap, xs, rfl, hxl.symm, hl, ?_⟩
    cases hxs : xs with
    | nil => exact .inl rfl
    | cons y0 yr =>
      have hy0 := hx 0 y0 (by rw [hxs]; rfl)
      have hsp : a.spot = none := by have := spot_none hy0.1; simpa [Addr.add] using this
      obtain ⟨b, o, spt⟩ := a
      simp only at hsp
      subst hsp
      refine .inr ⟨b, o, rfl, fun j u hj => ?_⟩
      rw [← hxs] at hj
      have hjl : j < xs.length * 2 := by
        have := (List.getElem?_eq_some_iff.1 hj).1
        rwa [flat_len] at this
      obtain ⟨y, hy⟩ : ∃ y, xs[j / 2]? = some y := ⟨xs[j / 2]'(by omega), List.getElem?_eq_getElem (by omega)⟩
      have h2 := hx _ _ hy
      rcases Nat.mod_two_eq_zero_or_one j with hm2 | hm2
      · have h3 := flat_get entE xs (j / 2) 0 y (.int .i64 y.n) hy rfl
        have ej : j / 2 * entE.sz + 0 = j := by show j / 2 * 2 + 0 = j; omega
        rw [ej, hj] at h3
        injection h3 with h3
        rw [h3]
        have := h2.1
        rw [add_off] at this
        rwa [show o + j = o + j / 2 * 2 from by omega]
      · have h3 := flat_get entE xs (j / 2) 1 y (.string y.s) hy rfl
        have ej : j / 2 * entE.sz + 1 = j := by show j / 2 * 2 + 1 = j; omega
        rw [ej, hj] at h3
        injection h3 with h3
        rw [h3]
        have := h2.2
        rw [add_off, add_off] at this
        rwa [show o + j = o + j / 2 * 2 + 1 from by omega]
theorem open_ents {base : Nat} {r : Reach} {v : Value} {d : DataW H} {ps : List MemPlace} (hval : Value.okWide Try.prog w r base 22 v) (h : DataW.Trod enc Try.prog w 0 sp held 22 v d ps) :
    ∃ A k c xs, v = .slice A k c ∧ k = xs.length ∧ k ≤ c ∧ c ≤ maxLen ∧ RdC w A (flat entE xs) := by
  obtain ⟨A, k, c, rfl⟩ := okWide_slice Try.underlying22 hval
  obtain ⟨n, hf⟩ := h
  have hm : c ≤ maxLen := by
    rcases DataW.trod_slice Try.underlying22 hf with ⟨hc, _⟩ | ⟨a, len, cap, elems, rest, n, _, hcs, _, hb, hl, hm, hlen, hel, _⟩
    · simp [Value.cells] at hc
      rw [hc.2.2]; simp [maxLen]
    · simp [Value.cells] at hcs
      rw [hcs.2.2]; exact hm
  obtain ⟨A', k', c', xs, he, hk, hc, hR⟩ := open_entries (v := .slice A k c) hf
  cases he
  exact ⟨A, k, c, xs, rfl, hk, hc, hm, hR⟩
end
end Go.Proofs.Ytejdkcnbflpfaaa.B
