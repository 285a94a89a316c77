import Derived.Test.YtfolmcpfdcgliaaGreatMg46
import Derived.SizedLaws
import Derived.Test.YtfolmcpfdcgliaaGreatMg17
import Derived.Test.YtfolmcpfdcgliaaGreatMg25
import Derived.Test.YtfolmcpfdcgliaaGreatMg38
set_option linter.unusedVariables false
set_option linter.unusedSimpArgs false
set_option linter.unusedSectionVars false
set_option maxRecDepth 8000
/-! Opening a slice of anything. -/
namespace Go.Proofs.YtfolmcpfdcgliaaGreat.B
open Go Go.Proofs Go.ChangeShapes Go.WideShapes Go.ChangeAt Go.RowKit
section
variable {H : Type} {enc : TypeId × Value → H} {P : Program} {w : World} {sp : Nat → Bool} {held : Bool}
theorem weightsAll_mem {e : TypeId} : ∀ {l : List (DataW H)} {d : DataW H}, d ∈ l → ∀ m ∈ d.weights P e, m ∈ DataW.weightsAll P e l
  | d0 :: r, d, hd, m, hm => by
    simp only [DataW.weightsAll, List.mem_append]
    rcases List.mem_cons.1 hd with rfl | h
    · exact .inl hm
    · exact .inr (weightsAll_mem h m hm)
theorem open_slcG {α : Type} (E : EncK α) {T e : Nat} (PX : α → DataW H → Prop) (hT : P.underlying T = some (.slice e)) (hC : P.cellsOf e = E.sz)
    (one : ∀ {fuel : Nat} {cs : List Value} {x : DataW H × List MemPlace}, cs.length = E.sz → DataW.trod enc P w 0 sp held fuel e cs = some x → ∃ a : α, cs = E.enc a ∧ PX a x.1)
    {fuel : Nat} {v : Value} {x : DataW H × List MemPlace} (h : DataW.trod enc P w 0 sp held fuel T [v] = some x) :
    ∃ A k c xs, v = .slice A k c ∧ k = xs.length ∧ k ≤ c ∧ c ≤ maxLen ∧ RdC w A (flat E xs) ∧ (∀ a ∈ xs, ∃ d, PX a d ∧ ∀ m ∈ d.weights P e, m ∈ x.1.weights P T) ∧ ((∀ m ∈ x.1.weights P T, m ≤ reachBytes) → k * P.bytesOf e ≤ reachBytes) := by
  rcases DataW.trod_slice hT h with ⟨hc, _⟩ | ⟨a, len, cap, elems, rest, n, _, hcs, hx, hb, hl, hm, hlen, hel, _⟩
  · simp only [List.cons.injEq, and_true] at hc
    subst hc
    exact ⟨none, 0, 0, [], rfl, rfl, Nat.le_refl _, by simp [maxLen], .inl rfl, fun l hl => absurd hl (List.not_mem_nil), fun _ => by omega⟩
  · simp only [List.cons.injEq, and_true] at hcs
    subst hcs
    have each : ∀ i, i < len → ∃ y : α, (∀ j u, (E.enc y)[j]? = some u → w.cell? ((a.add (i * E.sz)).add j) = some u) ∧ ∃ d, PX y d ∧ ∀ m ∈ d.weights P e, m ∈ x.1.weights P T := fun i hi => by
      have h1 := hel i hi
      rw [hC, List.getElem?_eq_getElem (by omega), Option.bind_eq_some_iff] at h1
      obtain ⟨cs, h2, h3⟩ := h1
      obtain ⟨_, hl2, hg⟩ := World.cells?_some h2
      obtain ⟨y, rfl, hy⟩ := one hl2 h3
      refine ⟨y, fun j u hj => ?_, elems[i].1, hy, fun m hm' => ?_⟩
      · have hjl : j < E.sz := by have := (List.getElem?_eq_some_iff.1 hj).1; rwa [E.len] at this
        have := hg j hjl
        rw [this, hj]
      · rw [hx]
        simp only [DataW.weights, hT]
        exact List.mem_cons_of_mem _ (List.mem_append_left _ (weightsAll_mem (d := elems[i].1) (List.mem_map.2 ⟨elems[i], List.getElem_mem _, rfl⟩) m hm'))
    have build : ∀ m, m ≤ len → ∃ xs : List α, xs.length = m ∧ (∀ i y, xs[i]? = some y → ∀ j u, (E.enc y)[j]? = some u → w.cell? ((a.add (i * E.sz)).add j) = some u) ∧ ∀ y ∈ xs, ∃ d, PX y d ∧ ∀ m ∈ d.weights P e, m ∈ x.1.weights P T := by
      intro m
      induction m with
      | zero => intro _; exact ⟨[], rfl, fun i y h => by simp at h, fun l hl => by cases hl⟩
      | succ m ih =>
        intro hm
        obtain ⟨xs, hl3, hx3, hx4⟩ := ih (by omega)
        obtain ⟨y, hy1, hy2⟩ := each m (by omega)
        refine ⟨xs ++ [y], by simp [hl3], fun i z hz => ?_, fun l hl => ?_⟩
        · by_cases hi : i < xs.length
          · rw [List.getElem?_append_left hi] at hz; exact hx3 i z hz
          · rw [List.getElem?_append_right (by omega)] at hz
            have : i - xs.length = 0 := by
              have := (List.getElem?_eq_some_iff.1 hz).1
              simp at this; omega
            rw [this] at hz
            simp at hz
            subst hz
            rw [show i = m from by omega]; exact hy1
        · rcases List.mem_append.1 hl with h | h
          · exact hx4 l h
          · rw [List.mem_singleton.1 h]; exact hy2
    obtain ⟨xs, hxl, hx5, hx6⟩ := build len (Nat.le_refl _)
    refine ⟨some a, len, cap, xs, rfl, hxl.symm, hl, hm, ?_, hx6, fun hw => ?_⟩
    · cases hxs : xs with
      | nil => exact .inl rfl
      | cons y0 yr =>
        have hp := E.pos
        obtain ⟨u0, hu0⟩ : ∃ u0, (E.enc y0)[0]? = some u0 := ⟨(E.enc y0)[0]'(by rw [E.len]; exact hp), List.getElem?_eq_getElem _⟩
        have hy0 := hx5 0 y0 (by rw [hxs]; rfl) 0 u0 hu0
        have hsp : a.spot = none := by have := spot_none hy0; simpa [Addr.add] using this
        obtain ⟨b, o, spt⟩ := a
        simp only at hsp
        subst hsp
        refine .inr ⟨b, o, rfl, fun j u hj => ?_⟩
        rw [← hxs] at hj
        have hjl : j < xs.length * E.sz := by
          have := (List.getElem?_eq_some_iff.1 hj).1
          rwa [flat_len] at this
        have hq : j / E.sz < xs.length := Nat.div_lt_of_lt_mul (by rw [Nat.mul_comm]; exact hjl)
        obtain ⟨y, hy⟩ : ∃ y, xs[j / E.sz]? = some y := ⟨xs[j / E.sz]'hq, List.getElem?_eq_getElem hq⟩
        have hr : j % E.sz < E.sz := Nat.mod_lt _ hp
        obtain ⟨u2, hu2⟩ : ∃ u2, (E.enc y)[j % E.sz]? = some u2 := ⟨(E.enc y)[j % E.sz]'(by rw [E.len]; exact hr), List.getElem?_eq_getElem _⟩
        have h3 := flat_get E xs (j / E.sz) (j % E.sz) y u2 hy hu2
        have ej : j / E.sz * E.sz + j % E.sz = j := Nat.div_add_mod' j E.sz
        rw [ej, hj] at h3
        injection h3 with h3
        rw [h3]
        have := hx5 _ _ hy _ _ hu2
        rw [add_off, add_off] at this
        rwa [show o + j = o + j / E.sz * E.sz + j % E.sz from by omega]
    · have h1 := hw ((elems.length + rest.length) * P.bytesOf e) (by
        rw [hx]
        simp only [DataW.weights, hT, List.length_map]
        exact List.mem_cons_self ..)
      refine Nat.le_trans (Nat.mul_le_mul_right _ ?_) h1
      omega
end
end Go.Proofs.YtfolmcpfdcgliaaGreat.B

set_option linter.unusedVariables false
set_option linter.unusedSimpArgs false
set_option linter.unusedSectionVars false
set_option maxRecDepth 8000
/-! Opening the deeds of law17. -/
namespace Go.Proofs.YtfolmcpfdcgliaaGreat.B
open Go Go.Proofs Go.ChangeShapes Go.WideShapes Go.ChangeAt Go.RowKit
structure DeedQ where
  kind : Int
  q : Int
  epoch : Int
  data : ByteArray
  fatesA : Option Addr
  fates : List Int
  fatesc : Nat
  node : Int
  n : Int
  keepsA : Option Addr
  keeps : List Int
  keepsc : Nat
def dqE : EncK DeedQ := ⟨fun d => [.int .i64 d.kind, .int .i64 d.q, .int .i64 d.epoch, .string d.data, .slice d.fatesA d.fates.length d.fatesc, .int .i64 d.node, .int .i64 d.n, .slice d.keepsA d.keeps.length d.keepsc], 8, fun _ => rfl, by decide, fun _ u hu => by
  simp only [List.mem_cons, List.not_mem_nil, or_false] at hu
  rcases hu with rfl | rfl | rfl | rfl | rfl | rfl | rfl | rfl <;> rfl⟩
structure DeedQOk (d : DeedQ) : Prop where
  kind : I64 d.kind
  q : I64 d.q
  epoch : I64 d.epoch
  data : d.data.size ≤ maxLen
  fates : (d.fates.length ≤ d.fatesc ∧ d.fatesc ≤ maxLen) ∧ ∀ a ∈ d.fates, I64 a
  node : I64 d.node
  n : I64 d.n
  keeps : (d.keeps.length ≤ d.keepsc ∧ d.keepsc ≤ maxLen) ∧ ∀ a ∈ d.keeps, I64 a
structure DeedQRd (w : World) (d : DeedQ) : Prop where
  fates : RdC w d.fatesA (flat intE d.fates)
  keeps : RdC w d.keepsA (flat intE d.keeps)
section
variable {H : Type} {enc : TypeId × Value → H} {w : World} {sp : Nat → Bool} {held : Bool}
theorem open_DeedQC {fuel : Nat} {cs : List Value} {x : DataW H × List MemPlace} (hl : cs.length = 8) (h : DataW.trod enc Tryz.prog w 0 sp held fuel 64 cs = some x) :
    ∃ d : DeedQ, cs = dqE.enc d ∧ DeedQOk d ∧ DeedQRd w d := by
  obtain ⟨c0, c1, c2, c3, c4, c5, c6, c7, rfl⟩ : ∃ c0 c1 c2 c3 c4 c5 c6 c7, cs = [c0, c1, c2, c3, c4, c5, c6, c7] := by
    match cs, hl with
    | [c0, c1, c2, c3, c4, c5, c6, c7], _ => exact ⟨c0, c1, c2, c3, c4, c5, c6, c7, rfl⟩
  obtain ⟨zs, m, _, hx, _, hzl, hz⟩ := DataW.trod_struct Tryz.underlying64 h
  have hzl' : zs.length = 8 := hzl
  obtain ⟨z_0, e_0⟩ : ∃ z, zs[0]? = some z := ⟨zs[0]'(by omega), List.getElem?_eq_getElem (by omega)⟩
  have h_0 : DataW.trod enc Tryz.prog w 0 sp held m 3 (([c0, c1, c2, c3, c4, c5, c6, c7].drop 0).take (Tryz.prog.cellsOf 3)) = zs[0]? := hz 0 _ rfl
  rw [show Tryz.prog.cellsOf 3 = 1 from by kernel_rfl, e_0] at h_0
  simp only [List.drop_zero, List.take_succ_cons, List.take_zero, List.drop_succ_cons] at h_0
  obtain ⟨v_0, k_0, _, w_0⟩ := DataW.trod_int Tryz.underlying3 h_0
  simp only [List.cons.injEq, and_true] at k_0
  obtain ⟨z_1, e_1⟩ : ∃ z, zs[1]? = some z := ⟨zs[1]'(by omega), List.getElem?_eq_getElem (by omega)⟩
  have h_1 : DataW.trod enc Tryz.prog w 0 sp held m 3 (([c0, c1, c2, c3, c4, c5, c6, c7].drop 1).take (Tryz.prog.cellsOf 3)) = zs[1]? := hz 1 _ rfl
  rw [show Tryz.prog.cellsOf 3 = 1 from by kernel_rfl, e_1] at h_1
  simp only [List.drop_zero, List.take_succ_cons, List.take_zero, List.drop_succ_cons] at h_1
  obtain ⟨v_1, k_1, _, w_1⟩ := DataW.trod_int Tryz.underlying3 h_1
  simp only [List.cons.injEq, and_true] at k_1
  obtain ⟨z_2, e_2⟩ : ∃ z, zs[2]? = some z := ⟨zs[2]'(by omega), List.getElem?_eq_getElem (by omega)⟩
  have h_2 : DataW.trod enc Tryz.prog w 0 sp held m 3 (([c0, c1, c2, c3, c4, c5, c6, c7].drop 2).take (Tryz.prog.cellsOf 3)) = zs[2]? := hz 2 _ rfl
  rw [show Tryz.prog.cellsOf 3 = 1 from by kernel_rfl, e_2] at h_2
  simp only [List.drop_zero, List.take_succ_cons, List.take_zero, List.drop_succ_cons] at h_2
  obtain ⟨v_2, k_2, _, w_2⟩ := DataW.trod_int Tryz.underlying3 h_2
  simp only [List.cons.injEq, and_true] at k_2
  obtain ⟨z_3, e_3⟩ : ∃ z, zs[3]? = some z := ⟨zs[3]'(by omega), List.getElem?_eq_getElem (by omega)⟩
  have h_3 : DataW.trod enc Tryz.prog w 0 sp held m 9 (([c0, c1, c2, c3, c4, c5, c6, c7].drop 3).take (Tryz.prog.cellsOf 9)) = zs[3]? := hz 3 _ rfl
  rw [show Tryz.prog.cellsOf 9 = 1 from by kernel_rfl, e_3] at h_3
  simp only [List.drop_zero, List.take_succ_cons, List.take_zero, List.drop_succ_cons] at h_3
  obtain ⟨v_3, k_3, _, w_3⟩ := DataW.trod_string Tryz.underlying9 h_3
  simp only [List.cons.injEq, and_true] at k_3
  obtain ⟨z_4, e_4⟩ : ∃ z, zs[4]? = some z := ⟨zs[4]'(by omega), List.getElem?_eq_getElem (by omega)⟩
  have h_4 : DataW.trod enc Tryz.prog w 0 sp held m 28 (([c0, c1, c2, c3, c4, c5, c6, c7].drop 4).take (Tryz.prog.cellsOf 28)) = zs[4]? := hz 4 _ rfl
  rw [show Tryz.prog.cellsOf 28 = 1 from by kernel_rfl, e_4] at h_4
  simp only [List.drop_zero, List.take_succ_cons, List.take_zero, List.drop_succ_cons] at h_4
  obtain ⟨A_4, k_4, cc_4, x_4, v_4, hk_4, hc_4, hm_4, R_4, I_4, _⟩ := open_slcG intE (fun a _ => I64 a) Tryz.underlying28 (by kernel_rfl) (fun {fuel cs x} hl h => by
    obtain ⟨n, rfl, _, hw⟩ := DataW.trod_int Tryz.underlying3 h
    exact ⟨n, rfl, wf_i64 hw⟩) h_4
  obtain ⟨z_5, e_5⟩ : ∃ z, zs[5]? = some z := ⟨zs[5]'(by omega), List.getElem?_eq_getElem (by omega)⟩
  have h_5 : DataW.trod enc Tryz.prog w 0 sp held m 3 (([c0, c1, c2, c3, c4, c5, c6, c7].drop 5).take (Tryz.prog.cellsOf 3)) = zs[5]? := hz 5 _ rfl
  rw [show Tryz.prog.cellsOf 3 = 1 from by kernel_rfl, e_5] at h_5
  simp only [List.drop_zero, List.take_succ_cons, List.take_zero, List.drop_succ_cons] at h_5
  obtain ⟨v_5, k_5, _, w_5⟩ := DataW.trod_int Tryz.underlying3 h_5
  simp only [List.cons.injEq, and_true] at k_5
  obtain ⟨z_6, e_6⟩ : ∃ z, zs[6]? = some z := ⟨zs[6]'(by omega), List.getElem?_eq_getElem (by omega)⟩
  have h_6 : DataW.trod enc Tryz.prog w 0 sp held m 3 (([c0, c1, c2, c3, c4, c5, c6, c7].drop 6).take (Tryz.prog.cellsOf 3)) = zs[6]? := hz 6 _ rfl
  rw [show Tryz.prog.cellsOf 3 = 1 from by kernel_rfl, e_6] at h_6
  simp only [List.drop_zero, List.take_succ_cons, List.take_zero, List.drop_succ_cons] at h_6
  obtain ⟨v_6, k_6, _, w_6⟩ := DataW.trod_int Tryz.underlying3 h_6
  simp only [List.cons.injEq, and_true] at k_6
  obtain ⟨z_7, e_7⟩ : ∃ z, zs[7]? = some z := ⟨zs[7]'(by omega), List.getElem?_eq_getElem (by omega)⟩
  have h_7 : DataW.trod enc Tryz.prog w 0 sp held m 28 (([c0, c1, c2, c3, c4, c5, c6, c7].drop 7).take (Tryz.prog.cellsOf 28)) = zs[7]? := hz 7 _ rfl
  rw [show Tryz.prog.cellsOf 28 = 1 from by kernel_rfl, e_7] at h_7
  simp only [List.drop_zero, List.take_succ_cons, List.take_zero, List.drop_succ_cons] at h_7
  obtain ⟨A_7, k_7, cc_7, x_7, v_7, hk_7, hc_7, hm_7, R_7, I_7, _⟩ := open_slcG intE (fun a _ => I64 a) Tryz.underlying28 (by kernel_rfl) (fun {fuel cs x} hl h => by
    obtain ⟨n, rfl, _, hw⟩ := DataW.trod_int Tryz.underlying3 h
    exact ⟨n, rfl, wf_i64 hw⟩) h_7
  subst k_0 k_1 k_2 k_3 v_4 hk_4 k_5 k_6 v_7 hk_7
  exact ⟨⟨v_0, v_1, v_2, v_3, A_4, x_4, cc_4, v_5, v_6, A_7, x_7, cc_7⟩, rfl, ⟨wf_i64 w_0, wf_i64 w_1, wf_i64 w_2, w_3, ⟨⟨hc_4, hm_4⟩, fun a ha => (I_4 a ha).choose_spec.1⟩, wf_i64 w_5, wf_i64 w_6, ⟨⟨hc_7, hm_7⟩, fun a ha => (I_7 a ha).choose_spec.1⟩⟩, ⟨R_4, R_7⟩⟩
theorem open_DeedQs {base : Nat} {r : Reach} {v : Value} {d : DataW H} {ps : List MemPlace} (hval : Value.okWide Tryz.prog w r base 53 v) (h : DataW.Trod enc Tryz.prog w 0 sp held 53 v d ps) :
    ∃ A k c ls, v = .slice A k c ∧ k = ls.length ∧ k ≤ c ∧ c ≤ maxLen ∧ RdC w A (flat dqE ls) ∧ ∀ l ∈ ls, DeedQOk l ∧ DeedQRd w l := by
  obtain ⟨A, k, c, rfl⟩ := okWide_slice Tryz.underlying53 hval
  obtain ⟨fuel, hf⟩ := h
  obtain ⟨A', k', c', ls, h1, h2, h3, h4, h5, h6, _⟩ := open_slcG dqE (fun l _ => DeedQOk l ∧ DeedQRd w l) Tryz.underlying53 (by kernel_rfl) (fun {fuel cs x} hl h => open_DeedQC hl h) (v := .slice A k c) hf
  exact ⟨A', k', c', ls, h1, h2, h3, h4, h5, fun l hl => (h6 l hl).choose_spec.1⟩
end
end Go.Proofs.YtfolmcpfdcgliaaGreat.B

set_option linter.unusedVariables false
set_option linter.unusedSimpArgs false
set_option maxRecDepth 8000
/-! Writers in memory; the beginning of a list; a cut within a block. -/
namespace Go.Proofs.YtfolmcpfdcgliaaGreat.B
open Go Go.Proofs
/-- A cut, where a block's exit comes to the same. -/
theorem CS.cutB {P : Program} {Q : Exit → Act → World → Prop} {n : Nat} {ds : List Deferred} {L : TL} {W0 : World} {G : List SL} {c : Code} {X : Type} {K : Act → World → Prop} {id : Nat} (I : X → TL) (A : X → List SL) (p : X → Prop)
    (first : CS P (Exit.inBlock id (Exit.then (fun a w => ∃ x, p x ∧ Fr n ds (I x) a ∧ Sat W0 (A x) w) Q)) n ds c L W0 G)
    (rest : ∀ x, p x → QS (Exit.then K Q) n ds .normal (I x) W0 (A x)) : CS P (Exit.inBlock id (Exit.then K Q)) n ds c L W0 G := fun a w hf hs =>
  Code.wp_mono (fun e a w q => by
    have key : ∀ e, Exit.then (fun a w => ∃ x, p x ∧ Fr n ds (I x) a ∧ Sat W0 (A x) w) Q e a w → Exit.then K Q e a w := fun e q => by
      cases e with
      | normal => obtain ⟨x, hp, hf, hs⟩ := q; exact rest x hp a w hf hs
      | exit id => exact q
      | goto l => exact q
      | ret => exact q
      | panic ch => exact q
      | outgrown => exact q
    cases e with
    | exit id' =>
      simp only [Exit.inBlock] at q ⊢
      split at q
      · rename_i h; rw [if_pos h]; exact key _ q
      · rename_i h; rw [if_neg h]; exact key _ q
    | normal => exact key .normal q
    | goto l => exact key (.goto l) q
    | ret => exact key .ret q
    | panic ch => exact key (.panic ch) q
    | outgrown => exact key .outgrown q) (first a w hf hs)
section
variable {W0 : World} {G : List SL} {α β : Type} {f : α → β → SL} {la : List α} {lb : List β} {a a' : α} {b b' : β} {i : Nat}
theorem bagZ_open (ha : la[i]? = some a) (hb : lb[i]? = some b) : ∀ w, Sat W0 (bagA (List.zipWith f la lb) :: G) w → Sat W0 (f a b :: bagA ((List.zipWith f la lb).eraseIdx i) :: G) w := fun w s =>
  bag_at (P := f a b) (by rw [List.getElem?_zipWith, ha, hb]) s
theorem bagZ_shut (ha : la[i]? = some a) (hb : lb[i]? = some b) : ∀ w, Sat W0 (f a' b' :: bagA ((List.zipWith f la lb).eraseIdx i) :: G) w → Sat W0 (bagA (List.zipWith f (la.set i a') (lb.set i b')) :: G) w := fun w s => by
  have h1 : i < (List.zipWith f la lb).length := by
    have := (List.getElem?_eq_some_iff.1 ha).1; have := (List.getElem?_eq_some_iff.1 hb).1
    rw [List.length_zipWith]; omega
  have h2 := bag_set (P := f a' b') h1 s
  have e : List.zipWith f (la.set i a') (lb.set i b') = (List.zipWith f la lb).set i (f a' b') := by
    refine List.ext_getElem? fun j => ?_
    rw [List.getElem?_zipWith, List.getElem?_set, List.getElem?_set, List.getElem?_set, List.getElem?_zipWith]
    have h3 := (List.getElem?_eq_some_iff.1 ha).1
    have h4 := (List.getElem?_eq_some_iff.1 hb).1
    by_cases hj : i = j
    · subst hj
      simp [h3, h4]; omega
    · simp [hj]
  rw [e]
  exact h2
end
def wrA (Aj : Option Addr) (n cj bm : Nat) (b : Nat) (w : Wr) : SL := row b 92 (wrC Aj n cj bm w)
def wrsA (Aj : Option Addr) (n cj bm : Nat) (qb : List Nat) (ws : List Wr) : SL := bagA (List.zipWith (wrA Aj n cj bm) qb ws)
def wrsX (Aj : Option Addr) (n cj bm : Nat) (qb : List Nat) (ws : List Wr) (k : Nat) : SL := bagA ((List.zipWith (wrA Aj n cj bm) qb ws).eraseIdx k)
section
variable {W0 : World} {G : List SL} {Aj : Option Addr} {n cj bm k b : Nat} {qb : List Nat} {ws : List Wr} {w : Wr}
theorem wrs_open (hb : qb[k]? = some b) (hw : ws[k]? = some w) : ∀ W, Sat W0 (wrsA Aj n cj bm qb ws :: G) W → Sat W0 (row b 92 (wrC Aj n cj bm w) :: wrsX Aj n cj bm qb ws k :: G) W := bagZ_open (f := wrA Aj n cj bm) hb hw
theorem wrs_shut (hb : qb[k]? = some b) (hw : ws[k]? = some w) {b' : Nat} {w' : Wr} : ∀ W, Sat W0 (row b' 92 (wrC Aj n cj bm w') :: wrsX Aj n cj bm qb ws k :: G) W → Sat W0 (wrsA Aj n cj bm (qb.set k b') (ws.set k w') :: G) W := bagZ_shut (f := wrA Aj n cj bm) hb hw
theorem set_same {α : Type} {l : List α} {k : Nat} {b : α} (hb : l[k]? = some b) : l.set k b = l := by
  obtain ⟨h, rfl⟩ := List.getElem?_eq_some_iff.1 hb
  exact List.set_getElem_self h
theorem wrs_snoc (hl : qb.length = ws.length) : ∀ W, Sat W0 (row b 92 (wrC Aj n cj bm w) :: wrsA Aj n cj bm qb ws :: G) W → Sat W0 (wrsA Aj n cj bm (qb ++ [b]) (ws ++ [w]) :: G) W := fun W s => by
  have := bag_snoc (P := wrA Aj n cj bm b w) s
  rw [wrsA, List.zipWith_append hl]
  exact this
theorem wrs_none : ∀ W, Sat W0 G W → Sat W0 (wrsA Aj n cj bm [] [] :: G) W := fun W s => bag_none s
theorem wrs_put (hb : qb[k]? = some b) (hw : ws[k]? = some w) {w' : Wr} : ∀ W, Sat W0 (row b 92 (wrC Aj n cj bm w') :: wrsX Aj n cj bm qb ws k :: G) W → Sat W0 (wrsA Aj n cj bm qb (ws.set k w') :: G) W := fun W hs => by
  have := wrs_shut hb hw W hs
  rwa [set_same hb] at this
end
attribute [local irreducible] WL CS QS WQ WH WS Fn Op1 row Sat
attribute [local irreducible] slc jA diskA mailA nodesA nodesX entsA wrsA wrsX
theorem law_begins (A B : Option Addr) (k c k2 c2 : Nat) (xs ys : List Ent) (hk : k = xs.length) (hkc : k ≤ c) (hk2 : k2 = ys.length) (hkb : k ≤ 9223372036854775807) (W0 : World) (G : List SL) (hR : Rd W0 G entE A xs) (hR2 : Rd W0 G entE B ys) :
    Fn Tryz.prog 21 [.slice A k c, .slice B k2 c2] W0 G (Ret fun v G' => v = .bool (begB ys xs) ∧ G' = G) := by
  subst hk; subst hk2
  refine Fn.enter Tryz.func21 rfl Tryz.ntmps21 rfl ?_
  repeat' (first|refine bk ?_|refine bkc ?_|refine bks ?_|refine bkd ?_|refine bkq (fun q => ?_)|(refine bk2 ?_ ?_<;>(first|exact bkn|(refine bkk ?_;intro h))))
  · refine QS.retV Tryz.results21 rfl ⟨?_, rfl⟩
    have : begB ys xs = false := by unfold begB; exact decide_eq_false (fun hh => by omega)
    rw [this]; rfl
  · refine WL.s (op1_sliceS (E := entE) (xs := xs) (l := 0) (r := (ys.length : Int)) TT (by rfl) (by rfl) rfl rfl rfl rfl rfl (by omega) hkc) rfl ?_
    simp only [Int.toNat_zero, Nat.sub_zero, Int.toNat_natCast]
    have hRp := hR.part (c := c) (l := 0) (r := ys.length) (by omega) hkc
    rw [List.drop_zero] at hRp
    generalize (if c = 0 then A else A.map (·.add (0 * entE.sz))) = A1 at hRp ⊢
    repeat' (first|refine bk ?_|refine bkc ?_|refine bks ?_|refine bkd ?_|refine bkq (fun q => ?_)|(refine bk2 ?_ ?_<;>(first|exact bkn|(refine bkk ?_;intro h))))
    refine WL.call c42 rfl rfl rfl rfl (ents17 A1 B ys.length c ys.length c2 (xs.take ys.length) ys (by rw [List.length_take]; omega) rfl (by omega) W0 _ hRp hR2) ?_
    rintro _ G2 ⟨rfl, hG2⟩
    rw [hG2]; clear hG2 G2
    repeat' (first|refine bk ?_|refine bkc ?_|refine bks ?_|refine bkd ?_|refine bkq (fun q => ?_)|(refine bk2 ?_ ?_<;>(first|exact bkn|(refine bkk ?_;intro h))))
    refine QS.retV Tryz.results21 rfl ⟨?_, rfl⟩
    have : begB ys xs = decide (xs.take ys.length = ys) := by
      unfold begB
      by_cases hh : xs.take ys.length = ys
      · rw [decide_eq_true hh, decide_eq_true ⟨by omega, hh⟩]
      · rw [decide_eq_false hh, decide_eq_false (fun h2 => hh h2.2)]
    rw [this]; rfl
end Go.Proofs.YtfolmcpfdcgliaaGreat.B

set_option linter.unusedVariables false
set_option linter.unusedSimpArgs false
set_option maxRecDepth 8000
/-! The disk's names, its crash, and the rest. -/
namespace Go.Proofs.YtfolmcpfdcgliaaGreat.B
open Go Go.Proofs
attribute [local irreducible] WL CS QS WQ WH WS Fn Op1 row Sat
attribute [local irreducible] diskA mapb slc

theorem disk_names {m b : Nat} {D : Disk} (hnd : (D.files.map (·.1)).Nodup) (hky : ∀ x ∈ D.files, x.1.size ≤ 30) (hct : D.files.length ≤ 20) (W0 : World) (F : List SL) :
    Fn Tryz.prog 61 [.pointer (some ⟨b, 0, none⟩)] W0 (row b 135 (diskCells m D) :: mapb strK fileV m D.files :: F)
      (Ret fun v G' => ∃ A c, v = .slice A D.names.length c ∧ G' = slc strE 9 A c D.names :: row b 135 (diskCells m D) :: mapb strK fileV m D.files :: F) := by
  refine Fn.enter Tryz.func61 rfl Tryz.ntmps61 rfl ?_
  simp only [diskCells]
  repeat' (first|refine bk ?_|refine bkc ?_|refine bks ?_|refine bkd ?_|refine bkq (fun q => ?_)|(refine bk2 ?_ ?_<;>(first|exact bkn|(refine bkk ?_;intro h))))
  refine WL.call c102 rfl rfl rfl rfl (file_keys m W0 _) ?_
  rintro _ _ ⟨q, rfl, rfl⟩
  repeat' (first|refine bk ?_|refine bkc ?_|refine bks ?_|refine bkd ?_|refine bkq (fun q => ?_)|(refine bk2 ?_ ?_<;>(first|exact bkn|(refine bkk ?_;intro h))))
  refine WL.call c101 rfl rfl rfl rfl ((file_names (m := m) (q := q) (kv := D.files) hnd hky hct W0 (row b 135 (diskCells m D) :: F)).pre (fun w hs => ?_)) ?_
  · exact hs.perm (List.Perm.cons _ (List.Perm.swap ..))
  rintro _ _ ⟨A, c, rfl, rfl⟩
  repeat' (first|refine bk ?_|refine bkc ?_|refine bks ?_|refine bkd ?_|refine bkq (fun q => ?_)|(refine bk2 ?_ ?_<;>(first|exact bkn|(refine bkk ?_;intro h))))
  refine QS.turn (G' := slc strE 9 A c D.names :: row b 135 (diskCells m D) :: mapb strK fileV m D.files :: F) (fun w hs => ?_) (QS.retV Tryz.results61 rfl ⟨A, c, rfl, rfl⟩)
  exact hs.perm (List.Perm.cons _ (List.Perm.swap ..))

theorem disk_Fuse {b : Nat} {D : Disk} (n : Int) (W0 : World) (F : List SL) :
    Fn Tryz.prog 24 [.pointer (some ⟨b, 0, none⟩), .int .i64 n] W0 (diskA b D :: F) (Ret fun v G' => v = .tuple #[] ∧ G' = diskA b (D.light n) :: F) := by
  refine Fn.ex (fun w hs => diskA_open w hs) (fun m => ?_)
  refine Fn.enter Tryz.func24 rfl Tryz.ntmps24 rfl ?_
  simp only [diskCells]
  repeat' (first|refine bk ?_|refine bkc ?_|refine bks ?_|refine bkd ?_|refine bkq (fun q => ?_)|(refine bk2 ?_ ?_<;>(first|exact bkn|(refine bkk ?_;intro h))))
  refine QS.turn (G' := diskA b (D.light n) :: F) (fun w hs => diskA_shut (m := m) w ?_) (QS.endV Tryz.results24 rfl ⟨rfl, rfl⟩)
  have e : (if 0 > n then 0 else n) = max n 0 := by split <;> omega
  rw [e] at hs
  exact hs

set_option maxHeartbeats 1000000 in
theorem disk_Crash {b : Nat} {D : Disk} (hD : DiskOk D) {A : Option Addr} {c : Nat} {keeps : List Int} (hk : ∀ x ∈ keeps, I64 x) (hkl : keeps.length ≤ 9223372036854775807) (W0 : World) (F : List SL) (hR : Rd W0 F intE A keeps) :
    Fn Tryz.prog 25 [.pointer (some ⟨b, 0, none⟩), .slice A keeps.length c] W0 (diskA b D :: F) (Ret fun v G' => v = .tuple #[] ∧ G' = diskA b (D.crash keeps) :: F) := by
  refine Fn.ex (fun w hs => diskA_open w hs) (fun m => ?_)
  have hnl := names_len hD
  have hcnt := hD.count
  refine Fn.enter Tryz.func25 rfl Tryz.ntmps25 rfl ?_
  simp only [diskCells]
  repeat' (first|refine bk ?_|refine bkc ?_|refine bks ?_|refine bkd ?_|refine bkq (fun q => ?_)|(refine bk2 ?_ ?_<;>(first|exact bkn|(refine bkk ?_;intro h))))
  refine WL.call c61 rfl rfl rfl rfl (disk_names (m := m) (b := b) (D := { D with used := 0 }) hD.nodup (fun x hx => (hD.keys x hx).2) hD.count W0 F) ?_
  rintro _ _ ⟨A2, c2, rfl, rfl⟩
  have hkn : ∀ x, x ∈ D.names → x.size ≤ 30 := fun x hx => by
    have := has_at hD ((names_has hD).1 hx)
    exact (hD.keys _ (aget_mem this)).2
  rw [show ({ D with used := 0 } : Disk).names = D.names from rfl]
  simp only [diskCells]
  repeat' (first|refine bk ?_|refine bkc ?_|refine bks ?_|refine bkd ?_|refine bkq (fun q => ?_)|(refine bk2 ?_ ?_<;>(first|exact bkn|(refine bkk ?_;intro h))))
  refine CS.loop (X := Nat) (fun i => [(0, .pointer (some ⟨b, 0, none⟩)), (1, .slice A keeps.length c), (13, .slice A2 D.names.length c2), (14, .int .i64 D.names.length), (15, .int .i64 (i : Int))])
    (fun i => slc strE 9 A2 c2 D.names :: row b 135 [.map (some m), .int .i64 D.room, .int .i64 (crashSt D keeps i).2, .int .i64 D.fuse, .bool D.down] :: mapb strK fileV m (crashSt D keeps i).1 :: F)
    (fun i => i ≤ D.names.length) (fun i => D.names.length - i) 0 ⟨rfl, rfl, rfl, rfl, rfl, trivial⟩ (fun w hs => hs) (Nat.zero_le _) ?_
  intro i hi
  obtain ⟨hs1, hs2, hs3⟩ := crashSt_sum hD keeps hi
  have hr1 := hD.room1
  have hr0 := hD.room0
  repeat' (first|refine bk ?_|refine bkc ?_|refine bks ?_|refine bkd ?_|refine bkq (fun q => ?_)|(refine bk2 ?_ ?_<;>(first|exact bkn|(refine bkk ?_;intro h))))
  · obtain ⟨nm, hnm⟩ : ∃ nm, D.names[i]? = some nm := ⟨D.names[i]'(by omega), List.getElem?_eq_getElem (by omega)⟩
    have hgd : D.names.getD i noStr = nm := by rw [List.getD_eq_getElem?_getD, hnm]; rfl
    have hnx := crashSt_next hD keeps (k := i) (by omega)
    rw [hgd] at hnx
    have hfo := hD.at_ok nm
    have hf0 := hfo.s0
    have hf1 := hfo.s1
    have hfm := hfo.most
    refine WL.idx TT (Rd.slc (i := 0) rfl) rfl rfl rfl (by omega) (by rw [Int.toNat_natCast]; exact hnm) rfl rfl rfl rfl (fun b2 o hA => ?_)
    refine WL.s (op1_at TT hA rfl rfl rfl rfl) rfl ?_
    repeat' (first|refine bk ?_|refine bkc ?_|refine bks ?_|refine bkd ?_|refine bkq (fun q => ?_)|(refine bk2 ?_ ?_<;>(first|exact bkn|(refine bkk ?_;intro h))))
    refine WL.s (op1_look1D TT (kk := strK) (ev := fileV) (u0 := ⟨noStr, 0⟩) (k := nm) 2 (D.at nm) rfl rfl rfl rfl rfl rfl rfl (by rw [hnx]; rfl)) rfl ?_
    refine WL.alloc TT rfl rfl rfl (fun q => ?_)
    refine WL.store TT 0 rfl rfl rfl rfl rfl rfl rfl rfl rfl ?_
    refine WL.s (op1_pure1 TT rfl) rfl ?_
    refine WL.nil ?_
    refine QS.then ?_
    refine CS.seq ?_
    refine CS.cut (X := Unit) (fun _ => [(0, .pointer (some ⟨b, 0, none⟩)), (1, .slice A keeps.length c), (13, .slice A2 D.names.length c2), (14, .int .i64 D.names.length), (15, .int .i64 (i : Int)), (4, .int .i64 (i : Int)), (5, .string nm), (6, .pointer (some ⟨q, 0, none⟩)), (7, .int .i64 (keeps.getD i 0))]) (fun _ => row q 138 [.string (D.at nm).data, .int .i64 (D.at nm).synced] :: slc strE 9 A2 c2 D.names :: row b 135 [.map (some m), .int .i64 D.room, .int .i64 (crashSt D keeps i).2, .int .i64 D.fuse, .bool D.down] :: mapb strK fileV m (crashSt D keeps i).1 :: F) (fun _ => True) ?_ ?_
    · repeat' (first|refine bk ?_|refine bkc ?_|refine bks ?_|refine bkd ?_|refine bkq (fun q => ?_)|(refine bk2 ?_ ?_<;>(first|exact bkn|(refine bkk ?_;intro h))))
      · refine WL.idx TT hR.cons.cons.cons.cons rfl rfl rfl (by omega) (x := keeps.getD i 0) (by rw [Int.toNat_natCast, List.getD_eq_getElem?_getD, List.getElem?_eq_getElem (by omega)]; rfl) rfl rfl rfl rfl (fun b3 o3 hA3 => ?_)
        refine WL.s (op1_at TT hA3 rfl rfl rfl rfl) rfl ?_
        repeat' (first|refine bk ?_|refine bkc ?_|refine bks ?_|refine bkd ?_|refine bkq (fun q => ?_)|(refine bk2 ?_ ?_<;>(first|exact bkn|(refine bkk ?_;intro h))))
        exact QS.met () trivial ⟨rfl, rfl, rfl, rfl, rfl, rfl, rfl, rfl, rfl, trivial⟩ (fun w hs => hs)
      · refine QS.met () trivial ⟨rfl, rfl, rfl, rfl, rfl, rfl, rfl, rfl, ?_, trivial⟩ (fun w hs => hs)
        rw [List.getD_eq_getElem?_getD, List.getElem?_eq_none (by omega)]; rfl
    rintro _ _
    have hz : I64 (keeps.getD i 0) := by
      rw [List.getD_eq_getElem?_getD]
      cases hg : keeps[i]? with
      | none => exact ⟨by simp, by simp⟩
      | some x => exact hk x (List.mem_of_getElem? hg)
    have hz1 := hz.1
    have hz2 := hz.2
    refine QS.then ?_
    refine CS.seq ?_
    refine CS.cut (X := Unit) (fun _ => [(0, .pointer (some ⟨b, 0, none⟩)), (1, .slice A keeps.length c), (13, .slice A2 D.names.length c2), (14, .int .i64 D.names.length), (15, .int .i64 (i : Int)), (4, .int .i64 (i : Int)), (5, .string nm), (6, .pointer (some ⟨q, 0, none⟩)), (7, .int .i64 (keepN keeps i))]) (fun _ => row q 138 [.string (D.at nm).data, .int .i64 (D.at nm).synced] :: slc strE 9 A2 c2 D.names :: row b 135 [.map (some m), .int .i64 D.room, .int .i64 (crashSt D keeps i).2, .int .i64 D.fuse, .bool D.down] :: mapb strK fileV m (crashSt D keeps i).1 :: F) (fun _ => True) ?_ ?_
    · repeat' (first|refine bk ?_|refine bkc ?_|refine bks ?_|refine bkd ?_|refine bkq (fun q => ?_)|(refine bk2 ?_ ?_<;>(first|exact bkn|(refine bkk ?_;intro h))))
      · refine QS.met () trivial ⟨rfl, rfl, rfl, rfl, rfl, rfl, rfl, rfl, ?_, trivial⟩ (fun w hs => hs)
        rw [keepN, if_pos h]
        exact congrArg (fun z => some (Value.int .i64 z)) (not_i64 ⟨hz1, h⟩)
      · refine QS.met () trivial ⟨rfl, rfl, rfl, rfl, rfl, rfl, rfl, rfl, ?_, trivial⟩ (fun w hs => hs)
        rw [keepN, if_neg h]; rfl
    rintro _ _
    have hkn := keepN_nonneg keeps i
    obtain ⟨hc1, hc2⟩ := crashN_ok hfo hkn
    repeat' (first|refine bk ?_|refine bkc ?_|refine bks ?_|refine bkd ?_|refine bkq (fun q => ?_)|(refine bk2 ?_ ?_<;>(first|exact bkn|(refine bkk ?_;intro h))))
    refine WQ.s (op1_remE TT rfl rfl (by omega)) rfl ?_
    have e0 : crashN (D.at nm) (keepN keeps i) = (D.at nm).synced + keepN keeps i % (((D.at nm).data.size : Int) - (D.at nm).synced + 1) := rfl
    refine WQ.s (op1_add TT rfl rfl (by rw [← e0]; omega)) rfl ?_
    rw [← e0]
    repeat' (first|refine bk ?_|refine bkc ?_|refine bks ?_|refine bkd ?_|refine bkq (fun q => ?_)|(refine bk2 ?_ ?_<;>(first|exact bkn|(refine bkk ?_;intro h))))
    · refine WL.delete TT (kk := strK) (ev := fileV) (k := nm) 3 rfl rfl rfl rfl rfl rfl rfl rfl ?_
      repeat' (first|refine bk ?_|refine bkc ?_|refine bks ?_|refine bkd ?_|refine bkq (fun q => ?_)|(refine bk2 ?_ ?_<;>(first|exact bkn|(refine bkk ?_;intro h))))
      have e1 : crashSt D keeps (i + 1) = (adel (crashSt D keeps i).1 nm, (crashSt D keeps i).2) := by
        show crashOne (crashSt D keeps i) (D.names.getD i noStr) (D.at (D.names.getD i noStr)) (keepN keeps i) = _
        rw [hgd, crashOne, show crashF (D.at nm) (keepN keeps i) = none from if_pos ⟨by assumption, by assumption⟩]
      refine QS.again (i + 1) (by omega) (by omega) ⟨rfl, rfl, rfl, rfl, ?_, trivial⟩ (fun w hs => ?_)
      · rw [show ((i + 1 : Nat) : Int) = (i : Int) + 1 from by omega]; rfl
      · rw [e1]; exact hs.drop
    · repeat' (first|refine bk ?_|refine bkc ?_|refine bks ?_|refine bkd ?_|refine bkh ?_|refine bkq (fun q => ?_)|((first|refine bk2 ?_ ?_|refine bk2h ?_ ?_)<;>(first|exact bkn|(refine bkk ?_;intro h))))
      refine WH.s (op1_slice TT (l := 0) (r := crashN (D.at nm) (keepN keeps i)) (s := (D.at nm).data) rfl rfl rfl rfl ⟨by omega, by omega, by omega⟩) rfl ?_
      repeat' (first|refine bk ?_|refine bkc ?_|refine bks ?_|refine bkd ?_|refine bkh ?_|refine bkq (fun q => ?_)|((first|refine bk2 ?_ ?_|refine bk2h ?_ ?_)<;>(first|exact bkn|(refine bkk ?_;intro h))))
      refine WL.mapUpdate TT (kk := strK) (ev := fileV) (k := nm) (u := ⟨(D.at nm).data.extract 0 (crashN (D.at nm) (keepN keeps i)).toNat, crashN (D.at nm) (keepN keeps i)⟩) 3 rfl rfl rfl rfl rfl rfl rfl rfl ?_
      have hrs := restSum_step (D := D) (k := i) (by omega)
      rw [hgd] at hrs
      have hrn : 0 ≤ restSum D (i + 1) := by
        have : ∀ l : List ByteArray, 0 ≤ (l.map fun nm => ((D.at nm).data.size : Int)).sum := fun l => by
          induction l with
          | nil => exact Int.le_refl _
          | cons x r ih => simp only [List.map_cons, List.sum_cons]; omega
        exact this _
      repeat' (first|refine bk ?_|refine bkc ?_|refine bks ?_|refine bkd ?_|refine bkh ?_|refine bkq (fun q => ?_)|((first|refine bk2 ?_ ?_|refine bk2h ?_ ?_)<;>(first|exact bkn|(refine bkk ?_;intro h))))
      all_goals
        have e1 : crashSt D keeps (i + 1) = (aput (crashSt D keeps i).1 nm ⟨(D.at nm).data.extract 0 (crashN (D.at nm) (keepN keeps i)).toNat, crashN (D.at nm) (keepN keeps i)⟩, (crashSt D keeps i).2 + crashN (D.at nm) (keepN keeps i)) := by
          show crashOne (crashSt D keeps i) (D.names.getD i noStr) (D.at (D.names.getD i noStr)) (keepN keeps i) = _
          rw [hgd, crashOne, show crashF (D.at nm) (keepN keeps i) = some ⟨(D.at nm).data.extract 0 (crashN (D.at nm) (keepN keeps i)).toNat, crashN (D.at nm) (keepN keeps i)⟩ from if_neg (by omega)]
        refine QS.again (i + 1) (by omega) (by omega) ⟨rfl, rfl, rfl, rfl, ?_, trivial⟩ (fun w hs => ?_)
        · rw [show ((i + 1 : Nat) : Int) = (i : Int) + 1 from by omega]; rfl
        · rw [e1]; exact hs.drop
  · have ei : i = D.names.length := by omega
    subst ei
    refine QS.turn (G' := diskA b (D.crash keeps) :: F) (fun w hs => diskA_shut (m := m) w hs.drop) (QS.endV Tryz.results25 rfl ⟨rfl, rfl⟩)
end Go.Proofs.YtfolmcpfdcgliaaGreat.B

set_option linter.unusedVariables false
set_option linter.unusedSimpArgs false
set_option linter.unusedSectionVars false
set_option maxRecDepth 8000
/-! A node's disk: a fuse, a fall, the node opened anew. -/
namespace Go.Proofs.YtfolmcpfdcgliaaGreat.B
open Go Go.Proofs
section
variable {P : Program} (T : Tab P) {n : Nat} {ds : List Deferred} {L : TL} {W0 : World} {G : List SL} {ty : TypeId} {pos : String} {af : Array Edge} {gd : Option (Nat × Bool)} {α : Type} {E : EncK α}
include T in
/-- A store into a slice, in a drawn region. -/
theorem EffC.storeS (i : Nat) {e c : Nat} {g o j k t : Nat} {x y : Operand} {xs : List α} {z z' : α} {te : TE} {v : Value} {vs : List Value} {G' : List SL} (hG : G[i]? = some (slc E e (some ⟨g, 0, none⟩) c xs)) (hx : evL L x = some (.pointer (some ⟨g, o, none⟩))) (hy : evL L y = some v) (ho : o = j * E.sz + k)
    (hz : xs[j]? = some z) (hc : cellsO v = some vs) (hl : lk T.tab t = some te) (hzl : Nat.beq vs.length te.size = true) (h1 : allOne vs = true) (hs' : setN (E.enc z) k vs = some (E.enc z'))
    (hG' : setG G i (slc E e (some ⟨g, 0, none⟩) c (xs.set j z')) = some G') :
    EffC P n ds L W0 G ⟨none, .store t x y, ty, pos, af, gd⟩ (fun v G2 => v = undef ∧ G2 = G') := fun a w hf hs => by
  subst ho
  obtain ⟨r, hr⟩ := getG_pick hG
  have s1 := hs.perm (pickG_eq hr).1.symm
  obtain ⟨hp, h, hle⟩ := s1.head
  rcases h with ⟨h, _⟩ | ⟨g', cur, hg, hb, h2, h3, h4, h5⟩
  · cases h
  injection hg with hg
  injection hg with hg _ _
  subst hg
  have hb' := hle g _ hb
  obtain ⟨h6, h7⟩ := setN_eq hs'
  have hjl := (List.getElem?_eq_some_iff.1 hz).1
  rw [E.len] at h6
  have hfl := flat_len E xs
  have hle2 : j * E.sz + E.sz ≤ xs.length * E.sz := by rw [← Nat.succ_mul]; exact Nat.mul_le_mul_right _ hjl
  have hle3 : xs.length * E.sz ≤ c * E.sz := Nat.mul_le_mul_right _ h2
  have hst := run_storeCells_at P g (j * E.sz + k) e vs 0 cur w hb' (by omega) (allOne_eq h1)
  simp only [Nat.add_zero] at hst
  have hcell := cellsO_eq hc
  have hsz : v.cells.size = te.size := by rw [hcell]; simpa using Nat.eq_of_beq_eq_true hzl
  have hlist : v.cells.toList = vs := by rw [hcell]
  have hzz := T.sizeOf (w := w) hl
  have hrun : (execOp a.eval ⟨none, .store t x y, ty, pos, af, gd⟩).run P w = .ok .skip (w.setRow g (cur.toList.take (j * E.sz + k) ++ vs ++ cur.toList.drop (j * E.sz + k + vs.length)).toArray) := by
    simp only [execOp, hf.ev hx, hf.ev hy, Instr.storeAt, Instr.sureAddr, Sem.run_bind, Sem.run_pure, Result.andThen_ok, storeVar, hzz, hsz, ne_eq, not_true_eq_false, if_false, hlist, hst]
  unfold runs
  rw [hrun]
  refine ⟨_, ⟨rfl, rfl⟩, ?_⟩
  · refine Sat.perm (G := slc E e (some ⟨g, 0, none⟩) c (xs.set j z') :: r) ?_ (setG_eq hr hG')
    have hcl : cur.toList.length = c * E.sz := by rw [← h4]; simp
    have hnew : (cur.toList.take (j * E.sz + k) ++ vs ++ cur.toList.drop (j * E.sz + k + vs.length)).length = c * E.sz := by
      simp only [List.length_append, List.length_take, List.length_drop, hcl]
      omega
    have hfs : (cur.toList.take (j * E.sz + k) ++ vs ++ cur.toList.drop (j * E.sz + k + vs.length)).take (xs.length * E.sz) = flat E (xs.set j z') := by
      rw [flat_set E xs j z' hjl, h7, ← h5]
      have hze : E.enc z = (cur.toList.drop (j * E.sz)).take E.sz := by
        apply List.ext_getElem?
        intro m
        rw [List.getElem?_take, List.getElem?_drop]
        have hel := E.len z
        split
        · rename_i hm
          obtain ⟨u, hu⟩ : ∃ u, (E.enc z)[m]? = some u := ⟨(E.enc z)[m]'(by omega), List.getElem?_eq_getElem (by omega)⟩
          have h8 := flat_get E xs j m z u hz hu
          rw [← h5, List.getElem?_take] at h8
          split at h8
          · rw [hu, h8]
          · cases h8
        · exact List.getElem?_eq_none (by omega)
      rw [hze]
      apply List.ext_getElem?
      intro m
      have hcl2 : cur.toList.length = cur.size := by simp
      simp only [List.getElem?_take, List.getElem?_append, List.length_append, List.length_take, List.length_drop, List.getElem?_drop, hcl]
      generalize hJ : j * E.sz = J at *
      generalize hX : xs.length * E.sz = X at *
      generalize hC : c * E.sz = C at *
      generalize hZ : E.sz = Z at *
      generalize hV : vs.length = V at *
      have a1 : min (J + k) C = J + k := by omega
      have a2 : min J X = J := by omega
      have a3 : min J C = J := by omega
      have a4 : min X C = X := by omega
      have a5 : min Z (C - J) = Z := by omega
      have a6 : min k Z = k := by omega
      simp only [a1, a2, a3, a4, a5, a6]
      have a7 : Z - (k + V) + (k + V) = Z := by omega
      by_cases hm : m < X
      · rw [if_pos hm]
        by_cases hm1 : m < J + k
        · rw [if_pos (by omega), if_pos hm1]
          by_cases hm2 : m < J
          · rw [if_pos (by omega), if_pos (by omega), if_pos (by omega)]
            simp [hm1, hm2]
            omega
          · rw [if_pos (by omega), if_neg hm2, if_pos (by omega), if_pos (by omega), if_pos (by omega), if_pos (by omega)]
            rw [if_pos (by omega)]
            congr 1
            omega
        · by_cases hm2 : m < J + k + V
          · rw [if_pos (by omega), if_neg hm1, if_pos (by omega), if_neg (by omega), if_pos (by omega), if_neg (by omega)]
            congr 1
            omega
          · rw [if_neg (by omega)]
            by_cases hm3 : m < J + Z
            · rw [if_pos (by omega), if_neg (by omega), if_neg (by omega)]
              rw [if_pos (by omega)]
              congr 1
              omega
            · rw [if_neg (by omega)]
              rw [if_pos (by omega)]
              congr 1
              omega
      · rw [if_neg hm]
        rw [if_neg (by omega), if_neg (by omega)]
    obtain ⟨NEW, hNEW⟩ : ∃ NEW, NEW = cur.toList.take (j * E.sz + k) ++ vs ++ cur.toList.drop (j * E.sz + k + vs.length) := ⟨_, rfl⟩
    rw [← hNEW] at hnew hfs ⊢
    refine s1.turn (fun hp2 hP2 hle2' => ⟨⟨fun q => if q = g then some (.cells NEW.toArray e (0, 0)) else none, .inr ⟨g, NEW.toArray, rfl, by simp [B.blk], by simpa using h2, h3, by simpa using hnew, by simpa using hfs⟩, fun q o2 hq => ?_, fun q hq => ?_⟩, fun q hq hn => ?_⟩) ⟨rfl, rfl, rfl⟩
    · simp only at hq
      split at hq
      · rename_i e1; subst e1; injection hq with hq; subst hq
        simp only [World.setRow, Array.getElem?_modify, hb']
        simp
      · cases hq
    · simp only at hq
      split at hq
      · rename_i e1; subst e1
        left
        rcases hP2 with ⟨h, _⟩ | ⟨g', cur', hg, hb2, _⟩
        · cases h
        · injection hg with hg
          injection hg with hg _ _
          subst hg
          have : hp2 _ = some (.cells cur' e (0, 0)) := hb2
          rw [this]; simp
      · exact absurd rfl hq
    · simp only [World.setRow, Array.getElem?_modify]
      rw [if_neg (fun e1 => ?_)]
      subst e1
      rcases hP2 with ⟨h, _⟩ | ⟨g', cur', hg, hb2, _⟩
      · cases h
      · injection hg with hg
        injection hg with hg _ _
        subst hg
        have : hp2 g = some (.cells cur' e (0, 0)) := hb2
        rw [this] at hn; cases hn
end
theorem map_set_b {xs : List Nd} {i : Nat} {x y : Nd} (hx : xs[i]? = some x) (f : Nd → Nat) (hf : f y = f x) : (xs.set i y).map f = xs.map f := by
  refine List.ext_getElem? fun j => ?_
  rw [List.getElem?_map, List.getElem?_map, List.getElem?_set]
  by_cases hj : i = j
  · subst hj
    rw [if_pos rfl, if_pos (List.getElem?_eq_some_iff.1 hx).1, hx]
    simp [hf]
  · rw [if_neg hj]
section
variable {W0 : World} {G : List SL} {xs : List Nd} {x : Nd} {i : Nat}
theorem nodes_put (h : xs[i]? = some x) {y : Nd} : ∀ w, Sat W0 (jA y.b y.d y.J :: diskA y.d y.D :: nodesX xs i :: G) w → Sat W0 (nodesA (xs.set i y) :: G) w := fun w s => by
  have h1 : i < (xs.map ndA).length := by rw [List.length_map]; exact (List.getElem?_eq_some_iff.1 h).1
  have := bag_set (P := ndA y) h1 s.join
  rw [nodesA, List.map_set]
  exact this
end
attribute [local irreducible] WL CS QS WQ WH WS Fn Op1 row Sat
attribute [local irreducible] slc jA diskA mailA nodesA nodesX
theorem q_Fuse {ys : List Nd} {i : Nat} {x : Nd} (hx : ys[i]? = some x) (k : Int) (W0 : World) (F : List SL) :
    Fn Tryz.prog 24 [.pointer (some ⟨x.d, 0, none⟩), .int .i64 k] W0 (nodesA ys :: F) (Ret fun v G' => v = .tuple #[] ∧ G' = nodesA (ys.set i ⟨x.b, x.d, x.J, x.D.light k⟩) :: F) :=
  Fn.post ((disk_Fuse (b := x.d) (D := x.D) k W0 (jA x.b x.d x.J :: nodesX ys i :: F)).pre (fun w hs => (nodes_open hx w hs).front (i := 1) rfl)) (Ret.post fun v G' ⟨h1, h2⟩ => ⟨_, fun w hw => by
    rw [h2] at hw
    exact nodes_put hx (y := ⟨x.b, x.d, x.J, x.D.light k⟩) w (hw.front (i := 1) rfl), h1, rfl⟩)
theorem q_Crash {ys : List Nd} {i : Nat} {x : Nd} (hx : ys[i]? = some x) (hD : DiskOk x.D) {A : Option Addr} {c : Nat} {keeps : List Int} (hk : ∀ z ∈ keeps, I64 z) (hkl : keeps.length ≤ 9223372036854775807) (W0 : World) (F : List SL) (hR : Rd W0 F intE A keeps) :
    Fn Tryz.prog 25 [.pointer (some ⟨x.d, 0, none⟩), .slice A keeps.length c] W0 (nodesA ys :: F) (Ret fun v G' => v = .tuple #[] ∧ G' = nodesA (ys.set i ⟨x.b, x.d, x.J, x.D.crash keeps⟩) :: F) :=
  Fn.post ((disk_Crash (b := x.d) hD hk hkl W0 (jA x.b x.d x.J :: nodesX ys i :: F) hR.cons.cons).pre (fun w hs => (nodes_open hx w hs).front (i := 1) rfl)) (Ret.post fun v G' ⟨h1, h2⟩ => ⟨_, fun w hw => by
    rw [h2] at hw
    exact nodes_put hx (y := ⟨x.b, x.d, x.J, x.D.crash keeps⟩) w (hw.front (i := 1) rfl), h1, rfl⟩)
theorem q_Open {ys : List Nd} {i : Nat} {x : Nd} (hx : ys[i]? = some x) (hD : DiskOk x.D) (h0 : (openJ x.D).1 = 0) (W0 : World) (F : List SL) :
    Fn Tryz.prog 26 [.pointer (some ⟨x.d, 0, none⟩)] W0 (nodesA ys :: F) (Ret fun v G' => ∃ b, v = .tuple #[.pointer (some ⟨b, 0, none⟩), .int .i64 0] ∧ G' = nodesA (ys.set i ⟨b, x.d, (openJ x.D).2.1, (openJ x.D).2.2⟩) :: F) := by
  have hc := j_Open x.d x.D hD W0 (jA x.b x.d x.J :: nodesX ys i :: F)
  unfold openO at hc
  simp only [h0, if_true] at hc
  refine Fn.post (hc.pre (fun w hs => (nodes_open hx w hs).front (i := 1) rfl)) (Ret.post fun v G' ⟨b, h1, h2⟩ => ⟨_, fun w hw => ?_, b, h1, rfl⟩)
  rw [h2] at hw
  exact nodes_put hx (y := ⟨b, x.d, (openJ x.D).2.1, (openJ x.D).2.2⟩) w (hw.kick (i := 2) rfl)
end Go.Proofs.YtfolmcpfdcgliaaGreat.B
