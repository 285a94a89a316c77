import Derived.Test.YtpmekjailifaiaaCe
set_option linter.unusedVariables false
set_option linter.unusedSimpArgs false
set_option maxRecDepth 8000
/-! The law on one log more. -/
namespace Go.Proofs.Ytpmekjailifaiaa.B
open Go Go.Proofs
attribute [local irreducible] WL CS QS WQ WH WS Fn Op1 row Sat
attribute [local irreducible] slc

theorem better_e {a b : LogX} (h : better a b = true) : b.e ≤ a.e := by
  simp only [better, Bool.or_eq_true, Bool.and_eq_true, decide_eq_true_eq] at h; omega
theorem not_better_e {a b : LogX} (h : ¬ better a b = true) : a.e ≤ b.e := by
  simp only [better, Bool.or_eq_true, Bool.and_eq_true, decide_eq_true_eq] at h; omega
theorem bestP_max (ls : List LogX) : ∀ (i : Nat), i ≤ ls.length → ∀ y, ls[(bestP ls i).toNat]? = some y → 0 ≤ bestP ls i → ∀ (j : Nat) x, j < i → ls[j]? = some x → x.e ≤ y.e
  | 0, _, y, _, h, j, x, hj, _ => absurd hj (Nat.not_lt_zero _)
  | i + 1, hi, y, hy, h0, j, x, hj, hx => by
    have hbr := bestP_range ls i
    obtain ⟨z, hz⟩ : ∃ z, ls[i]? = some z := ⟨ls[i]'(by omega), List.getElem?_eq_getElem (by omega)⟩
    by_cases hneg : bestP ls i < 0
    · have hi0 : i = 0 := by
        rcases Nat.eq_zero_or_pos i with h | h
        · exact h
        · have := hbr.2.2 h; omega
      subst hi0
      rw [bestP_lt hneg] at hy
      obtain rfl : j = 0 := by omega
      have : ls[0]? = some y := hy
      rw [hx] at this
      rw [Option.some.inj this]; exact Int.le_refl _
    · obtain ⟨u, hu⟩ : ∃ u, ls[(bestP ls i).toNat]? = some u := ⟨ls[(bestP ls i).toNat]'(by omega), List.getElem?_eq_getElem (by omega)⟩
      have ih := bestP_max ls i (by omega) u hu (by omega)
      rw [bestP_ge hneg hz hu] at hy
      by_cases hb : better z u = true
      · rw [if_pos hb, Int.toNat_natCast, hz] at hy
        obtain rfl := Option.some.inj hy
        by_cases hji : j = i
        · subst hji; rw [hx] at hz; rw [Option.some.inj hz]; exact Int.le_refl _
        · have h1 := ih j x (by omega) hx
          have h2 := better_e hb
          omega
      · rw [if_neg hb, hu] at hy
        obtain rfl := Option.some.inj hy
        by_cases hji : j = i
        · subst hji; rw [hx] at hz
          obtain rfl := Option.some.inj hz
          exact not_better_e hb
        · exact ih j x (by omega) hx
theorem bestI_max {ls : List LogX} {y : LogX} (hy : ls[(bestI ls).toNat]? = some y) (h0 : 0 ≤ bestI ls) : ∀ x ∈ ls, x.e ≤ y.e := fun x hx => by
  obtain ⟨j, hj⟩ := List.mem_iff_getElem?.1 hx
  exact bestP_max ls ls.length (Nat.le_refl _) y hy h0 j x (List.getElem?_eq_some_iff.1 hj).1 hj
theorem cnt_top {ls : List LogX} {E E' : Int} (h : ∀ x ∈ ls, x.e ≤ E) (h2 : 0 < cnt ls E' 0) : E' ≤ E := by
  obtain ⟨i, x, h3, h4, _⟩ := cnt_pos h2
  have := h x (List.mem_of_getElem? h3)
  rw [h4.1] at this; exact this
theorem Comm.len {ls : List LogX} {need E : Int} {K i : Nat} {x : LogX} (h : Comm ls need E K i x) : (x.xs.take K).length = K := by
  have := h.is.2
  rw [List.length_take]; omega
/-- What is committed of the greatest epoch. -/
theorem out_top {ls : List LogX} {N E : Int} {out : List Ent} (hN : 1 ≤ N) (h : Out ls N out) (htop : ∀ x ∈ ls, x.e ≤ E) (hc : N ≤ (cnt ls E 0 : Int)) : N ≤ (cnt ls E out.length : Int) ∧ (cnt ls E (out.length + 1) : Int) < N := by
  rcases h with ⟨h1, _⟩ | ⟨E', K, i, x, hC, rfl⟩
  · have := h1 E; omega
  · have h1 := hC.top E hc
    have h2 := cnt_top htop (E' := E') (by have := hC.ep; omega)
    obtain rfl : E = E' := Int.le_antisymm h1 h2
    rw [hC.len]
    exact ⟨hC.k0, hC.k1⟩
theorem more_len {ls : List LogX} {N E : Int} {m : LogX} {a b : List Ent} (hN : 1 ≤ N) (ha : Out ls N a) (hb : Out (ls ++ [m]) N b) (htop : ∀ x ∈ ls, x.e ≤ E) (hm : m.e = E) (hc : N ≤ (cnt ls E 0 : Int)) : a.length ≤ b.length := by
  have hmono : ∀ k, cnt ls E k ≤ cnt (ls ++ [m]) E k := fun k => by unfold cnt; rw [List.countP_append]; omega
  have h1 := out_top hN ha htop hc
  have h2 := out_top hN hb (fun x hx => by
    rcases List.mem_append.1 hx with h | h
    · exact htop x h
    · rw [List.mem_singleton.1 h, hm]; exact Int.le_refl _) (by have := hmono 0; omega)
  rcases Nat.lt_or_ge b.length a.length with h | h
  · have h3 := cnt_le (ls := ls) (E := E) (show b.length + 1 ≤ a.length from h)
    have h4 := hmono (b.length + 1)
    omega
  · exact h
theorem cnt_next0 {ls : List LogX} {i : Nat} {x : LogX} (h : ls[i]? = some x) (E : Int) : cnt (ls.take (i + 1)) E 0 = cnt (ls.take i) E 0 + (if x.e = E then 1 else 0) := by
  unfold cnt
  rw [List.take_add_one, h, List.countP_append]
  by_cases h1 : x.e = E <;> simp [h1]

theorem tmod_pick {z : Int} (h : 0 ≤ z) : ∃ v, IntKind.i64.wrap (1 + z.tmod 1000) = v ∧ 1 ≤ v ∧ v ≤ 1000 := by
  have h1 := Int.tmod_nonneg 1000 h
  have h2 := Int.tmod_lt_of_pos z (show (0 : Int) < 1000 by decide)
  exact ⟨_, w64 (by omega), by omega, by omega⟩
set_option maxHeartbeats 8000000 in
theorem law_ChooseMore (A : Option Addr) (k c : Nat) (ls : List LogX) (hk : k = ls.length) (hkc : k ≤ c) (hxs : ∀ x ∈ ls, x.xs.length ≤ 5864062014805 ∧ x.xs.length ≤ x.c) (need : Int) (hneed : I64 need) (mo : LogX) (hmo : mo.xs.length ≤ 5864062014805 ∧ mo.xs.length ≤ mo.c) (n : Int) (hn : I64 n) (W0 : World) (G : List SL) (hR : Rd W0 G lgE A ls) (hL : ∀ x ∈ ls, Rd W0 G entE x.A x.xs) (hM : Rd W0 G entE mo.A mo.xs) (hkm : k ≤ 9223372036854775807) :
    Fn Try.prog 5 [.slice A k c, .int .i64 need, .agg #[.int .i64 mo.e, .slice mo.A mo.xs.length mo.c], .int .i64 n] W0 G (Ret fun v G' => v = .bool true ∧ G' = G) := by
  refine Fn.fact (fun w hs => Exists.intro w hs) (fun hw => ?_)
  refine Fn.enter Try.func5 rfl Try.ntmps5 rfl ?_
  unfold I64 at hn hneed
  repeat' (first|((first|apply WL.s|apply WQ.s);(focus (first|exact op1_pure1 TT rfl|exact op1_load TT 0 rfl rfl rfl|exact op1_load TT 1 rfl rfl rfl|exact op1_load TT 2 rfl rfl rfl|exact op1_load TT 3 rfl rfl rfl|exact op1_load TT 4 rfl rfl rfl|exact op1_add TT rfl rfl (by omega)|exact op1_sub TT rfl rfl (by omega)|exact op1_mul TT rfl rfl (by omega)|exact op1_conv TT rfl rfl rfl (by omega)|exact op1_neg TT rfl (by omega)|exact op1_cat rfl rfl (by omega)|exact op1_pure TT rfl|exact op1_build TT rfl rfl rfl rfl rfl rfl|exact op1_buildA TT rfl rfl rfl rfl rfl|exact op1_lenM TT 0 rfl rfl rfl|exact op1_lenM TT 1 rfl rfl rfl|exact op1_lenM TT 2 rfl rfl rfl|exact op1_lenM TT 3 rfl rfl rfl));exact rfl)|(refine isWL ?_; (first|refine WL.nil ?_|refine WL.store TT 0 rfl rfl rfl rfl rfl rfl rfl rfl rfl ?_|refine WL.store TT 1 rfl rfl rfl rfl rfl rfl rfl rfl rfl ?_|refine WL.store TT 2 rfl rfl rfl rfl rfl rfl rfl rfl rfl ?_|refine WL.store TT 3 rfl rfl rfl rfl rfl rfl rfl rfl rfl ?_|refine WL.store TT 4 rfl rfl rfl rfl rfl rfl rfl rfl rfl ?_|refine WL.guardT rfl rfl ?_|refine WL.guardF rfl rfl rfl ?_|refine WL.alloc TT rfl rfl rfl (fun q => ?_)|refine WL.box rfl rfl rfl (fun q => ?_)))|(refine isCS ?_; (first|refine CS.seq ?_|refine CS.region ?_|refine CS.drawQ rfl mixed (by kernel_rfl) ?_|refine CS.drawW rfl rfl mixed (by kernel_rfl) ?_|refine CS.skip ?_|refine CS.ret ?_|refine CS.block ?_|refine CS.exit ?_|refine CS.condT rfl ?_|refine CS.condF rfl ?_))|(refine isQS ?_; (first|refine QS.then ?_|refine QS.thenExit ?_|refine QS.thenRet ?_|refine QS.thenPanic ?_|refine QS.blockHere ?_|refine QS.blockOther rfl ?_|refine QS.blockNormal ?_|refine QS.blockRet ?_|refine QS.blockPanic ?_))|(refine isWQ ?_; (first|refine WQ.nil ?_|refine WQ.guardT rfl rfl ?_|refine WQ.guardF rfl rfl rfl ?_))|((first|refine WL.guardS rfl rfl (fun h => ?_) (fun h => ?_)|refine WQ.guardS rfl rfl (fun h => ?_) (fun h => ?_)|refine CS.cond rfl (fun h => ?_) (fun h => ?_))<;>((try simp only [decide_eq_true_eq, decide_eq_false_iff_not, Decidable.not_not, Bool.not_eq_true', Bool.not_eq_false'] at h) <;> (try (exfalso; first|omega|exact h trivial|exact h rfl)))))
  refine WL.call c7 rfl rfl rfl rfl (law_examples W0 _) ?_
  rintro _ G2 ⟨rfl, hG2⟩
  rw [hG2]
  clear hG2 G2
  revert q
  intro q0
  repeat' (first|((first|apply WL.s|apply WQ.s);(focus (first|exact op1_pure1 TT rfl|exact op1_load TT 0 rfl rfl rfl|exact op1_load TT 1 rfl rfl rfl|exact op1_load TT 2 rfl rfl rfl|exact op1_load TT 3 rfl rfl rfl|exact op1_load TT 4 rfl rfl rfl|exact op1_add TT rfl rfl (by omega)|exact op1_sub TT rfl rfl (by omega)|exact op1_mul TT rfl rfl (by omega)|exact op1_conv TT rfl rfl rfl (by omega)|exact op1_neg TT rfl (by omega)|exact op1_cat rfl rfl (by omega)|exact op1_pure TT rfl|exact op1_build TT rfl rfl rfl rfl rfl rfl|exact op1_buildA TT rfl rfl rfl rfl rfl|exact op1_lenM TT 0 rfl rfl rfl|exact op1_lenM TT 1 rfl rfl rfl|exact op1_lenM TT 2 rfl rfl rfl|exact op1_lenM TT 3 rfl rfl rfl));exact rfl)|(refine isWL ?_; (first|refine WL.nil ?_|refine WL.store TT 0 rfl rfl rfl rfl rfl rfl rfl rfl rfl ?_|refine WL.store TT 1 rfl rfl rfl rfl rfl rfl rfl rfl rfl ?_|refine WL.store TT 2 rfl rfl rfl rfl rfl rfl rfl rfl rfl ?_|refine WL.store TT 3 rfl rfl rfl rfl rfl rfl rfl rfl rfl ?_|refine WL.store TT 4 rfl rfl rfl rfl rfl rfl rfl rfl rfl ?_|refine WL.guardT rfl rfl ?_|refine WL.guardF rfl rfl rfl ?_|refine WL.alloc TT rfl rfl rfl (fun q => ?_)|refine WL.box rfl rfl rfl (fun q => ?_)))|(refine isCS ?_; (first|refine CS.seq ?_|refine CS.region ?_|refine CS.drawQ rfl mixed (by kernel_rfl) ?_|refine CS.drawW rfl rfl mixed (by kernel_rfl) ?_|refine CS.skip ?_|refine CS.ret ?_|refine CS.block ?_|refine CS.exit ?_|refine CS.condT rfl ?_|refine CS.condF rfl ?_))|(refine isQS ?_; (first|refine QS.then ?_|refine QS.thenExit ?_|refine QS.thenRet ?_|refine QS.thenPanic ?_|refine QS.blockHere ?_|refine QS.blockOther rfl ?_|refine QS.blockNormal ?_|refine QS.blockRet ?_|refine QS.blockPanic ?_))|(refine isWQ ?_; (first|refine WQ.nil ?_|refine WQ.guardT rfl rfl ?_|refine WQ.guardF rfl rfl rfl ?_))|((first|refine WL.guardS rfl rfl (fun h => ?_) (fun h => ?_)|refine WQ.guardS rfl rfl (fun h => ?_) (fun h => ?_)|refine CS.cond rfl (fun h => ?_) (fun h => ?_))<;>((try simp only [decide_eq_true_eq, decide_eq_false_iff_not, Decidable.not_not, Bool.not_eq_true', Bool.not_eq_false'] at h) <;> (try (exfalso; first|omega|exact h trivial|exact h rfl)))))
  obtain ⟨m, hm, hm1⟩ : ∃ m : Nat, (if (9 : Int) < (k : Int) then (9 : Int) else (k : Int)) = (m : Int) ∧ m = min k 9 := ⟨min k 9, by split <;> omega, rfl⟩
  rw [hm]
  refine WL.s (op1_sliceS (E := lgE) (xs := ls) (l := 0) (r := (m : Int)) TT (by rfl) (by rfl) rfl rfl hk rfl rfl (by omega) hkc) rfl ?_
  simp only [Int.toNat_zero, Nat.sub_zero, Int.toNat_natCast]
  obtain ⟨A', hA'⟩ : ∃ A', A' = (if c = 0 then A else A.map (·.add (0 * lgE.sz))) := ⟨_, rfl⟩
  rw [← hA']
  obtain ⟨l2, hl2⟩ : ∃ l2, l2 = (ls.take m).drop 0 := ⟨_, rfl⟩
  have hR' : Rd W0 G lgE A' l2 := by rw [hA', hl2]; exact hR.part (by omega) (by omega)
  have hlen : m = l2.length := by rw [hl2, List.drop_zero, List.length_take]; omega
  have hsub : ∀ x ∈ l2, x ∈ ls := fun x hx => by rw [hl2, List.drop_zero] at hx; exact List.mem_of_mem_take hx
  have hxs' : ∀ x ∈ l2, x.xs.length ≤ 5864062014805 ∧ x.xs.length ≤ x.c := fun x hx => hxs x (hsub x hx)
  have hL' : ∀ x ∈ l2, Rd W0 G entE x.A x.xs := fun x hx => hL x (hsub x hx)
  repeat' (first|((first|apply WL.s|apply WQ.s);(focus (first|exact op1_pure1 TT rfl|exact op1_load TT 0 rfl rfl rfl|exact op1_load TT 1 rfl rfl rfl|exact op1_load TT 2 rfl rfl rfl|exact op1_load TT 3 rfl rfl rfl|exact op1_load TT 4 rfl rfl rfl|exact op1_add TT rfl rfl (by omega)|exact op1_sub TT rfl rfl (by omega)|exact op1_mul TT rfl rfl (by omega)|exact op1_conv TT rfl rfl rfl (by omega)|exact op1_neg TT rfl (by omega)|exact op1_cat rfl rfl (by omega)|exact op1_pure TT rfl|exact op1_build TT rfl rfl rfl rfl rfl rfl|exact op1_buildA TT rfl rfl rfl rfl rfl|exact op1_lenM TT 0 rfl rfl rfl|exact op1_lenM TT 1 rfl rfl rfl|exact op1_lenM TT 2 rfl rfl rfl|exact op1_lenM TT 3 rfl rfl rfl));exact rfl)|(refine isWL ?_; (first|refine WL.nil ?_|refine WL.store TT 0 rfl rfl rfl rfl rfl rfl rfl rfl rfl ?_|refine WL.store TT 1 rfl rfl rfl rfl rfl rfl rfl rfl rfl ?_|refine WL.store TT 2 rfl rfl rfl rfl rfl rfl rfl rfl rfl ?_|refine WL.store TT 3 rfl rfl rfl rfl rfl rfl rfl rfl rfl ?_|refine WL.store TT 4 rfl rfl rfl rfl rfl rfl rfl rfl rfl ?_|refine WL.guardT rfl rfl ?_|refine WL.guardF rfl rfl rfl ?_|refine WL.alloc TT rfl rfl rfl (fun q => ?_)|refine WL.box rfl rfl rfl (fun q => ?_)))|(refine isCS ?_; (first|refine CS.seq ?_|refine CS.region ?_|refine CS.drawQ rfl mixed (by kernel_rfl) ?_|refine CS.drawW rfl rfl mixed (by kernel_rfl) ?_|refine CS.skip ?_|refine CS.ret ?_|refine CS.block ?_|refine CS.exit ?_|refine CS.condT rfl ?_|refine CS.condF rfl ?_))|(refine isQS ?_; (first|refine QS.then ?_|refine QS.thenExit ?_|refine QS.thenRet ?_|refine QS.thenPanic ?_|refine QS.blockHere ?_|refine QS.blockOther rfl ?_|refine QS.blockNormal ?_|refine QS.blockRet ?_|refine QS.blockPanic ?_))|(refine isWQ ?_; (first|refine WQ.nil ?_|refine WQ.guardT rfl rfl ?_|refine WQ.guardF rfl rfl rfl ?_))|((first|refine WL.guardS rfl rfl (fun h => ?_) (fun h => ?_)|refine WQ.guardS rfl rfl (fun h => ?_) (fun h => ?_)|refine CS.cond rfl (fun h => ?_) (fun h => ?_))<;>((try simp only [decide_eq_true_eq, decide_eq_false_iff_not, Decidable.not_not, Bool.not_eq_true', Bool.not_eq_false'] at h) <;> (try (exfalso; first|omega|exact h trivial|exact h rfl)))))
  focus
    obtain ⟨v, hv, hv1⟩ : ∃ v, IntKind.i64.wrap (1 + (-(n + 1)).tmod 1000) = v ∧ 1 ≤ v ∧ v ≤ 1000 := tmod_pick (by omega)
    rw [hv]
    clear hv
  rotate_left
  focus
    obtain ⟨v, hv, hv1⟩ : ∃ v, IntKind.i64.wrap (1 + n.tmod 1000) = v ∧ 1 ≤ v ∧ v ≤ 1000 := tmod_pick (by omega)
    rw [hv]
    clear hv
  all_goals
    have hr : (if v < 1 then 0 else v / 2 + 1) = v / 2 + 1 := if_neg (by omega)
    refine WL.call c15 rfl rfl rfl rfl (choose_Most v (by unfold I64; omega) W0 _) ?_
    rintro _ G3 ⟨rfl, hG3⟩
    rw [hG3, hr]
    clear hG3 G3
    repeat' (first|((first|apply WL.s|apply WQ.s);(focus (first|exact op1_pure1 TT rfl|exact op1_load TT 0 rfl rfl rfl|exact op1_load TT 1 rfl rfl rfl|exact op1_load TT 2 rfl rfl rfl|exact op1_load TT 3 rfl rfl rfl|exact op1_load TT 4 rfl rfl rfl|exact op1_add TT rfl rfl (by omega)|exact op1_sub TT rfl rfl (by omega)|exact op1_mul TT rfl rfl (by omega)|exact op1_conv TT rfl rfl rfl (by omega)|exact op1_neg TT rfl (by omega)|exact op1_cat rfl rfl (by omega)|exact op1_pure TT rfl|exact op1_build TT rfl rfl rfl rfl rfl rfl|exact op1_buildA TT rfl rfl rfl rfl rfl|exact op1_lenM TT 0 rfl rfl rfl|exact op1_lenM TT 1 rfl rfl rfl|exact op1_lenM TT 2 rfl rfl rfl|exact op1_lenM TT 3 rfl rfl rfl));exact rfl)|(refine isWL ?_; (first|refine WL.nil ?_|refine WL.store TT 0 rfl rfl rfl rfl rfl rfl rfl rfl rfl ?_|refine WL.store TT 1 rfl rfl rfl rfl rfl rfl rfl rfl rfl ?_|refine WL.store TT 2 rfl rfl rfl rfl rfl rfl rfl rfl rfl ?_|refine WL.store TT 3 rfl rfl rfl rfl rfl rfl rfl rfl rfl ?_|refine WL.store TT 4 rfl rfl rfl rfl rfl rfl rfl rfl rfl ?_|refine WL.guardT rfl rfl ?_|refine WL.guardF rfl rfl rfl ?_|refine WL.alloc TT rfl rfl rfl (fun q => ?_)|refine WL.box rfl rfl rfl (fun q => ?_)))|(refine isCS ?_; (first|refine CS.seq ?_|refine CS.region ?_|refine CS.drawQ rfl mixed (by kernel_rfl) ?_|refine CS.drawW rfl rfl mixed (by kernel_rfl) ?_|refine CS.skip ?_|refine CS.ret ?_|refine CS.block ?_|refine CS.exit ?_|refine CS.condT rfl ?_|refine CS.condF rfl ?_))|(refine isQS ?_; (first|refine QS.then ?_|refine QS.thenExit ?_|refine QS.thenRet ?_|refine QS.thenPanic ?_|refine QS.blockHere ?_|refine QS.blockOther rfl ?_|refine QS.blockNormal ?_|refine QS.blockRet ?_|refine QS.blockPanic ?_))|(refine isWQ ?_; (first|refine WQ.nil ?_|refine WQ.guardT rfl rfl ?_|refine WQ.guardF rfl rfl rfl ?_))|((first|refine WL.guardS rfl rfl (fun h => ?_) (fun h => ?_)|refine WQ.guardS rfl rfl (fun h => ?_) (fun h => ?_)|refine CS.cond rfl (fun h => ?_) (fun h => ?_))<;>((try simp only [decide_eq_true_eq, decide_eq_false_iff_not, Decidable.not_not, Bool.not_eq_true', Bool.not_eq_false'] at h) <;> (try (exfalso; first|omega|exact h trivial|exact h rfl)))))
    refine WL.call c15 rfl rfl rfl rfl (choose_Most v (by unfold I64; omega) W0 _) ?_
    rintro _ G3 ⟨rfl, hG3⟩
    rw [hG3, hr]
    clear hG3 G3
    repeat' (first|((first|apply WL.s|apply WQ.s);(focus (first|exact op1_pure1 TT rfl|exact op1_load TT 0 rfl rfl rfl|exact op1_load TT 1 rfl rfl rfl|exact op1_load TT 2 rfl rfl rfl|exact op1_load TT 3 rfl rfl rfl|exact op1_load TT 4 rfl rfl rfl|exact op1_add TT rfl rfl (by omega)|exact op1_sub TT rfl rfl (by omega)|exact op1_mul TT rfl rfl (by omega)|exact op1_conv TT rfl rfl rfl (by omega)|exact op1_neg TT rfl (by omega)|exact op1_cat rfl rfl (by omega)|exact op1_pure TT rfl|exact op1_build TT rfl rfl rfl rfl rfl rfl|exact op1_buildA TT rfl rfl rfl rfl rfl|exact op1_lenM TT 0 rfl rfl rfl|exact op1_lenM TT 1 rfl rfl rfl|exact op1_lenM TT 2 rfl rfl rfl|exact op1_lenM TT 3 rfl rfl rfl));exact rfl)|(refine isWL ?_; (first|refine WL.nil ?_|refine WL.store TT 0 rfl rfl rfl rfl rfl rfl rfl rfl rfl ?_|refine WL.store TT 1 rfl rfl rfl rfl rfl rfl rfl rfl rfl ?_|refine WL.store TT 2 rfl rfl rfl rfl rfl rfl rfl rfl rfl ?_|refine WL.store TT 3 rfl rfl rfl rfl rfl rfl rfl rfl rfl ?_|refine WL.store TT 4 rfl rfl rfl rfl rfl rfl rfl rfl rfl ?_|refine WL.guardT rfl rfl ?_|refine WL.guardF rfl rfl rfl ?_|refine WL.alloc TT rfl rfl rfl (fun q => ?_)|refine WL.box rfl rfl rfl (fun q => ?_)))|(refine isCS ?_; (first|refine CS.seq ?_|refine CS.region ?_|refine CS.drawQ rfl mixed (by kernel_rfl) ?_|refine CS.drawW rfl rfl mixed (by kernel_rfl) ?_|refine CS.skip ?_|refine CS.ret ?_|refine CS.block ?_|refine CS.exit ?_|refine CS.condT rfl ?_|refine CS.condF rfl ?_))|(refine isQS ?_; (first|refine QS.then ?_|refine QS.thenExit ?_|refine QS.thenRet ?_|refine QS.thenPanic ?_|refine QS.blockHere ?_|refine QS.blockOther rfl ?_|refine QS.blockNormal ?_|refine QS.blockRet ?_|refine QS.blockPanic ?_))|(refine isWQ ?_; (first|refine WQ.nil ?_|refine WQ.guardT rfl rfl ?_|refine WQ.guardF rfl rfl rfl ?_))|((first|refine WL.guardS rfl rfl (fun h => ?_) (fun h => ?_)|refine WQ.guardS rfl rfl (fun h => ?_) (fun h => ?_)|refine CS.cond rfl (fun h => ?_) (fun h => ?_))<;>((try simp only [decide_eq_true_eq, decide_eq_false_iff_not, Decidable.not_not, Bool.not_eq_true', Bool.not_eq_false'] at h) <;> (try (exfalso; first|omega|exact h trivial|exact h rfl)))))
    refine WL.call c15 rfl rfl rfl rfl (choose_Most v (by unfold I64; omega) W0 _) ?_
    rintro _ G3 ⟨rfl, hG3⟩
    rw [hG3, hr]
    clear hG3 G3
    repeat' (first|((first|apply WL.s|apply WQ.s);(focus (first|exact op1_pure1 TT rfl|exact op1_load TT 0 rfl rfl rfl|exact op1_load TT 1 rfl rfl rfl|exact op1_load TT 2 rfl rfl rfl|exact op1_load TT 3 rfl rfl rfl|exact op1_load TT 4 rfl rfl rfl|exact op1_add TT rfl rfl (by omega)|exact op1_sub TT rfl rfl (by omega)|exact op1_mul TT rfl rfl (by omega)|exact op1_conv TT rfl rfl rfl (by omega)|exact op1_neg TT rfl (by omega)|exact op1_cat rfl rfl (by omega)|exact op1_pure TT rfl|exact op1_build TT rfl rfl rfl rfl rfl rfl|exact op1_buildA TT rfl rfl rfl rfl rfl|exact op1_lenM TT 0 rfl rfl rfl|exact op1_lenM TT 1 rfl rfl rfl|exact op1_lenM TT 2 rfl rfl rfl|exact op1_lenM TT 3 rfl rfl rfl));exact rfl)|(refine isWL ?_; (first|refine WL.nil ?_|refine WL.store TT 0 rfl rfl rfl rfl rfl rfl rfl rfl rfl ?_|refine WL.store TT 1 rfl rfl rfl rfl rfl rfl rfl rfl rfl ?_|refine WL.store TT 2 rfl rfl rfl rfl rfl rfl rfl rfl rfl ?_|refine WL.store TT 3 rfl rfl rfl rfl rfl rfl rfl rfl rfl ?_|refine WL.store TT 4 rfl rfl rfl rfl rfl rfl rfl rfl rfl ?_|refine WL.guardT rfl rfl ?_|refine WL.guardF rfl rfl rfl ?_|refine WL.alloc TT rfl rfl rfl (fun q => ?_)|refine WL.box rfl rfl rfl (fun q => ?_)))|(refine isCS ?_; (first|refine CS.seq ?_|refine CS.region ?_|refine CS.drawQ rfl mixed (by kernel_rfl) ?_|refine CS.drawW rfl rfl mixed (by kernel_rfl) ?_|refine CS.skip ?_|refine CS.ret ?_|refine CS.block ?_|refine CS.exit ?_|refine CS.condT rfl ?_|refine CS.condF rfl ?_))|(refine isQS ?_; (first|refine QS.then ?_|refine QS.thenExit ?_|refine QS.thenRet ?_|refine QS.thenPanic ?_|refine QS.blockHere ?_|refine QS.blockOther rfl ?_|refine QS.blockNormal ?_|refine QS.blockRet ?_|refine QS.blockPanic ?_))|(refine isWQ ?_; (first|refine WQ.nil ?_|refine WQ.guardT rfl rfl ?_|refine WQ.guardF rfl rfl rfl ?_))|((first|refine WL.guardS rfl rfl (fun h => ?_) (fun h => ?_)|refine WQ.guardS rfl rfl (fun h => ?_) (fun h => ?_)|refine CS.cond rfl (fun h => ?_) (fun h => ?_))<;>((try simp only [decide_eq_true_eq, decide_eq_false_iff_not, Decidable.not_not, Bool.not_eq_true', Bool.not_eq_false'] at h) <;> (try (exfalso; first|omega|exact h trivial|exact h rfl)))))
    refine WL.call c13 rfl rfl rfl rfl (choose_Best A' m c l2 hlen (by omega) W0 _ hR'.cons) ?_
    rintro _ G3 ⟨rfl, hG3⟩
    rw [hG3]
    clear hG3 G3
    repeat' (first|((first|apply WL.s|apply WQ.s);(focus (first|exact op1_pure1 TT rfl|exact op1_load TT 0 rfl rfl rfl|exact op1_load TT 1 rfl rfl rfl|exact op1_load TT 2 rfl rfl rfl|exact op1_load TT 3 rfl rfl rfl|exact op1_load TT 4 rfl rfl rfl|exact op1_add TT rfl rfl (by omega)|exact op1_sub TT rfl rfl (by omega)|exact op1_mul TT rfl rfl (by omega)|exact op1_conv TT rfl rfl rfl (by omega)|exact op1_neg TT rfl (by omega)|exact op1_cat rfl rfl (by omega)|exact op1_pure TT rfl|exact op1_build TT rfl rfl rfl rfl rfl rfl|exact op1_buildA TT rfl rfl rfl rfl rfl|exact op1_lenM TT 0 rfl rfl rfl|exact op1_lenM TT 1 rfl rfl rfl|exact op1_lenM TT 2 rfl rfl rfl|exact op1_lenM TT 3 rfl rfl rfl));exact rfl)|(refine isWL ?_; (first|refine WL.nil ?_|refine WL.store TT 0 rfl rfl rfl rfl rfl rfl rfl rfl rfl ?_|refine WL.store TT 1 rfl rfl rfl rfl rfl rfl rfl rfl rfl ?_|refine WL.store TT 2 rfl rfl rfl rfl rfl rfl rfl rfl rfl ?_|refine WL.store TT 3 rfl rfl rfl rfl rfl rfl rfl rfl rfl ?_|refine WL.store TT 4 rfl rfl rfl rfl rfl rfl rfl rfl rfl ?_|refine WL.guardT rfl rfl ?_|refine WL.guardF rfl rfl rfl ?_|refine WL.alloc TT rfl rfl rfl (fun q => ?_)|refine WL.box rfl rfl rfl (fun q => ?_)))|(refine isCS ?_; (first|refine CS.seq ?_|refine CS.region ?_|refine CS.drawQ rfl mixed (by kernel_rfl) ?_|refine CS.drawW rfl rfl mixed (by kernel_rfl) ?_|refine CS.skip ?_|refine CS.ret ?_|refine CS.block ?_|refine CS.exit ?_|refine CS.condT rfl ?_|refine CS.condF rfl ?_))|(refine isQS ?_; (first|refine QS.then ?_|refine QS.thenExit ?_|refine QS.thenRet ?_|refine QS.thenPanic ?_|refine QS.blockHere ?_|refine QS.blockOther rfl ?_|refine QS.blockNormal ?_|refine QS.blockRet ?_|refine QS.blockPanic ?_))|(refine isWQ ?_; (first|refine WQ.nil ?_|refine WQ.guardT rfl rfl ?_|refine WQ.guardF rfl rfl rfl ?_))|((first|refine WL.guardS rfl rfl (fun h => ?_) (fun h => ?_)|refine WQ.guardS rfl rfl (fun h => ?_) (fun h => ?_)|refine CS.cond rfl (fun h => ?_) (fun h => ?_))<;>((try simp only [decide_eq_true_eq, decide_eq_false_iff_not, Decidable.not_not, Bool.not_eq_true', Bool.not_eq_false'] at h) <;> (try (exfalso; first|omega|exact h trivial|exact h rfl)))))
    · exact QS.turn (fun w hs => hs.drop) (QS.retV Try.results5 rfl ⟨rfl, rfl⟩)
    have hbr := bestP_range l2 l2.length
    have hbb : -1 ≤ bestI l2 ∧ bestI l2 < (l2.length : Int) := ⟨hbr.1, hbr.2.1⟩
    have hb0 : 0 ≤ bestI l2 := by omega
    obtain ⟨y, hy⟩ : ∃ y, l2[(bestI l2).toNat]? = some y := ⟨l2[(bestI l2).toNat]'(by omega), List.getElem?_eq_getElem (by omega)⟩
    have hmax : ∀ x ∈ l2, x.e ≤ y.e := bestI_max hy hb0
    refine WL.idx TT hR'.cons rfl rfl hlen (by omega) (hy) rfl rfl rfl rfl (fun b1 o1 hA1 => ?_)
    repeat' (first|((first|apply WL.s|apply WQ.s);(focus (first|exact op1_pure1 TT rfl|exact op1_load TT 0 rfl rfl rfl|exact op1_load TT 1 rfl rfl rfl|exact op1_load TT 2 rfl rfl rfl|exact op1_load TT 3 rfl rfl rfl|exact op1_load TT 4 rfl rfl rfl|exact op1_add TT rfl rfl (by omega)|exact op1_sub TT rfl rfl (by omega)|exact op1_mul TT rfl rfl (by omega)|exact op1_conv TT rfl rfl rfl (by omega)|exact op1_neg TT rfl (by omega)|exact op1_cat rfl rfl (by omega)|exact op1_pure TT rfl|exact op1_build TT rfl rfl rfl rfl rfl rfl|exact op1_buildA TT rfl rfl rfl rfl rfl|exact op1_lenM TT 0 rfl rfl rfl|exact op1_lenM TT 1 rfl rfl rfl|exact op1_lenM TT 2 rfl rfl rfl|exact op1_lenM TT 3 rfl rfl rfl));exact rfl)|(refine isWL ?_; (first|refine WL.nil ?_|refine WL.store TT 0 rfl rfl rfl rfl rfl rfl rfl rfl rfl ?_|refine WL.store TT 1 rfl rfl rfl rfl rfl rfl rfl rfl rfl ?_|refine WL.store TT 2 rfl rfl rfl rfl rfl rfl rfl rfl rfl ?_|refine WL.store TT 3 rfl rfl rfl rfl rfl rfl rfl rfl rfl ?_|refine WL.store TT 4 rfl rfl rfl rfl rfl rfl rfl rfl rfl ?_|refine WL.guardT rfl rfl ?_|refine WL.guardF rfl rfl rfl ?_|refine WL.alloc TT rfl rfl rfl (fun q => ?_)|refine WL.box rfl rfl rfl (fun q => ?_)))|(refine isCS ?_; (first|refine CS.seq ?_|refine CS.region ?_|refine CS.drawQ rfl mixed (by kernel_rfl) ?_|refine CS.drawW rfl rfl mixed (by kernel_rfl) ?_|refine CS.skip ?_|refine CS.ret ?_|refine CS.block ?_|refine CS.exit ?_|refine CS.condT rfl ?_|refine CS.condF rfl ?_))|(refine isQS ?_; (first|refine QS.then ?_|refine QS.thenExit ?_|refine QS.thenRet ?_|refine QS.thenPanic ?_|refine QS.blockHere ?_|refine QS.blockOther rfl ?_|refine QS.blockNormal ?_|refine QS.blockRet ?_|refine QS.blockPanic ?_))|(refine isWQ ?_; (first|refine WQ.nil ?_|refine WQ.guardT rfl rfl ?_|refine WQ.guardF rfl rfl rfl ?_))|((first|refine WL.guardS rfl rfl (fun h => ?_) (fun h => ?_)|refine WQ.guardS rfl rfl (fun h => ?_) (fun h => ?_)|refine CS.cond rfl (fun h => ?_) (fun h => ?_))<;>((try simp only [decide_eq_true_eq, decide_eq_false_iff_not, Decidable.not_not, Bool.not_eq_true', Bool.not_eq_false'] at h) <;> (try (exfalso; first|omega|exact h trivial|exact h rfl)))))
    refine WL.s (op1_atF TT 0 hA1 rfl rfl rfl rfl rfl) rfl ?_
    repeat' (first|((first|apply WL.s|apply WQ.s);(focus (first|exact op1_pure1 TT rfl|exact op1_load TT 0 rfl rfl rfl|exact op1_load TT 1 rfl rfl rfl|exact op1_load TT 2 rfl rfl rfl|exact op1_load TT 3 rfl rfl rfl|exact op1_load TT 4 rfl rfl rfl|exact op1_add TT rfl rfl (by omega)|exact op1_sub TT rfl rfl (by omega)|exact op1_mul TT rfl rfl (by omega)|exact op1_conv TT rfl rfl rfl (by omega)|exact op1_neg TT rfl (by omega)|exact op1_cat rfl rfl (by omega)|exact op1_pure TT rfl|exact op1_build TT rfl rfl rfl rfl rfl rfl|exact op1_buildA TT rfl rfl rfl rfl rfl|exact op1_lenM TT 0 rfl rfl rfl|exact op1_lenM TT 1 rfl rfl rfl|exact op1_lenM TT 2 rfl rfl rfl|exact op1_lenM TT 3 rfl rfl rfl));exact rfl)|(refine isWL ?_; (first|refine WL.nil ?_|refine WL.store TT 0 rfl rfl rfl rfl rfl rfl rfl rfl rfl ?_|refine WL.store TT 1 rfl rfl rfl rfl rfl rfl rfl rfl rfl ?_|refine WL.store TT 2 rfl rfl rfl rfl rfl rfl rfl rfl rfl ?_|refine WL.store TT 3 rfl rfl rfl rfl rfl rfl rfl rfl rfl ?_|refine WL.store TT 4 rfl rfl rfl rfl rfl rfl rfl rfl rfl ?_|refine WL.guardT rfl rfl ?_|refine WL.guardF rfl rfl rfl ?_|refine WL.alloc TT rfl rfl rfl (fun q => ?_)|refine WL.box rfl rfl rfl (fun q => ?_)))|(refine isCS ?_; (first|refine CS.seq ?_|refine CS.region ?_|refine CS.drawQ rfl mixed (by kernel_rfl) ?_|refine CS.drawW rfl rfl mixed (by kernel_rfl) ?_|refine CS.skip ?_|refine CS.ret ?_|refine CS.block ?_|refine CS.exit ?_|refine CS.condT rfl ?_|refine CS.condF rfl ?_))|(refine isQS ?_; (first|refine QS.then ?_|refine QS.thenExit ?_|refine QS.thenRet ?_|refine QS.thenPanic ?_|refine QS.blockHere ?_|refine QS.blockOther rfl ?_|refine QS.blockNormal ?_|refine QS.blockRet ?_|refine QS.blockPanic ?_))|(refine isWQ ?_; (first|refine WQ.nil ?_|refine WQ.guardT rfl rfl ?_|refine WQ.guardF rfl rfl rfl ?_))|((first|refine WL.guardS rfl rfl (fun h => ?_) (fun h => ?_)|refine WQ.guardS rfl rfl (fun h => ?_) (fun h => ?_)|refine CS.cond rfl (fun h => ?_) (fun h => ?_))<;>((try simp only [decide_eq_true_eq, decide_eq_false_iff_not, Decidable.not_not, Bool.not_eq_true', Bool.not_eq_false'] at h) <;> (try (exfalso; first|omega|exact h trivial|exact h rfl)))))
    refine CS.loop (X := Nat) (fun i => [(0, .slice A' m c), (1, .int .i64 need), (6, .pointer (some ⟨q0, 0, none⟩)), (9, .bool true), (11, .int .i64 (cnt (l2.take i) y.e 0 : Nat)), (12, .int .i64 (i : Int))]) (fun i => row q0 31 [.int .i64 y.e, .slice mo.A mo.xs.length mo.c] :: G)
      (fun i => i ≤ m) (fun i => m - i) 0 ⟨rfl, rfl, rfl, rfl, rfl, rfl, trivial⟩ (fun w hs => hs) (Nat.zero_le _) ?_
    intro i hi
    have hcb : cnt (l2.take i) y.e 0 ≤ 9 := Nat.le_trans List.countP_le_length (by rw [List.length_take]; omega)
    obtain ⟨C, hC⟩ : ∃ C, C = cnt (l2.take i) y.e 0 := ⟨_, rfl⟩
    rw [← hC] at hcb ⊢
    refine CS.world fun hw3 => ?_
    repeat' (first|((first|apply WL.s|apply WQ.s);(focus (first|exact op1_pure1 TT rfl|exact op1_load TT 0 rfl rfl rfl|exact op1_load TT 1 rfl rfl rfl|exact op1_load TT 2 rfl rfl rfl|exact op1_load TT 3 rfl rfl rfl|exact op1_load TT 4 rfl rfl rfl|exact op1_add TT rfl rfl (by omega)|exact op1_sub TT rfl rfl (by omega)|exact op1_mul TT rfl rfl (by omega)|exact op1_conv TT rfl rfl rfl (by omega)|exact op1_neg TT rfl (by omega)|exact op1_cat rfl rfl (by omega)|exact op1_pure TT rfl|exact op1_build TT rfl rfl rfl rfl rfl rfl|exact op1_buildA TT rfl rfl rfl rfl rfl|exact op1_lenM TT 0 rfl rfl rfl|exact op1_lenM TT 1 rfl rfl rfl|exact op1_lenM TT 2 rfl rfl rfl|exact op1_lenM TT 3 rfl rfl rfl));exact rfl)|(refine isWL ?_; (first|refine WL.nil ?_|refine WL.store TT 0 rfl rfl rfl rfl rfl rfl rfl rfl rfl ?_|refine WL.store TT 1 rfl rfl rfl rfl rfl rfl rfl rfl rfl ?_|refine WL.store TT 2 rfl rfl rfl rfl rfl rfl rfl rfl rfl ?_|refine WL.store TT 3 rfl rfl rfl rfl rfl rfl rfl rfl rfl ?_|refine WL.store TT 4 rfl rfl rfl rfl rfl rfl rfl rfl rfl ?_|refine WL.guardT rfl rfl ?_|refine WL.guardF rfl rfl rfl ?_|refine WL.alloc TT rfl rfl rfl (fun q => ?_)|refine WL.box rfl rfl rfl (fun q => ?_)))|(refine isCS ?_; (first|refine CS.seq ?_|refine CS.region ?_|refine CS.drawQ rfl mixed (by kernel_rfl) ?_|refine CS.drawW rfl rfl mixed (by kernel_rfl) ?_|refine CS.skip ?_|refine CS.ret ?_|refine CS.block ?_|refine CS.exit ?_|refine CS.condT rfl ?_|refine CS.condF rfl ?_))|(refine isQS ?_; (first|refine QS.then ?_|refine QS.thenExit ?_|refine QS.thenRet ?_|refine QS.thenPanic ?_|refine QS.blockHere ?_|refine QS.blockOther rfl ?_|refine QS.blockNormal ?_|refine QS.blockRet ?_|refine QS.blockPanic ?_))|(refine isWQ ?_; (first|refine WQ.nil ?_|refine WQ.guardT rfl rfl ?_|refine WQ.guardF rfl rfl rfl ?_))|((first|refine WL.guardS rfl rfl (fun h => ?_) (fun h => ?_)|refine WQ.guardS rfl rfl (fun h => ?_) (fun h => ?_)|refine CS.cond rfl (fun h => ?_) (fun h => ?_))<;>((try simp only [decide_eq_true_eq, decide_eq_false_iff_not, Decidable.not_not, Bool.not_eq_true', Bool.not_eq_false'] at h) <;> (try (exfalso; first|omega|exact h trivial|exact h rfl)))))
    focus
      obtain ⟨x, hx⟩ : ∃ x, l2[i]? = some x := ⟨l2[i]'(by omega), List.getElem?_eq_getElem (by omega)⟩
      have hnx := cnt_next0 hx y.e
      rw [← hC] at hnx
      refine WQ.idx TT hR'.cons rfl rfl hlen (by omega) (by rw [Int.toNat_natCast]; exact hx) rfl rfl rfl rfl hw3 (fun b2 o2 hA2 => ?_)
      repeat' (first|((first|apply WL.s|apply WQ.s);(focus (first|exact op1_pure1 TT rfl|exact op1_load TT 0 rfl rfl rfl|exact op1_load TT 1 rfl rfl rfl|exact op1_load TT 2 rfl rfl rfl|exact op1_load TT 3 rfl rfl rfl|exact op1_load TT 4 rfl rfl rfl|exact op1_add TT rfl rfl (by omega)|exact op1_sub TT rfl rfl (by omega)|exact op1_mul TT rfl rfl (by omega)|exact op1_conv TT rfl rfl rfl (by omega)|exact op1_neg TT rfl (by omega)|exact op1_cat rfl rfl (by omega)|exact op1_pure TT rfl|exact op1_build TT rfl rfl rfl rfl rfl rfl|exact op1_buildA TT rfl rfl rfl rfl rfl|exact op1_lenM TT 0 rfl rfl rfl|exact op1_lenM TT 1 rfl rfl rfl|exact op1_lenM TT 2 rfl rfl rfl|exact op1_lenM TT 3 rfl rfl rfl));exact rfl)|(refine isWL ?_; (first|refine WL.nil ?_|refine WL.store TT 0 rfl rfl rfl rfl rfl rfl rfl rfl rfl ?_|refine WL.store TT 1 rfl rfl rfl rfl rfl rfl rfl rfl rfl ?_|refine WL.store TT 2 rfl rfl rfl rfl rfl rfl rfl rfl rfl ?_|refine WL.store TT 3 rfl rfl rfl rfl rfl rfl rfl rfl rfl ?_|refine WL.store TT 4 rfl rfl rfl rfl rfl rfl rfl rfl rfl ?_|refine WL.guardT rfl rfl ?_|refine WL.guardF rfl rfl rfl ?_|refine WL.alloc TT rfl rfl rfl (fun q => ?_)|refine WL.box rfl rfl rfl (fun q => ?_)))|(refine isCS ?_; (first|refine CS.seq ?_|refine CS.region ?_|refine CS.drawQ rfl mixed (by kernel_rfl) ?_|refine CS.drawW rfl rfl mixed (by kernel_rfl) ?_|refine CS.skip ?_|refine CS.ret ?_|refine CS.block ?_|refine CS.exit ?_|refine CS.condT rfl ?_|refine CS.condF rfl ?_))|(refine isQS ?_; (first|refine QS.then ?_|refine QS.thenExit ?_|refine QS.thenRet ?_|refine QS.thenPanic ?_|refine QS.blockHere ?_|refine QS.blockOther rfl ?_|refine QS.blockNormal ?_|refine QS.blockRet ?_|refine QS.blockPanic ?_))|(refine isWQ ?_; (first|refine WQ.nil ?_|refine WQ.guardT rfl rfl ?_|refine WQ.guardF rfl rfl rfl ?_))|((first|refine WL.guardS rfl rfl (fun h => ?_) (fun h => ?_)|refine WQ.guardS rfl rfl (fun h => ?_) (fun h => ?_)|refine CS.cond rfl (fun h => ?_) (fun h => ?_))<;>((try simp only [decide_eq_true_eq, decide_eq_false_iff_not, Decidable.not_not, Bool.not_eq_true', Bool.not_eq_false'] at h) <;> (try (exfalso; first|omega|exact h trivial|exact h rfl)))))
      refine WQ.s (op1_atF TT 0 hA2 rfl rfl rfl rfl rfl) rfl ?_
      repeat' (first|((first|apply WL.s|apply WQ.s);(focus (first|exact op1_pure1 TT rfl|exact op1_load TT 0 rfl rfl rfl|exact op1_load TT 1 rfl rfl rfl|exact op1_load TT 2 rfl rfl rfl|exact op1_load TT 3 rfl rfl rfl|exact op1_load TT 4 rfl rfl rfl|exact op1_add TT rfl rfl (by omega)|exact op1_sub TT rfl rfl (by omega)|exact op1_mul TT rfl rfl (by omega)|exact op1_conv TT rfl rfl rfl (by omega)|exact op1_neg TT rfl (by omega)|exact op1_cat rfl rfl (by omega)|exact op1_pure TT rfl|exact op1_build TT rfl rfl rfl rfl rfl rfl|exact op1_buildA TT rfl rfl rfl rfl rfl|exact op1_lenM TT 0 rfl rfl rfl|exact op1_lenM TT 1 rfl rfl rfl|exact op1_lenM TT 2 rfl rfl rfl|exact op1_lenM TT 3 rfl rfl rfl));exact rfl)|(refine isWL ?_; (first|refine WL.nil ?_|refine WL.store TT 0 rfl rfl rfl rfl rfl rfl rfl rfl rfl ?_|refine WL.store TT 1 rfl rfl rfl rfl rfl rfl rfl rfl rfl ?_|refine WL.store TT 2 rfl rfl rfl rfl rfl rfl rfl rfl rfl ?_|refine WL.store TT 3 rfl rfl rfl rfl rfl rfl rfl rfl rfl ?_|refine WL.store TT 4 rfl rfl rfl rfl rfl rfl rfl rfl rfl ?_|refine WL.guardT rfl rfl ?_|refine WL.guardF rfl rfl rfl ?_|refine WL.alloc TT rfl rfl rfl (fun q => ?_)|refine WL.box rfl rfl rfl (fun q => ?_)))|(refine isCS ?_; (first|refine CS.seq ?_|refine CS.region ?_|refine CS.drawQ rfl mixed (by kernel_rfl) ?_|refine CS.drawW rfl rfl mixed (by kernel_rfl) ?_|refine CS.skip ?_|refine CS.ret ?_|refine CS.block ?_|refine CS.exit ?_|refine CS.condT rfl ?_|refine CS.condF rfl ?_))|(refine isQS ?_; (first|refine QS.then ?_|refine QS.thenExit ?_|refine QS.thenRet ?_|refine QS.thenPanic ?_|refine QS.blockHere ?_|refine QS.blockOther rfl ?_|refine QS.blockNormal ?_|refine QS.blockRet ?_|refine QS.blockPanic ?_))|(refine isWQ ?_; (first|refine WQ.nil ?_|refine WQ.guardT rfl rfl ?_|refine WQ.guardF rfl rfl rfl ?_))|((first|refine WL.guardS rfl rfl (fun h => ?_) (fun h => ?_)|refine WQ.guardS rfl rfl (fun h => ?_) (fun h => ?_)|refine CS.cond rfl (fun h => ?_) (fun h => ?_))<;>((try simp only [decide_eq_true_eq, decide_eq_false_iff_not, Decidable.not_not, Bool.not_eq_true', Bool.not_eq_false'] at h) <;> (try (exfalso; first|omega|exact h trivial|exact h rfl)))))
      · rw [if_pos (by assumption)] at hnx
        refine QS.again (i + 1) (by omega) (by omega) ⟨rfl, rfl, rfl, rfl, ?_, ?_, trivial⟩ (fun w hs => hs)
        · rw [hnx, show ((C + 1 : Nat) : Int) = (C : Int) + 1 from by omega]; rfl
        · rw [show ((i + 1 : Nat) : Int) = (i : Int) + 1 from by omega]; rfl
      · rw [if_neg (by assumption), Nat.add_zero] at hnx
        refine QS.again (i + 1) (by omega) (by omega) ⟨rfl, rfl, rfl, rfl, ?_, ?_, trivial⟩ (fun w hs => hs)
        · rw [hnx]; rfl
        · rw [show ((i + 1 : Nat) : Int) = (i : Int) + 1 from by omega]; rfl
    have him : i = m := by omega
    have hCm : C = cnt l2 y.e 0 := by rw [hC, List.take_of_length_le (by omega)]
    refine WL.call c9 rfl rfl rfl rfl (choose_Committed A' m c l2 hlen (by omega) hxs' need (by omega) W0 _ hR'.cons (fun x hx => (hL' x hx).cons)) ?_
    rintro _ _ ⟨oa, Aa, ca, hoa, rfl, rfl⟩
    refine WL.s (op1_pure1 TT rfl) rfl ?_
    refine WL.nil ?_
    refine QS.then ?_
    refine CS.seq ?_
    obtain ⟨mx, hmx⟩ : ∃ mx : LogX, mx = ⟨y.e, mo.A, mo.c, mo.xs⟩ := ⟨_, rfl⟩
    refine CS.turn (G' := slc lgE 31 none 0 ([] : List LogX) :: row q0 31 [.int .i64 y.e, .slice mo.A mo.xs.length mo.c] :: slc entE 28 Aa ca oa :: G) (fun w hs => (hs.front (i := 1) rfl).slcNil _ _) ?_
    refine CS.drawA (row q0 31 [.int .i64 y.e, .slice mo.A mo.xs.length mo.c] :: slc entE 28 Aa ca oa :: G) (fun w hs => hs.drop) mixed (by kernel_rfl) rfl ?_
    repeat' (first|(first|(apply WA.s rfl rfl (by kernel_rfl) rfl;(focus (first|exact op1_pure1 TT rfl|exact op1_load TT 0 rfl rfl rfl|exact op1_load TT 1 rfl rfl rfl|exact op1_load TT 2 rfl rfl rfl|exact op1_load TT 3 rfl rfl rfl|exact op1_load TT 4 rfl rfl rfl|exact op1_add TT rfl rfl (by omega)|exact op1_sub TT rfl rfl (by omega)|exact op1_mul TT rfl rfl (by omega)|exact op1_conv TT rfl rfl rfl (by omega)|exact op1_neg TT rfl (by omega)|exact op1_cat rfl rfl (by omega)|exact op1_pure TT rfl|exact op1_build TT rfl rfl rfl rfl rfl rfl|exact op1_buildA TT rfl rfl rfl rfl rfl|exact op1_lenM TT 0 rfl rfl rfl|exact op1_lenM TT 1 rfl rfl rfl|exact op1_lenM TT 2 rfl rfl rfl|exact op1_lenM TT 3 rfl rfl rfl));exact rfl)|refine WA.off rfl rfl (by kernel_rfl) rfl rfl rfl ?_)|(refine WA.guardS rfl rfl rfl rfl (fun h => ?_) (fun h => ?_)<;>((try simp only [decide_eq_true_eq, decide_eq_false_iff_not, Decidable.not_not, Bool.not_eq_true', Bool.not_eq_false'] at h) <;> (try (exfalso; first|omega|exact h trivial|exact h rfl)))<;>(first|(apply WA.s rfl rfl (by kernel_rfl) rfl;(focus (first|exact op1_pure1 TT rfl|exact op1_load TT 0 rfl rfl rfl|exact op1_load TT 1 rfl rfl rfl|exact op1_load TT 2 rfl rfl rfl|exact op1_load TT 3 rfl rfl rfl|exact op1_load TT 4 rfl rfl rfl|exact op1_add TT rfl rfl (by omega)|exact op1_sub TT rfl rfl (by omega)|exact op1_mul TT rfl rfl (by omega)|exact op1_conv TT rfl rfl rfl (by omega)|exact op1_neg TT rfl (by omega)|exact op1_cat rfl rfl (by omega)|exact op1_pure TT rfl|exact op1_build TT rfl rfl rfl rfl rfl rfl|exact op1_buildA TT rfl rfl rfl rfl rfl|exact op1_lenM TT 0 rfl rfl rfl|exact op1_lenM TT 1 rfl rfl rfl|exact op1_lenM TT 2 rfl rfl rfl|exact op1_lenM TT 3 rfl rfl rfl));exact rfl)|refine WA.off rfl rfl (by kernel_rfl) rfl rfl rfl ?_)))
    refine WA.at 2 (by kernel_rfl) rfl (by kernel_rfl) rfl (op1_load TT 0 rfl rfl rfl) rfl ?_
    refine WA.at 5 (by kernel_rfl) rfl (by kernel_rfl) rfl (op1_pure1 TT rfl) rfl ?_
    have hl9 : l2.length ≤ 9 := by omega
    have hxm : ∀ x ∈ l2 ++ [mx], x.xs.length ≤ 5864062014805 ∧ x.xs.length ≤ x.c := fun x hx => by
      rcases List.mem_append.1 hx with h | h
      · exact hxs' x h
      · rw [List.mem_singleton.1 h, hmx]; exact hmo
    have hLm : ∀ x ∈ l2 ++ [mx], Rd W0 G entE x.A x.xs := fun x hx => by
      rcases List.mem_append.1 hx with h | h
      · exact hL' x h
      · rw [List.mem_singleton.1 h, hmx]; exact hM
    refine WA.e2 1 3 (by kernel_rfl) (by kernel_rfl) rfl rfl rfl rfl (EffC.of (Eff.append TT (E := lgE) (xs := ([] : List LogX)) (ys := l2) 0 rfl rfl rfl hlen rfl (hR'.cons.cons.cons) rfl rfl rfl rfl rfl (by decide) (by simp only [List.length_nil]; omega) (fun _ _ => rfl))) (EffC.of (Eff.buildSlice TT rfl rfl rfl rfl rfl rfl rfl)) rfl rfl ?_ ?_
    focus
      rintro _ _ ⟨A3, c3, rfl, rfl⟩
      refine ⟨fun w hs => hs.drop, ?_⟩
      rw [List.nil_append]
      refine WA.e1 3 (by kernel_rfl) (by kernel_rfl) rfl rfl (EffC.of (Eff.buildSlice TT rfl rfl rfl rfl rfl rfl rfl)) rfl ?_
      rintro _ _ ⟨b3, rfl, rfl⟩
      refine ⟨fun w hs => hs.drop.drop, ?_⟩
    rotate_left
    focus
      rintro _ _ ⟨b3, rfl, rfl⟩
      refine ⟨fun w hs => hs.drop.drop, ?_⟩
      refine WA.e1 1 (by kernel_rfl) (by kernel_rfl) rfl rfl (EffC.of (Eff.append TT (E := lgE) (xs := ([] : List LogX)) (ys := l2) 1 rfl rfl rfl hlen rfl (hR'.cons.cons.cons.cons) rfl rfl rfl rfl rfl (by decide) (by simp only [List.length_nil]; omega) (fun _ _ => rfl))) rfl ?_
      rintro _ _ ⟨A3, c3, rfl, rfl⟩
      refine ⟨fun w hs => hs.drop.drop, ?_⟩
      rw [List.nil_append]
    all_goals
      refine WA.e1 4 (by kernel_rfl) (by kernel_rfl) rfl rfl (EffC.of (Eff.append TT (E := lgE) (xs := l2) (ys := [mx]) 1 rfl rfl rfl rfl rfl (Rd.row (i := 0) rfl (by rw [hmx]; rfl)) rfl rfl rfl rfl rfl (by decide) (by simp only [List.length_cons, List.length_nil]; omega) (fun _ _ => rfl))) rfl ?_
      rintro _ _ ⟨A4, c4, rfl, rfl⟩
      refine ⟨fun w hs => hs.drop.drop, ?_⟩
      refine WA.e1 6 (by kernel_rfl) (by kernel_rfl) rfl rfl (EffC.call c9 rfl rfl rfl (choose_Committed A4 (l2 ++ [mx]).length c4 (l2 ++ [mx]) rfl (by simp only [List.length_append, List.length_cons, List.length_nil]; omega) hxm need (by omega) W0 _ (Rd.slc (i := 1) rfl) (fun x hx => (hLm x hx).cons.cons.cons.cons))) rfl ?_
      rintro _ _ ⟨ob, Ab, cb, hob, rfl, rfl⟩
      refine ⟨fun w hs => hs.drop.drop.drop, ?_⟩
      repeat' (first|(first|(apply WA.s rfl rfl (by kernel_rfl) rfl;(focus (first|exact op1_pure1 TT rfl|exact op1_load TT 0 rfl rfl rfl|exact op1_load TT 1 rfl rfl rfl|exact op1_load TT 2 rfl rfl rfl|exact op1_load TT 3 rfl rfl rfl|exact op1_load TT 4 rfl rfl rfl|exact op1_add TT rfl rfl (by omega)|exact op1_sub TT rfl rfl (by omega)|exact op1_mul TT rfl rfl (by omega)|exact op1_conv TT rfl rfl rfl (by omega)|exact op1_neg TT rfl (by omega)|exact op1_cat rfl rfl (by omega)|exact op1_pure TT rfl|exact op1_build TT rfl rfl rfl rfl rfl rfl|exact op1_buildA TT rfl rfl rfl rfl rfl|exact op1_lenM TT 0 rfl rfl rfl|exact op1_lenM TT 1 rfl rfl rfl|exact op1_lenM TT 2 rfl rfl rfl|exact op1_lenM TT 3 rfl rfl rfl));exact rfl)|refine WA.off rfl rfl (by kernel_rfl) rfl rfl rfl ?_)|(refine WA.guardS rfl rfl rfl rfl (fun h => ?_) (fun h => ?_)<;>((try simp only [decide_eq_true_eq, decide_eq_false_iff_not, Decidable.not_not, Bool.not_eq_true', Bool.not_eq_false'] at h) <;> (try (exfalso; first|omega|exact h trivial|exact h rfl)))<;>(first|(apply WA.s rfl rfl (by kernel_rfl) rfl;(focus (first|exact op1_pure1 TT rfl|exact op1_load TT 0 rfl rfl rfl|exact op1_load TT 1 rfl rfl rfl|exact op1_load TT 2 rfl rfl rfl|exact op1_load TT 3 rfl rfl rfl|exact op1_load TT 4 rfl rfl rfl|exact op1_add TT rfl rfl (by omega)|exact op1_sub TT rfl rfl (by omega)|exact op1_mul TT rfl rfl (by omega)|exact op1_conv TT rfl rfl rfl (by omega)|exact op1_neg TT rfl (by omega)|exact op1_cat rfl rfl (by omega)|exact op1_pure TT rfl|exact op1_build TT rfl rfl rfl rfl rfl rfl|exact op1_buildA TT rfl rfl rfl rfl rfl|exact op1_lenM TT 0 rfl rfl rfl|exact op1_lenM TT 1 rfl rfl rfl|exact op1_lenM TT 2 rfl rfl rfl|exact op1_lenM TT 3 rfl rfl rfl));exact rfl)|refine WA.off rfl rfl (by kernel_rfl) rfl rfl rfl ?_)))
      refine WA.fin (by kernel_rfl) ?_
      have hcy : 1 ≤ cnt l2 y.e 0 := List.countP_pos_iff.2 ⟨y, List.mem_of_getElem? hy, by simp⟩
      have hge : ¬ (C : Int) < need → oa.length ≤ ob.length := fun h => more_len (by omega) hoa hob hmax (by rw [hmx]) (by omega)
      repeat' (first|((first|apply WL.s|apply WQ.s);(focus (first|exact op1_pure1 TT rfl|exact op1_load TT 0 rfl rfl rfl|exact op1_load TT 1 rfl rfl rfl|exact op1_load TT 2 rfl rfl rfl|exact op1_load TT 3 rfl rfl rfl|exact op1_load TT 4 rfl rfl rfl|exact op1_add TT rfl rfl (by omega)|exact op1_sub TT rfl rfl (by omega)|exact op1_mul TT rfl rfl (by omega)|exact op1_conv TT rfl rfl rfl (by omega)|exact op1_neg TT rfl (by omega)|exact op1_cat rfl rfl (by omega)|exact op1_pure TT rfl|exact op1_build TT rfl rfl rfl rfl rfl rfl|exact op1_buildA TT rfl rfl rfl rfl rfl|exact op1_lenM TT 0 rfl rfl rfl|exact op1_lenM TT 1 rfl rfl rfl|exact op1_lenM TT 2 rfl rfl rfl|exact op1_lenM TT 3 rfl rfl rfl));exact rfl)|(refine isWL ?_; (first|refine WL.nil ?_|refine WL.store TT 0 rfl rfl rfl rfl rfl rfl rfl rfl rfl ?_|refine WL.store TT 1 rfl rfl rfl rfl rfl rfl rfl rfl rfl ?_|refine WL.store TT 2 rfl rfl rfl rfl rfl rfl rfl rfl rfl ?_|refine WL.store TT 3 rfl rfl rfl rfl rfl rfl rfl rfl rfl ?_|refine WL.store TT 4 rfl rfl rfl rfl rfl rfl rfl rfl rfl ?_|refine WL.guardT rfl rfl ?_|refine WL.guardF rfl rfl rfl ?_|refine WL.alloc TT rfl rfl rfl (fun q => ?_)|refine WL.box rfl rfl rfl (fun q => ?_)))|(refine isCS ?_; (first|refine CS.seq ?_|refine CS.region ?_|refine CS.drawQ rfl mixed (by kernel_rfl) ?_|refine CS.drawW rfl rfl mixed (by kernel_rfl) ?_|refine CS.skip ?_|refine CS.ret ?_|refine CS.block ?_|refine CS.exit ?_|refine CS.condT rfl ?_|refine CS.condF rfl ?_))|(refine isQS ?_; (first|refine QS.then ?_|refine QS.thenExit ?_|refine QS.thenRet ?_|refine QS.thenPanic ?_|refine QS.blockHere ?_|refine QS.blockOther rfl ?_|refine QS.blockNormal ?_|refine QS.blockRet ?_|refine QS.blockPanic ?_))|(refine isWQ ?_; (first|refine WQ.nil ?_|refine WQ.guardT rfl rfl ?_|refine WQ.guardF rfl rfl rfl ?_))|((first|refine WL.guardS rfl rfl (fun h => ?_) (fun h => ?_)|refine WQ.guardS rfl rfl (fun h => ?_) (fun h => ?_)|refine CS.cond rfl (fun h => ?_) (fun h => ?_))<;>((try simp only [decide_eq_true_eq, decide_eq_false_iff_not, Decidable.not_not, Bool.not_eq_true', Bool.not_eq_false'] at h) <;> (try (exfalso; first|omega|exact h trivial|exact h rfl)))))
      · refine QS.turn (fun w hs => hs.drop.drop.drop.drop.drop) (QS.retV Try.results5 rfl ⟨rfl, rfl⟩)
      · refine QS.turn (fun w hs => hs.drop.drop.drop.drop.drop) (QS.retV Try.results5 rfl ⟨?_, rfl⟩)
        have := hge (by assumption)
        rw [decide_eq_true (by omega)]; rfl
end Go.Proofs.Ytpmekjailifaiaa.B
