import Derived.Test.YtpklbelejebcfaaGreatPk
import Derived.Test.YtpklbelejebcfaaGreatLe
set_option linter.unusedVariables false
set_option linter.unusedSimpArgs false
set_option maxRecDepth 8000
/-! What the laws make and compare. -/
namespace Go.Proofs.YtpklbelejebcfaaGreat.B
open Go Go.Proofs
attribute [local irreducible] WL CS QS WQ WH WS Fn Op1 row Sat

theorem law_pick (n m : Int) (hn : I64 n) (hm : 0 < m) (W0 : World) (G : List SL) :
    Fn Tryz.prog 7 [.int .i64 n, .int .i64 m] W0 G (Ret fun v G' => v = .int .i64 (pickM n m) ∧ G' = G) := by
  refine Fn.enter Tryz.func7 rfl Tryz.ntmps7 rfl ?_
  unfold I64 at hn
  have hm0 : decide (m = 0) = false := decide_eq_false (by omega)
  repeat' (first|refine bk ?_|refine bkc ?_|refine bks ?_|refine bkd ?_|refine bkq (fun q => ?_)|(refine bk2 ?_ ?_<;>(first|exact bkn|(refine bkk ?_;intro h))))
  all_goals
    refine WL.s (op1_rem TT rfl rfl (by omega)) rfl ?_
    repeat' (first|refine bk ?_|refine bkc ?_|refine bks ?_|refine bkd ?_|refine bkq (fun q => ?_)|(refine bk2 ?_ ?_<;>(first|exact bkn|(refine bkk ?_;intro h))))
    refine QS.retV Tryz.results7 rfl ⟨?_, rfl⟩
    first
      | (rw [pickM, if_pos (by assumption)]; rfl)
      | (rw [pickM, if_neg (by assumption)]; rfl)

theorem Ent.ext' {x y : Ent} (h1 : x.n = y.n) (h2 : x.s = y.s) : x = y := by cases x; cases y; simp_all
set_option maxHeartbeats 2000000 in
theorem law_entries (A B : Option Addr) (k c k2 c2 : Nat) (xs ys : List Ent) (hk : k = xs.length) (hk2 : k2 = ys.length) (hkb : k ≤ 1000000) (W0 : World) (G : List SL) (hR : Rd W0 G entE A xs) (hR2 : Rd W0 G entE B ys) :
    Fn Tryz.prog 39 [.slice A k c, .slice B k2 c2] W0 G (Ret fun v G' => v = .bool (decide (xs = ys)) ∧ G' = G) := by
  refine Fn.enter Tryz.func39 rfl Tryz.ntmps39 rfl ?_
  repeat' (first|refine bk ?_|refine bkc ?_|refine bks ?_|refine bkd ?_|refine bkq (fun q => ?_)|(refine bk2 ?_ ?_<;>(first|exact bkn|(refine bkk ?_;intro h))))
  · refine QS.retV Tryz.results39 rfl ⟨?_, rfl⟩
    rw [decide_eq_false (fun e => by subst e; omega)]; rfl
  have hkk : xs.length = ys.length := by omega
  refine CS.loop (X := Nat) (fun i => [(0, .slice A k c), (1, .slice B k2 c2), (5, .int .i64 (i : Int))]) (fun i => G)
    (fun i => i ≤ k ∧ xs.take i = ys.take i) (fun i => k - i) 0 ⟨rfl, rfl, rfl, trivial⟩ (fun w hs => hs) ⟨Nat.zero_le _, rfl⟩ ?_
  rintro i ⟨hi, he⟩
  refine CS.world fun hw => ?_
  repeat' (first|refine bk ?_|refine bkc ?_|refine bks ?_|refine bkd ?_|refine bkq (fun q => ?_)|(refine bk2 ?_ ?_<;>(first|exact bkn|(refine bkk ?_;intro h))))
  · obtain ⟨x, hx⟩ : ∃ x, xs[i]? = some x := ⟨xs[i]'(by omega), List.getElem?_eq_getElem (by omega)⟩
    obtain ⟨y, hy⟩ : ∃ y, ys[i]? = some y := ⟨ys[i]'(by omega), List.getElem?_eq_getElem (by omega)⟩
    refine WQ.idx TT hR rfl rfl hk (by omega) (by rw [Int.toNat_natCast]; exact hx) rfl rfl rfl rfl hw (fun b2 o hA => ?_)
    refine WQ.s (op1_at TT hA rfl rfl rfl rfl) rfl ?_
    repeat' (first|refine bk ?_|refine bkc ?_|refine bks ?_|refine bkd ?_|refine bkq (fun q => ?_)|(refine bk2 ?_ ?_<;>(first|exact bkn|(refine bkk ?_;intro h))))
    refine WQ.idx TT hR2 rfl rfl hk2 (by omega) (by rw [Int.toNat_natCast]; exact hy) rfl rfl rfl rfl hw (fun b3 o3 hA3 => ?_)
    refine WQ.s (op1_at TT hA3 rfl rfl rfl rfl) rfl ?_
    have hcmp : eqFs TT [(3, 0), (9, 1)] [.int .i64 x.n, .string x.s] [.int .i64 y.n, .string y.s] = some (decide (x.n = y.n) && decide (x.s = y.s)) := by
      have e : (decide (x.n = y.n) && decide (x.s = y.s)) = (decide (x.n = y.n) && (decide (x.s = y.s) && true)) := by rw [Bool.and_true]
      rw [e]; rfl
    refine WQ.s (op1_neS TT cmp32 rfl rfl rfl rfl hcmp) rfl ?_
    by_cases hxy : x = y
    · subst hxy
      simp only [decide_true, Bool.and_self, Bool.not_true]
      repeat' (first|refine bk ?_|refine bkc ?_|refine bks ?_|refine bkd ?_|refine bkq (fun q => ?_)|(refine bk2 ?_ ?_<;>(first|exact bkn|(refine bkk ?_;intro h))))
      refine QS.again (i + 1) ⟨by omega, ?_⟩ (by omega) ⟨rfl, rfl, ?_, trivial⟩ (fun w hs => hs)
      · rw [List.take_add_one, List.take_add_one, hx, hy, he]
      · rw [show ((i + 1 : Nat) : Int) = (i : Int) + 1 from by omega]; rfl
    · have : (decide (x.n = y.n) && decide (x.s = y.s)) = false := by
        rw [Bool.and_eq_false_iff, decide_eq_false_iff_not, decide_eq_false_iff_not]
        by_cases h1 : x.n = y.n
        · exact .inr fun h2 => hxy (Ent.ext' h1 h2)
        · exact .inl h1
      simp only [this, Bool.not_false]
      repeat' (first|refine bk ?_|refine bkc ?_|refine bks ?_|refine bkd ?_|refine bkq (fun q => ?_)|(refine bk2 ?_ ?_<;>(first|exact bkn|(refine bkk ?_;intro h))))
      refine QS.retV Tryz.results39 rfl ⟨?_, rfl⟩
      rw [decide_eq_false (fun e => hxy (by rw [e, hy] at hx; exact (Option.some.inj hx).symm))]; rfl
  · refine QS.retV Tryz.results39 rfl ⟨?_, rfl⟩
    rw [decide_eq_true (by rw [List.take_of_length_le (by omega), List.take_of_length_le (by omega)] at he; exact he)]; rfl

theorem law_same (e e2 : Int) (A B : Option Addr) (k c k2 c2 : Nat) (xs ys : List Ent) (hk : k = xs.length) (hk2 : k2 = ys.length) (hkb : k ≤ 1000000) (W0 : World) (G : List SL) (hR : Rd W0 G entE A xs) (hR2 : Rd W0 G entE B ys) :
    Fn Tryz.prog 18 [logV e A k c, logV e2 B k2 c2] W0 G (Ret fun v G' => v = .bool (decide (xs = ys ∧ e = e2)) ∧ G' = G) := by
  refine Fn.enter Tryz.func18 rfl Tryz.ntmps18 rfl ?_
  repeat' (first|refine bk ?_|refine bkc ?_|refine bks ?_|refine bkd ?_|refine bkq (fun q => ?_)|(refine bk2 ?_ ?_<;>(first|exact bkn|(refine bkk ?_;intro h))))
  refine WL.call c39 rfl rfl rfl rfl (law_entries A B k c k2 c2 xs ys hk hk2 hkb W0 _ hR.cons.cons hR2.cons.cons) ?_
  rintro _ _ ⟨rfl, rfl⟩
  repeat' (first|refine bk ?_|refine bkc ?_|refine bks ?_|refine bkd ?_|refine bkq (fun q => ?_)|(refine bk2 ?_ ?_<;>(first|exact bkn|(refine bkk ?_;intro h))))
  · refine QS.turn (G' := G) (fun w hs => hs.drop.drop) (QS.retV Tryz.results18 rfl ⟨?_, rfl⟩)
    have : decide (xs = ys ∧ e = e2) = decide (e = e2) := decide_eq_decide.2 ⟨fun h => h.2, fun h => ⟨by assumption, h⟩⟩
    rw [this]; rfl
  · refine QS.turn (G' := G) (fun w hs => hs.drop.drop) (QS.retV Tryz.results18 rfl ⟨?_, rfl⟩)
    rw [decide_eq_false (fun h => absurd h.1 (by assumption))]; rfl

end Go.Proofs.YtpklbelejebcfaaGreat.B
