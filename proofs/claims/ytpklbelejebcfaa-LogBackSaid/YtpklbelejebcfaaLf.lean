import Derived.Test.YtpklbelejebcfaaLe
set_option linter.unusedVariables false
set_option linter.unusedSimpArgs false
set_option maxRecDepth 8000
/-! What the laws make and compare. -/
namespace Go.Proofs.Ytpklbelejebcfaa.B
open Go Go.Proofs
attribute [local irreducible] WL CS QS WQ WH WS Fn Op1 row Sat

def pickM (n m : Int) : Int := (if n < 0 then -(n + 1) else n).tmod m
theorem pickM_range {n m : Int} (hm : 0 < m) : 0 ≤ pickM n m ∧ pickM n m < m := by
  unfold pickM
  have h : ∀ a : Int, 0 ≤ a → 0 ≤ a.tmod m ∧ a.tmod m < m := fun a ha => ⟨Int.tmod_nonneg m ha, Int.tmod_lt_of_pos a hm⟩
  split
  · exact h _ (by omega)
  · exact h _ (by omega)
theorem op1_rem {P : Program} (T : Tab P) {n : Nat} {ds : List Deferred} {L : TL} {W0 : World} {G : List SL} {ty : TypeId} {x y : Operand} {t t2 : Nat} {a b : Int} (hx : evL L x = some (.int .i64 a)) (hy : evL L y = some (.int .i64 b)) (h : ¬ b = 0) :
    Op1 P n ds L W0 G (.binOp .rem t x y t2) ty (.int .i64 (a.tmod b)) := by
  refine op1_pure T ?_
  simp only [pureOp, hx, hy, binV, sameK, intBin, decide_eq_false h]
theorem law_pick (n m : Int) (hn : I64 n) (hm : 0 < m) (W0 : World) (G : List SL) :
    Fn Try.prog 23 [.int .i64 n, .int .i64 m] W0 G (Ret fun v G' => v = .int .i64 (pickM n m) ∧ G' = G) := by
  refine Fn.enter Try.func23 rfl Try.ntmps23 rfl ?_
  unfold I64 at hn
  have hm0 : decide (m = 0) = false := decide_eq_false (by omega)
  repeat' (first|refine bk ?_|refine bkc ?_|refine bks ?_|refine bkd ?_|refine bkq (fun q => ?_)|(refine bk2 ?_ ?_<;>(first|exact bkn|(refine bkk ?_;intro h))))
  all_goals
    refine WL.s (op1_rem TT rfl rfl (by omega)) rfl ?_
    repeat' (first|refine bk ?_|refine bkc ?_|refine bks ?_|refine bkd ?_|refine bkq (fun q => ?_)|(refine bk2 ?_ ?_<;>(first|exact bkn|(refine bkk ?_;intro h))))
    refine QS.retV Try.results23 rfl ⟨?_, rfl⟩
    first
      | (rw [pickM, if_pos (by assumption)]; rfl)
      | (rw [pickM, if_neg (by assumption)]; rfl)

theorem Ent.ext' {x y : Ent} (h1 : x.n = y.n) (h2 : x.s = y.s) : x = y := by cases x; cases y; simp_all
set_option maxHeartbeats 2000000 in
theorem law_entries (A B : Option Addr) (k c k2 c2 : Nat) (xs ys : List Ent) (hk : k = xs.length) (hk2 : k2 = ys.length) (hkb : k ≤ 1000000) (W0 : World) (G : List SL) (hR : Rd W0 G entE A xs) (hR2 : Rd W0 G entE B ys) :
    Fn Try.prog 24 [.slice A k c, .slice B k2 c2] W0 G (Ret fun v G' => v = .bool (decide (xs = ys)) ∧ G' = G) := by
  refine Fn.enter Try.func24 rfl Try.ntmps24 rfl ?_
  repeat' (first|refine bk ?_|refine bkc ?_|refine bks ?_|refine bkd ?_|refine bkq (fun q => ?_)|(refine bk2 ?_ ?_<;>(first|exact bkn|(refine bkk ?_;intro h))))
  · refine QS.retV Try.results24 rfl ⟨?_, rfl⟩
    rw [decide_eq_false (fun e => by subst e; omega)]; rfl
  have hkk : xs.length = ys.length := by omega
  refine CS.loop (X := Nat) (fun i => [(0, .slice A k c), (1, .slice B k2 c2), (5, .int .i64 (i : Int))]) (fun i => G)
    (fun i => i ≤ k ∧ xs.take i = ys.take i) (fun i => k - i) 0 ⟨rfl, rfl, rfl, trivial⟩ (fun w hs => hs) ⟨Nat.zero_le _, rfl⟩ ?_
  rintro i ⟨hi, he⟩
  refine CS.world fun hw => ?_
  repeat' (first|refine bk ?_|refine bkc ?_|refine bks ?_|refine bkd ?_|refine bkq (fun q => ?_)|(refine bk2 ?_ ?_<;>(first|exact bkn|(refine bkk ?_;intro h))))
  · obtain ⟨x, hx⟩ : ∃ x, xs[i]? = some x := ⟨xs[i]'(by omega), List.getElem?_eq_getElem (by omega)⟩
    obtain ⟨y, hy⟩ : ∃ y, ys[i]? = some y := ⟨ys[i]'(by omega), List.getElem?_eq_getElem (by omega)⟩
    refine WQ.idx TT hR rfl rfl hk (by omega) (by rw [Int.toNat_natCast]; exact hx) rfl rfl rfl rfl hw (fun b2 o hA => ?_)
    refine WQ.s (op1_at TT hA rfl rfl rfl rfl) rfl ?_
    repeat' (first|refine bk ?_|refine bkc ?_|refine bks ?_|refine bkd ?_|refine bkq (fun q => ?_)|(refine bk2 ?_ ?_<;>(first|exact bkn|(refine bkk ?_;intro h))))
    refine WQ.idx TT hR2 rfl rfl hk2 (by omega) (by rw [Int.toNat_natCast]; exact hy) rfl rfl rfl rfl hw (fun b3 o3 hA3 => ?_)
    refine WQ.s (op1_at TT hA3 rfl rfl rfl rfl) rfl ?_
    have hcmp : eqFs TT [(3, 0), (9, 1)] [.int .i64 x.n, .string x.s] [.int .i64 y.n, .string y.s] = some (decide (x.n = y.n) && decide (x.s = y.s)) := by
      have e : (decide (x.n = y.n) && decide (x.s = y.s)) = (decide (x.n = y.n) && (decide (x.s = y.s) && true)) := by rw [Bool.and_true]
      rw [e]; rfl
    refine WQ.s (op1_neS TT cmp53 rfl rfl rfl rfl hcmp) rfl ?_
    by_cases hxy : x = y
    · subst hxy
      simp only [decide_true, Bool.and_self, Bool.not_true]
      repeat' (first|refine bk ?_|refine bkc ?_|refine bks ?_|refine bkd ?_|refine bkq (fun q => ?_)|(refine bk2 ?_ ?_<;>(first|exact bkn|(refine bkk ?_;intro h))))
      refine QS.again (i + 1) ⟨by omega, ?_⟩ (by omega) ⟨rfl, rfl, ?_, trivial⟩ (fun w hs => hs)
      · rw [List.take_add_one, List.take_add_one, hx, hy, he]
      · rw [show ((i + 1 : Nat) : Int) = (i : Int) + 1 from by omega]; rfl
    · have : (decide (x.n = y.n) && decide (x.s = y.s)) = false := by
        rw [Bool.and_eq_false_iff, decide_eq_false_iff_not, decide_eq_false_iff_not]
        by_cases h1 : x.n = y.n
        · exact .inr fun h2 => hxy (Ent.ext' h1 h2)
        · exact .inl h1
      simp only [this, Bool.not_false]
      repeat' (first|refine bk ?_|refine bkc ?_|refine bks ?_|refine bkd ?_|refine bkq (fun q => ?_)|(refine bk2 ?_ ?_<;>(first|exact bkn|(refine bkk ?_;intro h))))
      refine QS.retV Try.results24 rfl ⟨?_, rfl⟩
      rw [decide_eq_false (fun e => hxy (by rw [e, hy] at hx; exact (Option.some.inj hx).symm))]; rfl
  · refine QS.retV Try.results24 rfl ⟨?_, rfl⟩
    rw [decide_eq_true (by rw [List.take_of_length_le (by omega), List.take_of_length_le (by omega)] at he; exact he)]; rfl

theorem law_same (e e2 : Int) (A B : Option Addr) (k c k2 c2 : Nat) (xs ys : List Ent) (hk : k = xs.length) (hk2 : k2 = ys.length) (hkb : k ≤ 1000000) (W0 : World) (G : List SL) (hR : Rd W0 G entE A xs) (hR2 : Rd W0 G entE B ys) :
    Fn Try.prog 21 [logV e A k c, logV e2 B k2 c2] W0 G (Ret fun v G' => v = .bool (decide (xs = ys ∧ e = e2)) ∧ G' = G) := by
  refine Fn.enter Try.func21 rfl Try.ntmps21 rfl ?_
  repeat' (first|refine bk ?_|refine bkc ?_|refine bks ?_|refine bkd ?_|refine bkq (fun q => ?_)|(refine bk2 ?_ ?_<;>(first|exact bkn|(refine bkk ?_;intro h))))
  refine WL.call c24 rfl rfl rfl rfl (law_entries A B k c k2 c2 xs ys hk hk2 hkb W0 _ hR.cons.cons hR2.cons.cons) ?_
  rintro _ _ ⟨rfl, rfl⟩
  repeat' (first|refine bk ?_|refine bkc ?_|refine bks ?_|refine bkd ?_|refine bkq (fun q => ?_)|(refine bk2 ?_ ?_<;>(first|exact bkn|(refine bkk ?_;intro h))))
  · refine QS.turn (G' := G) (fun w hs => hs.drop.drop) (QS.retV Try.results21 rfl ⟨?_, rfl⟩)
    have : decide (xs = ys ∧ e = e2) = decide (e = e2) := decide_eq_decide.2 ⟨fun h => h.2, fun h => ⟨by assumption, h⟩⟩
    rw [this]; rfl
  · refine QS.turn (G' := G) (fun w hs => hs.drop.drop) (QS.retV Try.results21 rfl ⟨?_, rfl⟩)
    rw [decide_eq_false (fun h => absurd h.1 (by assumption))]; rfl

def ofT (ds : List ByteArray) : Nat → List Ent
  | 0 => []
  | i + 1 => ofT ds i ++ (match ds[i]? with | some d => [⟨(i : Int) + 1, d.extract 0 (min d.size 100)⟩] | none => [])
theorem ofT_len (ds : List ByteArray) : ∀ i, i ≤ ds.length → (ofT ds i).length = i
  | 0, _ => rfl
  | i + 1, h => by
    obtain ⟨x, hx⟩ : ∃ x, ds[i]? = some x := ⟨ds[i]'(by omega), List.getElem?_eq_getElem (by omega)⟩
    rw [ofT, List.length_append, ofT_len ds i (by omega), hx]; rfl
theorem entsOk_snoc : ∀ (xs : List Ent) (k : Nat) (x : Ent), entsOk k (xs ++ [x]) = (entsOk k xs && decide (x.n = ((k + xs.length : Nat) : Int) + 1 ∧ x.s.size ≤ 600))
  | [], k, x => by simp [entsOk]
  | y :: ys, k, x => by
    simp only [List.cons_append, entsOk, entsOk_snoc ys (k + 1) x, List.length_cons, Bool.and_assoc]
    rw [show k + 1 + ys.length = k + (ys.length + 1) from by omega]
theorem ofT_ok (ds : List ByteArray) : ∀ i, i ≤ ds.length → entsOk 0 (ofT ds i) = true
  | 0, _ => rfl
  | i + 1, h => by
    obtain ⟨x, hx⟩ : ∃ x, ds[i]? = some x := ⟨ds[i]'(by omega), List.getElem?_eq_getElem (by omega)⟩
    rw [ofT, hx]
    simp only
    rw [entsOk_snoc, ofT_ok ds i (by omega), ofT_len ds i (by omega), Bool.true_and, decide_eq_true_eq, Nat.zero_add]
    refine ⟨rfl, ?_⟩
    simp only [ByteArray.size_extract]
    omega
def ofM (ds : List ByteArray) : List Ent := ofT ds (min ds.length 30)
set_option maxHeartbeats 2000000 in
theorem law_of (n : Int) (hn : I64 n) (A : Option Addr) (k c : Nat) (ds : List ByteArray) (hk : k = ds.length) (W0 : World) (G : List SL) (hR : Rd W0 G strE A ds) :
    Fn Try.prog 22 [.int .i64 n, .slice A k c] W0 G (Ret fun v G' => ∃ B c', v = logV (pickM n 1000) B (ofM ds).length c' ∧ G' = slc entE 53 B c' (ofM ds) :: G) := by
  refine Fn.enter Try.func22 rfl Try.ntmps22 rfl ?_
  repeat' (first|refine bk ?_|refine bkc ?_|refine bks ?_|refine bkd ?_|refine bkq (fun q => ?_)|(refine bk2 ?_ ?_<;>(first|exact bkn|(refine bkk ?_;intro h))))
  refine WL.call c23 rfl rfl rfl rfl (law_pick n 1000 hn (by decide) W0 _) ?_
  rintro _ _ ⟨rfl, rfl⟩
  repeat' (first|refine bk ?_|refine bkc ?_|refine bks ?_|refine bkd ?_|refine bkq (fun q => ?_)|(refine bk2 ?_ ?_<;>(first|exact bkn|(refine bkk ?_;intro h))))
  rename_i q4
  refine CS.loop (X := Nat × Option Addr × Nat) (fun x => [(1, .slice A k c), (4, .pointer (some ⟨q4, 0, none⟩)), (5, .pointer (some ⟨q, 0, none⟩)), (6, .int .i64 (x.1 : Int))])
    (fun x => slc entE 53 x.2.1 x.2.2 (ofT ds x.1) :: row q 24 [.int .i64 (pickM n 1000), .slice x.2.1 x.1 x.2.2] :: row q4 24 [.int .i64 0, .slice none 0 0] :: G)
    (fun x => x.1 ≤ 30 ∧ x.1 ≤ k) (fun x => 30 - x.1) (0, none, 0) ⟨rfl, rfl, rfl, rfl, trivial⟩ (fun w hs => hs.slcNil _ _) ⟨Nat.zero_le _, Nat.zero_le _⟩ ?_
  rintro ⟨i, B, c'⟩ ⟨hi, hi2⟩
  simp only at *
  refine CS.world fun hw => ?_
  have hlen : i ≤ ds.length := by omega
  have hol := ofT_len ds i hlen
  repeat' (first|refine bk ?_|refine bkc ?_|refine bks ?_|refine bkd ?_|refine bkq (fun q => ?_)|(refine bk2 ?_ ?_<;>(first|exact bkn|(refine bkk ?_;intro h))))
  · obtain ⟨x, hx⟩ : ∃ x, ds[i]? = some x := ⟨ds[i]'(by omega), List.getElem?_eq_getElem (by omega)⟩
    refine CS.drawS 16 mixed (by kernel_rfl) rfl ?_
    repeat' (first|refine bk ?_|refine bkh ?_|refine bkw ?_|refine bkq (fun q => ?_)|((first|refine bk2 ?_ ?_|refine bk2h ?_ ?_)<;>(first|exact bkn|(refine bkk ?_;intro h))))
    refine WS.idx TT hR.cons.cons.cons rfl rfl hk (by omega) (by rw [Int.toNat_natCast]; exact hx) rfl rfl rfl rfl hw (fun b2 o hA => ?_)
    refine WS.s (op1_at TT hA rfl rfl rfl rfl) rfl ?_
    repeat' (first|refine bk ?_|refine bkh ?_|refine bkw ?_|refine bkq (fun q => ?_)|((first|refine bk2 ?_ ?_|refine bk2h ?_ ?_)<;>(first|exact bkn|(refine bkk ?_;intro h))))
    refine WS.idx TT hR.cons.cons.cons rfl rfl hk (by omega) (by rw [Int.toNat_natCast]; exact hx) rfl rfl rfl rfl hw (fun b3 o3 hA3 => ?_)
    refine WS.s (op1_at TT hA3 rfl rfl rfl rfl) rfl ?_
    repeat' (first|refine bk ?_|refine bkh ?_|refine bkw ?_|refine bkq (fun q => ?_)|((first|refine bk2 ?_ ?_|refine bk2h ?_ ?_)<;>(first|exact bkn|(refine bkk ?_;intro h))))
    refine WS.s (op1_slice (l := 0) (r := if (100 : Int) < (x.size : Int) then 100 else (x.size : Int)) TT rfl rfl rfl rfl (by split <;> omega)) rfl ?_
    have hmin : (if (100 : Int) < (x.size : Int) then (100 : Int) else (x.size : Int)).toNat = min x.size 100 := by split <;> omega
    rw [hmin]
    repeat' (first|refine bk ?_|refine bkh ?_|refine bkw ?_|refine bkq (fun q => ?_)|((first|refine bk2 ?_ ?_|refine bk2h ?_ ?_)<;>(first|exact bkn|(refine bkk ?_;intro h))))
    refine WS.buildSlice TT rfl rfl rfl rfl rfl rfl rfl rfl rfl (fun qs => ?_)
    refine WL.append TT (E := entE) (xs := ofT ds i) (ys := [⟨(i : Int) + 1, x.extract 0 (min x.size 100)⟩]) 1 rfl hol.symm rfl rfl rfl (Rd.row (i := 0) rfl (flat_ent _)) rfl rfl rfl rfl rfl (by decide) (by simp only [List.length_cons, List.length_nil, hol]; omega) (fun _ _ => rfl) rfl (fun A' c2 => ?_)
    repeat' (first|refine bk ?_|refine bkc ?_|refine bks ?_|refine bkd ?_|refine bkq (fun q => ?_)|(refine bk2 ?_ ?_<;>(first|exact bkn|(refine bkk ?_;intro h))))
    have e1 : ofT ds (i + 1) = ofT ds i ++ [⟨(i : Int) + 1, x.extract 0 (min x.size 100)⟩] := by rw [ofT, hx]
    have e2 : (ofT ds i ++ [(⟨(i : Int) + 1, x.extract 0 (min x.size 100)⟩ : Ent)]).length = i + 1 := by rw [List.length_append, hol]; rfl
    refine QS.again (i + 1, A', c2) ⟨by simp only; omega, by simp only; omega⟩ (by simp only; omega) ⟨rfl, rfl, rfl, ?_, trivial⟩ (fun w hs => ?_)
    · rw [show ((i + 1 : Nat) : Int) = (i : Int) + 1 from by omega]; rfl
    · simp only
      rw [e2] at hs
      rw [e1]
      exact hs.drop
  all_goals
    have hie : i = min ds.length 30 := by omega
    refine QS.turnR (G2 := slc entE 53 B c' (ofM ds) :: G) (fun w hs => ?_) ?_
    · rw [ofM, ← hie]; exact (hs.kick (i := 1) rfl).kick (i := 1) rfl
    refine QS.retC TT 2 Try.results22 rfl rfl rfl rfl ⟨rfl, B, c', ?_, rfl⟩
    rw [ofM, ← hie, hol]; rfl
end Go.Proofs.Ytpklbelejebcfaa.B
