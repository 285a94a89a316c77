import Derived.Test.YtgebdehpoalfbaaMg20
set_option linter.unusedVariables false
set_option linter.unusedSimpArgs false
set_option maxRecDepth 8000
/-! What the blocks' laws are made of. -/
namespace Go.Proofs.Ytgebdehpoalfbaa.B
open Go Go.Proofs
attribute [local irreducible] WL CS QS WQ WH WS Fn Op1 row Sat
attribute [local irreducible] slc mapb bmA inners
theorem law_pick (n m : Int) (hn : -9223372036854775808 ≤ n ∧ n ≤ 9223372036854775807) (hm : 0 < m) (W0 : World) (G : List SL) :
    Fn Try.prog 14 [.int .i64 n, .int .i64 m] W0 G (Ret fun v G' => v = .int .i64 (pickM n m) ∧ G' = G) := by
  refine Fn.enter Try.func14 rfl Try.ntmps14 rfl ?_
  have hm0 : decide (m = 0) = false := decide_eq_false (by omega)
  repeat' (first|refine bk ?_|refine bkc ?_|refine bks ?_|refine bkd ?_|refine bkq (fun q => ?_)|(refine bk2 ?_ ?_<;>(first|exact bkn|(refine bkk ?_;intro h))))
  all_goals
    refine WL.s (op1_rem TT rfl rfl (by omega)) rfl ?_
    repeat' (first|refine bk ?_|refine bkc ?_|refine bks ?_|refine bkd ?_|refine bkq (fun q => ?_)|(refine bk2 ?_ ?_<;>(first|exact bkn|(refine bkk ?_;intro h))))
    refine QS.retV Try.results14 rfl ⟨?_, rfl⟩
    first
      | (rw [pickM, if_pos (by assumption)]; rfl)
      | (rw [pickM, if_neg (by assumption)]; rfl)
theorem law_numbers (A B : Option Addr) (c c2 : Nat) (xs : List Int) (hl : xs.length ≤ 1000000) (W0 : World) (G : List SL) (hR : Rd W0 G intE A xs) (hR2 : Rd W0 G intE B xs) :
    Fn Try.prog 15 [.slice A xs.length c, .slice B xs.length c2] W0 G (Ret fun v G' => v = .bool true ∧ G' = G) := by
  refine Fn.enter Try.func15 rfl Try.ntmps15 rfl ?_
  have hne : decide ((xs.length : Int) = xs.length) = true := by simp
  repeat' (first|refine bk ?_|refine bkc ?_|refine bks ?_|refine bkd ?_|refine bkq (fun q => ?_)|(refine bk2 ?_ ?_<;>(first|exact bkn|(refine bkk ?_;intro h))))
  refine CS.loop (X := Nat) (fun i => [(0, .slice A xs.length c), (1, .slice B xs.length c2), (5, .int .i64 (i : Int))]) (fun i => G)
    (fun i => i ≤ xs.length) (fun i => xs.length - i) 0 ⟨rfl, rfl, rfl, trivial⟩ (fun w hs => hs) (Nat.zero_le _) ?_
  intro i hi
  refine CS.world fun hw => ?_
  repeat' (first|refine bk ?_|refine bkc ?_|refine bks ?_|refine bkd ?_|refine bkq (fun q => ?_)|(refine bk2 ?_ ?_<;>(first|exact bkn|(refine bkk ?_;intro h))))
  · obtain ⟨x, hx⟩ : ∃ x, xs[i]? = some x := ⟨xs[i]'(by omega), List.getElem?_eq_getElem (by omega)⟩
    refine WQ.idx TT hR rfl rfl rfl (by omega) (by rw [Int.toNat_natCast]; exact hx) rfl rfl rfl rfl hw (fun b2 o hA => ?_)
    refine WQ.s (op1_at TT hA rfl rfl rfl rfl) rfl ?_
    repeat' (first|refine bk ?_|refine bkc ?_|refine bks ?_|refine bkd ?_|refine bkq (fun q => ?_)|(refine bk2 ?_ ?_<;>(first|exact bkn|(refine bkk ?_;intro h))))
    refine WQ.idx TT hR2 rfl rfl rfl (by omega) (by rw [Int.toNat_natCast]; exact hx) rfl rfl rfl rfl hw (fun b3 o3 hA3 => ?_)
    refine WQ.s (op1_at TT hA3 rfl rfl rfl rfl) rfl ?_
    repeat' (first|refine bk ?_|refine bkc ?_|refine bks ?_|refine bkd ?_|refine bkq (fun q => ?_)|(refine bk2 ?_ ?_<;>(first|exact bkn|(refine bkk ?_;intro h))))
    exact QS.again (i + 1) (by show i + 1 ≤ xs.length; omega) (by show xs.length - (i + 1) < xs.length - i; omega) ⟨rfl, rfl, rfl, trivial⟩ (fun w hs => hs)
  · exact QS.retV Try.results15 rfl ⟨rfl, rfl⟩
theorem law_same (A B : Option Addr) (c c2 : Nat) (xs : List Blk) (hl : xs.length ≤ 1000000) (W0 : World) (G : List SL) (hR : Rd W0 G blkE A xs) (hR2 : Rd W0 G blkE B xs) :
    Fn Try.prog 24 [.slice A xs.length c, .slice B xs.length c2] W0 G (Ret fun v G' => v = .bool true ∧ G' = G) := by
  refine Fn.enter Try.func24 rfl Try.ntmps24 rfl ?_
  repeat' (first|refine bk ?_|refine bkc ?_|refine bks ?_|refine bkd ?_|refine bkq (fun q => ?_)|(refine bk2 ?_ ?_<;>(first|exact bkn|(refine bkk ?_;intro h))))
  refine CS.loop (X := Nat) (fun i => [(0, .slice A xs.length c), (1, .slice B xs.length c2), (5, .int .i64 (i : Int))]) (fun i => G)
    (fun i => i ≤ xs.length) (fun i => xs.length - i) 0 ⟨rfl, rfl, rfl, trivial⟩ (fun w hs => hs) (Nat.zero_le _) ?_
  intro i hi
  refine CS.world fun hw => ?_
  repeat' (first|refine bk ?_|refine bkc ?_|refine bks ?_|refine bkd ?_|refine bkq (fun q => ?_)|(refine bk2 ?_ ?_<;>(first|exact bkn|(refine bkk ?_;intro h))))
  · obtain ⟨x, hx⟩ : ∃ x, xs[i]? = some x := ⟨xs[i]'(by omega), List.getElem?_eq_getElem (by omega)⟩
    refine WQ.idx TT hR rfl rfl rfl (by omega) (by rw [Int.toNat_natCast]; exact hx) rfl rfl rfl rfl hw (fun b2 o hA => ?_)
    refine WQ.s (op1_at TT hA rfl rfl rfl rfl) rfl ?_
    repeat' (first|refine bk ?_|refine bkc ?_|refine bks ?_|refine bkd ?_|refine bkq (fun q => ?_)|(refine bk2 ?_ ?_<;>(first|exact bkn|(refine bkk ?_;intro h))))
    refine WQ.idx TT hR2 rfl rfl rfl (by omega) (by rw [Int.toNat_natCast]; exact hx) rfl rfl rfl rfl hw (fun b3 o3 hA3 => ?_)
    refine WQ.s (op1_at TT hA3 rfl rfl rfl rfl) rfl ?_
    have hcmp : eqFs TT [(3, 0), (3, 1), (3, 2)] (blkC x) (blkC x) = some true := by
      have e : (decide (x.id = x.id) && (decide (x.gen = x.gen) && (decide (x.len = x.len) && true))) = true := by simp
      exact (show eqFs TT [(3, 0), (3, 1), (3, 2)] (blkC x) (blkC x) = some (decide (x.id = x.id) && (decide (x.gen = x.gen) && (decide (x.len = x.len) && true))) from rfl).trans (by rw [e])
    refine WQ.s (op1_neS TT cmp28 rfl rfl rfl rfl hcmp) rfl ?_
    repeat' (first|refine bk ?_|refine bkc ?_|refine bks ?_|refine bkd ?_|refine bkq (fun q => ?_)|(refine bk2 ?_ ?_<;>(first|exact bkn|(refine bkk ?_;intro h))))
    exact QS.again (i + 1) (by show i + 1 ≤ xs.length; omega) (by show xs.length - (i + 1) < xs.length - i; omega) ⟨rfl, rfl, rfl, trivial⟩ (fun w hs => hs)
  · exact QS.retV Try.results24 rfl ⟨rfl, rfl⟩
end Go.Proofs.Ytgebdehpoalfbaa.B

set_option linter.unusedVariables false
set_option linter.unusedSimpArgs false
set_option maxRecDepth 8000
/-! The document's own lists of what nodes have, in plain words. -/
namespace Go.Proofs.Ytgebdehpoalfbaa.B
open Go Go.Proofs
theorem keyed_get : ∀ (l : List Rep) (i : Int), aget (keyed l) i = (l.find? fun r => decide (r.id = i)).map Rep.blk
  | [], _ => rfl
  | r :: l, i => by
    have ih := keyed_get l i
    unfold keyed at ih ⊢
    simp only [List.map_cons, aget, List.find?_cons]
    by_cases h : r.id = i
    · rw [if_pos h, decide_eq_true h]; rfl
    · rw [if_neg h, decide_eq_false h]; exact ih
def ddR (acc : List Rep) (r : Rep) : List Rep := if (acc.find? fun x => decide (x.id = r.id)).isSome = true then acc else acc ++ [r]
def ddl (l : List Rep) : List Rep := l.foldl ddR []
theorem ddl_take {l : List Rep} {i : Nat} {r : Rep} (h : l[i]? = some r) : ddl (l.take (i + 1)) = ddR (ddl (l.take i)) r := by
  unfold ddl
  rw [List.take_add_one, h, Option.toList_some, List.foldl_append]
  rfl
theorem dd_keyed (acc : List Rep) (r : Rep) : keyed (ddR acc r) = insB (keyed acc) r := by
  unfold ddR insB
  rw [keyed_get]
  cases h : acc.find? fun x => decide (x.id = r.id) with
  | some x => rfl
  | none =>
    simp only [Option.isSome_none, Option.map_none, Bool.false_eq_true, if_false]
    rw [aput_new (by rw [keyed_get, h]; rfl)]
    simp [keyed]
theorem ddl_keyed (l : List Rep) : keyed (ddl l) = nmOf l := by
  unfold ddl nmOf
  have : ∀ (l : List Rep) (acc : List Rep), keyed (l.foldl ddR acc) = l.foldl insB (keyed acc) := by
    intro l
    induction l with
    | nil => intro acc; rfl
    | cons r l ih => intro acc; rw [List.foldl_cons, List.foldl_cons, ih, dd_keyed]
  exact this l []
theorem ddl_nodup (l : List Rep) : ((ddl l).map (·.id)).Nodup := by
  have h := nmOf_nodup l
  rw [← ddl_keyed, keyed_keys] at h
  exact h
theorem ddl_len (l : List Rep) : (ddl l).length ≤ l.length := by
  have h := nmOf_len l
  rw [← ddl_keyed] at h
  simpa [keyed] using h
structure Cp (M : BM) (L : Nat → List Rep) (s : Nat → Bool) : Prop where
  ok : BMOk M
  seen : ∀ k : Nat, k < 4 → s k = (aget M (k : Int)).isSome
  eq : ∀ k : Nat, k < 4 → M.at (k : Int) = keyed (L k)
  len : ∀ k : Nat, k < 4 → (L k).length ≤ 30
def updF {α : Type} (f : Nat → α) (n : Nat) (x : α) : Nat → α := fun k => if k = n then x else f k
theorem cp0 : Cp [] (fun _ => []) (fun _ => false) := ⟨bm0, fun _ _ => rfl, fun _ _ => rfl, fun _ _ => Nat.zero_le _⟩
theorem Cp.report {M : BM} {L : Nat → List Rep} {s : Nat → Bool} (h : Cp M L s) {n : Nat} (hn : n < 4) {l : List Rep} (hl : l.length ≤ 30) : Cp (M.report (n : Int) l) (updF L n (ddl l)) (updF s n true) := by
  refine ⟨report_ok h.ok _ _, fun k hk => ?_, fun k hk => ?_, fun k hk => ?_⟩
  · rw [report_get (by omega)]
    unfold updF
    by_cases e : k = n
    · subst e; rw [if_pos rfl, if_pos rfl]; rfl
    · rw [if_neg e, if_neg (by omega)]; exact h.seen k hk
  · rw [report_at (by omega)]
    unfold updF
    by_cases e : k = n
    · subst e; rw [if_pos rfl, if_pos rfl, ddl_keyed]
    · rw [if_neg e, if_neg (by omega)]; exact h.eq k hk
  · unfold updF
    split
    · exact Nat.le_trans (ddl_len l) hl
    · exact h.len k hk
theorem Cp.lost {M : BM} {L : Nat → List Rep} {s : Nat → Bool} (h : Cp M L s) {n : Nat} (hn : n < 4) : Cp (M.lost (n : Int)) (updF L n []) (updF s n false) := by
  have hat : ∀ k : Nat, (M.lost (n : Int)).at (k : Int) = if (n : Int) = k then [] else M.at k := fun k => by
    unfold BM.at
    rw [lost_get h.ok]
    split <;> rfl
  refine ⟨lost_ok h.ok _, fun k hk => ?_, fun k hk => ?_, fun k hk => ?_⟩
  · rw [lost_get h.ok]
    unfold updF
    by_cases e : k = n
    · subst e; rw [if_pos rfl, if_pos rfl]; rfl
    · rw [if_neg e, if_neg (by omega)]; exact h.seen k hk
  · rw [hat]
    unfold updF
    by_cases e : k = n
    · subst e; rw [if_pos rfl, if_pos rfl]; rfl
    · rw [if_neg e, if_neg (by omega)]; exact h.eq k hk
  · unfold updF
    split
    · exact Nat.zero_le _
    · exact h.len k hk
theorem report_out {M : BM} {n : Int} (hn : ¬ (0 ≤ n ∧ n < 4)) (l : List Rep) : M.report n l = M := by unfold BM.report; rw [if_neg hn]
theorem out_get {M : BM} (hM : BMOk M) {n : Int} (hn : ¬ (0 ≤ n ∧ n < 4)) : aget M n = none := aget_none.2 fun h => hn (hM.keys n h)
theorem adel_none {κ ν : Type} [DecidableEq κ] : ∀ {l : List (κ × ν)} {k : κ}, aget l k = none → adel l k = l
  | [], _, _ => rfl
  | (j, y) :: r, k, h => by
    simp only [aget] at h
    simp only [adel]
    split at h
    · cases h
    · rename_i e
      rw [if_neg e, adel_none h]
theorem lost_out {M : BM} (hM : BMOk M) {n : Int} (hn : ¬ (0 ≤ n ∧ n < 4)) : M.lost n = M := adel_none (out_get hM hn)
theorem stale_out {M : BM} (hM : BMOk M) {n : Int} (hn : ¬ (0 ≤ n ∧ n < 4)) (l : List Blk) : M.stale l n = [] := by
  unfold BM.stale BM.at
  rw [out_get hM hn]
  exact sortI_of (List.Perm.refl _) List.Pairwise.nil
/-- The holders among the first k. -/
def holdP (M : BM) (z : Blk) (k : Nat) : List Int := ((List.range k).map fun i : Nat => (i : Int)).filter (M.holds z)
theorem holdP_succ (M : BM) (z : Blk) (k : Nat) : holdP M z (k + 1) = holdP M z k ++ (if M.holds z (k : Int) = true then [(k : Int)] else []) := by
  unfold holdP
  rw [List.range_succ, List.map_append, List.filter_append]
  congr 1
  simp only [List.map_cons, List.map_nil, List.filter_cons, List.filter_nil]
theorem holdP_all {M : BM} (hM : BMOk M) (z : Blk) : holdP M z 4 = M.hold z := by rw [hold_eq hM]; rfl
theorem holdP_len (M : BM) (z : Blk) (k : Nat) : (holdP M z k).length ≤ k := by
  unfold holdP
  exact Nat.le_trans (List.length_filter_le _ _) (by simp)
def nodesP (M : BM) (k : Nat) : List Int := ((List.range k).map fun i : Nat => (i : Int)).filter fun n => (aget M n).isSome
theorem nodesP_succ (M : BM) (k : Nat) : nodesP M (k + 1) = nodesP M k ++ (if (aget M (k : Int)).isSome = true then [(k : Int)] else []) := by
  unfold nodesP
  rw [List.range_succ, List.map_append, List.filter_append]
  congr 1
  simp only [List.map_cons, List.map_nil, List.filter_cons, List.filter_nil]
theorem nodesP_all {M : BM} (hM : BMOk M) : nodesP M 4 = M.nodes := by rw [nodes_eq hM]; rfl
theorem nodesP_len (M : BM) (k : Nat) : (nodesP M k).length ≤ k := by
  unfold nodesP
  exact Nat.le_trans (List.length_filter_le _ _) (by simp)
theorem Cp.holds {M : BM} {L : Nat → List Rep} {s : Nat → Bool} (h : Cp M L s) {k : Nat} (hk : k < 4) (z : Blk) :
    M.holds z (k : Int) = (s k && (match (L k).find? fun r => decide (r.id = z.id) with | some r => decide (r.gen = z.gen) && decide (z.len ≤ r.len) | none => false)) := by
  unfold BM.holds
  rw [h.eq k hk, keyed_get, h.seen k hk]
  cases hf : (L k).find? fun r => decide (r.id = z.id) with
  | none => simp [okR]
  | some r =>
    have hs : (aget M (k : Int)).isSome = true := by
      cases e : aget M (k : Int) with
      | some _ => rfl
      | none =>
        have h2 := h.eq k hk
        unfold BM.at at h2
        rw [e] at h2
        have h3 : keyed (L k) = [] := h2.symm
        have h4 : L k = [] := by simpa [keyed] using h3
        rw [h4] at hf
        cases hf
    rw [hs]
    rfl
/-! Sorting by insertion. -/
theorem ins_sorted {xs : List Int} {x : Int} {k : Nat} (hs : xs.Pairwise (· ≤ ·)) (h1 : ∀ j y, j < k → xs[j]? = some y → y ≤ x) (h2 : ∀ j y, k ≤ j → xs[j]? = some y → x ≤ y) : (xs.take k ++ [x] ++ xs.drop k).Pairwise (· ≤ ·) := by
  have m1 : ∀ a ∈ xs.take k, a ≤ x := fun a ha => by
    obtain ⟨j, hj⟩ := List.mem_iff_getElem?.1 ha
    rw [List.getElem?_take] at hj
    split at hj
    · exact h1 j a (by assumption) hj
    · cases hj
  have m2 : ∀ a ∈ xs.drop k, x ≤ a := fun a ha => by
    obtain ⟨j, hj⟩ := List.mem_iff_getElem?.1 ha
    rw [List.getElem?_drop] at hj
    exact h2 (k + j) a (by omega) hj
  rw [List.append_assoc, List.pairwise_append]
  refine ⟨hs.sublist (List.take_sublist _ _), ?_, fun a ha b hb => ?_⟩
  · rw [List.singleton_append, List.pairwise_cons]
    exact ⟨m2, hs.sublist (List.drop_sublist _ _)⟩
  · rcases List.mem_append.1 hb with hb | hb
    · simp only [List.mem_singleton] at hb; subst hb; exact m1 a ha
    · exact Int.le_trans (m1 a ha) (m2 b hb)
theorem ins_perm (xs : List Int) (x : Int) (k : Nat) : (xs.take k ++ [x] ++ xs.drop k).Perm (xs ++ [x]) := by
  have h : (xs.take k ++ [x] ++ xs.drop k).Perm (xs.take k ++ xs.drop k ++ [x]) := by
    rw [List.append_assoc, List.append_assoc]
    exact (List.Perm.append_left _ List.perm_append_comm)
  rwa [List.take_append_drop] at h
def stP (all : List Blk) (l : List Rep) (k : Nat) : List Int := sortI (((keyed (l.take k)).filter fun p => !needB all p.1 p.2.gen).map (·.1))
theorem stP_skip {all : List Blk} {l : List Rep} {k : Nat} {r : Rep} (h : l[k]? = some r) (hn : needB all r.id r.gen = true) : stP all l (k + 1) = stP all l k := by
  unfold stP keyed
  rw [List.take_add_one, h, Option.toList_some, List.map_append, List.filter_append]
  simp [List.filter_cons, Rep.blk, hn]
theorem stP_ins {all : List Blk} {l : List Rep} {k : Nat} {r : Rep} (h : l[k]? = some r) (hn : needB all r.id r.gen = false) {a : Nat} (h1 : ∀ j y, j < a → (stP all l k)[j]? = some y → y ≤ r.id) (h2 : ∀ j y, a ≤ j → (stP all l k)[j]? = some y → r.id ≤ y) :
    stP all l (k + 1) = (stP all l k).take a ++ [r.id] ++ (stP all l k).drop a := by
  have e : ((keyed (l.take (k + 1))).filter fun p => !needB all p.1 p.2.gen).map (·.1) = ((keyed (l.take k)).filter fun p => !needB all p.1 p.2.gen).map (·.1) ++ [r.id] := by
    unfold keyed
    rw [List.take_add_one, h, Option.toList_some, List.map_append, List.filter_append]
    simp [List.filter_cons, Rep.blk, hn]
  have hs : (stP all l k).Pairwise (· ≤ ·) := sortI_sorted _
  unfold stP at h1 h2 hs ⊢
  rw [e]
  exact sortI_of ((List.Perm.append_right [r.id] (sortI_perm _).symm).trans (ins_perm _ _ a).symm) (ins_sorted hs h1 h2)
theorem stP_len (all : List Blk) (l : List Rep) (k : Nat) : (stP all l k).length ≤ l.length := by
  unfold stP
  rw [sortI_len, List.length_map]
  refine Nat.le_trans (List.length_filter_le _ _) ?_
  unfold keyed
  rw [List.length_map, List.length_take]
  omega
theorem Cp.stale {M : BM} {L : Nat → List Rep} {s : Nat → Bool} (h : Cp M L s) {n : Nat} (hn : n < 4) (all : List Blk) : stP all (L n) (L n).length = M.stale all (n : Int) := by
  unfold stP BM.stale
  rw [h.eq n hn, List.take_length]
end Go.Proofs.Ytgebdehpoalfbaa.B
