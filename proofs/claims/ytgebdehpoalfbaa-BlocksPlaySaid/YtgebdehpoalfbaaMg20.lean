import Derived.Test.YtgebdehpoalfbaaMg19
import Derived.Test.YtgebdehpoalfbaaMg13
set_option linter.unusedVariables false
set_option linter.unusedSimpArgs false
set_option maxRecDepth 8000
/-! Stale. -/
namespace Go.Proofs.Ytgebdehpoalfbaa.B
open Go Go.Proofs
attribute [local irreducible] WL CS QS WQ WH WS Fn Op1 row Sat
attribute [local irreducible] slc mapb bmA inners
structure StInv (all : List Blk) (h : NM) (x : MapL h) (seen : Array Nat) (os : List Int) : Prop where
  perm : (os ++ stE all (leftOf x.l.toArray seen).toList).Perm (stE all x.l)
set_option maxHeartbeats 2000000 in
theorem blocks_Stale (b : Nat) (M : BM) (A : Option Addr) (c : Nat) (l : List Blk) (hl : l.length ≤ 1000000) (n : Int) (hn : (M.at n).length ≤ 1000000) (W0 : World) (F : List SL) (hR : Rd W0 F blkE A l) :
    Fn Try.prog 11 [.pointer (some ⟨b, 0, none⟩), .slice A l.length c, .int .i64 n] W0 (bmA b M :: F)
      (Ret fun v G' => ∃ A2 c2, v = .slice A2 (M.stale l n).length c2 ∧ G' = slc intE 3 A2 c2 (M.stale l n) :: bmA b M :: F) := by
  refine Fn.ex (fun w hs => bmA_open w hs) ?_
  rintro ⟨⟨m, kv⟩, hkv⟩
  simp only at hkv ⊢
  subst hkv
  cases hx : aget kv n with
  | none =>
    have hst : (flatK kv).stale l n = [] := by
      unfold BM.stale BM.at
      rw [flatK_get, hx]
      exact sortI_of (List.Perm.refl _) List.Pairwise.nil
    rw [hst]
    refine Fn.enter Try.func11 rfl Try.ntmps11 rfl ?_
    repeat' (first|refine bk ?_|refine bkc ?_|refine bks ?_|refine bkd ?_|refine bkq (fun q => ?_)|(refine bk2 ?_ ?_<;>(first|exact bkn|(refine bkk ?_;intro h))))
    refine WL.s (op1_lookupN TT 1 (kk := intK) (ev := nodeV) (k := n) (ok := false) rfl rfl rfl rfl rfl rfl hx) rfl ?_
    refine WL.rangeN TT (by rfl) rfl rfl (fun r => ?_)
    repeat' (first|refine bk ?_|refine bkc ?_|refine bks ?_|refine bkd ?_|refine bkq (fun q => ?_)|(refine bk2 ?_ ?_<;>(first|exact bkn|(refine bkk ?_;intro h))))
    refine CS.loop (X := Unit) (fun _ => [(7, .slice none 0 0), (16, .pointer (some ⟨r, 0, none⟩))])
      (fun _ => blk r (.mapIter none 0 #[] 0) :: row b 61 [.map (some m)] :: mapb intK nodeV m kv :: inners kv :: F) (fun _ => True) (fun _ => 0) () ⟨rfl, rfl, trivial⟩ (fun w hs => hs) trivial ?_
    intro _ _
    repeat' (first|refine bk ?_|refine bkc ?_|refine bks ?_|refine bkd ?_|refine bkq (fun q => ?_)|(refine bk2 ?_ ?_<;>(first|exact bkn|(refine bkk ?_;intro h))))
    refine WL.s (op1_nextN 0 rfl rfl) rfl ?_
    repeat' (first|refine bk ?_|refine bkc ?_|refine bks ?_|refine bkd ?_|refine bkq (fun q => ?_)|(refine bk2 ?_ ?_<;>(first|exact bkn|(refine bkk ?_;intro h))))
    refine WL.call c29 rfl rfl rfl rfl ((sort_ints (A := none) (c := 0) (xs := []) (by decide) W0 _).pre (fun w hs => hs.slcNil intE 3)) ?_
    rintro _ _ ⟨rfl, rfl⟩
    repeat' (first|refine bk ?_|refine bkc ?_|refine bks ?_|refine bkd ?_|refine bkq (fun q => ?_)|(refine bk2 ?_ ?_<;>(first|exact bkn|(refine bkk ?_;intro h))))
    refine QS.turn (G' := slc intE 3 none 0 [] :: bmA b (flatK kv) :: F) (fun w hs => ?_) (QS.retV Try.results11 rfl ⟨none, 0, rfl, rfl⟩)
    have h1 := (hs.drop.drop)
    exact (bmA_shut (m := m) (kv := kv) rfl w h1).slcNil intE 3
  | some x =>
    obtain ⟨mi, h⟩ := x
    have hat : (flatK kv).at n = h := by
      unfold BM.at
      rw [flatK_get, hx]
      rfl
    refine Fn.ex (A := fun x : MapL h => blk mi (.map x.l.toArray x.c) :: row b 61 [.map (some m)] :: mapb intK nodeV m kv :: inners (adel kv n) :: F) (fun w hs => ?_) ?_
    · obtain ⟨x, h1⟩ := mapb_raw w (inners_open hx (hs.front (i := 2) rfl))
      exact ⟨x, ((h1.front (i := 1) rfl).front (i := 3) rfl |>.front (i := 3) rfl).front (i := 3) rfl⟩
    intro x
    obtain ⟨hd1, hd2⟩ := decE_all x.hmap
    have hstp : (stE l x.l).Perm (((flatK kv).at n).filter (fun p => !needB l p.1 p.2.gen) |>.map (·.1)) := by
      unfold stE
      rw [hd1, hat]
    refine Fn.enter Try.func11 rfl Try.ntmps11 rfl ?_
    repeat' (first|refine bk ?_|refine bkc ?_|refine bks ?_|refine bkd ?_|refine bkq (fun q => ?_)|(refine bk2 ?_ ?_<;>(first|exact bkn|(refine bkk ?_;intro h))))
    refine WL.s (op1_look1S TT 2 (kk := intK) (ev := nodeV) (k := n) rfl rfl rfl rfl rfl rfl hx) rfl ?_
    refine WL.rangeM TT 0 (es := x.l.toArray) (clock := x.c) (by rfl) rfl rfl rfl (fun r => ?_)
    repeat' (first|refine bk ?_|refine bkc ?_|refine bks ?_|refine bkd ?_|refine bkq (fun q => ?_)|(refine bk2 ?_ ?_<;>(first|exact bkn|(refine bkk ?_;intro h))))
    refine CS.loop (X := Array Nat × List Int × Option Addr × Nat) (fun y => [(1, .slice A l.length c), (7, .slice y.2.2.1 y.2.1.length y.2.2.2), (16, .pointer (some ⟨r, 0, none⟩))])
      (fun y => slc intE 3 y.2.2.1 y.2.2.2 y.2.1 :: blk r (.mapIter (some mi) x.c y.1 x.c) :: blk mi (.map x.l.toArray x.c) :: row b 61 [.map (some m)] :: mapb intK nodeV m kv :: inners (adel kv n) :: F)
      (fun y => StInv l h x y.1 y.2.1) (fun y => (leftOf x.l.toArray y.1).size) (#[], [], none, 0) ⟨rfl, rfl, rfl, trivial⟩ (fun w hs => hs.slcNil intE 3) ⟨by
        have e : (leftOf x.l.toArray #[]).toList = x.l := by unfold leftOf; rw [Array.toList_filter]; exact List.filter_eq_self.2 (fun y _ => by simp)
        rw [e]; exact List.Perm.refl _⟩ ?_
    rintro ⟨seen, os, A5, c5⟩ hI
    simp only at hI ⊢
    have hos : os.length ≤ 1000000 := by
      have h1 := hI.perm.length_eq
      have h2 := hstp.length_eq
      rw [List.length_append] at h1
      have h3 : (((flatK kv).at n).filter (fun p => !needB l p.1 p.2.gen) |>.map (·.1)).length ≤ ((flatK kv).at n).length := by rw [List.length_map]; exact List.length_filter_le _ _
      omega
    repeat' (first|refine bk ?_|refine bkc ?_|refine bks ?_|refine bkd ?_|refine bkq (fun q => ?_)|(refine bk2 ?_ ?_<;>(first|exact bkn|(refine bkk ?_;intro h))))
    refine WL.nextM 1 2 (by rfl) rfl rfl (fun e he => x.hb.2 e (by simpa using he)) (Nat.le_refl _) rfl (fun _ => rfl) (fun h0 => ?_) (fun e he => ?_)
    · repeat' (first|refine bk ?_|refine bkc ?_|refine bks ?_|refine bkd ?_|refine bkq (fun q => ?_)|(refine bk2 ?_ ?_<;>(first|exact bkn|(refine bkk ?_;intro h))))
      have hnil : (leftOf x.l.toArray seen).toList = [] := List.eq_nil_of_length_eq_zero (by simpa using h0)
      have hpm := hI.perm
      rw [hnil] at hpm
      have hpm2 : os.Perm (stE l x.l) := by simpa [stE] using hpm
      have hso : sortI os = (flatK kv).stale l n := sortI_of ((hpm2.trans hstp).trans (sortI_perm _).symm) (sortI_sorted _)
      have hsl : os.length = ((flatK kv).stale l n).length := by rw [← hso, sortI_len]
      have hc := sort_ints (A := A5) (c := c5) (xs := os) (by omega) W0 (blk r (.mapIter (some mi) x.c seen x.c) :: blk mi (.map x.l.toArray x.c) :: row b 61 [.map (some m)] :: mapb intK nodeV m kv :: inners (adel kv n) :: F)
      refine WL.call c29 rfl rfl rfl rfl hc ?_
      clear hc
      rintro _ _ ⟨rfl, rfl⟩
      rw [hso, hsl]
      repeat' (first|refine bk ?_|refine bkc ?_|refine bks ?_|refine bkd ?_|refine bkq (fun q => ?_)|(refine bk2 ?_ ?_<;>(first|exact bkn|(refine bkk ?_;intro h))))
      refine QS.turn (G' := slc intE 3 A5 c5 ((flatK kv).stale l n) :: bmA b (flatK kv) :: F) (fun w hs => ?_) (QS.retV Try.results11 rfl ⟨A5, c5, rfl, rfl⟩)
      have h1 := (hs.kick (i := 1) rfl)
      have h2 := mapb_cook x (h1.front (i := 1) rfl)
      have h3 := inners_shut hx (((h2.front (i := 4) rfl).front (i := 1) rfl))
      have h4 := (h3.front (i := 3) rfl).front (i := 3) rfl
      exact (bmA_shut (m := m) (kv := kv) rfl w h4).front (i := 1) rfl
    · obtain ⟨hp, hel⟩ := left_out x.hb he
      obtain ⟨hk, hv⟩ := hd2 e hel
      repeat' (first|refine bk ?_|refine bkc ?_|refine bks ?_|refine bkd ?_|refine bkq (fun q => ?_)|(refine bk2 ?_ ?_<;>(first|exact bkn|(refine bkk ?_;intro h))))
      refine WL.s (op1_entry 1 2 (by rfl) rfl rfl (by simpa using hel) (by
        have := x.hb.1
        simpa [List.Nodup, List.pairwise_map] using this)) rfl ?_
      rw [hk, hv]
      have hpm := hI.perm.symm.trans ((stE_perm hp).append_left os)
      rw [stE_cons] at hpm
      have hml : (leftOf x.l.toArray (seen.push e.born)).size < (leftOf x.l.toArray seen).size := by
        have := hp.length_eq
        simp only [List.length_cons, Array.length_toList] at this
        omega
      generalize (decE e).1 = k at hpm ⊢
      generalize (decE e).2 = z at hpm ⊢
      repeat' (first|refine bk ?_|refine bkc ?_|refine bks ?_|refine bkd ?_|refine bkq (fun q => ?_)|(refine bk2 ?_ ?_<;>(first|exact bkn|(refine bkk ?_;intro h))))
      revert q; intro q9
      revert q; intro q8
      have hc := contains_blks (A := A) (c := c) (K := 28) (xs := l) (cap := [.pointer (some ⟨q8, 0, none⟩), .pointer (some ⟨q9, 0, none⟩)]) c28 (fun y => decide (y.id = k) && decide (y.gen = z.gen)) (by omega) W0
        (row q9 28 (blkC z) :: row q8 3 [.int .i64 k] :: slc intE 3 A5 c5 os :: blk r (.mapIter (some mi) x.c (seen.push e.born) x.c) :: blk mi (.map x.l.toArray x.c) :: row b 61 [.map (some m)] :: mapb intK nodeV m kv :: inners (adel kv n) :: F)
        hR.cons.cons.cons.cons.cons.cons.cons.cons (fun y _ => stale_fn W0 _)
      refine WL.call c27 rfl rfl rfl rfl hc ?_
      clear hc
      rintro _ G2 ⟨rfl, hG2⟩
      rw [hG2]; clear hG2 G2
      have hnb : (l.any fun y => decide (y.id = k) && decide (y.gen = z.gen)) = needB l k z.gen := rfl
      rw [hnb]
      cases hb : needB l k z.gen with
      | true =>
        rw [hb, if_pos rfl, List.nil_append] at hpm
        repeat' (first|refine bk ?_|refine bkc ?_|refine bks ?_|refine bkd ?_|refine bkq (fun q => ?_)|(refine bk2 ?_ ?_<;>(first|exact bkn|(refine bkk ?_;intro h))))
        exact QS.again (seen.push e.born, os, A5, c5) ⟨hpm.symm⟩ hml ⟨rfl, rfl, rfl, trivial⟩ (fun w hs => hs.drop.drop)
      | false =>
        rw [hb, if_neg (by decide), ← List.append_assoc] at hpm
        repeat' (first|refine bk ?_|refine bkc ?_|refine bks ?_|refine bkd ?_|refine bkq (fun q => ?_)|(refine bk2 ?_ ?_<;>(first|exact bkn|(refine bkk ?_;intro h))))
        refine WL.buildSlice TT rfl rfl rfl rfl rfl rfl rfl rfl (fun q7 => ?_)
        refine WL.append TT (E := intE) (xs := os) (ys := [k]) 3 rfl rfl rfl rfl rfl (Rd.row (i := 0) rfl rfl) rfl rfl rfl rfl rfl (by decide) (by simp only [List.length_cons, List.length_nil]; omega) (fun _ _ => rfl) rfl (fun A6 c6 => ?_)
        repeat' (first|refine bk ?_|refine bkc ?_|refine bks ?_|refine bkd ?_|refine bkq (fun q => ?_)|(refine bk2 ?_ ?_<;>(first|exact bkn|(refine bkk ?_;intro h))))
        exact QS.again (seen.push e.born, os ++ [k], A6, c6) ⟨hpm.symm⟩ hml ⟨rfl, rfl, rfl, trivial⟩ (fun w hs => hs.drop.drop.drop)
end Go.Proofs.Ytgebdehpoalfbaa.B

set_option linter.unusedVariables false
set_option linter.unusedSimpArgs false
set_option maxRecDepth 8000
/-! What nodes have: the laws in plain words. -/
namespace Go.Proofs.Ytgebdehpoalfbaa.B
open Go Go.Proofs
theorem aput_new {κ ν : Type} [DecidableEq κ] : ∀ {l : List (κ × ν)} {k : κ} {x : ν}, aget l k = none → aput l k x = l ++ [(k, x)]
  | [], _, _, _ => rfl
  | (j, y) :: r, k, x, h => by
    simp only [aget] at h
    split at h
    · cases h
    · rename_i e
      simp only [aput, if_neg e, aput_new h, List.cons_append]
def keyed (l : List Rep) : NM := l.map fun r => (r.id, r.blk)
theorem keyed_keys (l : List Rep) : (keyed l).map (·.1) = l.map (·.id) := by simp [keyed, List.map_map, Function.comp_def]
theorem fold_keyed : ∀ (l : List Rep) (h : NM), (l.map (·.id)).Nodup → (∀ r ∈ l, aget h r.id = none) → l.foldl insB h = h ++ keyed l
  | [], h, _, _ => by simp [keyed]
  | r :: l, h, hn, hd => by
    simp only [List.map_cons, List.nodup_cons] at hn
    have h1 := hd r (List.mem_cons_self ..)
    rw [List.foldl_cons]
    have e : insB h r = h ++ [(r.id, r.blk)] := by
      unfold insB
      rw [h1, aput_new h1]
      rfl
    rw [e, fold_keyed l _ hn.2]
    · simp [keyed]
    · intro x hx
      refine aget_none.2 fun hm => ?_
      simp only [List.map_append, List.map_cons, List.map_nil, List.mem_append, List.mem_singleton] at hm
      rcases hm with hm | hm
      · exact (aget_none.1 (hd x (List.mem_cons_of_mem _ hx))) hm
      · exact hn.1 (List.mem_map.2 ⟨x, hx, hm⟩)
theorem nmOf_keyed {l : List Rep} (hn : (l.map (·.id)).Nodup) : nmOf l = keyed l := by
  unfold nmOf
  rw [fold_keyed l [] hn (fun _ _ => rfl)]
  rfl
/-- Replicas numbered by their places. -/
def numF (i : Nat) (x : Rep) : Rep := ⟨(i : Int), x.gen, x.len, x.fin⟩
def numFrom : Nat → List Rep → List Rep
  | _, [] => []
  | i, x :: l => numF i x :: numFrom (i + 1) l
def numbered (l : List Rep) : List Rep := numFrom 0 l
theorem numFrom_len : ∀ (l : List Rep) (i : Nat), (numFrom i l).length = l.length
  | [], _ => rfl
  | _ :: l, i => by simp [numFrom, numFrom_len l]
theorem numbered_len (l : List Rep) : (numbered l).length = l.length := numFrom_len l 0
theorem numFrom_append : ∀ (l m : List Rep) (i : Nat), numFrom i (l ++ m) = numFrom i l ++ numFrom (i + l.length) m
  | [], m, i => by simp [numFrom]
  | x :: l, m, i => by
    simp only [List.cons_append, numFrom, numFrom_append l m, List.length_cons]
    rw [show i + 1 + l.length = i + (l.length + 1) from by omega]
theorem numbered_snoc (l : List Rep) (x : Rep) : numbered (l ++ [x]) = numbered l ++ [numF l.length x] := by
  unfold numbered
  rw [numFrom_append]
  simp [numFrom]
theorem numFrom_get : ∀ (l : List Rep) (i k : Nat), (numFrom i l)[k]? = l[k]?.map (numF (i + k))
  | [], _, _ => by simp [numFrom]
  | x :: l, i, 0 => by simp [numFrom]
  | x :: l, i, k + 1 => by
    simp only [numFrom, List.getElem?_cons_succ, numFrom_get l]
    rw [show i + 1 + k = i + (k + 1) from by omega]
theorem numbered_get (l : List Rep) (k : Nat) : (numbered l)[k]? = l[k]?.map (numF k) := by
  unfold numbered
  rw [numFrom_get, Nat.zero_add]
theorem numbered_take (l : List Rep) (k : Nat) (x : Rep) (h : l[k]? = some x) : numbered (l.take (k + 1)) = numbered (l.take k) ++ [numF k x] := by
  rw [List.take_add_one, h, Option.toList_some, numbered_snoc, List.length_take]
  have := (List.getElem?_eq_some_iff.1 h).1
  rw [Nat.min_eq_left (by omega)]
theorem numFrom_ids : ∀ (l : List Rep) (i : Nat), (numFrom i l).map (·.id) = (List.range' i l.length).map (fun k : Nat => (k : Int))
  | [], _ => rfl
  | x :: l, i => by
    rw [numFrom, List.map_cons, numFrom_ids l, List.length_cons, List.range'_succ, List.map_cons]
    rfl
theorem numbered_nodup (l : List Rep) : ((numbered l).map (·.id)).Nodup := by
  unfold numbered
  rw [numFrom_ids]
  exact List.Pairwise.map _ (fun a b h e => h (by omega)) (List.nodup_range' (step := 1))
theorem numbered_find (l : List Rep) (k : Nat) : (numbered l).find? (fun r => decide (r.id = (k : Int))) = l[k]?.map (numF k) := by
  rw [← numbered_get]
  cases e : (numbered l)[k]? with
  | none =>
    refine List.find?_eq_none.2 fun r hr => ?_
    obtain ⟨j, hj⟩ := List.mem_iff_getElem?.1 hr
    have h2 := hj
    rw [numbered_get] at h2
    obtain ⟨y, hy, h3⟩ := Option.map_eq_some_iff.1 h2
    have hjl := (List.getElem?_eq_some_iff.1 hj).1
    have hkl : (numbered l).length ≤ k := List.getElem?_eq_none_iff.1 e
    rw [← h3]
    intro e9
    have e8 : (j : Int) = k := of_decide_eq_true e9
    omega
  | some x =>
    refine List.find?_eq_some_iff_getElem.2 ⟨?_, ?_⟩
    · rw [numbered_get] at e
      obtain ⟨y, hy, h3⟩ := Option.map_eq_some_iff.1 e
      rw [← h3]
      simp [numF]
    · have hk := (List.getElem?_eq_some_iff.1 e).1
      refine ⟨k, hk, (List.getElem?_eq_some_iff.1 e).2, fun j hj => ?_⟩
      have : (numbered l)[j]? = some (numbered l)[j] := List.getElem?_eq_getElem (by omega)
      rw [numbered_get] at this
      obtain ⟨y, hy, h3⟩ := Option.map_eq_some_iff.1 this
      rw [← h3]
      have e8 : decide ((j : Int) = k) = false := decide_eq_false (by omega)
      exact (congrArg (fun b => !b) e8).trans rfl

/-! The chapter's example. -/
abbrev b0 : BM := []
def exB : Blk := ⟨7, 2, 5⟩
def exM : BM := (b0.report 0 [⟨7, 2, 5, false⟩]).report 1 [⟨7, 1, 9, false⟩]
theorem exM_ok : BMOk exM := report_ok (report_ok bm0 _ _) _ _
theorem ex_hold : exM.hold exB = [0] := by rw [hold_eq exM_ok]; rfl
theorem ex_stale : exM.stale [exB] 1 = [7] := sortI_of (List.Perm.refl _) (by simp)
theorem ex_held : heldN exM [exB] = 1 := by simp only [heldN, ex_hold]; rfl

/-! BlocksLast. -/
theorem last_at {n : Int} (hn : 0 ≤ n ∧ n < 4) (one two : List Rep) (k : Int) : ((b0.report n one).report n two).at k = (b0.report n two).at k := by
  rw [report_at hn, report_at hn, report_at hn]
  split <;> rfl
theorem last_hold {n : Int} (hn : 0 ≤ n ∧ n < 4) (one two : List Rep) (b : Blk) : ((b0.report n one).report n two).hold b = (b0.report n two).hold b :=
  hold_congr (report_ok (report_ok bm0 _ _) _ _) (report_ok bm0 _ _) b fun k => by unfold BM.holds; rw [last_at hn]
theorem last_stale {n : Int} (hn : 0 ≤ n ∧ n < 4) (one two : List Rep) (l : List Blk) : ((b0.report n one).report n two).stale l n = (b0.report n two).stale l n := by
  unfold BM.stale
  rw [last_at hn]
theorem last_none {n : Int} (hn : 0 ≤ n ∧ n < 4) (one two : List Rep) (k : Int) : aget (((b0.report n one).report n two).lost n) k = none := by
  rw [lost_get (report_ok (report_ok bm0 _ _) _ _)]
  split
  · rfl
  · rename_i e
    rw [report_get hn, if_neg e, report_get hn, if_neg e]
    rfl
theorem none_hold {m : BM} (hm : BMOk m) (h : ∀ k, aget m k = none) (b : Blk) : m.hold b = [] := by
  rw [hold_eq hm]
  refine List.filter_eq_nil_iff.2 fun k _ hk => ?_
  have := holds_some hk
  rw [h] at this
  cases this
theorem none_nodes {m : BM} (hm : BMOk m) (h : ∀ k, aget m k = none) : m.nodes = [] := by
  rw [nodes_eq hm]
  exact List.filter_eq_nil_iff.2 fun k _ hk => by rw [h] at hk; cases hk
theorem none_stale {m : BM} (h : ∀ k, aget m k = none) (l : List Blk) (n : Int) : m.stale l n = [] := by
  unfold BM.stale BM.at
  rw [h]
  exact sortI_of (List.Perm.refl _) List.Pairwise.nil

/-! BlocksStale. -/
def needR (own : List Rep) (all : List Blk) (i : Nat) : Bool := match own[i]? with | some r => needB all (i : Int) r.gen | none => true
def freeI (own : List Rep) (all : List Blk) (k : Nat) : List Int := ((List.range k).filter fun i => !needR own all i).map fun i : Nat => (i : Int)
theorem freeI_succ (own : List Rep) (all : List Blk) (k : Nat) : freeI own all (k + 1) = freeI own all k ++ (if needR own all k = true then [] else [(k : Int)]) := by
  unfold freeI
  rw [List.range_succ, List.filter_append, List.map_append]
  congr 1
  cases h : needR own all k <;> simp [h]
theorem freeI_pre (own : List Rep) (all : List Blk) (k : Nat) : ∀ d, freeI own all k <+: freeI own all (k + d)
  | 0 => List.prefix_refl _
  | d + 1 => (freeI_pre own all k d).trans (by rw [show k + (d + 1) = k + d + 1 from rfl, freeI_succ]; exact List.prefix_append ..)
theorem freeI_sorted (own : List Rep) (all : List Blk) (k : Nat) : (freeI own all k).Pairwise (· ≤ ·) := by
  unfold freeI
  refine List.Pairwise.map _ (fun a b h => ?_) ((List.pairwise_lt_range (n := k)).filter _)
  omega
theorem keyed_free (all : List Blk) : ∀ (l : List Rep) (i : Nat), ((keyed (numFrom i l)).filter fun p => !needB all p.1 p.2.gen).map (·.1) = ((List.range' i l.length).filter fun k => !(match l[k - i]? with | some r => needB all (k : Int) r.gen | none => true)).map fun k : Nat => (k : Int)
  | [], i => by simp [numFrom, keyed]
  | x :: l, i => by
    rw [List.length_cons, List.range'_succ]
    have ih := keyed_free all l (i + 1)
    unfold keyed at ih ⊢
    simp only [numFrom, List.map_cons, List.filter_cons, Nat.sub_self, List.getElem?_cons_zero]
    have e2 : (List.range' (i + 1) l.length).filter (fun k => !(match (x :: l)[k - i]? with | some r => needB all (k : Int) r.gen | none => true)) = (List.range' (i + 1) l.length).filter (fun k => !(match l[k - (i + 1)]? with | some r => needB all (k : Int) r.gen | none => true)) := by
      refine List.filter_congr fun k hk => ?_
      have := List.mem_range'_1.1 hk
      rw [show k - i = (k - (i + 1)) + 1 from by omega, List.getElem?_cons_succ]
    rw [e2]
    have e3 : needB all (numF i x).id (numF i x).blk.gen = needB all (i : Int) x.gen := rfl
    rw [e3]
    cases needB all (i : Int) x.gen with
    | true => simpa using ih
    | false => simp only [Bool.not_false, if_true, List.map_cons]; rw [ih]; rfl
theorem stale_free (l : List Rep) (all : List Blk) : (b0.report 2 (numbered l)).stale all 2 = freeI (numbered l) all l.length := by
  unfold BM.stale
  rw [report_at (by decide), if_pos rfl, nmOf_keyed (numbered_nodup l)]
  refine sortI_of ?_ (freeI_sorted _ _ _)
  have h := keyed_free all l 0
  unfold freeI needR numbered at *
  rw [h, ← List.range_eq_range']
  refine List.Perm.of_eq ?_
  congr 1
  refine List.filter_congr fun k _ => ?_
  have e := numFrom_get l 0 k
  rw [e, Nat.zero_add, Nat.sub_zero]
  cases l[k]? <;> rfl
theorem free_at {own : List Rep} {all : List Blk} {k n : Nat} (hk : k < n) (h : needR own all k = false) : (freeI own all n)[(freeI own all k).length]? = some (k : Int) := by
  obtain ⟨t, ht⟩ := freeI_pre own all (k + 1) (n - (k + 1))
  rw [show k + 1 + (n - (k + 1)) = n from by omega] at ht
  rw [← ht, freeI_succ, h]
  simp

/-! BlocksMore. -/
theorem more_hold (one two : List Rep) (b : Blk) : ((b0.report 0 one).report 1 two).hold b = (b0.report 0 one).hold b ++ (if okR b (aget (nmOf two) b.id) = true then [1] else []) := by
  rw [hold_eq (report_ok (report_ok bm0 _ _) _ _), hold_eq (report_ok bm0 _ _)]
  have e : ∀ k, ((b0.report 0 one).report 1 two).holds b k = okR b (aget (if 1 = k then nmOf two else if 0 = k then nmOf one else []) b.id) := fun k => by
    unfold BM.holds
    rw [report_at (by decide), report_at (by decide)]
    rfl
  have e2 : ∀ k, (b0.report 0 one).holds b k = okR b (aget (if 0 = k then nmOf one else []) b.id) := fun k => by
    unfold BM.holds
    rw [report_at (by decide)]
    rfl
  have h0 : ((b0.report 0 one).report 1 two).holds b 0 = okR b (aget (nmOf one) b.id) := (e 0).trans rfl
  have h1 : ((b0.report 0 one).report 1 two).holds b 1 = okR b (aget (nmOf two) b.id) := (e 1).trans rfl
  have h2 : ((b0.report 0 one).report 1 two).holds b 2 = false := (e 2).trans rfl
  have h3 : ((b0.report 0 one).report 1 two).holds b 3 = false := (e 3).trans rfl
  have g0 : (b0.report 0 one).holds b 0 = okR b (aget (nmOf one) b.id) := (e2 0).trans rfl
  have g1 : (b0.report 0 one).holds b 1 = false := (e2 1).trans rfl
  have g2 : (b0.report 0 one).holds b 2 = false := (e2 2).trans rfl
  have g3 : (b0.report 0 one).holds b 3 = false := (e2 3).trans rfl
  simp only [List.filter_cons, List.filter_nil, h0, h1, h2, h3, g0, g1, g2, g3]
  cases okR b (aget (nmOf one) b.id) <;> cases okR b (aget (nmOf two) b.id) <;> rfl
theorem more_len (one two : List Rep) (b : Blk) : ((b0.report 0 one).hold b).length ≤ (((b0.report 0 one).report 1 two).hold b).length ∧ (((b0.report 0 one).report 1 two).hold b).length ≤ ((b0.report 0 one).hold b).length + 1 := by
  rw [more_hold]
  split <;> simp
theorem more_held (one two : List Rep) : ∀ l : List Blk, heldN (b0.report 0 one) l ≤ heldN ((b0.report 0 one).report 1 two) l
  | [] => Nat.le_refl _
  | b :: l => by
    have := more_len one two b
    have := more_held one two l
    simp only [heldN]
    omega

/-! BlocksHold. -/
def wantH (b : Blk) (own : List Rep) : Bool := match own[b.id.toNat]? with | some r => decide (r.gen = b.gen) && decide (b.len ≤ r.len) | none => false
def wantI (b : Blk) (ls : List (List Rep)) (k : Nat) : List Int := ((List.range k).filter fun i => wantH b (ls.getD i [])).map fun i : Nat => (i : Int)
def holdK (ls : List (List Rep)) (k : Nat) : BM := (List.range k).foldl (fun (m : BM) (i : Nat) => m.report (i : Int) (ls.getD i [])) b0
theorem holdK_succ (ls : List (List Rep)) (k : Nat) : holdK ls (k + 1) = (holdK ls k).report (k : Int) (ls.getD k []) := by
  unfold holdK
  rw [List.range_succ, List.foldl_append]
  rfl
theorem holdK_ok (ls : List (List Rep)) : ∀ k, BMOk (holdK ls k)
  | 0 => bm0
  | k + 1 => by rw [holdK_succ]; exact report_ok (holdK_ok ls k) _ _
theorem holdK_at (ls : List (List Rep)) : ∀ {k : Nat}, k ≤ 4 → ∀ i : Nat, (holdK ls k).at (i : Int) = if i < k then nmOf (ls.getD i []) else []
  | 0, _, i => by rw [if_neg (by omega)]; rfl
  | k + 1, hk, i => by
    rw [holdK_succ, report_at (by omega)]
    by_cases e : k = i
    · subst e; simp
    · rw [if_neg (by omega), holdK_at ls (by omega) i]
      by_cases e2 : i < k
      · rw [if_pos e2, if_pos (by omega)]
      · rw [if_neg e2, if_neg (by omega)]
theorem wantI_succ (b : Blk) (ls : List (List Rep)) (k : Nat) : wantI b ls (k + 1) = wantI b ls k ++ (if wantH b (ls.getD k []) = true then [(k : Int)] else []) := by
  unfold wantI
  rw [List.range_succ, List.filter_append, List.map_append]
  congr 1
  rw [List.filter_cons, List.filter_nil]
  cases h : wantH b (ls.getD k []) <;> rfl
theorem wantI_len (b : Blk) (ls : List (List Rep)) (k : Nat) : (wantI b ls k).length ≤ k := by
  unfold wantI
  rw [List.length_map]
  exact Nat.le_trans (List.length_filter_le _ _) (by simp)
theorem holdK_want {ls : List (List Rep)} {k : Nat} (hk : k ≤ 4) {b : Blk} (hb : 0 ≤ b.id) : (holdK (ls.map numbered) k).hold b = wantI b (ls.map numbered) k := by
  have hh : ∀ i : Nat, (holdK (ls.map numbered) k).holds b (i : Int) = (decide (i < k) && wantH b ((ls.map numbered).getD i [])) := fun i => by
    unfold BM.holds
    rw [holdK_at _ hk]
    by_cases e : i < k
    · rw [if_pos e, decide_eq_true e, Bool.true_and, nmOf_get]
      have ho : ∃ o : List Rep, (ls.map numbered).getD i [] = numbered o := by
        rw [List.getD_eq_getElem?_getD, List.getElem?_map]
        cases ls[i]? with
        | none => exact ⟨[], rfl⟩
        | some o => exact ⟨o, rfl⟩
      obtain ⟨o, ho⟩ := ho
      rw [ho]
      unfold wantH
      have h := numbered_find o b.id.toNat
      rw [Int.toNat_of_nonneg hb] at h
      rw [h, numbered_get]
      cases o[b.id.toNat]? <;> rfl
    · rw [if_neg e, decide_eq_false e]
      rfl
  rw [hold_eq (holdK_ok _ _)]
  have h0 := hh 0
  have h1 := hh 1
  have h2 := hh 2
  have h3 := hh 3
  have e4 : ([0, 1, 2, 3] : List Int) = (List.range 4).map (fun i : Nat => (i : Int)) := rfl
  rw [e4, List.filter_map]
  unfold wantI
  congr 1
  have e5 : (List.range 4).filter ((holdK (ls.map numbered) k).holds b ∘ fun i : Nat => (i : Int)) = (List.range 4).filter (fun i => decide (i < k) && wantH b ((ls.map numbered).getD i [])) := List.filter_congr fun i _ => hh i
  rw [e5]
  have e6 : (List.range 4).filter (fun i => decide (i < k) && wantH b ((ls.map numbered).getD i [])) = ((List.range 4).filter (fun i => decide (i < k))).filter fun i => wantH b ((ls.map numbered).getD i []) := by
    rw [List.filter_filter]
    exact List.filter_congr fun i _ => Bool.and_comm ..
  rw [e6]
  congr 1
  match k, hk with
  | 0, _ => rfl
  | 1, _ => rfl
  | 2, _ => rfl
  | 3, _ => rfl
  | 4, _ => rfl
theorem short_one (m : BM) (b : Blk) (want : Int) : m.short [b] want = if 0 < (m.hold b).length ∧ ((m.hold b).length : Int) < want then [b] else [] := by
  unfold BM.short
  simp only [List.filter_cons, List.filter_nil, Bool.and_eq_true, decide_eq_true_eq]
end Go.Proofs.Ytgebdehpoalfbaa.B
