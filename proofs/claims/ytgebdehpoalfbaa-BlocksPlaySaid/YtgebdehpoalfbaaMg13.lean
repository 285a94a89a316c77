import Derived.Ground.SlgmProg
import Derived.Shelf.SortM.Plain
import Derived.Shelf.SortM.SortNone
import Derived.Test.YtgebdehpoalfbaaProg
import Derived.Test.YtgebdehpoalfbaaMg10
import Derived.Test.YtgebdehpoalfbaaMg12
import Derived.Sort.OwnSortedInts
import Derived.Test.YtgebdehpoalfbaaMg2
import Derived.Test.YtgebdehpoalfbaaMg5
namespace Go.Proofs.Ytgebdehpoalfbaa.B
open Go Go.Proofs
open Go.Shelf
def sh_laysSlM5_f29_ren : Go.Shelf.Ren := ⟨fun | 5 => 29 | 8 => 37 | 7 => 36 | 19 => 50 | 20 => 51 | 10 => 41 | 11 => 42 | 12 => 43 | 13 => 44 | 14 => 45 | 15 => 46 | 16 => 47 | 17 => 48 | 18 => 49 | 30 => 53 | 31 => 54 | 32 => 55 | 33 => 56 | 34 => 57 | 35 => 58 | 40 => 59 | n => n, fun | 23 => 33 | 25 => 3 | 3 => 3 | 32 => 78 | 22 => 33 | 0 => 0 | 44 => 90 | 46 => 92 | 4 => 4 | 36 => 82 | 35 => 81 | 41 => 87 | 5 => 5 | 9 => 9 | 53 => 94 | 57 => 98 | 63 => 100 | 64 => 101 | n => n, fun | n => n⟩
theorem sh_laysSlM5_f29 : Go.Proofs.SlLaysM.n5 Try.prog sh_laysSlM5_f29_ren := {
  mixed := by kernel_rfl
  f5 := ⟨Try.f29.name, by decide, Try.func29.trans (congrArg some (by kernel_rfl))⟩
  f7 := ⟨Try.f36.name, by decide, Try.func36.trans (congrArg some (by kernel_rfl))⟩
  f8 := Try.func37.trans (congrArg some (by kernel_rfl))
  f10 := ⟨Try.f41.name, by decide, Try.func41.trans (congrArg some (by kernel_rfl))⟩
  f11 := ⟨Try.f42.name, by decide, Try.func42.trans (congrArg some (by kernel_rfl))⟩
  f12 := ⟨Try.f43.name, by decide, Try.func43.trans (congrArg some (by kernel_rfl))⟩
  f13 := ⟨Try.f44.name, by decide, Try.func44.trans (congrArg some (by kernel_rfl))⟩
  f14 := ⟨Try.f45.name, by decide, Try.func45.trans (congrArg some (by kernel_rfl))⟩
  f15 := ⟨Try.f46.name, by decide, Try.func46.trans (congrArg some (by kernel_rfl))⟩
  f16 := ⟨Try.f47.name, by decide, Try.func47.trans (congrArg some (by kernel_rfl))⟩
  f17 := ⟨Try.f48.name, by decide, Try.func48.trans (congrArg some (by kernel_rfl))⟩
  f18 := ⟨Try.f49.name, by decide, Try.func49.trans (congrArg some (by kernel_rfl))⟩
  f19 := Try.func50.trans (congrArg some (by kernel_rfl))
  f20 := Try.func51.trans (congrArg some (by kernel_rfl))
  f30 := ⟨Try.f53.name, by decide, Try.func53.trans (congrArg some (by kernel_rfl))⟩
  f31 := Try.func54.trans (congrArg some (by kernel_rfl))
  f32 := Try.func55.trans (congrArg some (by kernel_rfl))
  f33 := ⟨Try.f56.name, by decide, Try.func56.trans (congrArg some (by kernel_rfl))⟩
  f34 := ⟨Try.f57.name, by decide, Try.func57.trans (congrArg some (by kernel_rfl))⟩
  f35 := ⟨Try.f58.name, by decide, Try.func58.trans (congrArg some (by kernel_rfl))⟩
  f40 := ⟨Try.f59.name, by decide, Try.func59.trans (congrArg some (by kernel_rfl))⟩
  t0 := Try.underlying0
  a0 := Try.isAgg0
  z0 := Try.sizeOf0
  v0 := Try.zeroValue0
  t3 := Try.underlying3
  a3 := Try.isAgg3
  z3 := Try.sizeOf3
  v3 := Try.zeroValue3
  t4 := Try.underlying4
  a4 := Try.isAgg4
  z4 := Try.sizeOf4
  v4 := Try.zeroValue4
  t5 := Try.underlying5
  a5 := Try.isAgg5
  z5 := Try.sizeOf5
  v5 := Try.zeroValue5
  t9 := Try.underlying9
  a9 := Try.isAgg9
  z9 := Try.sizeOf9
  v9 := Try.zeroValue9
  t22 := Try.underlying33
  a22 := Try.isAgg33
  z22 := Try.sizeOf33
  v22 := Try.zeroValue33
  t23 := Try.underlying33
  a23 := Try.isAgg33
  z23 := Try.sizeOf33
  v23 := Try.zeroValue33
  t25 := Try.underlying3
  a25 := Try.isAgg3
  z25 := Try.sizeOf3
  v25 := Try.zeroValue3
  t32 := Try.underlying78
  a32 := Try.isAgg78
  z32 := Try.sizeOf78
  v32 := Try.zeroValue78
  t35 := Try.underlying81
  a35 := Try.isAgg81
  z35 := Try.sizeOf81
  v35 := Try.zeroValue81
  t36 := Try.underlying82
  a36 := Try.isAgg82
  z36 := Try.sizeOf82
  v36 := Try.zeroValue82
  t41 := Try.underlying87
  a41 := Try.isAgg87
  z41 := Try.sizeOf87
  v41 := Try.zeroValue87
  t44 := Try.underlying90
  a44 := Try.isAgg90
  z44 := Try.sizeOf90
  v44 := Try.zeroValue90
  t46 := Try.underlying92
  a46 := Try.isAgg92
  z46 := Try.sizeOf92
  v46 := Try.zeroValue92
  t53 := Try.underlying94
  a53 := Try.isAgg94
  z53 := Try.sizeOf94
  v53 := Try.zeroValue94
  t57 := Try.underlying98
  a57 := Try.isAgg98
  z57 := Try.sizeOf98
  v57 := Try.zeroValue98
  t63 := Try.underlying100
  a63 := Try.isAgg100
  z63 := Try.sizeOf100
  v63 := Try.zeroValue100
  t64 := Try.underlying101
  a64 := Try.isAgg101
  z64 := Try.sizeOf101
  v64 := Try.zeroValue101 }
open Go.Sort Go.RowKit in
theorem sh_slices_Sort_int (blk off cap : Nat) (zs : List Int) (w : World) (hH : Holds (Value.int .i64) w blk off zs.toArray) (hblk : blk < w.heap.size) (hsz : zs.length < 4611686018427387904) :
    Calls Try.prog 29 #[.slice (some ⟨blk, off, none⟩) zs.length cap] w fun e w' =>
      e = .returned (.tuple #[]) ∧ ∃ n os, w' = grow (putRow (Value.int .i64) (Sort.ahead w n) blk off (zs.mergeSort fun x y => decide (x ≤ y)).toArray) os := AnyM.slices_Sort_int sh_laysSlM5_f29 blk off cap zs w hH hblk hsz
open Go.RowKit Go.Sort in
/-- .. and plain. (LAID AT THE INSTANCE 'slices.Sort[[]int,int]': no walk: one application.) -/
theorem sh_slices_Sort_int_none (p : Option Addr) (cap : Nat) (w : World) :
    Calls Try.prog 29 #[.slice p 0 cap] w fun e w' => e = .returned (.tuple #[]) ∧ w' = w := AnyM.slices_Sort_int_none sh_laysSlM5_f29 p cap w
end Go.Proofs.Ytgebdehpoalfbaa.B

set_option linter.unusedVariables false
set_option linter.unusedSimpArgs false
set_option maxRecDepth 8000
/-! Sorting a slice of integers. -/
namespace Go.Proofs.Ytgebdehpoalfbaa.B
open Go Go.Proofs Go.Sort

def sortI (xs : List Int) : List Int := xs.mergeSort fun x y => decide (x ≤ y)
theorem flat_int (xs : List Int) : flat intE xs = xs.map (Value.int .i64) := by
  induction xs with
  | nil => rfl
  | cons x r ih => simp only [flat, List.flatMap_cons, List.map_cons] at ih ⊢; rw [ih]; rfl
theorem sortI_len (xs : List Int) : (sortI xs).length = xs.length := List.length_mergeSort xs
theorem sort_ints {A : Option Addr} {c : Nat} {xs : List Int} (hl : xs.length ≤ 4000000000000000000) (W0 : World) (G : List SL) :
    Fn Try.prog 29 [.slice A xs.length c] W0 (slc intE 3 A c xs :: G) (Ret fun v G' => v = .tuple #[] ∧ G' = slc intE 3 A c (sortI xs) :: G) := fun w hs => by
  obtain ⟨h1, h2, h3⟩ := slc_at (i := 0) rfl w hs
  have hsl := sortI_len xs
  rcases h3 with ⟨rfl, rfl, rfl⟩ | ⟨g, rfl⟩
  · refine (sh_slices_Sort_int_none none 0 w).mono fun e w' h => ?_
    obtain ⟨rfl, rfl⟩ := h
    refine ⟨_, ⟨rfl, rfl⟩, ?_⟩
    simpa [sortI] using hs
  · obtain ⟨hp, h, hle⟩ := hs.head
    rcases h with ⟨h, _⟩ | ⟨g', cur, hg, hb, h3, h4, h5, h6⟩
    · cases h
    injection hg with hg
    injection hg with hg _ _
    subst hg
    have hb' := hle g _ hb
    have hsz : intE.sz = 1 := rfl
    rw [hsz, Nat.mul_one] at h5 h6
    rw [flat_int] at h6
    have hH : Holds (Value.int .i64) w g 0 xs.toArray := holds_of_blockI hb' h6
    have hlt : g < w.heap.size := (Array.getElem?_eq_some_iff.1 hb').1
    refine (sh_slices_Sort_int g 0 c xs w hH hlt (by omega)).mono fun e w' h => ?_
    obtain ⟨rfl, n, os, rfl⟩ := h
    have ho := ownsRow_sortedI (n := n) (os := os) (base := 0) (ts := sortI xs) hsl (Nat.zero_le _) hb' h3 h4 (by rw [h5, Nat.mul_one])
    obtain ⟨A', c', hA, s2⟩ := hs.slcTurn (v' := .slice (some ⟨g, 0, none⟩) xs.length c) (ys := sortI xs) (by rw [hsl, flat_int]; exact ho) (grownBy_sortedI (g := g) _) (.inl rfl)
    simp only [Value.slice.injEq] at hA
    obtain ⟨rfl, _, rfl⟩ := hA
    exact ⟨_, ⟨rfl, rfl⟩, s2⟩
end Go.Proofs.Ytgebdehpoalfbaa.B

set_option linter.unusedVariables false
/-! What a number speaks of. -/
namespace Go.Proofs.Ytgebdehpoalfbaa.B
open Go Go.Proofs
def pickM (n m : Int) : Int := (if n < 0 then -(n + 1) else n).tmod m
theorem pickM_range {n m : Int} (hm : 0 < m) : 0 ≤ pickM n m ∧ pickM n m < m := by
  unfold pickM
  have h : ∀ a : Int, 0 ≤ a → 0 ≤ a.tmod m ∧ a.tmod m < m := fun a ha => ⟨Int.tmod_nonneg m ha, Int.tmod_lt_of_pos a hm⟩
  split
  · exact h _ (by omega)
  · exact h _ (by omega)
theorem op1_rem {P : Program} (T : Tab P) {n : Nat} {ds : List Deferred} {L : TL} {W0 : World} {G : List SL} {ty : TypeId} {x y : Operand} {t t2 : Nat} {a b : Int} (hx : evL L x = some (.int .i64 a)) (hy : evL L y = some (.int .i64 b)) (h : ¬ b = 0) :
    Op1 P n ds L W0 G (.binOp .rem t x y t2) ty (.int .i64 (a.tmod b)) := by
  refine op1_pure T ?_
  simp only [pureOp, hx, hy, binV, sameK, intBin, decide_eq_false h]
end Go.Proofs.Ytgebdehpoalfbaa.B

set_option linter.unusedVariables false
set_option linter.unusedSimpArgs false
set_option maxRecDepth 8000
/-! What nodes have, in plain words. -/
namespace Go.Proofs.Ytgebdehpoalfbaa.B
open Go Go.Proofs
structure Blk where
  id : Int
  gen : Int
  len : Int
  deriving DecidableEq
structure Rep where
  id : Int
  gen : Int
  len : Int
  fin : Bool
  deriving DecidableEq
def blkE : EncK Blk := ⟨fun d => [.int .i64 d.id, .int .i64 d.gen, .int .i64 d.len], 3, fun _ => rfl, by decide, fun _ u hu => by
  simp only [List.mem_cons, List.not_mem_nil, or_false] at hu
  rcases hu with rfl | rfl | rfl <;> rfl⟩
def repE : EncK Rep := ⟨fun d => [.int .i64 d.id, .int .i64 d.gen, .int .i64 d.len, .bool d.fin], 4, fun _ => rfl, by decide, fun _ u hu => by
  simp only [List.mem_cons, List.not_mem_nil, or_false] at hu
  rcases hu with rfl | rfl | rfl | rfl <;> rfl⟩
def Rep.blk (r : Rep) : Blk := ⟨r.id, r.gen, r.len⟩
abbrev NM := List (Int × Blk)
def insB (h : NM) (r : Rep) : NM := if (aget h r.id).isSome then h else aput h r.id r.blk
def nmOf (l : List Rep) : NM := l.foldl insB []
abbrev BM := List (Int × NM)
def BM.report (m : BM) (n : Int) (l : List Rep) : BM := if 0 ≤ n ∧ n < 4 then aput m n (nmOf l) else m
def BM.lost (m : BM) (n : Int) : BM := adel m n
def BM.nodes (m : BM) : List Int := sortI (m.map (·.1))
def BM.at (m : BM) (n : Int) : NM := (aget m n).getD []
def okR (b : Blk) : Option Blk → Bool
  | none => false
  | some r => decide (r.gen = b.gen) && decide (b.len ≤ r.len)
def BM.holds (m : BM) (b : Blk) (n : Int) : Bool := okR b (aget (m.at n) b.id)
def BM.hold (m : BM) (b : Blk) : List Int := m.nodes.filter (m.holds b)
def heldN (m : BM) : List Blk → Nat
  | [] => 0
  | b :: r => min 1 (m.hold b).length + heldN m r
def BM.short (m : BM) (l : List Blk) (want : Int) : List Blk := l.filter fun b => decide (0 < (m.hold b).length) && decide (((m.hold b).length : Int) < want)
def needB (l : List Blk) (i g : Int) : Bool := l.any fun b => decide (b.id = i) && decide (b.gen = g)
def BM.stale (m : BM) (l : List Blk) (n : Int) : List Int := sortI (((m.at n).filter fun p => !needB l p.1 p.2.gen).map (·.1))
structure BMOk (m : BM) : Prop where
  nodup : (m.map (·.1)).Nodup
  keys : ∀ n ∈ m.map (·.1), 0 ≤ n ∧ n < 4

/-! Sorting. -/
theorem sortI_perm (xs : List Int) : (sortI xs).Perm xs := List.mergeSort_perm _ _
theorem sortI_sorted (xs : List Int) : (sortI xs).Pairwise (· ≤ ·) := by
  have h := List.pairwise_mergeSort (le := fun x y : Int => decide (x ≤ y)) (fun a b c h1 h2 => by simp at *; omega) (fun a b => by simp; omega) xs
  exact h.imp (by simp)
theorem sorted_eq : ∀ {xs ys : List Int}, xs.Perm ys → xs.Pairwise (· ≤ ·) → ys.Pairwise (· ≤ ·) → xs = ys := by
  intro xs ys hp h1 h2
  exact List.Perm.eq_of_pairwise (fun a b _ _ h3 h4 => Int.le_antisymm h3 h4) h1 h2 hp
theorem sortI_of {xs ys : List Int} (hp : xs.Perm ys) (h : ys.Pairwise (· ≤ ·)) : sortI xs = ys := sorted_eq ((sortI_perm xs).trans hp) (sortI_sorted xs) h
theorem nodes_eq {m : BM} (hm : BMOk m) : m.nodes = ([0, 1, 2, 3] : List Int).filter fun n => (aget m n).isSome := by
  refine sortI_of ?_ ((by decide : ([0, 1, 2, 3] : List Int).Pairwise (· ≤ ·)).filter _)
  refine (List.perm_ext_iff_of_nodup hm.nodup ((by decide : ([0, 1, 2, 3] : List Int).Nodup).filter _)).2 fun a => ?_
  rw [List.mem_filter]
  constructor
  · intro h
    have := hm.keys a h
    refine ⟨by simp; omega, ?_⟩
    cases e : aget m a with
    | some _ => rfl
    | none => exact absurd h (aget_none.1 e)
  · rintro ⟨_, h⟩
    cases e : aget m a with
    | some y => exact List.mem_map.2 ⟨_, aget_mem e, rfl⟩
    | none => rw [e] at h; cases h
theorem holds_some {m : BM} {b : Blk} {n : Int} (h : m.holds b n = true) : (aget m n).isSome = true := by
  unfold BM.holds BM.at at h
  cases e : aget m n with
  | some _ => rfl
  | none => rw [e] at h; simp [aget, okR] at h
theorem hold_eq {m : BM} (hm : BMOk m) (b : Blk) : m.hold b = ([0, 1, 2, 3] : List Int).filter (m.holds b) := by
  unfold BM.hold
  rw [nodes_eq hm, List.filter_filter]
  refine List.filter_congr fun n _ => ?_
  cases h : m.holds b n with
  | false => rfl
  | true => rw [holds_some h]; rfl
theorem report_ok {m : BM} (hm : BMOk m) (n : Int) (l : List Rep) : BMOk (m.report n l) := by
  unfold BM.report
  split
  · rename_i hn
    refine ⟨aput_nodup hm.nodup, fun k hk => ?_⟩
    rw [aput_keys] at hk
    split at hk
    · exact hm.keys k hk
    · rcases List.mem_append.1 hk with h | h
      · exact hm.keys k h
      · simp at h; subst h; exact hn
  · exact hm
theorem lost_ok {m : BM} (hm : BMOk m) (n : Int) : BMOk (m.lost n) :=
  ⟨adel_nodup hm.nodup, fun k hk => hm.keys k (((adel_sub m n).map (·.1)).subset hk)⟩
theorem bm0 : BMOk [] := ⟨List.nodup_nil, fun _ h => by cases h⟩

/-! A node's map. -/
theorem insB_get (h : NM) (r : Rep) (k : Int) : aget (insB h r) k = match aget h k with | some y => some y | none => if r.id = k then some r.blk else none := by
  unfold insB
  split
  · rename_i hs
    cases e : aget h k with
    | some y => rfl
    | none =>
      simp only
      rw [if_neg]
      rintro rfl
      rw [e] at hs
      cases hs
  · rename_i hs
    rw [aget_aput]
    split
    · rename_i e
      subst e
      cases e2 : aget h r.id with
      | some y => rw [e2] at hs; exact absurd rfl hs
      | none => rfl
    · cases aget h k <;> rfl
theorem fold_get : ∀ (l : List Rep) (h : NM) (k : Int), aget (l.foldl insB h) k = match aget h k with | some y => some y | none => (l.find? fun r => decide (r.id = k)).map Rep.blk
  | [], h, k => by simp only [List.foldl_nil, List.find?_nil, Option.map_none]; cases aget h k <;> rfl
  | r :: l, h, k => by
    rw [List.foldl_cons, fold_get l, insB_get, List.find?_cons]
    cases e : aget h k with
    | some y => rfl
    | none =>
      simp only
      by_cases e2 : r.id = k
      · rw [if_pos e2, decide_eq_true e2]; rfl
      · rw [if_neg e2, decide_eq_false e2]
theorem nmOf_get (l : List Rep) (k : Int) : aget (nmOf l) k = (l.find? fun r => decide (r.id = k)).map Rep.blk := by
  unfold nmOf
  rw [fold_get]
  rfl
theorem insB_nodup {h : NM} (hn : (h.map (·.1)).Nodup) (r : Rep) : ((insB h r).map (·.1)).Nodup := by
  unfold insB
  split
  · exact hn
  · exact aput_nodup hn
theorem fold_nodup : ∀ (l : List Rep) {h : NM}, (h.map (·.1)).Nodup → ((l.foldl insB h).map (·.1)).Nodup
  | [], _, hn => hn
  | r :: l, _, hn => fold_nodup l (insB_nodup hn r)
theorem nmOf_nodup (l : List Rep) : ((nmOf l).map (·.1)).Nodup := fold_nodup l List.nodup_nil
theorem insB_len (h : NM) (r : Rep) : (insB h r).length ≤ h.length + 1 := by
  unfold insB
  split
  · omega
  · rw [aput_length]; cases aget h r.id with
    | none => exact Nat.le_refl _
    | some y => exact Nat.le_succ _
theorem fold_len : ∀ (l : List Rep) (h : NM), (l.foldl insB h).length ≤ h.length + l.length
  | [], h => by simp
  | r :: l, h => by
    have := fold_len l (insB h r)
    have := insB_len h r
    simp only [List.foldl_cons, List.length_cons]
    omega
theorem nmOf_len (l : List Rep) : (nmOf l).length ≤ l.length := by
  have := fold_len l []
  simpa [nmOf] using this
theorem report_get {m : BM} {n : Int} (hn : 0 ≤ n ∧ n < 4) (l : List Rep) (k : Int) : aget (m.report n l) k = if n = k then some (nmOf l) else aget m k := by
  unfold BM.report
  rw [if_pos hn, aget_aput]
theorem report_at {m : BM} {n : Int} (hn : 0 ≤ n ∧ n < 4) (l : List Rep) (k : Int) : (m.report n l).at k = if n = k then nmOf l else m.at k := by
  unfold BM.at
  rw [report_get hn]
  split <;> rfl
theorem lost_get {m : BM} (hm : BMOk m) (n k : Int) : aget (m.lost n) k = if n = k then none else aget m k := aget_adel n k hm.nodup
theorem hold_congr {m n : BM} (hm : BMOk m) (hn : BMOk n) (b : Blk) (h : ∀ k, m.holds b k = n.holds b k) : m.hold b = n.hold b := by
  rw [hold_eq hm, hold_eq hn]
  exact List.filter_congr fun k _ => h k
theorem hold_len {m : BM} (hm : BMOk m) (b : Blk) : (m.hold b).length ≤ 4 := by
  rw [hold_eq hm]
  exact List.length_filter_le _ _
theorem held_le (m : BM) : ∀ l : List Blk, heldN m l ≤ l.length
  | [] => Nat.le_refl _
  | b :: l => by have := held_le m l; simp only [heldN, List.length_cons]; omega
end Go.Proofs.Ytgebdehpoalfbaa.B
