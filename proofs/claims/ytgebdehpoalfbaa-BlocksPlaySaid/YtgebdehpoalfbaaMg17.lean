import Derived.Shelf.SlIterI.Nil
import Derived.Shelf.SortM.Plain
import Derived.Shelf.SortM.SortNone
import Derived.Ground.GgzProg
import Derived.Ground.SlgmProg
import Derived.Test.YtgebdehpoalfbaaProg
import Derived.Test.YtgebdehpoalfbaaMg16
import Derived.Test.YtgebdehpoalfbaaMg10
import Derived.Test.YtgebdehpoalfbaaMg4
import Derived.Maps.RangeRun
/-! The library's contracts on a map's keys, sorted, at this program. -/
namespace Go.Proofs.Ytgebdehpoalfbaa.B
open Go Go.Proofs
open Go.Shelf
def it_keys33_ren : Go.Shelf.Ren := ⟨fun | 7 => 33 | 10 => 40 | n => n, fun | 23 => 59 | 26 => 3 | 3 => 62 | 28 => 71 | 0 => 0 | 27 => 70 | 33 => 68 | 4 => 4 | n => n, fun | n => n⟩
theorem it_keys33 : Go.Proofs.SlLaysZI.n7 Try.prog it_keys33_ren := {
  mixed := by kernel_rfl
  f7 := ⟨Try.f33.name, by decide, Try.func33.trans (congrArg some (by kernel_rfl))⟩
  f10 := ⟨Try.f40.name, by decide, Try.func40.trans (congrArg some (by kernel_rfl))⟩
  t0 := Try.underlying0
  a0 := Try.isAgg0
  z0 := Try.sizeOf0
  v0 := Try.zeroValue0
  t4 := Try.underlying4
  a4 := Try.isAgg4
  z4 := Try.sizeOf4
  v4 := Try.zeroValue4
  t23 := Try.underlying59
  a23 := Try.isAgg59
  z23 := Try.sizeOf59
  v23 := Try.zeroValue59
  t26 := Try.underlying3
  a26 := Try.isAgg3
  z26 := Try.sizeOf3
  v26 := Try.zeroValue3
  t27 := Try.underlying70
  a27 := Try.isAgg70
  z27 := Try.sizeOf70
  v27 := Try.zeroValue70
  t28 := Try.underlying71
  a28 := Try.isAgg71
  z28 := Try.sizeOf71
  v28 := Try.zeroValue71
  t33 := Try.underlying68
  a33 := Try.isAgg68
  z33 := Try.sizeOf68
  v33 := Try.zeroValue68 }
def it_sorted32_ren : Go.Shelf.Ren := ⟨fun | 6 => 32 | 8 => 39 | 9 => 29 | 11 => 52 | 13 => 37 | 12 => 36 | 23 => 50 | 24 => 51 | 14 => 41 | 15 => 42 | 16 => 43 | 17 => 44 | 18 => 45 | 19 => 46 | 20 => 47 | 21 => 48 | 22 => 49 | 25 => 53 | 26 => 54 | 27 => 55 | 28 => 56 | 29 => 57 | 30 => 58 | 31 => 59 | n => n, fun | 26 => 3 | 28 => 71 | 24 => 33 | 0 => 0 | 3 => 3 | 37 => 78 | 48 => 90 | 50 => 92 | 4 => 4 | 40 => 82 | 39 => 81 | 45 => 87 | 5 => 5 | 9 => 9 | 51 => 94 | 55 => 98 | 57 => 100 | 58 => 101 | 33 => 68 | n => n, fun | n => n⟩
theorem it_sorted32 : Go.Proofs.SlLaysZI.n6 Try.prog it_sorted32_ren := {
  mixed := by kernel_rfl
  f6 := ⟨Try.f32.name, by decide, Try.func32.trans (congrArg some (by kernel_rfl))⟩
  f8 := ⟨Try.f39.name, by decide, Try.func39.trans (congrArg some (by kernel_rfl))⟩
  f11 := ⟨Try.f52.name, by decide, Try.func52.trans (congrArg some (by kernel_rfl))⟩
  t0 := Try.underlying0
  a0 := Try.isAgg0
  z0 := Try.sizeOf0
  v0 := Try.zeroValue0
  t24 := Try.underlying33
  a24 := Try.isAgg33
  z24 := Try.sizeOf33
  v24 := Try.zeroValue33
  t26 := Try.underlying3
  a26 := Try.isAgg3
  z26 := Try.sizeOf3
  v26 := Try.zeroValue3
  t28 := Try.underlying71
  a28 := Try.isAgg71
  z28 := Try.sizeOf71
  v28 := Try.zeroValue71
  i26 := by kernel_rfl }
def it_sort29_ren : Go.Shelf.Ren := ⟨fun | 5 => 29 | 8 => 37 | 7 => 36 | 19 => 50 | 20 => 51 | 10 => 41 | 11 => 42 | 12 => 43 | 13 => 44 | 14 => 45 | 15 => 46 | 16 => 47 | 17 => 48 | 18 => 49 | 30 => 53 | 31 => 54 | 32 => 55 | 33 => 56 | 34 => 57 | 35 => 58 | 40 => 59 | n => n, fun | 23 => 33 | 25 => 3 | 3 => 3 | 32 => 78 | 22 => 33 | 0 => 0 | 44 => 90 | 46 => 92 | 4 => 4 | 36 => 82 | 35 => 81 | 41 => 87 | 5 => 5 | 9 => 9 | 53 => 94 | 57 => 98 | 63 => 100 | 64 => 101 | n => n, fun | n => n⟩
theorem it_sort29 : Go.Proofs.SlLaysM.n5 Try.prog it_sort29_ren := {
  mixed := by kernel_rfl
  f5 := ⟨Try.f29.name, by decide, Try.func29.trans (congrArg some (by kernel_rfl))⟩
  f7 := ⟨Try.f36.name, by decide, Try.func36.trans (congrArg some (by kernel_rfl))⟩
  f8 := Try.func37.trans (congrArg some (by kernel_rfl))
  f10 := ⟨Try.f41.name, by decide, Try.func41.trans (congrArg some (by kernel_rfl))⟩
  f11 := ⟨Try.f42.name, by decide, Try.func42.trans (congrArg some (by kernel_rfl))⟩
  f12 := ⟨Try.f43.name, by decide, Try.func43.trans (congrArg some (by kernel_rfl))⟩
  f13 := ⟨Try.f44.name, by decide, Try.func44.trans (congrArg some (by kernel_rfl))⟩
  f14 := ⟨Try.f45.name, by decide, Try.func45.trans (congrArg some (by kernel_rfl))⟩
  f15 := ⟨Try.f46.name, by decide, Try.func46.trans (congrArg some (by kernel_rfl))⟩
  f16 := ⟨Try.f47.name, by decide, Try.func47.trans (congrArg some (by kernel_rfl))⟩
  f17 := ⟨Try.f48.name, by decide, Try.func48.trans (congrArg some (by kernel_rfl))⟩
  f18 := ⟨Try.f49.name, by decide, Try.func49.trans (congrArg some (by kernel_rfl))⟩
  f19 := Try.func50.trans (congrArg some (by kernel_rfl))
  f20 := Try.func51.trans (congrArg some (by kernel_rfl))
  f30 := ⟨Try.f53.name, by decide, Try.func53.trans (congrArg some (by kernel_rfl))⟩
  f31 := Try.func54.trans (congrArg some (by kernel_rfl))
  f32 := Try.func55.trans (congrArg some (by kernel_rfl))
  f33 := ⟨Try.f56.name, by decide, Try.func56.trans (congrArg some (by kernel_rfl))⟩
  f34 := ⟨Try.f57.name, by decide, Try.func57.trans (congrArg some (by kernel_rfl))⟩
  f35 := ⟨Try.f58.name, by decide, Try.func58.trans (congrArg some (by kernel_rfl))⟩
  f40 := ⟨Try.f59.name, by decide, Try.func59.trans (congrArg some (by kernel_rfl))⟩
  t0 := Try.underlying0
  a0 := Try.isAgg0
  z0 := Try.sizeOf0
  v0 := Try.zeroValue0
  t3 := Try.underlying3
  a3 := Try.isAgg3
  z3 := Try.sizeOf3
  v3 := Try.zeroValue3
  t4 := Try.underlying4
  a4 := Try.isAgg4
  z4 := Try.sizeOf4
  v4 := Try.zeroValue4
  t5 := Try.underlying5
  a5 := Try.isAgg5
  z5 := Try.sizeOf5
  v5 := Try.zeroValue5
  t9 := Try.underlying9
  a9 := Try.isAgg9
  z9 := Try.sizeOf9
  v9 := Try.zeroValue9
  t22 := Try.underlying33
  a22 := Try.isAgg33
  z22 := Try.sizeOf33
  v22 := Try.zeroValue33
  t23 := Try.underlying33
  a23 := Try.isAgg33
  z23 := Try.sizeOf33
  v23 := Try.zeroValue33
  t25 := Try.underlying3
  a25 := Try.isAgg3
  z25 := Try.sizeOf3
  v25 := Try.zeroValue3
  t32 := Try.underlying78
  a32 := Try.isAgg78
  z32 := Try.sizeOf78
  v32 := Try.zeroValue78
  t35 := Try.underlying81
  a35 := Try.isAgg81
  z35 := Try.sizeOf81
  v35 := Try.zeroValue81
  t36 := Try.underlying82
  a36 := Try.isAgg82
  z36 := Try.sizeOf82
  v36 := Try.zeroValue82
  t41 := Try.underlying87
  a41 := Try.isAgg87
  z41 := Try.sizeOf87
  v41 := Try.zeroValue87
  t44 := Try.underlying90
  a44 := Try.isAgg90
  z44 := Try.sizeOf90
  v44 := Try.zeroValue90
  t46 := Try.underlying92
  a46 := Try.isAgg92
  z46 := Try.sizeOf92
  v46 := Try.zeroValue92
  t53 := Try.underlying94
  a53 := Try.isAgg94
  z53 := Try.sizeOf94
  v53 := Try.zeroValue94
  t57 := Try.underlying98
  a57 := Try.isAgg98
  z57 := Try.sizeOf98
  v57 := Try.zeroValue98
  t63 := Try.underlying100
  a63 := Try.isAgg100
  z63 := Try.sizeOf100
  v63 := Try.zeroValue100
  t64 := Try.underlying101
  a64 := Try.isAgg101
  z64 := Try.sizeOf101
  v64 := Try.zeroValue101 }
open Go.RowKit Go.Maps Go.Sort Go.Shelf


theorem it_sorts32 (m : Nat) : AnyZI.SortsIn Try.prog it_sorted32_ren Fence.wide m :=
  ⟨fun blk off cap ss W hH hblk hsz => callsIn_wide.2 (AnyM.slices_Sort_int it_sort29 blk off cap ss W hH hblk hsz),
   fun p cap W => callsIn_wide.2 (AnyM.slices_Sort_int_none it_sort29 p cap W)⟩

theorem it_maps_Keys_33 (mb : Option Nat) (W : World) : CallsIn Fence.wide 5 Try.prog 33 #[.map mb] W fun e w' => e = .returned (.func (.func 40) #[] #[.pointer (some ⟨W.heap.size, 0, none⟩)]) ∧ w' = W.alloc (.cells #[.map mb] 59) :=
  AnyZI.keys_in it_keys33 Fence.wide 5 trivial rfl mb W

set_option maxHeartbeats 1000000 in
theorem it_slices_Sorted_keys_32_33 {H : Type} (b nn : Nat) (D0 : DataW H) (R : Value → Option (DataW H × List MemPlace)) (w : World) (hown : w.ownsMap Try.prog 3 R b nn D0) (hmax : Maps.size D0 ≤ maxLen) (hbytes : Maps.size D0 * 8 ≤ 140737488355328) :
    CallsIn Fence.wide 5 Try.prog 32 #[.func (.func 40) #[] #[.pointer (some ⟨w.heap.size, 0, none⟩)]] (w.alloc (.cells #[.map (some b)] 59)) fun e w' => ∃ (v : Value) (ss : List Int), e = .returned v ∧ ss.Perm (intKeys D0) ∧
      w'.ownsRow (w.alloc (.cells #[.map (some b)] 59)).heap.size 3 1 v ss.length ((ss.mergeSort (fun x y => decide (x ≤ y))).map encZ) ∧ (v = .slice none 0 0 ↔ ss = []) ∧ Below (w.alloc (.cells #[.map (some b)] 59)).heap.size (w.alloc (.cells #[.map (some b)] 59)) w' := by
  have hbl := hown.lt
  have hseq : SeqGives Fence.wide 2 Try.prog 40 #[.pointer (some ⟨w.heap.size, 0, none⟩)] encZ (fun ss => ss.Perm (intKeys D0)) (Maps.size D0) (w.alloc (.cells #[.map (some b)] 59)) :=
    AnyZI.keys_gives (ρ := it_keys33_ren) { it_keys33 with } Fence.wide _ trivial rfl (by omega) w.heap.size b nn D0 _ (by simp) (by simp) (by
      obtain ⟨es, clock, hb, Ft, hs, hD⟩ := hown
      exact ⟨es, clock, (Below.heap_alloc _ _ b hbl).trans hb, Ft, hs, hD⟩)
  exact AnyZI.sorted_in it_sorted32 Fence.wide 5 trivial trivial trivial trivial rfl (by omega) (it_sorts32 _) (enters_of Try.func29 (by kernel_rfl) rfl) 40 #[.pointer (some ⟨w.heap.size, 0, none⟩)] trivial (enters_of Try.func40 (by kernel_rfl) rfl) _ _ hmax hbytes _ hseq

set_option maxHeartbeats 1000000 in
theorem it_slices_Sorted_keys_nil_32_33 (w : World) :
    CallsIn Fence.wide 5 Try.prog 32 #[.func (.func 40) #[] #[.pointer (some ⟨w.heap.size, 0, none⟩)]] (w.alloc (.cells #[.map none] 59)) fun e w' => ∃ (v : Value) (ss : List Int), e = .returned v ∧ ss = [] ∧
      w'.ownsRow (w.alloc (.cells #[.map none] 59)).heap.size 3 1 v ss.length ((ss.mergeSort (fun x y => decide (x ≤ y))).map encZ) ∧ (v = .slice none 0 0 ↔ ss = []) ∧ Below (w.alloc (.cells #[.map none] 59)).heap.size (w.alloc (.cells #[.map none] 59)) w' := by
  have hseq : SeqGives Fence.wide 2 Try.prog 40 #[.pointer (some ⟨w.heap.size, 0, none⟩)] encZ (fun ss : List Int => ss = []) 0 (w.alloc (.cells #[.map none] 59)) :=
    AnyZI.keys_gives_nil (ρ := it_keys33_ren) { it_keys33 with } Fence.wide _ trivial rfl w.heap.size _ (by simp) (by simp)
  exact AnyZI.sorted_in it_sorted32 Fence.wide 5 trivial trivial trivial trivial rfl (by omega) (it_sorts32 _) (enters_of Try.func29 (by kernel_rfl) rfl) 40 #[.pointer (some ⟨w.heap.size, 0, none⟩)] trivial (enters_of Try.func40 (by kernel_rfl) rfl) _ 0 (Nat.zero_le _) (by omega) _ hseq



end Go.Proofs.Ytgebdehpoalfbaa.B

set_option linter.unusedVariables false
set_option linter.unusedSimpArgs false
set_option maxRecDepth 8000
/-! The keys of a map by integers, sorted: the nodes. -/
namespace Go.Proofs.Ytgebdehpoalfbaa.B
open Go Go.Proofs Go.RowKit
open Go.ChangeMaps Go.MapKept
open Go.WideElems (Fit rd rg rd_mk)
section
variable {α : Type} {E : EncK α} {W0 w w' : World} {G : List SL} {t : Nat}
theorem Sat.slcNewB {v' : Value} {ys : List α} (s : Sat W0 G w) (hb : Below w.heap.size w w') (ho : w'.ownsRow w.heap.size t E.sz v' ys.length (flat E ys)) :
    ∃ A' c', v' = .slice A' ys.length c' ∧ Sat W0 (slc E t A' c' ys :: G) w' := by
  have hbase : Base w w' := ⟨hb.os, hb.tape, hb.output⟩
  rcases ho.2 with ⟨rfl, hn⟩ | ⟨g, cap, cur, rfl, hge, hh, h1, h2, h3, h4⟩
  · have : ys = [] := List.eq_nil_of_length_eq_zero hn
    subst this
    exact ⟨none, 0, rfl, (s.below hb).slcNil E t⟩
  · refine ⟨some ⟨g, 0, none⟩, cap, rfl, s.triv.turn (fun hp _ _ => ⟨⟨fun k => if k = g then some (.cells cur t (0, 0)) else none, .inr ⟨g, cur, rfl, by simp [B.blk], h1, h2, h3, h4⟩, fun k o h => ?_, fun k h => ?_⟩, fun k hk _ => hb.block k hk⟩) hbase⟩
    · simp only at h
      split at h
      · rename_i e; subst e; injection h with h; subst h; exact hh
      · cases h
    · simp only at h
      split at h
      · rename_i e; subst e; exact .inr hge
      · exact absurd rfl h
end
section
variable {ν : Type} {ev : ν → Value} {m : Nat} {kv : List (Int × ν)} {w : World} {l : List MapEntry} {clock : Nat} {P : Program} {k : TypeId}
def nilZ {H : Type} : Value → Option (DataW H × List MemPlace) := fun _ => some (.nil, [])
theorem keyOf_intB (hu : P.underlying k = some (.int .i64)) (s : Int) (hs : (Lit.int .i64 s).wf = true) : keyOf P k (.int .i64 s) = some (.int .i64 s) := by
  simp [keyOf, hu, mapKey, hs]
theorem rg_int {H : Type} (hu : P.underlying k = some (.int .i64)) {e : MapEntry} {s : Int} (he : e.key = .int .i64 s) (hs : (Lit.int .i64 s).wf = true) : rd (H := H) P k nilZ e = some (.int .i64 s, .nil) := by
  obtain ⟨key, val, born⟩ := e
  simp only at he
  subst he
  exact rd_mk (yv := (DataW.nil, [])) (keyOf_intB hu s hs) rfl
theorem owns_of_mapi {H : Type} (hm : w.heap[m]? = some (.map l.toArray clock)) (hmap : l.map (fun e => (e.key, e.val)) = kv.map (fun p => (intK.enc p.1, ev p.2))) (hb : bornOk l clock) (hnd : (kv.map (·.1)).Nodup)
    (hk : ∀ x ∈ kv, (Lit.int .i64 x.1).wf = true) (hl : kv.length ≤ maxLen) (hu : P.underlying k = some (.int .i64)) :
    w.ownsMap P k nilZ m kv.length (.map ((l.map (rg (H := H) P k nilZ)).foldr DataW.insert [])) ∧ ((l.map (rg (H := H) P k nilZ)).map fun p => Go.intOf p.1) = kv.map (·.1) := by
  have hkeys : l.map (·.key) = kv.map (fun p => Value.int .i64 p.1) := by
    have := congrArg (List.map (·.1)) hmap
    simpa [List.map_map, Function.comp_def, intK] using this
  have hlen : l.length = kv.length := by have := congrArg List.length hkeys; simpa using this
  have hread : ∀ e ∈ l, ∃ s, e.key = .int .i64 s ∧ (Lit.int .i64 s).wf = true := fun e he => by
    have : e.key ∈ kv.map (fun p => Value.int .i64 p.1) := hkeys ▸ List.mem_map_of_mem he
    obtain ⟨p, hp, e1⟩ := List.mem_map.1 this
    exact ⟨p.1, e1.symm, hk p hp⟩
  refine ⟨⟨l.toArray, clock, hm, ⟨by simp [hlen, hl], ⟨fun x hx => hb.2 x (by simpa using hx), ?_, ?_⟩, fun x hx => ?_⟩, by simp [hlen], by simp⟩, ?_⟩
  · simpa [List.Nodup, List.pairwise_map] using hb.1
  · show (l.map (·.key)).Nodup
    rw [hkeys]
    have : kv.map (fun p => Value.int .i64 p.1) = (kv.map (·.1)).map (Value.int .i64) := by rw [List.map_map]; rfl
    rw [this]
    exact List.Pairwise.map _ (fun a b hab e => hab (by injection e)) hnd
  · obtain ⟨s, h1, h2⟩ := hread x (by simpa using hx)
    exact ⟨_, rg_int hu h1 h2⟩
  · have e1 : (l.map (rg (H := H) P k nilZ)).map (fun p => Go.intOf p.1) = (l.map (·.key)).map (fun v => match v with | .int _ s => s | _ => 0) := by
      rw [List.map_map, List.map_map]
      refine List.map_congr_left fun e he => ?_
      obtain ⟨s, h1, h2⟩ := hread e he
      simp only [Function.comp, h1, WideElems.rg, rg_int (H := H) hu h1 h2]
      rfl
    rw [e1, hkeys, List.map_map]
    rfl
end
theorem node_keys (m : Nat) (W0 : World) (G : List SL) :
    Fn Try.prog 33 [.map (some m)] W0 G
      (Ret fun v G' => ∃ q, v = .func (.func 40) #[] #[.pointer (some ⟨q, 0, none⟩)] ∧ G' = row q 59 [.map (some m)] :: G) := fun w hs => by
  refine (callsIn_wide.1 (it_maps_Keys_33 (some m) w)).mono fun e w' h => ?_
  obtain ⟨rfl, rfl⟩ := h
  exact ⟨_, ⟨_, rfl, rfl⟩, hs.alloc _⟩
theorem node_names {ν : Type} {ev : ν → Value} {m q : Nat} {kv : List (Int × ν)} (hnd : (kv.map (·.1)).Nodup) (hk : ∀ n ∈ kv.map (·.1), 0 ≤ n ∧ n < 4) (hl : kv.length ≤ 20) (W0 : World) (G : List SL) :
    Fn Try.prog 32 [.func (.func 40) #[] #[.pointer (some ⟨q, 0, none⟩)]] W0
      (row q 59 [.map (some m)] :: mapb intK ev m kv :: G)
      (Ret fun v G' => ∃ A c, v = .slice A (sortI (kv.map (·.1))).length c ∧ G' = slc intE 3 A c (sortI (kv.map (·.1))) :: mapb intK ev m kv :: G) := fun w hs => by
  obtain ⟨l, clock, hm, hmap, hb⟩ := mapb_at (i := 1) hs rfl
  have hq := hs.head
  have hqb : w.heap[q]? = some (.cells #[.map (some m)] 59 (0, 0)) := hs.blk
  obtain ⟨hown, hkeys⟩ := owns_of_mapi (H := Unit) (P := Try.prog) (k := 3) hm hmap hb hnd (fun x hx => by
    have := hk x.1 (List.mem_map.2 ⟨x, hx, rfl⟩)
    have h1 : (IntKind.i64).min = -9223372036854775808 := rfl
    have h2 : (IntKind.i64).max = 9223372036854775807 := rfl
    simp only [Lit.wf, h1, h2, Bool.and_eq_true, decide_eq_true_eq]
    omega) (by simp only [maxLen]; omega) Try.underlying3
  have hkl : (l.map (rg (H := Unit) Try.prog 3 nilZ)).length = kv.length := by
    have := congrArg List.length hkeys
    simpa using this
  have hsz : Maps.size (DataW.map ((l.map (rg (H := Unit) Try.prog 3 nilZ)).foldr DataW.insert [])) = kv.length := by
    rw [Maps.size_eq, Go.length_sorted, hkl]
  have hcell : w.cell? ⟨q, 0, none⟩ = some (.map (some m)) := by simp [World.cell?, hqb]
  have hseq : SeqGives Fence.wide 2 Try.prog 40 #[.pointer (some ⟨q, 0, none⟩)] encZ (fun ss => ss.Perm (Go.intKeys (DataW.map ((l.map (rg (H := Unit) Try.prog 3 nilZ)).foldr DataW.insert [])))) (Maps.size (DataW.map ((l.map (rg (H := Unit) Try.prog 3 nilZ)).foldr DataW.insert []))) w :=
    AnyZI.keys_gives (ρ := it_keys33_ren) { it_keys33 with } Fence.wide _ trivial rfl (by omega) q m kv.length _ _ (Array.getElem?_eq_some_iff.1 hqb).1 hcell hown
  have hc := AnyZI.sorted_in it_sorted32 Fence.wide 5 trivial trivial trivial trivial rfl (by omega) (it_sorts32 _) (enters_of Try.func29 (by kernel_rfl) rfl) 40 #[.pointer (some ⟨q, 0, none⟩)] trivial (enters_of Try.func40 (by kernel_rfl) rfl) _ _ (by rw [hsz]; simp only [maxLen]; omega) (by rw [hsz]; omega) _ hseq
  refine (callsIn_wide.1 hc).mono fun e w' h => ?_
  obtain ⟨v, ss, rfl, hS, ho, _, hbel⟩ := h
  have hp : ss.Perm (kv.map (·.1)) := by
    rw [← hkeys]
    refine hS.trans ?_
    exact (Go.WideShapes.sorted_perm _).map _
  have hsort : ss.mergeSort (fun x y => decide (x ≤ y)) = sortI (kv.map (·.1)) := Go.mergeSort_of_perm_i hp
  have hlen : ss.length = (sortI (kv.map (·.1))).length := by
    have := hp.length_eq
    rw [sortI_len]; simpa using this
  rw [hlen, hsort] at ho
  have ho2 : w'.ownsRow w.heap.size 3 intE.sz v (sortI (kv.map (·.1))).length (flat intE (sortI (kv.map (·.1)))) := by rw [flat_int]; exact ho
  obtain ⟨A, c, rfl, s2⟩ := (hs.drop).slcNewB hbel ho2
  exact ⟨_, ⟨A, c, rfl, rfl⟩, s2⟩
theorem Fn.post {P : Program} {K : Nat} {vs : List Value} {W0 : World} {G : List SL} {R R' : Ending → List SL → Prop} (h : Fn P K vs W0 G R) (hr : ∀ e G', R e G' → ∃ G'', (∀ w, Sat W0 G' w → Sat W0 G'' w) ∧ R' e G'') : Fn P K vs W0 G R' := fun w hs =>
  (h w hs).mono fun e w' ⟨G', h1, h2⟩ => by
    obtain ⟨G'', h3, h4⟩ := hr e G' h1
    exact ⟨G'', h4, h3 _ h2⟩
theorem Ret.post {R R' : Value → List SL → Prop} {W0 : World} (hr : ∀ v G', R v G' → ∃ G'', (∀ w, Sat W0 G' w → Sat W0 G'' w) ∧ R' v G'') : ∀ e G', Ret R e G' → ∃ G'', (∀ w, Sat W0 G' w → Sat W0 G'' w) ∧ Ret R' e G'' := fun e G' h => by
  cases e with
  | returned v => exact hr v G' h
  | panicked ch => exact h.elim
  | outgrown => exact h.elim
attribute [local irreducible] WL CS QS WQ WH WS Fn Op1 row Sat
attribute [local irreducible] slc mapb bmA inners
theorem nodesL {M : BM} (hM : BMOk M) : M.length ≤ 20 := by
  have h := congrArg List.length (nodes_eq hM)
  unfold BM.nodes at h
  rw [sortI_len, List.length_map] at h
  have := List.length_filter_le (fun n => (aget M n).isSome) ([0, 1, 2, 3] : List Int)
  simp only [List.length_cons, List.length_nil] at this
  omega
/-- Nodes, the map open. -/
theorem nodes_in {b m : Nat} {kv : KV} (hM : BMOk (flatK kv)) (W0 : World) (F : List SL) :
    Fn Try.prog 17 [.pointer (some ⟨b, 0, none⟩)] W0 (row b 61 [.map (some m)] :: mapb intK nodeV m kv :: inners kv :: F)
      (Ret fun v G' => ∃ A c, v = .slice A (flatK kv).nodes.length c ∧ G' = slc intE 3 A c (flatK kv).nodes :: row b 61 [.map (some m)] :: mapb intK nodeV m kv :: inners kv :: F) := by
  refine Fn.enter Try.func17 rfl Try.ntmps17 rfl ?_
  repeat' (first|refine bk ?_|refine bkc ?_|refine bks ?_|refine bkd ?_|refine bkq (fun q => ?_)|(refine bk2 ?_ ?_<;>(first|exact bkn|(refine bkk ?_;intro h))))
  refine WL.call c33 rfl rfl rfl rfl (node_keys m W0 _) ?_
  rintro _ _ ⟨q, rfl, rfl⟩
  repeat' (first|refine bk ?_|refine bkc ?_|refine bks ?_|refine bkd ?_|refine bkq (fun q => ?_)|(refine bk2 ?_ ?_<;>(first|exact bkn|(refine bkk ?_;intro h))))
  have e : sortI (kv.map (·.1)) = (flatK kv).nodes := by unfold BM.nodes; rw [flatK_keys]
  have hc := node_names (ev := nodeV) (m := m) (q := q) (kv := kv) (by have := hM.nodup; rwa [flatK_keys] at this) (by have := hM.keys; rwa [flatK_keys] at this) (by have := nodesL hM; rwa [flatK_len] at this) W0 (row b 61 [.map (some m)] :: inners kv :: F)
  rw [e] at hc
  refine WL.call c32 rfl rfl rfl rfl (hc.pre (fun w hs => ?_)) ?_
  · exact hs.perm (List.Perm.cons _ (List.Perm.swap ..))
  rintro _ _ ⟨A, c, rfl, rfl⟩
  repeat' (first|refine bk ?_|refine bkc ?_|refine bks ?_|refine bkd ?_|refine bkq (fun q => ?_)|(refine bk2 ?_ ?_<;>(first|exact bkn|(refine bkk ?_;intro h))))
  refine QS.turn (G' := slc intE 3 A c (flatK kv).nodes :: row b 61 [.map (some m)] :: mapb intK nodeV m kv :: inners kv :: F) (fun w hs => ?_) (QS.retV Try.results17 rfl ⟨A, c, rfl, rfl⟩)
  exact hs.perm (List.Perm.cons _ (List.Perm.swap ..))
theorem blocks_Nodes {b : Nat} {M : BM} (hM : BMOk M) (W0 : World) (F : List SL) :
    Fn Try.prog 17 [.pointer (some ⟨b, 0, none⟩)] W0 (bmA b M :: F)
      (Ret fun v G' => ∃ A c, v = .slice A M.nodes.length c ∧ G' = slc intE 3 A c M.nodes :: bmA b M :: F) := by
  refine Fn.ex (fun w hs => bmA_open w hs) ?_
  rintro ⟨⟨m, kv⟩, rfl⟩
  refine (nodes_in hM W0 F).post (Ret.post ?_)
  rintro _ _ ⟨A, c, rfl, rfl⟩
  refine ⟨slc intE 3 A c (flatK kv).nodes :: bmA b (flatK kv) :: F, fun w hs => ?_, A, c, rfl, rfl⟩
  have h1 := bmA_shut (m := m) (kv := kv) (F := slc intE 3 A c (flatK kv).nodes :: F) rfl w (hs.perm (by
    refine (List.Perm.swap ..).trans (List.Perm.cons _ ((List.Perm.swap ..).trans (List.Perm.cons _ (List.Perm.swap ..))))))
  exact h1.perm (List.Perm.swap ..)
end Go.Proofs.Ytgebdehpoalfbaa.B

set_option linter.unusedVariables false
set_option linter.unusedSimpArgs false
set_option maxRecDepth 8000
/-! Going through a map. -/
namespace Go.Proofs.Ytgebdehpoalfbaa.B
open Go Go.Proofs
section
variable {P : Program} (T : Tab P) {Q : Exit → Act → World → Prop} {n : Nat} {ds : List Deferred} {L : TL} {W0 : World} {G : List SL}
  {ops : Array Oper} {rest : List Oper} {op : Op} {ty : TypeId} {pos : String} {af : Array Edge}
theorem WL.rangeM (j : Nat) {d m t kt et : Nat} {x : Operand} {es : Array MapEntry} {clock : Nat} {z b1 c1 : _} (hx : evL L x = some (.map (some m))) (hG : G[j]? = some (blk m (.map es clock)))
    (hl : lk T.tab t = some ⟨.map kt et, z, b1, c1⟩) (hd : Nat.blt d n = true)
    (h : ∀ r, WL P Q n ds ops rest ((d, .pointer (some ⟨r, 0, none⟩)) :: L) W0 (blk r (.mapIter (some m) clock #[] clock) :: G)) :
    WL P Q n ds ops (⟨some d, .range t x, ty, pos, af, none⟩ :: rest) L W0 G := fun a w hf hs =>
  wpList_plain rfl fun K hK => by
    obtain ⟨d1, hd1, e1, _⟩ := T.und (w := w) hl
    obtain rfl := tdOf_map e1
    have hb := Sat.at hs hG
    have hr : (execOp a.eval ⟨some d, .range t x, ty, pos, af, none⟩).run P w = .ok (.value (.pointer (some ⟨w.heap.size, 0, none⟩))) (w.alloc (.mapIter (some m) clock #[] clock)) := by
      simp [execOp, hf.ev hx, Instr.range, hd1, getObj, Sem.run, hb, Result.andThen]
    unfold Oper.wp
    rw [hr, Oper.upon_value]
    exact hK _ _ (h w.heap.size _ _ (hf.put (d := some d) hd) (hs.alloc _))
theorem WL.rangeN {d t kt et : Nat} {x : Operand} {z b1 c1 : _} (hx : evL L x = some (.map none)) (hl : lk T.tab t = some ⟨.map kt et, z, b1, c1⟩) (hd : Nat.blt d n = true)
    (h : ∀ r, WL P Q n ds ops rest ((d, .pointer (some ⟨r, 0, none⟩)) :: L) W0 (blk r (.mapIter none 0 #[] 0) :: G)) :
    WL P Q n ds ops (⟨some d, .range t x, ty, pos, af, none⟩ :: rest) L W0 G := fun a w hf hs =>
  wpList_plain rfl fun K hK => by
    obtain ⟨d1, hd1, e1, _⟩ := T.und (w := w) hl
    obtain rfl := tdOf_map e1
    have hr : (execOp a.eval ⟨some d, .range t x, ty, pos, af, none⟩).run P w = .ok (.value (.pointer (some ⟨w.heap.size, 0, none⟩))) (w.alloc (.mapIter none 0 #[] 0)) := by
      simp [execOp, hf.ev hx, Instr.range, hd1, getObj, Sem.run, Result.andThen]
    unfold Oper.wp
    rw [hr, Oper.upon_value]
    exact hK _ _ (h w.heap.size _ _ (hf.put (d := some d) hd) (hs.alloc _))
theorem op1_nextN (i : Nat) {r : Nat} {x : Operand} (hx : evL L x = some (.pointer (some ⟨r, 0, none⟩))) (hr : G[i]? = some (blk r (.mapIter none 0 #[] 0))) :
    Op1 P n ds L W0 G (.next x false) ty (.tuple #[.bool false]) := by
  intro a w hf hs d pos af g
  have hb := Sat.at hs hr
  simp [execOp, hf.ev hx, Instr.next, getObj, Sem.run, hb, Result.andThen]
theorem WL.nextM (i j : Nat) {d m r since c0 : Nat} {x : Operand} {es : Array MapEntry} {clock : Nat} {seen : Array Nat} {G' : Array Nat → List SL} (hx : evL L x = some (.pointer (some ⟨r, 0, none⟩)))
    (hr : G[i]? = some (blk r (.mapIter (some m) since seen c0))) (hm : G[j]? = some (blk m (.map es clock))) (hold : ∀ x ∈ es.toList, x.born < since) (hsc : since ≤ c0) (hd : Nat.blt d n = true)
    (hG' : ∀ s, setG G i (blk r (.mapIter (some m) since s clock)) = some (G' s))
    (h0 : (leftOf es seen).size = 0 → WL P Q n ds ops rest ((d, .tuple #[.bool false]) :: L) W0 G)
    (h1 : ∀ e ∈ (leftOf es seen).toList, WL P Q n ds ops rest ((d, .tuple #[.bool true, e.key, e.val]) :: L) W0 (G' (seen.push e.born))) :
    WL P Q n ds ops (⟨some d, .next x false, ty, pos, af, none⟩ :: rest) L W0 G := fun a w hf hs =>
  wpList_plain rfl fun K hK => by
    have hb1 := Sat.at hs hr
    have hb2 := Sat.at hs hm
    unfold Oper.wp
    have ex : execOp a.eval ⟨some d, .next x false, ty, pos, af, none⟩ = (do let v ← Instr.next (.pointer (some ⟨r, 0, none⟩)) false ty; pure (.value v)) := by
      simp only [execOp, hf.ev hx]
    rcases run_next_at (P := P) w ty r m since c0 seen es clock hb1 hb2 hold hsc with ⟨h2, h3⟩ | ⟨e, he, w1, hw1, h3⟩
    · rw [ex, Sem.run_bind, h3]
      simp only [Result.andThen_ok, Sem.run_pure, Oper.upon_value]
      exact hK _ _ (h0 h2 _ _ (hf.put (d := some d) hd) hs)
    · rw [ex, Sem.run_bind, h3]
      simp only [Result.andThen_ok, Sem.run_pure, Oper.upon_value]
      have s1 : Sat W0 G w1 := by rcases hw1 with rfl | rfl; exact hs; exact hs.same rfl ⟨rfl, rfl, rfl⟩
      obtain ⟨q, hq⟩ := getG_pick hr
      have s2 := s1.perm (pickG_eq hq).1.symm
      have hlt : r < w1.heap.size := (Array.getElem?_eq_some_iff.1 s2.blk).1
      have s3 := s2.put (o' := .mapIter (some m) since (seen.push e.born) clock) (w' := Go.ChangeMaps.setBlock w1 r (.mapIter (some m) since (seen.push e.born) clock)) (heap_set w1 r _ hlt) (fun k hk => heap_set_ne w1 r k _ hk) ⟨rfl, rfl, rfl⟩
      exact hK _ _ (h1 e he _ _ (hf.put (d := some d) hd) (s3.perm (setG_eq hq (hG' _))))
theorem op1_entry (i j : Nat) {m r since clock : Nat} {x : Operand} {es : Array MapEntry} {seen : Array Nat} {e : MapEntry} (hx : evL L x = some (.pointer (some ⟨r, 0, none⟩)))
    (hr : G[i]? = some (blk r (.mapIter (some m) since (seen.push e.born) clock))) (hm : G[j]? = some (blk m (.map es clock))) (he : e ∈ es.toList) (hn : (es.toList.map (·.born)).Nodup) :
    Op1 P n ds L W0 G (.entry x) ty (.tuple #[e.key, e.val]) := by
  intro a w hf hs d pos af g
  have h := run_entry_at (P := P) w r m since seen es clock e (Sat.at hs hr) (Sat.at hs hm) he hn
  simp only [execOp, hf.ev hx, Sem.run_bind, h]
  rfl
end
end Go.Proofs.Ytgebdehpoalfbaa.B
