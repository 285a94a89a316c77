import Derived.Shelf.SlIter.Nil
import Derived.Shelf.SortM.Plain
import Derived.Shelf.SortM.SortNone
import Derived.Ground.GgzProg
import Derived.Ground.SlgmProg
import Derived.Test.YtfolmcpfdcgliaaGreatProg
import Derived.Test.YtfolmcpfdcgliaaGreatMg8
import Derived.Test.YtfolmcpfdcgliaaGreatMg10
import Derived.Test.YtfolmcpfdcgliaaGreatMg19
import Derived.Test.YtfolmcpfdcgliaaGreatMg28
import Derived.Test.YtfolmcpfdcgliaaGreatMg35
import Derived.Test.YtfolmcpfdcgliaaGreatMg36
import Derived.Test.YtfolmcpfdcgliaaGreatMg37
import Derived.Test.YtfolmcpfdcgliaaGreatMg33
/-! The library's contracts on a map's keys, sorted, at this program. -/
namespace Go.Proofs.YtfolmcpfdcgliaaGreat.B
open Go Go.Proofs
open Go.Shelf
def it_keys102_ren : Go.Shelf.Ren := ⟨fun | 7 => 102 | 10 => 144 | n => n, fun | 23 => 133 | 26 => 9 | 3 => 138 | 28 => 190 | 0 => 0 | 27 => 189 | 33 => 237 | 4 => 4 | n => n, fun | n => n⟩
theorem it_keys102 : Go.Proofs.SlLaysZ.n7 Tryz.prog it_keys102_ren := {
  mixed := by kernel_rfl
  f7 := ⟨Tryz.f102.name, by decide, Tryz.func102.trans (congrArg some (by kernel_rfl))⟩
  f10 := ⟨Tryz.f144.name, by decide, Tryz.func144.trans (congrArg some (by kernel_rfl))⟩
  t0 := Tryz.underlying0
  a0 := Tryz.isAgg0
  z0 := Tryz.sizeOf0
  v0 := Tryz.zeroValue0
  t4 := Tryz.underlying4
  a4 := Tryz.isAgg4
  z4 := Tryz.sizeOf4
  v4 := Tryz.zeroValue4
  t23 := Tryz.underlying133
  a23 := Tryz.isAgg133
  z23 := Tryz.sizeOf133
  v23 := Tryz.zeroValue133
  t26 := Tryz.underlying9
  a26 := Tryz.isAgg9
  z26 := Tryz.sizeOf9
  v26 := Tryz.zeroValue9
  t27 := Tryz.underlying189
  a27 := Tryz.isAgg189
  z27 := Tryz.sizeOf189
  v27 := Tryz.zeroValue189
  t28 := Tryz.underlying190
  a28 := Tryz.isAgg190
  z28 := Tryz.sizeOf190
  v28 := Tryz.zeroValue190
  t33 := Tryz.underlying237
  a33 := Tryz.isAgg237
  z33 := Tryz.sizeOf237
  v33 := Tryz.zeroValue237 }
def it_sorted101_ren : Go.Shelf.Ren := ⟨fun | 6 => 101 | 8 => 142 | 9 => 143 | 11 => 177 | 13 => 123 | 12 => 178 | 23 => 172 | 24 => 173 | 14 => 194 | 15 => 195 | 16 => 196 | 17 => 197 | 18 => 198 | 19 => 199 | 20 => 200 | 21 => 201 | 22 => 202 | 25 => 205 | 26 => 188 | 27 => 189 | 28 => 206 | 29 => 207 | 30 => 208 | 31 => 210 | n => n, fun | 26 => 9 | 28 => 190 | 24 => 43 | 0 => 0 | 3 => 3 | 37 => 197 | 48 => 194 | 50 => 196 | 4 => 4 | 40 => 250 | 39 => 249 | 45 => 154 | 5 => 5 | 9 => 9 | 51 => 264 | 55 => 268 | 57 => 279 | 58 => 280 | 33 => 237 | n => n, fun | n => n⟩
theorem it_sorted101 : Go.Proofs.SlLaysZ.n6 Tryz.prog it_sorted101_ren := {
  mixed := by kernel_rfl
  f6 := ⟨Tryz.f101.name, by decide, Tryz.func101.trans (congrArg some (by kernel_rfl))⟩
  f8 := ⟨Tryz.f142.name, by decide, Tryz.func142.trans (congrArg some (by kernel_rfl))⟩
  f11 := ⟨Tryz.f177.name, by decide, Tryz.func177.trans (congrArg some (by kernel_rfl))⟩
  t0 := Tryz.underlying0
  a0 := Tryz.isAgg0
  z0 := Tryz.sizeOf0
  v0 := Tryz.zeroValue0
  t24 := Tryz.underlying43
  a24 := Tryz.isAgg43
  z24 := Tryz.sizeOf43
  v24 := Tryz.zeroValue43
  t26 := Tryz.underlying9
  a26 := Tryz.isAgg9
  z26 := Tryz.sizeOf9
  v26 := Tryz.zeroValue9
  t28 := Tryz.underlying190
  a28 := Tryz.isAgg190
  z28 := Tryz.sizeOf190
  v28 := Tryz.zeroValue190
  i26 := by kernel_rfl }
def it_sort143_ren : Go.Shelf.Ren := ⟨fun | 6 => 143 | 8 => 123 | 9 => 178 | 19 => 172 | 20 => 173 | 21 => 194 | 22 => 195 | 23 => 196 | 24 => 197 | 25 => 198 | 26 => 199 | 27 => 200 | 28 => 201 | 29 => 202 | 36 => 205 | 31 => 188 | 32 => 189 | 37 => 206 | 38 => 207 | 39 => 208 | 41 => 210 | n => n, fun | 27 => 43 | 29 => 9 | 3 => 3 | 32 => 197 | 26 => 43 | 0 => 0 | 44 => 194 | 46 => 196 | 4 => 4 | 36 => 250 | 35 => 249 | 41 => 154 | 5 => 5 | 9 => 9 | 53 => 264 | 57 => 268 | 63 => 279 | 64 => 280 | n => n, fun | n => n⟩
theorem it_sort143 : Go.Proofs.SlLaysM.n6 Tryz.prog it_sort143_ren := {
  mixed := by kernel_rfl
  f6 := ⟨Tryz.f143.name, by decide, Tryz.func143.trans (congrArg some (by kernel_rfl))⟩
  f8 := Tryz.func123.trans (congrArg some (by kernel_rfl))
  f9 := ⟨Tryz.f178.name, by decide, Tryz.func178.trans (congrArg some (by kernel_rfl))⟩
  f19 := Tryz.func172.trans (congrArg some (by kernel_rfl))
  f20 := Tryz.func173.trans (congrArg some (by kernel_rfl))
  f21 := ⟨Tryz.f194.name, by decide, Tryz.func194.trans (congrArg some (by kernel_rfl))⟩
  f22 := ⟨Tryz.f195.name, by decide, Tryz.func195.trans (congrArg some (by kernel_rfl))⟩
  f23 := ⟨Tryz.f196.name, by decide, Tryz.func196.trans (congrArg some (by kernel_rfl))⟩
  f24 := ⟨Tryz.f197.name, by decide, Tryz.func197.trans (congrArg some (by kernel_rfl))⟩
  f25 := ⟨Tryz.f198.name, by decide, Tryz.func198.trans (congrArg some (by kernel_rfl))⟩
  f26 := ⟨Tryz.f199.name, by decide, Tryz.func199.trans (congrArg some (by kernel_rfl))⟩
  f27 := ⟨Tryz.f200.name, by decide, Tryz.func200.trans (congrArg some (by kernel_rfl))⟩
  f28 := ⟨Tryz.f201.name, by decide, Tryz.func201.trans (congrArg some (by kernel_rfl))⟩
  f29 := ⟨Tryz.f202.name, by decide, Tryz.func202.trans (congrArg some (by kernel_rfl))⟩
  f31 := Tryz.func188.trans (congrArg some (by kernel_rfl))
  f32 := Tryz.func189.trans (congrArg some (by kernel_rfl))
  f36 := ⟨Tryz.f205.name, by decide, Tryz.func205.trans (congrArg some (by kernel_rfl))⟩
  f37 := ⟨Tryz.f206.name, by decide, Tryz.func206.trans (congrArg some (by kernel_rfl))⟩
  f38 := ⟨Tryz.f207.name, by decide, Tryz.func207.trans (congrArg some (by kernel_rfl))⟩
  f39 := ⟨Tryz.f208.name, by decide, Tryz.func208.trans (congrArg some (by kernel_rfl))⟩
  f41 := ⟨Tryz.f210.name, by decide, Tryz.func210.trans (congrArg some (by kernel_rfl))⟩
  t0 := Tryz.underlying0
  a0 := Tryz.isAgg0
  z0 := Tryz.sizeOf0
  v0 := Tryz.zeroValue0
  t3 := Tryz.underlying3
  a3 := Tryz.isAgg3
  z3 := Tryz.sizeOf3
  v3 := Tryz.zeroValue3
  t4 := Tryz.underlying4
  a4 := Tryz.isAgg4
  z4 := Tryz.sizeOf4
  v4 := Tryz.zeroValue4
  t5 := Tryz.underlying5
  a5 := Tryz.isAgg5
  z5 := Tryz.sizeOf5
  v5 := Tryz.zeroValue5
  t9 := Tryz.underlying9
  a9 := Tryz.isAgg9
  z9 := Tryz.sizeOf9
  v9 := Tryz.zeroValue9
  t26 := Tryz.underlying43
  a26 := Tryz.isAgg43
  z26 := Tryz.sizeOf43
  v26 := Tryz.zeroValue43
  t27 := Tryz.underlying43
  a27 := Tryz.isAgg43
  z27 := Tryz.sizeOf43
  v27 := Tryz.zeroValue43
  t29 := Tryz.underlying9
  a29 := Tryz.isAgg9
  z29 := Tryz.sizeOf9
  v29 := Tryz.zeroValue9
  t32 := Tryz.underlying197
  a32 := Tryz.isAgg197
  z32 := Tryz.sizeOf197
  v32 := Tryz.zeroValue197
  t35 := Tryz.underlying249
  a35 := Tryz.isAgg249
  z35 := Tryz.sizeOf249
  v35 := Tryz.zeroValue249
  t36 := Tryz.underlying250
  a36 := Tryz.isAgg250
  z36 := Tryz.sizeOf250
  v36 := Tryz.zeroValue250
  t41 := Tryz.underlying154
  a41 := Tryz.isAgg154
  z41 := Tryz.sizeOf154
  v41 := Tryz.zeroValue154
  t44 := Tryz.underlying194
  a44 := Tryz.isAgg194
  z44 := Tryz.sizeOf194
  v44 := Tryz.zeroValue194
  t46 := Tryz.underlying196
  a46 := Tryz.isAgg196
  z46 := Tryz.sizeOf196
  v46 := Tryz.zeroValue196
  t53 := Tryz.underlying264
  a53 := Tryz.isAgg264
  z53 := Tryz.sizeOf264
  v53 := Tryz.zeroValue264
  t57 := Tryz.underlying268
  a57 := Tryz.isAgg268
  z57 := Tryz.sizeOf268
  v57 := Tryz.zeroValue268
  t63 := Tryz.underlying279
  a63 := Tryz.isAgg279
  z63 := Tryz.sizeOf279
  v63 := Tryz.zeroValue279
  t64 := Tryz.underlying280
  a64 := Tryz.isAgg280
  z64 := Tryz.sizeOf280
  v64 := Tryz.zeroValue280 }
open Go.RowKit Go.Maps Go.Sort Go.Shelf


theorem it_sorts101 (m : Nat) : AnyZ.SortsIn Tryz.prog it_sorted101_ren Fence.wide m :=
  ⟨fun blk off cap ss W hH hblk hsz => callsIn_wide.2 (AnyM.slices_Sort_string it_sort143 blk off cap ss W hH hblk hsz),
   fun p cap W => callsIn_wide.2 (AnyM.slices_Sort_string_none it_sort143 p cap W)⟩

theorem it_maps_Keys_102 (mb : Option Nat) (W : World) : CallsIn Fence.wide 5 Tryz.prog 102 #[.map mb] W fun e w' => e = .returned (.func (.func 144) #[] #[.pointer (some ⟨W.heap.size, 0, none⟩)]) ∧ w' = W.alloc (.cells #[.map mb] 133) :=
  AnyZ.keys_in it_keys102 Fence.wide 5 trivial rfl mb W

end Go.Proofs.YtfolmcpfdcgliaaGreat.B

set_option linter.unusedVariables false
set_option linter.unusedSimpArgs false
set_option maxRecDepth 8000
/-! The keys of a map by strings, sorted. -/
namespace Go.Proofs.YtfolmcpfdcgliaaGreat.B
open Go Go.Proofs Go.RowKit
open Go.ChangeMaps Go.MapKept
open Go.WideElems (Fit rd rg rd_mk)

section
variable {α : Type} {E : EncK α} {W0 w w' : World} {G : List SL} {t : Nat}
/-- A slice that a call has made. -/
theorem Sat.slcNew {v' : Value} {ys : List α} (s : Sat W0 G w) (hb : Below w.heap.size w w') (ho : w'.ownsRow w.heap.size t E.sz v' ys.length (flat E ys)) :
    ∃ A' c', v' = .slice A' ys.length c' ∧ Sat W0 (slc E t A' c' ys :: G) w' := by
  have hbase : Base w w' := ⟨hb.os, hb.tape, hb.output⟩
  rcases ho.2 with ⟨rfl, hn⟩ | ⟨g, cap, cur, rfl, hge, hh, h1, h2, h3, h4⟩
  · have : ys = [] := List.eq_nil_of_length_eq_zero hn
    subst this
    exact ⟨none, 0, rfl, (s.below hb).slcNil E t⟩
  · refine ⟨some ⟨g, 0, none⟩, cap, rfl, s.triv.turn (fun hp _ _ => ⟨⟨fun k => if k = g then some (.cells cur t (0, 0)) else none, .inr ⟨g, cur, rfl, by simp [B.blk], h1, h2, h3, h4⟩, fun k o h => ?_, fun k h => ?_⟩, fun k hk _ => hb.block k hk⟩) hbase⟩
    · simp only at h
      split at h
      · rename_i e; subst e; injection h with h; subst h; exact hh
      · cases h
    · simp only at h
      split at h
      · rename_i e; subst e; exact .inr hge
      · exact absurd rfl h
end
theorem flat_strL (xs : List (List UInt8)) : flat strE (xs.map ofL) = xs.map encStr := by
  induction xs with
  | nil => rfl
  | cons x r ih => simp only [flat, List.flatMap_cons, List.map_cons] at ih ⊢; rw [ih]; rfl

section
variable {ν : Type} {ev : ν → Value} {m : Nat} {kv : List (ByteArray × ν)} {w : World} {l : List MapEntry} {clock : Nat} {P : Program} {k : TypeId}
def nilR {H : Type} : Value → Option (DataW H × List MemPlace) := fun _ => some (.nil, [])
theorem keyOf_strB (hu : P.underlying k = some .string) (s : ByteArray) (hs : s.size ≤ maxLen) : keyOf P k (.string s) = some (.string (toL s)) := by
  simp [keyOf, hu, mapKey, hs, toL]
theorem rg_str {H : Type} (hu : P.underlying k = some .string) {e : MapEntry} {s : ByteArray} (he : e.key = .string s) (hs : s.size ≤ maxLen) : rd (H := H) P k nilR e = some (.string (toL s), .nil) := by
  obtain ⟨key, val, born⟩ := e
  simp only at he
  subst he
  exact rd_mk (yv := (DataW.nil, [])) (keyOf_strB hu s hs) rfl
theorem owns_of_mapb {H : Type} (hm : w.heap[m]? = some (.map l.toArray clock)) (hmap : l.map (fun e => (e.key, e.val)) = kv.map (fun p => (strK.enc p.1, ev p.2))) (hb : bornOk l clock) (hnd : (kv.map (·.1)).Nodup)
    (hk : ∀ x ∈ kv, x.1.size ≤ maxLen) (hl : kv.length ≤ maxLen) (hu : P.underlying k = some .string) :
    w.ownsMap P k nilR m kv.length (.map ((l.map (rg (H := H) P k nilR)).foldr DataW.insert [])) ∧ ((l.map (rg (H := H) P k nilR)).map fun p => Go.strOf p.1) = (kv.map (·.1)).map toL := by
  have hkeys : l.map (·.key) = kv.map (fun p => Value.string p.1) := by
    have := congrArg (List.map (·.1)) hmap
    simpa [List.map_map, Function.comp_def, strK] using this
  have hlen : l.length = kv.length := by have := congrArg List.length hkeys; simpa using this
  have hread : ∀ e ∈ l, ∃ s, e.key = .string s ∧ s.size ≤ maxLen := fun e he => by
    have : e.key ∈ kv.map (fun p => Value.string p.1) := hkeys ▸ List.mem_map_of_mem he
    obtain ⟨p, hp, e1⟩ := List.mem_map.1 this
    exact ⟨p.1, e1.symm, hk p hp⟩
  refine ⟨⟨l.toArray, clock, hm, ⟨by simp [hlen, hl], ⟨fun x hx => hb.2 x (by simpa using hx), ?_, ?_⟩, fun x hx => ?_⟩, by simp [hlen], by simp⟩, ?_⟩
  · simpa [List.Nodup, List.pairwise_map] using hb.1
  · show (l.map (·.key)).Nodup
    rw [hkeys]
    have : kv.map (fun p => Value.string p.1) = (kv.map (·.1)).map Value.string := by rw [List.map_map]; rfl
    rw [this]
    exact List.Pairwise.map _ (fun a b hab e => hab (by injection e)) hnd
  · obtain ⟨s, h1, h2⟩ := hread x (by simpa using hx)
    exact ⟨_, rg_str hu h1 h2⟩
  · have e1 : (l.map (rg (H := H) P k nilR)).map (fun p => Go.strOf p.1) = (l.map (·.key)).map (fun v => match v with | .string s => toL s | _ => []) := by
      rw [List.map_map, List.map_map]
      refine List.map_congr_left fun e he => ?_
      obtain ⟨s, h1, h2⟩ := hread e he
      simp only [Function.comp, h1, WideElems.rg, rg_str (H := H) hu h1 h2]
      rfl
    rw [e1, hkeys, List.map_map, List.map_map]
    rfl
end

theorem not_i64 {a : Int} (h : -9223372036854775808 ≤ a ∧ a < 0) : IntKind.i64.wrap ((BitVec.ofInt 64 (-1) ^^^ BitVec.ofInt 64 a).toNat : Int) = -a - 1 := by
  have h1 : BitVec.ofInt 64 (-1) ^^^ BitVec.ofInt 64 a = ~~~(BitVec.ofInt 64 a) := by rw [show BitVec.ofInt 64 (-1) = BitVec.allOnes 64 from rfl, BitVec.allOnes_xor]
  have h2 : (BitVec.ofInt 64 a).toNat = (a + 18446744073709551616).toNat := by
    rw [BitVec.toNat_ofInt]
    congr 1
    show a % (2 ^ 64 : Nat) = _
    omega
  rw [h1, BitVec.toNat_not, h2]
  rw [w64 (by omega)]
  omega
theorem Fn.same {P : Program} {K : Nat} {vs : List Value} {W0 : World} {G G1 : List SL} {v : Value} (h : Fn P K vs W0 G1 (Ret fun u G' => u = v ∧ G' = G1)) (h1 : ∀ w, Sat W0 G w → Sat W0 G1 w) (h2 : ∀ w, Sat W0 G1 w → Sat W0 G w) : Fn P K vs W0 G (Ret fun u G' => u = v ∧ G' = G) := fun w hs =>
  (h w (h1 w hs)).mono fun e w' ⟨G', hR, hs'⟩ => by
    cases e with
    | returned u => obtain ⟨rfl, rfl⟩ := hR; exact ⟨_, ⟨rfl, rfl⟩, h2 _ hs'⟩
    | panicked ch => exact hR.elim
    | outgrown => exact hR.elim

theorem file_keys (m : Nat) (W0 : World) (G : List SL) :
    Fn Tryz.prog 102 [.map (some m)] W0 G
      (Ret fun v G' => ∃ q, v = .func (.func 144) #[] #[.pointer (some ⟨q, 0, none⟩)] ∧ G' = row q 133 [.map (some m)] :: G) := fun w hs => by
  refine (callsIn_wide.1 (it_maps_Keys_102 (some m) w)).mono fun e w' h => ?_
  obtain ⟨rfl, rfl⟩ := h
  exact ⟨_, ⟨_, rfl, rfl⟩, hs.alloc _⟩
theorem file_names {m q : Nat} {kv : List (ByteArray × File)} (hnd : (kv.map (·.1)).Nodup) (hk : ∀ x ∈ kv, x.1.size ≤ 30) (hl : kv.length ≤ 20) (W0 : World) (G : List SL) :
    Fn Tryz.prog 101 [.func (.func 144) #[] #[.pointer (some ⟨q, 0, none⟩)]] W0
      (row q 133 [.map (some m)] :: mapb strK fileV m kv :: G)
      (Ret fun v G' => ∃ A c, v = .slice A (sortS (kv.map (·.1))).length c ∧ G' = slc strE 9 A c (sortS (kv.map (·.1))) :: mapb strK fileV m kv :: G) := fun w hs => by
  obtain ⟨l, clock, hm, hmap, hb⟩ := mapb_at (i := 1) hs rfl
  have hq := hs.head
  have hqb : w.heap[q]? = some (.cells #[.map (some m)] 133 (0, 0)) := hs.blk
  obtain ⟨hown, hkeys⟩ := owns_of_mapb (H := Unit) (P := Tryz.prog) (k := 9) hm hmap hb hnd (fun x hx => by have := hk x hx; simp only [maxLen]; omega) (by simp only [maxLen]; omega) Tryz.underlying9
  have hkl : (l.map (rg (H := Unit) Tryz.prog 9 nilR)).length = kv.length := by
    have := congrArg List.length hkeys
    simpa using this
  have hsz : Maps.size (DataW.map ((l.map (rg (H := Unit) Tryz.prog 9 nilR)).foldr DataW.insert [])) = kv.length := by
    rw [Maps.size_eq, Go.length_sorted, hkl]
  have hcell : w.cell? ⟨q, 0, none⟩ = some (.map (some m)) := by simp [World.cell?, hqb]
  have hseq : SeqGives Fence.wide 2 Tryz.prog 144 #[.pointer (some ⟨q, 0, none⟩)] encStr (fun ss => ss.Perm (Go.strKeys (DataW.map ((l.map (rg (H := Unit) Tryz.prog 9 nilR)).foldr DataW.insert [])))) (Maps.size (DataW.map ((l.map (rg (H := Unit) Tryz.prog 9 nilR)).foldr DataW.insert []))) w :=
    AnyZ.keys_gives (ρ := it_keys102_ren) { it_keys102 with } Fence.wide _ trivial rfl (by omega) q m kv.length _ _ (Array.getElem?_eq_some_iff.1 hqb).1 hcell hown
  have hc := AnyZ.sorted_in it_sorted101 Fence.wide 5 trivial trivial trivial trivial rfl (by omega) (it_sorts101 _) (enters_of Tryz.func143 (by kernel_rfl) rfl) 144 #[.pointer (some ⟨q, 0, none⟩)] trivial (enters_of Tryz.func144 (by kernel_rfl) rfl) _ _ (by rw [hsz]; simp only [maxLen]; omega) (by rw [hsz]; omega) _ hseq
  refine (callsIn_wide.1 hc).mono fun e w' h => ?_
  obtain ⟨v, ss, rfl, hS, ho, _, hbel⟩ := h
  have hp : ss.Perm ((kv.map (·.1)).map toL) := by
    rw [← hkeys]
    refine hS.trans ?_
    exact (Go.WideShapes.sorted_perm _).map _
  have hsort : ss.mergeSort (fun x y => decide (x ≤ y)) = ((kv.map (·.1)).map toL).mergeSort leS := Go.mergeSort_of_perm hp
  have hlen : ss.length = (sortS (kv.map (·.1))).length := by
    have := hp.length_eq
    rw [sortS_len]; simpa using this
  rw [hlen, hsort, ← flat_strL] at ho
  have ho2 : w'.ownsRow w.heap.size 9 strE.sz v (sortS (kv.map (·.1))).length (flat strE (sortS (kv.map (·.1)))) := ho
  obtain ⟨A, c, rfl, s2⟩ := (hs.drop).slcNew hbel ho2
  exact ⟨_, ⟨A, c, rfl, rfl⟩, s2⟩
end Go.Proofs.YtfolmcpfdcgliaaGreat.B

set_option linter.unusedVariables false
set_option linter.unusedSimpArgs false
set_option maxRecDepth 8000
/-! A writer asks each node. -/
namespace Go.Proofs.YtfolmcpfdcgliaaGreat.B
open Go Go.Proofs
/-- What was heard so far, in memory. -/
def gotA (bl bb : Nat) (logs : List Lg) (bad : Int) : SL := fun h => ∃ y : {y : List LogX × Option Addr × Nat // y.1.map lgOf = logs}, star (row bl 93 [.slice y.1.2.1 y.1.1.length y.1.2.2]) (star (row bb 37 [.int .i64 bad]) (star (slc lgE 45 y.1.2.1 y.1.2.2 y.1.1) (entsA y.1.1))) h
section
variable {W0 : World} {F : List SL} {bl bb : Nat} {logs : List Lg} {bad : Int}
theorem gotA_open : ∀ w, Sat W0 (gotA bl bb logs bad :: F) w → ∃ y : {y : List LogX × Option Addr × Nat // y.1.map lgOf = logs}, Sat W0 (row bl 93 [.slice y.1.2.1 y.1.1.length y.1.2.2] :: row bb 37 [.int .i64 bad] :: slc lgE 45 y.1.2.1 y.1.2.2 y.1.1 :: entsA y.1.1 :: F) w := fun w hs => by
  obtain ⟨y, hy⟩ := Sat.ex hs
  refine ⟨y, ?_⟩
  have h1 := hy.split
  have h2 := (h1.front (i := 1) rfl).split
  have h3 := (h2.front (i := 1) rfl).split
  exact ((h3.front (i := 2) rfl).front (i := 3) rfl)
theorem gotA_shut {A : Option Addr} {c : Nat} {ls : List LogX} (hl : ls.map lgOf = logs) : ∀ w, Sat W0 (row bl 93 [.slice A ls.length c] :: row bb 37 [.int .i64 bad] :: slc lgE 45 A c ls :: entsA ls :: F) w → Sat W0 (gotA bl bb logs bad :: F) w := fun w hs => by
  have h1 : Sat W0 (slc lgE 45 A c ls :: entsA ls :: row bl 93 [.slice A ls.length c] :: row bb 37 [.int .i64 bad] :: F) w := (hs.front (i := 3) rfl).front (i := 3) rfl
  have h2 : Sat W0 (row bb 37 [.int .i64 bad] :: star (slc lgE 45 A c ls) (entsA ls) :: row bl 93 [.slice A ls.length c] :: F) w := h1.join.front (i := 2) rfl
  have h3 := h2.join.front (i := 1) rfl
  exact h3.join.imp fun hp h => ⟨⟨(ls, A, c), hl⟩, h⟩
end
attribute [local irreducible] WL CS QS WQ WH WS Fn Op1 row Sat
attribute [local irreducible] slc jA diskA mailA nodesA nodesX entsA gotA
set_option maxHeartbeats 2000000 in
theorem q_heard (bl bb : Nat) (logs : List Lg) (bad : Int) (m : List Msg) (hl : logs.length ≤ 1000) (e : Int) (A : Option Addr) (c : Nat) (xs : List Ent) (er : Int) (W0 : World) (F : List SL) :
    Fn Tryz.prog 73 [.agg #[.int .i64 e, .slice A xs.length c], .int .i64 er, .pointer (some ⟨bl, 0, none⟩), .pointer (some ⟨bb, 0, none⟩)] W0 (slc entE 49 A c xs :: gotA bl bb logs bad :: F)
      (Ret fun v G' => v = .tuple #[] ∧ G' = gotA bl bb (heard (e, xs, er) ⟨logs, bad, m⟩).logs (heard (e, xs, er) ⟨logs, bad, m⟩).bad :: F) := by
  refine Fn.ex (fun w hs => gotA_open w (hs.front (i := 1) rfl)) ?_
  rintro ⟨⟨ls, Al, cl⟩, rfl⟩
  rw [List.length_map] at hl
  simp only at hl ⊢
  refine Fn.enter Tryz.func73 rfl Tryz.ntmps73 rfl ?_
  unfold heard
  simp only
  by_cases h0 : er = 0
  · subst h0
    rw [if_pos rfl]
    repeat' (first|refine bk ?_|refine bkc ?_|refine bks ?_|refine bkd ?_|refine bkq (fun q => ?_)|(refine bk2 ?_ ?_<;>(first|exact bkn|(refine bkk ?_;intro h))))
    refine WL.buildSlice TT rfl rfl rfl rfl rfl rfl rfl rfl (fun q2 => ?_)
    refine WL.append TT 4 (E := lgE) (xs := ls) (ys := [⟨e, A, c, xs⟩]) rfl rfl rfl rfl rfl (Rd.row (i := 0) rfl rfl) rfl rfl rfl rfl rfl (by decide) (by simp only [List.length_cons, List.length_nil]; omega) (fun _ _ => rfl) rfl (fun A6 c6 => ?_)
    repeat' (first|refine bk ?_|refine bkc ?_|refine bks ?_|refine bkd ?_|refine bkq (fun q => ?_)|(refine bk2 ?_ ?_<;>(first|exact bkn|(refine bkk ?_;intro h))))
    refine QS.turn (G' := gotA bl bb (ls.map lgOf ++ [(e, xs)]) bad :: F) (fun w hs => ?_) (QS.endV Tryz.results73 rfl ⟨rfl, rfl⟩)
    have h1 := ents_snoc (x := ⟨e, A, c, xs⟩) w (((hs.drop.drop.front (i := 4) rfl).front (i := 4) rfl).front (i := 1) rfl)
    exact gotA_shut (A := A6) (c := c6) (by simp [lgOf]) w (((h1.front (i := 3) rfl).front (i := 3) rfl).front (i := 3) rfl)
  · rw [if_neg h0]
    by_cases h10 : er = 10
    · subst h10
      rw [if_pos rfl]
      repeat' (first|refine bk ?_|refine bkc ?_|refine bks ?_|refine bkd ?_|refine bkq (fun q => ?_)|(refine bk2 ?_ ?_<;>(first|exact bkn|(refine bkk ?_;intro h))))
      exact QS.turn (G' := gotA bl bb (ls.map lgOf) 10 :: F) (fun w hs => gotA_shut (A := Al) (c := cl) rfl w (hs.drop.kick (i := 4) rfl)) (QS.endV Tryz.results73 rfl ⟨rfl, rfl⟩)
    · rw [if_neg h10]
      repeat' (first|refine bk ?_|refine bkc ?_|refine bks ?_|refine bkd ?_|refine bkq (fun q => ?_)|(refine bk2 ?_ ?_<;>(first|exact bkn|(refine bkk ?_;intro h))))
      exact QS.turn (G' := gotA bl bb (ls.map lgOf) bad :: F) (fun w hs => gotA_shut (A := Al) (c := cl) rfl w (hs.drop.kick (i := 4) rfl)) (QS.endV Tryz.results73 rfl ⟨rfl, rfl⟩)
theorem q_fate (A : Option Addr) (k c : Nat) (fs : List Int) (hk : k = fs.length) (hI : ∀ x ∈ fs, I64 x) (i : Nat) (W0 : World) (G : List SL) (hR : Rd W0 G intE A fs) :
    Fn Tryz.prog 37 [.slice A k c, .int .i64 (i : Int)] W0 G (Ret fun v G' => v = .int .i64 (fateM fs i) ∧ G' = G) := by
  subst hk
  refine Fn.enter Tryz.func37 rfl Tryz.ntmps37 rfl ?_
  by_cases hi : i < fs.length
  · obtain ⟨x, hx⟩ : ∃ x, fs[i]? = some x := ⟨fs[i]'hi, List.getElem?_eq_getElem hi⟩
    have hxI := hI x (List.mem_of_getElem? hx)
    unfold I64 at hxI
    have hf : fateM fs i = pickM x 5 := by unfold fateM; rw [hx]
    repeat' (first|refine bk ?_|refine bkc ?_|refine bks ?_|refine bkd ?_|refine bkq (fun q => ?_)|(refine bk2 ?_ ?_<;>(first|exact bkn|(refine bkk ?_;intro h))))
    refine WL.idx TT hR rfl rfl rfl (by omega) (by rw [Int.toNat_natCast]; exact hx) rfl rfl rfl rfl (fun bb2 o hA => ?_)
    refine WL.s (op1_at TT hA rfl rfl rfl rfl) rfl ?_
    repeat' (first|refine bk ?_|refine bkc ?_|refine bks ?_|refine bkd ?_|refine bkq (fun q => ?_)|(refine bk2 ?_ ?_<;>(first|exact bkn|(refine bkk ?_;intro h))))
    all_goals
      refine QS.retV Tryz.results37 rfl ⟨?_, rfl⟩
      first
        | (rw [hf, pickM, if_pos (by assumption)]; exact congrArg (fun z => Value.int .i64 (Int.tmod z 5)) ((not_i64 ⟨hxI.1, by assumption⟩).trans (by omega)))
        | (rw [hf, pickM, if_neg (by assumption)]; rfl)
  · have hf : fateM fs i = 0 := by unfold fateM; rw [List.getElem?_eq_none (by omega)]
    repeat' (first|refine bk ?_|refine bkc ?_|refine bks ?_|refine bkd ?_|refine bkq (fun q => ?_)|(refine bk2 ?_ ?_<;>(first|exact bkn|(refine bkk ?_;intro h))))
    exact QS.retV Tryz.results37 rfl ⟨by rw [hf]; rfl, rfl⟩
end Go.Proofs.YtfolmcpfdcgliaaGreat.B
