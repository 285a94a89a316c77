import Derived.Test.YtpklbelejebcfaaGreatAu
import Derived.Test.YtpklbelejebcfaaGreatTm
import Derived.Test.YtpklbelejebcfaaGreatDk
import Derived.Test.YtpklbelejebcfaaGreatDn
import Derived.Test.YtpklbelejebcfaaGreatIt
set_option linter.unusedVariables false
set_option linter.unusedSimpArgs false
set_option maxRecDepth 8000
/-! The keys of a map by strings, sorted. -/
namespace Go.Proofs.YtpklbelejebcfaaGreat.B
open Go Go.Proofs Go.RowKit
open Go.ChangeMaps Go.MapKept
open Go.WideElems (Fit rd rg rd_mk)

section
variable {α : Type} {E : EncK α} {W0 w w' : World} {G : List SL} {t : Nat}
/-- A slice that a call has made. -/
theorem Sat.slcNew {v' : Value} {ys : List α} (s : Sat W0 G w) (hb : Below w.heap.size w w') (ho : w'.ownsRow w.heap.size t E.sz v' ys.length (flat E ys)) :
    ∃ A' c', v' = .slice A' ys.length c' ∧ Sat W0 (slc E t A' c' ys :: G) w' := by
  have hbase : Base w w' := ⟨hb.os, hb.tape, hb.output⟩
  rcases ho.2 with ⟨rfl, hn⟩ | ⟨g, cap, cur, rfl, hge, hh, h1, h2, h3, h4⟩
  · have : ys = [] := List.eq_nil_of_length_eq_zero hn
    subst this
    exact ⟨none, 0, rfl, (s.below hb).slcNil E t⟩
  · refine ⟨some ⟨g, 0, none⟩, cap, rfl, s.triv.turn (fun hp _ _ => ⟨⟨fun k => if k = g then some (.cells cur t (0, 0)) else none, .inr ⟨g, cur, rfl, by simp [B.blk], h1, h2, h3, h4⟩, fun k o h => ?_, fun k h => ?_⟩, fun k hk _ => hb.block k hk⟩) hbase⟩
    · simp only at h
      split at h
      · rename_i e; subst e; injection h with h; subst h; exact hh
      · cases h
    · simp only at h
      split at h
      · rename_i e; subst e; exact .inr hge
      · exact absurd rfl h
end
theorem flat_strL (xs : List (List UInt8)) : flat strE (xs.map ofL) = xs.map encStr := by
  induction xs with
  | nil => rfl
  | cons x r ih => simp only [flat, List.flatMap_cons, List.map_cons] at ih ⊢; rw [ih]; rfl

section
variable {ν : Type} {ev : ν → Value} {m : Nat} {kv : List (ByteArray × ν)} {w : World} {l : List MapEntry} {clock : Nat} {P : Program} {k : TypeId}
def nilR {H : Type} : Value → Option (DataW H × List MemPlace) := fun _ => some (.nil, [])
theorem keyOf_strB (hu : P.underlying k = some .string) (s : ByteArray) (hs : s.size ≤ maxLen) : keyOf P k (.string s) = some (.string (toL s)) := by
  simp [keyOf, hu, mapKey, hs, toL]
theorem rg_str {H : Type} (hu : P.underlying k = some .string) {e : MapEntry} {s : ByteArray} (he : e.key = .string s) (hs : s.size ≤ maxLen) : rd (H := H) P k nilR e = some (.string (toL s), .nil) := by
  obtain ⟨key, val, born⟩ := e
  simp only at he
  subst he
  exact rd_mk (yv := (DataW.nil, [])) (keyOf_strB hu s hs) rfl
theorem owns_of_mapb {H : Type} (hm : w.heap[m]? = some (.map l.toArray clock)) (hmap : l.map (fun e => (e.key, e.val)) = kv.map (fun p => (strK.enc p.1, ev p.2))) (hb : bornOk l clock) (hnd : (kv.map (·.1)).Nodup)
    (hk : ∀ x ∈ kv, x.1.size ≤ maxLen) (hl : kv.length ≤ maxLen) (hu : P.underlying k = some .string) :
    w.ownsMap P k nilR m kv.length (.map ((l.map (rg (H := H) P k nilR)).foldr DataW.insert [])) ∧ ((l.map (rg (H := H) P k nilR)).map fun p => Go.strOf p.1) = (kv.map (·.1)).map toL := by
  have hkeys : l.map (·.key) = kv.map (fun p => Value.string p.1) := by
    have := congrArg (List.map (·.1)) hmap
    simpa [List.map_map, Function.comp_def, strK] using this
  have hlen : l.length = kv.length := by have := congrArg List.length hkeys; simpa using this
  have hread : ∀ e ∈ l, ∃ s, e.key = .string s ∧ s.size ≤ maxLen := fun e he => by
    have : e.key ∈ kv.map (fun p => Value.string p.1) := hkeys ▸ List.mem_map_of_mem he
    obtain ⟨p, hp, e1⟩ := List.mem_map.1 this
    exact ⟨p.1, e1.symm, hk p hp⟩
  refine ⟨⟨l.toArray, clock, hm, ⟨by simp [hlen, hl], ⟨fun x hx => hb.2 x (by simpa using hx), ?_, ?_⟩, fun x hx => ?_⟩, by simp [hlen], by simp⟩, ?_⟩
  · simpa [List.Nodup, List.pairwise_map] using hb.1
  · show (l.map (·.key)).Nodup
    rw [hkeys]
    have : kv.map (fun p => Value.string p.1) = (kv.map (·.1)).map Value.string := by rw [List.map_map]; rfl
    rw [this]
    exact List.Pairwise.map _ (fun a b hab e => hab (by injection e)) hnd
  · obtain ⟨s, h1, h2⟩ := hread x (by simpa using hx)
    exact ⟨_, rg_str hu h1 h2⟩
  · have e1 : (l.map (rg (H := H) P k nilR)).map (fun p => Go.strOf p.1) = (l.map (·.key)).map (fun v => match v with | .string s => toL s | _ => []) := by
      rw [List.map_map, List.map_map]
      refine List.map_congr_left fun e he => ?_
      obtain ⟨s, h1, h2⟩ := hread e he
      simp only [Function.comp, h1, WideElems.rg, rg_str (H := H) hu h1 h2]
      rfl
    rw [e1, hkeys, List.map_map, List.map_map]
    rfl
end

theorem not_i64 {a : Int} (h : -9223372036854775808 ≤ a ∧ a < 0) : IntKind.i64.wrap ((BitVec.ofInt 64 (-1) ^^^ BitVec.ofInt 64 a).toNat : Int) = -a - 1 := by
  have h1 : BitVec.ofInt 64 (-1) ^^^ BitVec.ofInt 64 a = ~~~(BitVec.ofInt 64 a) := by rw [show BitVec.ofInt 64 (-1) = BitVec.allOnes 64 from rfl, BitVec.allOnes_xor]
  have h2 : (BitVec.ofInt 64 a).toNat = (a + 18446744073709551616).toNat := by
    rw [BitVec.toNat_ofInt]
    congr 1
    show a % (2 ^ 64 : Nat) = _
    omega
  rw [h1, BitVec.toNat_not, h2]
  rw [w64 (by omega)]
  omega
theorem Fn.same {P : Program} {K : Nat} {vs : List Value} {W0 : World} {G G1 : List SL} {v : Value} (h : Fn P K vs W0 G1 (Ret fun u G' => u = v ∧ G' = G1)) (h1 : ∀ w, Sat W0 G w → Sat W0 G1 w) (h2 : ∀ w, Sat W0 G1 w → Sat W0 G w) : Fn P K vs W0 G (Ret fun u G' => u = v ∧ G' = G) := fun w hs =>
  (h w (h1 w hs)).mono fun e w' ⟨G', hR, hs'⟩ => by
    cases e with
    | returned u => obtain ⟨rfl, rfl⟩ := hR; exact ⟨_, ⟨rfl, rfl⟩, h2 _ hs'⟩
    | panicked ch => exact hR.elim
    | outgrown => exact hR.elim

theorem file_keys (m : Nat) (W0 : World) (G : List SL) :
    Fn Tryz.prog 64 [.map (some m)] W0 G
      (Ret fun v G' => ∃ q, v = .func (.func 80) #[] #[.pointer (some ⟨q, 0, none⟩)] ∧ G' = row q 52 [.map (some m)] :: G) := fun w hs => by
  refine (callsIn_wide.1 (it_maps_Keys_64 (some m) w)).mono fun e w' h => ?_
  obtain ⟨rfl, rfl⟩ := h
  exact ⟨_, ⟨_, rfl, rfl⟩, hs.alloc _⟩
theorem file_names {m q : Nat} {kv : List (ByteArray × File)} (hnd : (kv.map (·.1)).Nodup) (hk : ∀ x ∈ kv, x.1.size ≤ 30) (hl : kv.length ≤ 20) (W0 : World) (G : List SL) :
    Fn Tryz.prog 63 [.func (.func 80) #[] #[.pointer (some ⟨q, 0, none⟩)]] W0
      (row q 52 [.map (some m)] :: mapb strK fileV m kv :: G)
      (Ret fun v G' => ∃ A c, v = .slice A (sortS (kv.map (·.1))).length c ∧ G' = slc strE 9 A c (sortS (kv.map (·.1))) :: mapb strK fileV m kv :: G) := fun w hs => by
  obtain ⟨l, clock, hm, hmap, hb⟩ := mapb_at (i := 1) hs rfl
  have hq := hs.head
  have hqb : w.heap[q]? = some (.cells #[.map (some m)] 52 (0, 0)) := hs.blk
  obtain ⟨hown, hkeys⟩ := owns_of_mapb (H := Unit) (P := Tryz.prog) (k := 9) hm hmap hb hnd (fun x hx => by have := hk x hx; simp only [maxLen]; omega) (by simp only [maxLen]; omega) Tryz.underlying9
  have hkl : (l.map (rg (H := Unit) Tryz.prog 9 nilR)).length = kv.length := by
    have := congrArg List.length hkeys
    simpa using this
  have hsz : Maps.size (DataW.map ((l.map (rg (H := Unit) Tryz.prog 9 nilR)).foldr DataW.insert [])) = kv.length := by
    rw [Maps.size_eq, Go.length_sorted, hkl]
  have hcell : w.cell? ⟨q, 0, none⟩ = some (.map (some m)) := by simp [World.cell?, hqb]
  have hseq : SeqGives Fence.wide 2 Tryz.prog 80 #[.pointer (some ⟨q, 0, none⟩)] encStr (fun ss => ss.Perm (Go.strKeys (DataW.map ((l.map (rg (H := Unit) Tryz.prog 9 nilR)).foldr DataW.insert [])))) (Maps.size (DataW.map ((l.map (rg (H := Unit) Tryz.prog 9 nilR)).foldr DataW.insert []))) w :=
    AnyZ.keys_gives (ρ := it_keys64_ren) { it_keys64 with } Fence.wide _ trivial rfl (by omega) q m kv.length _ _ (Array.getElem?_eq_some_iff.1 hqb).1 hcell hown
  have hc := AnyZ.sorted_in it_sorted63 Fence.wide 5 trivial trivial trivial trivial rfl (by omega) (it_sorts63 _) (enters_of Tryz.func79 (by kernel_rfl) rfl) 80 #[.pointer (some ⟨q, 0, none⟩)] trivial (enters_of Tryz.func80 (by kernel_rfl) rfl) _ _ (by rw [hsz]; simp only [maxLen]; omega) (by rw [hsz]; omega) _ hseq
  refine (callsIn_wide.1 hc).mono fun e w' h => ?_
  obtain ⟨v, ss, rfl, hS, ho, _, hbel⟩ := h
  have hp : ss.Perm ((kv.map (·.1)).map toL) := by
    rw [← hkeys]
    refine hS.trans ?_
    exact (Go.WideShapes.sorted_perm _).map _
  have hsort : ss.mergeSort (fun x y => decide (x ≤ y)) = ((kv.map (·.1)).map toL).mergeSort leS := Go.mergeSort_of_perm hp
  have hlen : ss.length = (sortS (kv.map (·.1))).length := by
    have := hp.length_eq
    rw [sortS_len]; simpa using this
  rw [hlen, hsort, ← flat_strL] at ho
  have ho2 : w'.ownsRow w.heap.size 9 strE.sz v (sortS (kv.map (·.1))).length (flat strE (sortS (kv.map (·.1)))) := ho
  obtain ⟨A, c, rfl, s2⟩ := (hs.drop).slcNew hbel ho2
  exact ⟨_, ⟨A, c, rfl, rfl⟩, s2⟩
end Go.Proofs.YtpklbelejebcfaaGreat.B
