import Derived.Test.YtejdkcnbflpfaaaGreatMg9
import Derived.Test.YtejdkcnbflpfaaaGreatMg11
import Derived.Test.YtejdkcnbflpfaaaGreatMg20
import Derived.Test.YtejdkcnbflpfaaaGreatMg30
import Derived.Test.YtejdkcnbflpfaaaGreatMg48
set_option linter.unusedVariables false
set_option linter.unusedSimpArgs false
set_option maxRecDepth 8000
/-! The keys of a map by strings, sorted. -/
namespace Go.Proofs.YtejdkcnbflpfaaaGreat.B
open Go Go.Proofs Go.RowKit
open Go.ChangeMaps Go.MapKept
open Go.WideElems (Fit rd rg rd_mk)

section
variable {α : Type} {E : EncK α} {W0 w w' : World} {G : List SL} {t : Nat}
/-- A slice that a call has made. -/
theorem Sat.slcNew {v' : Value} {ys : List α} (s : Sat W0 G w) (hb : Below w.heap.size w w') (ho : w'.ownsRow w.heap.size t E.sz v' ys.length (flat E ys)) :
    ∃ A' c', v' = .slice A' ys.length c' ∧ Sat W0 (slc E t A' c' ys :: G) w' := by
  have hbase : Base w w' := ⟨hb.os, hb.tape, hb.output⟩
  rcases ho.2 with ⟨rfl, hn⟩ | ⟨g, cap, cur, rfl, hge, hh, h1, h2, h3, h4⟩
  · have : ys = [] := List.eq_nil_of_length_eq_zero hn
    subst this
    exact ⟨none, 0, rfl, (s.below hb).slcNil E t⟩
  · refine ⟨some ⟨g, 0, none⟩, cap, rfl, s.triv.turn (fun hp _ _ => ⟨⟨fun k => if k = g then some (.cells cur t (0, 0)) else none, .inr ⟨g, cur, rfl, by simp [B.blk], h1, h2, h3, h4⟩, fun k o h => ?_, fun k h => ?_⟩, fun k hk _ => hb.block k hk⟩) hbase⟩
    · simp only at h
      split at h
      · rename_i e; subst e; injection h with h; subst h; exact hh
      · cases h
    · simp only at h
      split at h
      · rename_i e; subst e; exact .inr hge
      · exact absurd rfl h
end
theorem flat_strL (xs : List (List UInt8)) : flat strE (xs.map ofL) = xs.map encStr := by
  induction xs with
  | nil => rfl
  | cons x r ih => simp only [flat, List.flatMap_cons, List.map_cons] at ih ⊢; rw [ih]; rfl

section
variable {ν : Type} {ev : ν → Value} {m : Nat} {kv : List (ByteArray × ν)} {w : World} {l : List MapEntry} {clock : Nat} {P : Program} {k : TypeId}
def nilR {H : Type} : Value → Option (DataW H × List MemPlace) := fun _ => some (.nil, [])
theorem keyOf_strB (hu : P.underlying k = some .string) (s : ByteArray) (hs : s.size ≤ maxLen) : keyOf P k (.string s) = some (.string (toL s)) := by
  simp [keyOf, hu, mapKey, hs, toL]
theorem rg_str {H : Type} (hu : P.underlying k = some .string) {e : MapEntry} {s : ByteArray} (he : e.key = .string s) (hs : s.size ≤ maxLen) : rd (H := H) P k nilR e = some (.string (toL s), .nil) := by
  obtain ⟨key, val, born⟩ := e
  simp only at he
  subst he
  exact rd_mk (yv := (DataW.nil, [])) (keyOf_strB hu s hs) rfl
theorem owns_of_mapb {H : Type} (hm : w.heap[m]? = some (.map l.toArray clock)) (hmap : l.map (fun e => (e.key, e.val)) = kv.map (fun p => (strK.enc p.1, ev p.2))) (hb : bornOk l clock) (hnd : (kv.map (·.1)).Nodup)
    (hk : ∀ x ∈ kv, x.1.size ≤ maxLen) (hl : kv.length ≤ maxLen) (hu : P.underlying k = some .string) :
    w.ownsMap P k nilR m kv.length (.map ((l.map (rg (H := H) P k nilR)).foldr DataW.insert [])) ∧ ((l.map (rg (H := H) P k nilR)).map fun p => Go.strOf p.1) = (kv.map (·.1)).map toL := by
  have hkeys : l.map (·.key) = kv.map (fun p => Value.string p.1) := by
    have := congrArg (List.map (·.1)) hmap
    simpa [List.map_map, Function.comp_def, strK] using this
  have hlen : l.length = kv.length := by have := congrArg List.length hkeys; simpa using this
  have hread : ∀ e ∈ l, ∃ s, e.key = .string s ∧ s.size ≤ maxLen := fun e he => by
    have : e.key ∈ kv.map (fun p => Value.string p.1) := hkeys ▸ List.mem_map_of_mem he
    obtain ⟨p, hp, e1⟩ := List.mem_map.1 this
    exact ⟨p.1, e1.symm, hk p hp⟩
  refine ⟨⟨l.toArray, clock, hm, ⟨by simp [hlen, hl], ⟨fun x hx => hb.2 x (by simpa using hx), ?_, ?_⟩, fun x hx => ?_⟩, by simp [hlen], by simp⟩, ?_⟩
  · simpa [List.Nodup, List.pairwise_map] using hb.1
  · show (l.map (·.key)).Nodup
    rw [hkeys]
    have : kv.map (fun p => Value.string p.1) = (kv.map (·.1)).map Value.string := by rw [List.map_map]; rfl
    rw [this]
    exact List.Pairwise.map _ (fun a b hab e => hab (by injection e)) hnd
  · obtain ⟨s, h1, h2⟩ := hread x (by simpa using hx)
    exact ⟨_, rg_str hu h1 h2⟩
  · have e1 : (l.map (rg (H := H) P k nilR)).map (fun p => Go.strOf p.1) = (l.map (·.key)).map (fun v => match v with | .string s => toL s | _ => []) := by
      rw [List.map_map, List.map_map]
      refine List.map_congr_left fun e he => ?_
      obtain ⟨s, h1, h2⟩ := hread e he
      simp only [Function.comp, h1, WideElems.rg, rg_str (H := H) hu h1 h2]
      rfl
    rw [e1, hkeys, List.map_map, List.map_map]
    rfl
end

theorem not_i64 {a : Int} (h : -9223372036854775808 ≤ a ∧ a < 0) : IntKind.i64.wrap ((BitVec.ofInt 64 (-1) ^^^ BitVec.ofInt 64 a).toNat : Int) = -a - 1 := by
  have h1 : BitVec.ofInt 64 (-1) ^^^ BitVec.ofInt 64 a = ~~~(BitVec.ofInt 64 a) := by rw [show BitVec.ofInt 64 (-1) = BitVec.allOnes 64 from rfl, BitVec.allOnes_xor]
  have h2 : (BitVec.ofInt 64 a).toNat = (a + 18446744073709551616).toNat := by
    rw [BitVec.toNat_ofInt]
    congr 1
    show a % (2 ^ 64 : Nat) = _
    omega
  rw [h1, BitVec.toNat_not, h2]
  rw [w64 (by omega)]
  omega
theorem Fn.same {P : Program} {K : Nat} {vs : List Value} {W0 : World} {G G1 : List SL} {v : Value} (h : Fn P K vs W0 G1 (Ret fun u G' => u = v ∧ G' = G1)) (h1 : ∀ w, Sat W0 G w → Sat W0 G1 w) (h2 : ∀ w, Sat W0 G1 w → Sat W0 G w) : Fn P K vs W0 G (Ret fun u G' => u = v ∧ G' = G) := fun w hs =>
  (h w (h1 w hs)).mono fun e w' ⟨G', hR, hs'⟩ => by
    cases e with
    | returned u => obtain ⟨rfl, rfl⟩ := hR; exact ⟨_, ⟨rfl, rfl⟩, h2 _ hs'⟩
    | panicked ch => exact hR.elim
    | outgrown => exact hR.elim

theorem file_keys (m : Nat) (W0 : World) (G : List SL) :
    Fn Tryz.prog 105 [.map (some m)] W0 G
      (Ret fun v G' => ∃ q, v = .func (.func 132) #[] #[.pointer (some ⟨q, 0, none⟩)] ∧ G' = row q 61 [.map (some m)] :: G) := fun w hs => by
  refine (callsIn_wide.1 (it_maps_Keys_105 (some m) w)).mono fun e w' h => ?_
  obtain ⟨rfl, rfl⟩ := h
  exact ⟨_, ⟨_, rfl, rfl⟩, hs.alloc _⟩
theorem file_names {m q : Nat} {kv : List (ByteArray × File)} (hnd : (kv.map (·.1)).Nodup) (hk : ∀ x ∈ kv, x.1.size ≤ 30) (hl : kv.length ≤ 20) (W0 : World) (G : List SL) :
    Fn Tryz.prog 104 [.func (.func 132) #[] #[.pointer (some ⟨q, 0, none⟩)]] W0
      (row q 61 [.map (some m)] :: mapb strK fileV m kv :: G)
      (Ret fun v G' => ∃ A c, v = .slice A (sortS (kv.map (·.1))).length c ∧ G' = slc strE 9 A c (sortS (kv.map (·.1))) :: mapb strK fileV m kv :: G) := fun w hs => by
  obtain ⟨l, clock, hm, hmap, hb⟩ := mapb_at (i := 1) hs rfl
  have hq := hs.head
  have hqb : w.heap[q]? = some (.cells #[.map (some m)] 61 (0, 0)) := hs.blk
  obtain ⟨hown, hkeys⟩ := owns_of_mapb (H := Unit) (P := Tryz.prog) (k := 9) hm hmap hb hnd (fun x hx => by have := hk x hx; simp only [maxLen]; omega) (by simp only [maxLen]; omega) Tryz.underlying9
  have hkl : (l.map (rg (H := Unit) Tryz.prog 9 nilR)).length = kv.length := by
    have := congrArg List.length hkeys
    simpa using this
  have hsz : Maps.size (DataW.map ((l.map (rg (H := Unit) Tryz.prog 9 nilR)).foldr DataW.insert [])) = kv.length := by
    rw [Maps.size_eq, Go.length_sorted, hkl]
  have hcell : w.cell? ⟨q, 0, none⟩ = some (.map (some m)) := by simp [World.cell?, hqb]
  have hseq : SeqGives Fence.wide 2 Tryz.prog 132 #[.pointer (some ⟨q, 0, none⟩)] encStr (fun ss => ss.Perm (Go.strKeys (DataW.map ((l.map (rg (H := Unit) Tryz.prog 9 nilR)).foldr DataW.insert [])))) (Maps.size (DataW.map ((l.map (rg (H := Unit) Tryz.prog 9 nilR)).foldr DataW.insert []))) w :=
    AnyZ.keys_gives (ρ := it_keys105_ren) { it_keys105 with } Fence.wide _ trivial rfl (by omega) q m kv.length _ _ (Array.getElem?_eq_some_iff.1 hqb).1 hcell hown
  have hc := AnyZ.sorted_in it_sorted104 Fence.wide 5 trivial trivial trivial trivial rfl (by omega) (it_sorts104 _) (enters_of Tryz.func131 (by kernel_rfl) rfl) 132 #[.pointer (some ⟨q, 0, none⟩)] trivial (enters_of Tryz.func132 (by kernel_rfl) rfl) _ _ (by rw [hsz]; simp only [maxLen]; omega) (by rw [hsz]; omega) _ hseq
  refine (callsIn_wide.1 hc).mono fun e w' h => ?_
  obtain ⟨v, ss, rfl, hS, ho, _, hbel⟩ := h
  have hp : ss.Perm ((kv.map (·.1)).map toL) := by
    rw [← hkeys]
    refine hS.trans ?_
    exact (Go.WideShapes.sorted_perm _).map _
  have hsort : ss.mergeSort (fun x y => decide (x ≤ y)) = ((kv.map (·.1)).map toL).mergeSort leS := Go.mergeSort_of_perm hp
  have hlen : ss.length = (sortS (kv.map (·.1))).length := by
    have := hp.length_eq
    rw [sortS_len]; simpa using this
  rw [hlen, hsort, ← flat_strL] at ho
  have ho2 : w'.ownsRow w.heap.size 9 strE.sz v (sortS (kv.map (·.1))).length (flat strE (sortS (kv.map (·.1)))) := ho
  obtain ⟨A, c, rfl, s2⟩ := (hs.drop).slcNew hbel ho2
  exact ⟨_, ⟨A, c, rfl, rfl⟩, s2⟩
end Go.Proofs.YtejdkcnbflpfaaaGreat.B

set_option linter.unusedVariables false
set_option linter.unusedSimpArgs false
set_option maxRecDepth 8000
/-! The disk's names, its crash, and the rest. -/
namespace Go.Proofs.YtejdkcnbflpfaaaGreat.B
open Go Go.Proofs
attribute [local irreducible] WL CS QS WQ WH WS Fn Op1 row Sat
attribute [local irreducible] diskA mapb slc

theorem disk_names {m b : Nat} {D : Disk} (hnd : (D.files.map (·.1)).Nodup) (hky : ∀ x ∈ D.files, x.1.size ≤ 30) (hct : D.files.length ≤ 20) (W0 : World) (F : List SL) :
    Fn Tryz.prog 69 [.pointer (some ⟨b, 0, none⟩)] W0 (row b 63 (diskCells m D) :: mapb strK fileV m D.files :: F)
      (Ret fun v G' => ∃ A c, v = .slice A D.names.length c ∧ G' = slc strE 9 A c D.names :: row b 63 (diskCells m D) :: mapb strK fileV m D.files :: F) := by
  refine Fn.enter Tryz.func69 rfl Tryz.ntmps69 rfl ?_
  simp only [diskCells]
  repeat' (first|refine bk ?_|refine bkc ?_|refine bks ?_|refine bkd ?_|refine bkq (fun q => ?_)|(refine bk2 ?_ ?_<;>(first|exact bkn|(refine bkk ?_;intro h))))
  refine WL.call c105 rfl rfl rfl rfl (file_keys m W0 _) ?_
  rintro _ _ ⟨q, rfl, rfl⟩
  repeat' (first|refine bk ?_|refine bkc ?_|refine bks ?_|refine bkd ?_|refine bkq (fun q => ?_)|(refine bk2 ?_ ?_<;>(first|exact bkn|(refine bkk ?_;intro h))))
  refine WL.call c104 rfl rfl rfl rfl ((file_names (m := m) (q := q) (kv := D.files) hnd hky hct W0 (row b 63 (diskCells m D) :: F)).pre (fun w hs => ?_)) ?_
  · exact hs.perm (List.Perm.cons _ (List.Perm.swap ..))
  rintro _ _ ⟨A, c, rfl, rfl⟩
  repeat' (first|refine bk ?_|refine bkc ?_|refine bks ?_|refine bkd ?_|refine bkq (fun q => ?_)|(refine bk2 ?_ ?_<;>(first|exact bkn|(refine bkk ?_;intro h))))
  refine QS.turn (G' := slc strE 9 A c D.names :: row b 63 (diskCells m D) :: mapb strK fileV m D.files :: F) (fun w hs => ?_) (QS.retV Tryz.results69 rfl ⟨A, c, rfl, rfl⟩)
  exact hs.perm (List.Perm.cons _ (List.Perm.swap ..))

theorem disk_Fuse {b : Nat} {D : Disk} (n : Int) (W0 : World) (F : List SL) :
    Fn Tryz.prog 18 [.pointer (some ⟨b, 0, none⟩), .int .i64 n] W0 (diskA b D :: F) (Ret fun v G' => v = .tuple #[] ∧ G' = diskA b (D.light n) :: F) := by
  refine Fn.ex (fun w hs => diskA_open w hs) (fun m => ?_)
  refine Fn.enter Tryz.func18 rfl Tryz.ntmps18 rfl ?_
  simp only [diskCells]
  repeat' (first|refine bk ?_|refine bkc ?_|refine bks ?_|refine bkd ?_|refine bkq (fun q => ?_)|(refine bk2 ?_ ?_<;>(first|exact bkn|(refine bkk ?_;intro h))))
  refine QS.turn (G' := diskA b (D.light n) :: F) (fun w hs => diskA_shut (m := m) w ?_) (QS.endV Tryz.results18 rfl ⟨rfl, rfl⟩)
  have e : (if 0 > n then 0 else n) = max n 0 := by split <;> omega
  rw [e] at hs
  exact hs

set_option maxHeartbeats 1000000 in
theorem disk_Crash {b : Nat} {D : Disk} (hD : DiskOk D) {A : Option Addr} {c : Nat} {keeps : List Int} (hk : ∀ x ∈ keeps, I64 x) (hkl : keeps.length ≤ 9223372036854775807) (W0 : World) (F : List SL) (hR : Rd W0 F intE A keeps) :
    Fn Tryz.prog 21 [.pointer (some ⟨b, 0, none⟩), .slice A keeps.length c] W0 (diskA b D :: F) (Ret fun v G' => v = .tuple #[] ∧ G' = diskA b (D.crash keeps) :: F) := by
  refine Fn.ex (fun w hs => diskA_open w hs) (fun m => ?_)
  have hnl := names_len hD
  have hcnt := hD.count
  refine Fn.enter Tryz.func21 rfl Tryz.ntmps21 rfl ?_
  simp only [diskCells]
  repeat' (first|refine bk ?_|refine bkc ?_|refine bks ?_|refine bkd ?_|refine bkq (fun q => ?_)|(refine bk2 ?_ ?_<;>(first|exact bkn|(refine bkk ?_;intro h))))
  refine WL.call c69 rfl rfl rfl rfl (disk_names (m := m) (b := b) (D := { D with used := 0 }) hD.nodup (fun x hx => (hD.keys x hx).2) hD.count W0 F) ?_
  rintro _ _ ⟨A2, c2, rfl, rfl⟩
  have hkn : ∀ x, x ∈ D.names → x.size ≤ 30 := fun x hx => by
    have := has_at hD ((names_has hD).1 hx)
    exact (hD.keys _ (aget_mem this)).2
  rw [show ({ D with used := 0 } : Disk).names = D.names from rfl]
  simp only [diskCells]
  repeat' (first|refine bk ?_|refine bkc ?_|refine bks ?_|refine bkd ?_|refine bkq (fun q => ?_)|(refine bk2 ?_ ?_<;>(first|exact bkn|(refine bkk ?_;intro h))))
  refine CS.loop (X := Nat) (fun i => [(0, .pointer (some ⟨b, 0, none⟩)), (1, .slice A keeps.length c), (13, .slice A2 D.names.length c2), (14, .int .i64 D.names.length), (15, .int .i64 (i : Int))])
    (fun i => slc strE 9 A2 c2 D.names :: row b 63 [.map (some m), .int .i64 D.room, .int .i64 (crashSt D keeps i).2, .int .i64 D.fuse, .bool D.down] :: mapb strK fileV m (crashSt D keeps i).1 :: F)
    (fun i => i ≤ D.names.length) (fun i => D.names.length - i) 0 ⟨rfl, rfl, rfl, rfl, rfl, trivial⟩ (fun w hs => hs) (Nat.zero_le _) ?_
  intro i hi
  obtain ⟨hs1, hs2, hs3⟩ := crashSt_sum hD keeps hi
  have hr1 := hD.room1
  have hr0 := hD.room0
  repeat' (first|refine bk ?_|refine bkc ?_|refine bks ?_|refine bkd ?_|refine bkq (fun q => ?_)|(refine bk2 ?_ ?_<;>(first|exact bkn|(refine bkk ?_;intro h))))
  · obtain ⟨nm, hnm⟩ : ∃ nm, D.names[i]? = some nm := ⟨D.names[i]'(by omega), List.getElem?_eq_getElem (by omega)⟩
    have hgd : D.names.getD i noStr = nm := by rw [List.getD_eq_getElem?_getD, hnm]; rfl
    have hnx := crashSt_next hD keeps (k := i) (by omega)
    rw [hgd] at hnx
    have hfo := hD.at_ok nm
    have hf0 := hfo.s0
    have hf1 := hfo.s1
    have hfm := hfo.most
    refine WL.idx TT (Rd.slc (i := 0) rfl) rfl rfl rfl (by omega) (by rw [Int.toNat_natCast]; exact hnm) rfl rfl rfl rfl (fun b2 o hA => ?_)
    refine WL.s (op1_at TT hA rfl rfl rfl rfl) rfl ?_
    repeat' (first|refine bk ?_|refine bkc ?_|refine bks ?_|refine bkd ?_|refine bkq (fun q => ?_)|(refine bk2 ?_ ?_<;>(first|exact bkn|(refine bkk ?_;intro h))))
    refine WL.s (op1_look1D TT (kk := strK) (ev := fileV) (u0 := ⟨noStr, 0⟩) (k := nm) 2 (D.at nm) rfl rfl rfl rfl rfl rfl rfl (by rw [hnx]; rfl)) rfl ?_
    refine WL.alloc TT rfl rfl rfl (fun q => ?_)
    refine WL.store TT 0 rfl rfl rfl rfl rfl rfl rfl rfl rfl ?_
    refine WL.s (op1_pure1 TT rfl) rfl ?_
    refine WL.nil ?_
    refine QS.then ?_
    refine CS.seq ?_
    refine CS.cut (X := Unit) (fun _ => [(0, .pointer (some ⟨b, 0, none⟩)), (1, .slice A keeps.length c), (13, .slice A2 D.names.length c2), (14, .int .i64 D.names.length), (15, .int .i64 (i : Int)), (4, .int .i64 (i : Int)), (5, .string nm), (6, .pointer (some ⟨q, 0, none⟩)), (7, .int .i64 (keeps.getD i 0))]) (fun _ => row q 68 [.string (D.at nm).data, .int .i64 (D.at nm).synced] :: slc strE 9 A2 c2 D.names :: row b 63 [.map (some m), .int .i64 D.room, .int .i64 (crashSt D keeps i).2, .int .i64 D.fuse, .bool D.down] :: mapb strK fileV m (crashSt D keeps i).1 :: F) (fun _ => True) ?_ ?_
    · repeat' (first|refine bk ?_|refine bkc ?_|refine bks ?_|refine bkd ?_|refine bkq (fun q => ?_)|(refine bk2 ?_ ?_<;>(first|exact bkn|(refine bkk ?_;intro h))))
      · refine WL.idx TT hR.cons.cons.cons.cons rfl rfl rfl (by omega) (x := keeps.getD i 0) (by rw [Int.toNat_natCast, List.getD_eq_getElem?_getD, List.getElem?_eq_getElem (by omega)]; rfl) rfl rfl rfl rfl (fun b3 o3 hA3 => ?_)
        refine WL.s (op1_at TT hA3 rfl rfl rfl rfl) rfl ?_
        repeat' (first|refine bk ?_|refine bkc ?_|refine bks ?_|refine bkd ?_|refine bkq (fun q => ?_)|(refine bk2 ?_ ?_<;>(first|exact bkn|(refine bkk ?_;intro h))))
        exact QS.met () trivial ⟨rfl, rfl, rfl, rfl, rfl, rfl, rfl, rfl, rfl, trivial⟩ (fun w hs => hs)
      · refine QS.met () trivial ⟨rfl, rfl, rfl, rfl, rfl, rfl, rfl, rfl, ?_, trivial⟩ (fun w hs => hs)
        rw [List.getD_eq_getElem?_getD, List.getElem?_eq_none (by omega)]; rfl
    rintro _ _
    have hz : I64 (keeps.getD i 0) := by
      rw [List.getD_eq_getElem?_getD]
      cases hg : keeps[i]? with
      | none => exact ⟨by simp, by simp⟩
      | some x => exact hk x (List.mem_of_getElem? hg)
    have hz1 := hz.1
    have hz2 := hz.2
    refine QS.then ?_
    refine CS.seq ?_
    refine CS.cut (X := Unit) (fun _ => [(0, .pointer (some ⟨b, 0, none⟩)), (1, .slice A keeps.length c), (13, .slice A2 D.names.length c2), (14, .int .i64 D.names.length), (15, .int .i64 (i : Int)), (4, .int .i64 (i : Int)), (5, .string nm), (6, .pointer (some ⟨q, 0, none⟩)), (7, .int .i64 (keepN keeps i))]) (fun _ => row q 68 [.string (D.at nm).data, .int .i64 (D.at nm).synced] :: slc strE 9 A2 c2 D.names :: row b 63 [.map (some m), .int .i64 D.room, .int .i64 (crashSt D keeps i).2, .int .i64 D.fuse, .bool D.down] :: mapb strK fileV m (crashSt D keeps i).1 :: F) (fun _ => True) ?_ ?_
    · repeat' (first|refine bk ?_|refine bkc ?_|refine bks ?_|refine bkd ?_|refine bkq (fun q => ?_)|(refine bk2 ?_ ?_<;>(first|exact bkn|(refine bkk ?_;intro h))))
      · refine QS.met () trivial ⟨rfl, rfl, rfl, rfl, rfl, rfl, rfl, rfl, ?_, trivial⟩ (fun w hs => hs)
        rw [keepN, if_pos h]
        exact congrArg (fun z => some (Value.int .i64 z)) (not_i64 ⟨hz1, h⟩)
      · refine QS.met () trivial ⟨rfl, rfl, rfl, rfl, rfl, rfl, rfl, rfl, ?_, trivial⟩ (fun w hs => hs)
        rw [keepN, if_neg h]; rfl
    rintro _ _
    have hkn := keepN_nonneg keeps i
    obtain ⟨hc1, hc2⟩ := crashN_ok hfo hkn
    repeat' (first|refine bk ?_|refine bkc ?_|refine bks ?_|refine bkd ?_|refine bkq (fun q => ?_)|(refine bk2 ?_ ?_<;>(first|exact bkn|(refine bkk ?_;intro h))))
    refine WQ.s (op1_remE TT rfl rfl (by omega)) rfl ?_
    have e0 : crashN (D.at nm) (keepN keeps i) = (D.at nm).synced + keepN keeps i % (((D.at nm).data.size : Int) - (D.at nm).synced + 1) := rfl
    refine WQ.s (op1_add TT rfl rfl (by rw [← e0]; omega)) rfl ?_
    rw [← e0]
    repeat' (first|refine bk ?_|refine bkc ?_|refine bks ?_|refine bkd ?_|refine bkq (fun q => ?_)|(refine bk2 ?_ ?_<;>(first|exact bkn|(refine bkk ?_;intro h))))
    · refine WL.delete TT (kk := strK) (ev := fileV) (k := nm) 3 rfl rfl rfl rfl rfl rfl rfl rfl ?_
      repeat' (first|refine bk ?_|refine bkc ?_|refine bks ?_|refine bkd ?_|refine bkq (fun q => ?_)|(refine bk2 ?_ ?_<;>(first|exact bkn|(refine bkk ?_;intro h))))
      have e1 : crashSt D keeps (i + 1) = (adel (crashSt D keeps i).1 nm, (crashSt D keeps i).2) := by
        show crashOne (crashSt D keeps i) (D.names.getD i noStr) (D.at (D.names.getD i noStr)) (keepN keeps i) = _
        rw [hgd, crashOne, show crashF (D.at nm) (keepN keeps i) = none from if_pos ⟨by assumption, by assumption⟩]
      refine QS.again (i + 1) (by omega) (by omega) ⟨rfl, rfl, rfl, rfl, ?_, trivial⟩ (fun w hs => ?_)
      · rw [show ((i + 1 : Nat) : Int) = (i : Int) + 1 from by omega]; rfl
      · rw [e1]; exact hs.drop
    · repeat' (first|refine bk ?_|refine bkc ?_|refine bks ?_|refine bkd ?_|refine bkh ?_|refine bkq (fun q => ?_)|((first|refine bk2 ?_ ?_|refine bk2h ?_ ?_)<;>(first|exact bkn|(refine bkk ?_;intro h))))
      refine WH.s (op1_slice TT (l := 0) (r := crashN (D.at nm) (keepN keeps i)) (s := (D.at nm).data) rfl rfl rfl rfl ⟨by omega, by omega, by omega⟩) rfl ?_
      repeat' (first|refine bk ?_|refine bkc ?_|refine bks ?_|refine bkd ?_|refine bkh ?_|refine bkq (fun q => ?_)|((first|refine bk2 ?_ ?_|refine bk2h ?_ ?_)<;>(first|exact bkn|(refine bkk ?_;intro h))))
      refine WL.mapUpdate TT (kk := strK) (ev := fileV) (k := nm) (u := ⟨(D.at nm).data.extract 0 (crashN (D.at nm) (keepN keeps i)).toNat, crashN (D.at nm) (keepN keeps i)⟩) 3 rfl rfl rfl rfl rfl rfl rfl rfl ?_
      have hrs := restSum_step (D := D) (k := i) (by omega)
      rw [hgd] at hrs
      have hrn : 0 ≤ restSum D (i + 1) := by
        have : ∀ l : List ByteArray, 0 ≤ (l.map fun nm => ((D.at nm).data.size : Int)).sum := fun l => by
          induction l with
          | nil => exact Int.le_refl _
          | cons x r ih => simp only [List.map_cons, List.sum_cons]; omega
        exact this _
      repeat' (first|refine bk ?_|refine bkc ?_|refine bks ?_|refine bkd ?_|refine bkh ?_|refine bkq (fun q => ?_)|((first|refine bk2 ?_ ?_|refine bk2h ?_ ?_)<;>(first|exact bkn|(refine bkk ?_;intro h))))
      all_goals
        have e1 : crashSt D keeps (i + 1) = (aput (crashSt D keeps i).1 nm ⟨(D.at nm).data.extract 0 (crashN (D.at nm) (keepN keeps i)).toNat, crashN (D.at nm) (keepN keeps i)⟩, (crashSt D keeps i).2 + crashN (D.at nm) (keepN keeps i)) := by
          show crashOne (crashSt D keeps i) (D.names.getD i noStr) (D.at (D.names.getD i noStr)) (keepN keeps i) = _
          rw [hgd, crashOne, show crashF (D.at nm) (keepN keeps i) = some ⟨(D.at nm).data.extract 0 (crashN (D.at nm) (keepN keeps i)).toNat, crashN (D.at nm) (keepN keeps i)⟩ from if_neg (by omega)]
        refine QS.again (i + 1) (by omega) (by omega) ⟨rfl, rfl, rfl, rfl, ?_, trivial⟩ (fun w hs => ?_)
        · rw [show ((i + 1 : Nat) : Int) = (i : Int) + 1 from by omega]; rfl
        · rw [e1]; exact hs.drop
  · have ei : i = D.names.length := by omega
    subst ei
    refine QS.turn (G' := diskA b (D.crash keeps) :: F) (fun w hs => diskA_shut (m := m) w hs.drop) (QS.endV Tryz.results21 rfl ⟨rfl, rfl⟩)
end Go.Proofs.YtejdkcnbflpfaaaGreat.B
