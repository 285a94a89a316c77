import Derived.Test.YtfolmcpfdcgliaaGreatMg8
import Derived.Test.YtfolmcpfdcgliaaGreatMg10
import Derived.Test.YtfolmcpfdcgliaaGreatMg19
import Derived.Test.YtfolmcpfdcgliaaGreatMg28
import Derived.Test.YtfolmcpfdcgliaaGreatMg36
import Derived.Test.YtfolmcpfdcgliaaGreatMg34
import Derived.Test.YtfolmcpfdcgliaaGreatMg35
import Derived.Test.YtfolmcpfdcgliaaGreatMg32
set_option linter.unusedVariables false
set_option linter.unusedSimpArgs false
set_option maxRecDepth 8000
namespace Go.Proofs.YtfolmcpfdcgliaaGreat.B
open Go Go.Proofs Go.RowKit
open Go.ChangeMaps Go.MapKept
open Go.WideElems (Fit rd rg rd_mk)
section
variable {α : Type} {E : EncK α} {W0 w w' : World} {G : List SL} {t : Nat}
theorem Sat.slcNew {v' : Value} {ys : List α} (s : Sat W0 G w) (hb : Below w.heap.size w w') (ho : w'.ownsRow w.heap.size t E.sz v' ys.length (flat E ys)) :
    ∃ A' c', v' = .slice A' ys.length c' ∧ Sat W0 (slc E t A' c' ys :: G) w' := by
  have hbase : Base w w' := ⟨hb.os, hb.tape, hb.output⟩
  rcases ho.2 with ⟨rfl, hn⟩ | ⟨g, cap, cur, rfl, hge, hh, h1, h2, h3, h4⟩
  · have : ys = [] := List.eq_nil_of_length_eq_zero hn
    subst this
    exact ⟨none, 0, rfl, (s.below hb).slcNil E t⟩
  · refine ⟨some ⟨g, 0, none⟩, cap, rfl, s.triv.turn (fun hp _ _ => ⟨⟨fun k => if k = g then some (.cells cur t (0, 0)) else none, .inr ⟨g, cur, rfl, by simp [B.blk], h1, h2, h3, h4⟩, fun k o h => ?_, fun k h => ?_⟩, fun k hk _ => hb.block k hk⟩) hbase⟩
    · simp only at h
      split at h
      · rename_i e; subst e; injection h with h; subst h; exact hh
      · cases h
    · simp only at h
      split at h
      · rename_i e; subst e; exact .inr hge
      · exact absurd rfl h
end
theorem flat_strL (xs : List (List UInt8)) : flat strE (xs.map ofL) = xs.map encStr := by
  induction xs with
  | nil => rfl
  | cons x r ih => simp only [flat, List.flatMap_cons, List.map_cons] at ih ⊢; rw [ih]; rfl
section
variable {ν : Type} {ev : ν → Value} {m : Nat} {kv : List (ByteArray × ν)} {w : World} {l : List MapEntry} {clock : Nat} {P : Program} {k : TypeId}
def nilR {H : Type} : Value → Option (DataW H × List MemPlace) := fun _ => some (.nil, [])
theorem keyOf_strB (hu : P.underlying k = some .string) (s : ByteArray) (hs : s.size ≤ maxLen) : keyOf P k (.string s) = some (.string (toL s)) := by
  simp [keyOf, hu, mapKey, hs, toL]
theorem rg_str {H : Type} (hu : P.underlying k = some .string) {e : MapEntry} {s : ByteArray} (he : e.key = .string s) (hs : s.size ≤ maxLen) : rd (H := H) P k nilR e = some (.string (toL s), .nil) := by
  obtain ⟨key, val, born⟩ := e
  simp only at he
  subst he
  exact rd_mk (yv := (DataW.nil, [])) (keyOf_strB hu s hs) rfl
theorem owns_of_mapb {H : Type} (hm : w.heap[m]? = some (.map l.toArray clock)) (hmap : l.map (fun e => (e.key, e.val)) = kv.map (fun p => (strK.enc p.1, ev p.2))) (hb : bornOk l clock) (hnd : (kv.map (·.1)).Nodup)
    (hk : ∀ x ∈ kv, x.1.size ≤ maxLen) (hl : kv.length ≤ maxLen) (hu : P.underlying k = some .string) :
    w.ownsMap P k nilR m kv.length (.map ((l.map (rg (H := H) P k nilR)).foldr DataW.insert [])) ∧ ((l.map (rg (H := H) P k nilR)).map fun p => Go.strOf p.1) = (kv.map (·.1)).map toL := by
  have hkeys : l.map (·.key) = kv.map (fun p => Value.string p.1) := by
    have := congrArg (List.map (·.1)) hmap
    simpa [List.map_map, Function.comp_def, strK] using this
  have hlen : l.length = kv.length := by have := congrArg List.length hkeys; simpa using this
  have hread : ∀ e ∈ l, ∃ s, e.key = .string s ∧ s.size ≤ maxLen := fun e he => by
    have : e.key ∈ kv.map (fun p => Value.string p.1) := hkeys ▸ List.mem_map_of_mem he
    obtain ⟨p, hp, e1⟩ := List.mem_map.1 this
    exact ⟨p.1, e1.symm, hk p hp⟩
  refine ⟨⟨l.toArray, clock, hm, ⟨by simp [hlen, hl], ⟨fun x hx => hb.2 x (by simpa using hx), ?_, ?_⟩, fun x hx => ?_⟩, by simp [hlen], by simp⟩, ?_⟩
  · simpa [List.Nodup, List.pairwise_map] using hb.1
  · show (l.map (·.key)).Nodup
    rw [hkeys]
    have : kv.map (fun p => Value.string p.1) = (kv.map (·.1)).map Value.string := by rw [List.map_map]; rfl
    rw [this]
    exact List.Pairwise.map _ (fun a b hab e => hab (by injection e)) hnd
  · obtain ⟨s, h1, h2⟩ := hread x (by simpa using hx)
    exact ⟨_, rg_str hu h1 h2⟩
  · have e1 : (l.map (rg (H := H) P k nilR)).map (fun p => Go.strOf p.1) = (l.map (·.key)).map (fun v => match v with | .string s => toL s | _ => []) := by
      rw [List.map_map, List.map_map]
      refine List.map_congr_left fun e he => ?_
      obtain ⟨s, h1, h2⟩ := hread e he
      simp only [Function.comp, h1, WideElems.rg, rg_str (H := H) hu h1 h2]
      rfl
    rw [e1, hkeys, List.map_map, List.map_map]
    rfl
end
theorem not_i64 {a : Int} (h : -9223372036854775808 ≤ a ∧ a < 0) : IntKind.i64.wrap ((BitVec.ofInt 64 (-1) ^^^ BitVec.ofInt 64 a).toNat : Int) = -a - 1 := by
  have h1 : BitVec.ofInt 64 (-1) ^^^ BitVec.ofInt 64 a = ~~~(BitVec.ofInt 64 a) := by rw [show BitVec.ofInt 64 (-1) = BitVec.allOnes 64 from rfl, BitVec.allOnes_xor]
  have h2 : (BitVec.ofInt 64 a).toNat = (a + 18446744073709551616).toNat := by
    rw [BitVec.toNat_ofInt]
    congr 1
    show a % (2 ^ 64 : Nat) = _
    omega
  rw [h1, BitVec.toNat_not, h2]
  rw [w64 (by omega)]
  omega
theorem Fn.same {P : Program} {K : Nat} {vs : List Value} {W0 : World} {G G1 : List SL} {v : Value} (h : Fn P K vs W0 G1 (Ret fun u G' => u = v ∧ G' = G1)) (h1 : ∀ w, Sat W0 G w → Sat W0 G1 w) (h2 : ∀ w, Sat W0 G1 w → Sat W0 G w) : Fn P K vs W0 G (Ret fun u G' => u = v ∧ G' = G) := fun w hs =>
  (h w (h1 w hs)).mono fun e w' ⟨G', hR, hs'⟩ => by
    cases e with
    | returned u => obtain ⟨rfl, rfl⟩ := hR; exact ⟨_, ⟨rfl, rfl⟩, h2 _ hs'⟩
    | panicked ch => exact hR.elim
    | outgrown => exact hR.elim
theorem file_keys (m : Nat) (W0 : World) (G : List SL) :
    Fn Tryz.prog 102 [.map (some m)] W0 G
      (Ret fun v G' => ∃ q, v = .func (.func 144) #[] #[.pointer (some ⟨q, 0, none⟩)] ∧ G' = row q 133 [.map (some m)] :: G) := fun w hs => by
  refine (callsIn_wide.1 (it_maps_Keys_102 (some m) w)).mono fun e w' h => ?_
  obtain ⟨rfl, rfl⟩ := h
  exact ⟨_, ⟨_, rfl, rfl⟩, hs.alloc _⟩
theorem file_names {m q : Nat} {kv : List (ByteArray × File)} (hnd : (kv.map (·.1)).Nodup) (hk : ∀ x ∈ kv, x.1.size ≤ 30) (hl : kv.length ≤ 20) (W0 : World) (G : List SL) :
    Fn Tryz.prog 101 [.func (.func 144) #[] #[.pointer (some ⟨q, 0, none⟩)]] W0
      (row q 133 [.map (some m)] :: mapb strK fileV m kv :: G)
      (Ret fun v G' => ∃ A c, v = .slice A (sortS (kv.map (·.1))).length c ∧ G' = slc strE 9 A c (sortS (kv.map (·.1))) :: mapb strK fileV m kv :: G) := fun w hs => by
  obtain ⟨l, clock, hm, hmap, hb⟩ := mapb_at (i := 1) hs rfl
  have hq := hs.head
  have hqb : w.heap[q]? = some (.cells #[.map (some m)] 133 (0, 0)) := hs.blk
  obtain ⟨hown, hkeys⟩ := owns_of_mapb (H := Unit) (P := Tryz.prog) (k := 9) hm hmap hb hnd (fun x hx => by have := hk x hx; simp only [maxLen]; omega) (by simp only [maxLen]; omega) Tryz.underlying9
  have hkl : (l.map (rg (H := Unit) Tryz.prog 9 nilR)).length = kv.length := by
    have := congrArg List.length hkeys
    simpa using this
  have hsz : Maps.size (DataW.map ((l.map (rg (H := Unit) Tryz.prog 9 nilR)).foldr DataW.insert [])) = kv.length := by
    rw [Maps.size_eq, Go.length_sorted, hkl]
  have hcell : w.cell? ⟨q, 0, none⟩ = some (.map (some m)) := by simp [World.cell?, hqb]
  have hseq : SeqGives Fence.wide 2 Tryz.prog 144 #[.pointer (some ⟨q, 0, none⟩)] encStr (fun ss => ss.Perm (Go.strKeys (DataW.map ((l.map (rg (H := Unit) Tryz.prog 9 nilR)).foldr DataW.insert [])))) (Maps.size (DataW.map ((l.map (rg (H := Unit) Tryz.prog 9 nilR)).foldr DataW.insert []))) w :=
    AnyZ.keys_gives (ρ := it_keys102_ren) { it_keys102 with } Fence.wide _ trivial rfl (by omega) q m kv.length _ _ (Array.getElem?_eq_some_iff.1 hqb).1 hcell hown
  have hc := AnyZ.sorted_in it_sorted101 Fence.wide 5 trivial trivial trivial trivial rfl (by omega) (it_sorts101 _) (enters_of Tryz.func143 (by kernel_rfl) rfl) 144 #[.pointer (some ⟨q, 0, none⟩)] trivial (enters_of Tryz.func144 (by kernel_rfl) rfl) _ _ (by rw [hsz]; simp only [maxLen]; omega) (by rw [hsz]; omega) _ hseq
  refine (callsIn_wide.1 hc).mono fun e w' h => ?_
  obtain ⟨v, ss, rfl, hS, ho, _, hbel⟩ := h
  have hp : ss.Perm ((kv.map (·.1)).map toL) := by
    rw [← hkeys]
    refine hS.trans ?_
    exact (Go.WideShapes.sorted_perm _).map _
  have hsort : ss.mergeSort (fun x y => decide (x ≤ y)) = ((kv.map (·.1)).map toL).mergeSort leS := Go.mergeSort_of_perm hp
  have hlen : ss.length = (sortS (kv.map (·.1))).length := by
    have := hp.length_eq
    rw [sortS_len]; simpa using this
  rw [hlen, hsort, ← flat_strL] at ho
  have ho2 : w'.ownsRow w.heap.size 9 strE.sz v (sortS (kv.map (·.1))).length (flat strE (sortS (kv.map (·.1)))) := ho
  obtain ⟨A, c, rfl, s2⟩ := (hs.drop).slcNew hbel ho2
  exact ⟨_, ⟨A, c, rfl, rfl⟩, s2⟩
end Go.Proofs.YtfolmcpfdcgliaaGreat.B

namespace Go.Proofs.YtfolmcpfdcgliaaGreat.B
open Go Go.Proofs
def gotA (bl bb : Nat) (logs : List Lg) (bad : Int) : SL := fun h => ∃ y : {y : List LogX × Option Addr × Nat // y.1.map lgOf = logs}, star (row bl 93 [.slice y.1.2.1 y.1.1.length y.1.2.2]) (star (row bb 37 [.int .i64 bad]) (star (slc lgE 45 y.1.2.1 y.1.2.2 y.1.1) (entsA y.1.1))) h
section
variable {W0 : World} {F : List SL} {bl bb : Nat} {logs : List Lg} {bad : Int}
theorem gotA_open : ∀ w, Sat W0 (gotA bl bb logs bad :: F) w → ∃ y : {y : List LogX × Option Addr × Nat // y.1.map lgOf = logs}, Sat W0 (row bl 93 [.slice y.1.2.1 y.1.1.length y.1.2.2] :: row bb 37 [.int .i64 bad] :: slc lgE 45 y.1.2.1 y.1.2.2 y.1.1 :: entsA y.1.1 :: F) w := fun w hs => by
  obtain ⟨y, hy⟩ := Sat.ex hs
  refine ⟨y, ?_⟩
  have h1 := hy.split
  have h2 := (h1.front (i := 1) rfl).split
  have h3 := (h2.front (i := 1) rfl).split
  exact ((h3.front (i := 2) rfl).front (i := 3) rfl)
theorem gotA_shut {A : Option Addr} {c : Nat} {ls : List LogX} (hl : ls.map lgOf = logs) : ∀ w, Sat W0 (row bl 93 [.slice A ls.length c] :: row bb 37 [.int .i64 bad] :: slc lgE 45 A c ls :: entsA ls :: F) w → Sat W0 (gotA bl bb logs bad :: F) w := fun w hs => by
  have h1 : Sat W0 (slc lgE 45 A c ls :: entsA ls :: row bl 93 [.slice A ls.length c] :: row bb 37 [.int .i64 bad] :: F) w := (hs.front (i := 3) rfl).front (i := 3) rfl
  have h2 : Sat W0 (row bb 37 [.int .i64 bad] :: star (slc lgE 45 A c ls) (entsA ls) :: row bl 93 [.slice A ls.length c] :: F) w := h1.join.front (i := 2) rfl
  have h3 := h2.join.front (i := 1) rfl
  exact h3.join.imp fun hp h => ⟨⟨(ls, A, c), hl⟩, h⟩
end
attribute [local irreducible] WL CS QS WQ WH WS Fn Op1 row Sat
attribute [local irreducible] slc jA diskA mailA nodesA nodesX entsA gotA
set_option maxHeartbeats 2000000 in
theorem q_heard (bl bb : Nat) (logs : List Lg) (bad : Int) (m : List Msg) (hl : logs.length ≤ 1000) (e : Int) (A : Option Addr) (c : Nat) (xs : List Ent) (er : Int) (W0 : World) (F : List SL) :
    Fn Tryz.prog 73 [.agg #[.int .i64 e, .slice A xs.length c], .int .i64 er, .pointer (some ⟨bl, 0, none⟩), .pointer (some ⟨bb, 0, none⟩)] W0 (slc entE 49 A c xs :: gotA bl bb logs bad :: F)
      (Ret fun v G' => v = .tuple #[] ∧ G' = gotA bl bb (heard (e, xs, er) ⟨logs, bad, m⟩).logs (heard (e, xs, er) ⟨logs, bad, m⟩).bad :: F) := by
  refine Fn.ex (fun w hs => gotA_open w (hs.front (i := 1) rfl)) ?_
  rintro ⟨⟨ls, Al, cl⟩, rfl⟩
  rw [List.length_map] at hl
  simp only at hl ⊢
  refine Fn.enter Tryz.func73 rfl Tryz.ntmps73 rfl ?_
  unfold heard
  simp only
  by_cases h0 : er = 0
  · subst h0
    rw [if_pos rfl]
    repeat' (first|refine bA ?_|refine bkq fun q=>?_|(refine bk2 ?_ ?_<;>(first|exact bkn|(refine bkk ?_;intro h))))
    refine WL.buildSlice TT rfl rfl rfl rfl rfl rfl rfl rfl (fun q2 => ?_)
    refine WL.append TT 4 (E := lgE) (xs := ls) (ys := [⟨e, A, c, xs⟩]) rfl rfl rfl rfl rfl (Rd.row (i := 0) rfl rfl) rfl rfl rfl rfl rfl (by decide) (by simp only [List.length_cons, List.length_nil]; omega) (fun _ _ => rfl) rfl (fun A6 c6 => ?_)
    repeat' (first|refine bA ?_|refine bkq fun q=>?_|(refine bk2 ?_ ?_<;>(first|exact bkn|(refine bkk ?_;intro h))))
    refine QS.turn (G' := gotA bl bb (ls.map lgOf ++ [(e, xs)]) bad :: F) (fun w hs => ?_) (QS.endV Tryz.results73 rfl ⟨rfl, rfl⟩)
    have h1 := ents_snoc (x := ⟨e, A, c, xs⟩) w (((hs.drop.drop.front (i := 4) rfl).front (i := 4) rfl).front (i := 1) rfl)
    exact gotA_shut (A := A6) (c := c6) (by simp [lgOf]) w (((h1.front (i := 3) rfl).front (i := 3) rfl).front (i := 3) rfl)
  · rw [if_neg h0]
    by_cases h10 : er = 10
    · subst h10
      rw [if_pos rfl]
      repeat' (first|refine bA ?_|refine bkq fun q=>?_|(refine bk2 ?_ ?_<;>(first|exact bkn|(refine bkk ?_;intro h))))
      exact QS.turn (G' := gotA bl bb (ls.map lgOf) 10 :: F) (fun w hs => gotA_shut (A := Al) (c := cl) rfl w (hs.drop.kick (i := 4) rfl)) (QS.endV Tryz.results73 rfl ⟨rfl, rfl⟩)
    · rw [if_neg h10]
      repeat' (first|refine bA ?_|refine bkq fun q=>?_|(refine bk2 ?_ ?_<;>(first|exact bkn|(refine bkk ?_;intro h))))
      exact QS.turn (G' := gotA bl bb (ls.map lgOf) bad :: F) (fun w hs => gotA_shut (A := Al) (c := cl) rfl w (hs.drop.kick (i := 4) rfl)) (QS.endV Tryz.results73 rfl ⟨rfl, rfl⟩)
theorem q_fate (A : Option Addr) (k c : Nat) (fs : List Int) (hk : k = fs.length) (hI : ∀ x ∈ fs, I64 x) (i : Nat) (W0 : World) (G : List SL) (hR : Rd W0 G intE A fs) :
    Fn Tryz.prog 37 [.slice A k c, .int .i64 (i : Int)] W0 G (Ret fun v G' => v = .int .i64 (fateM fs i) ∧ G' = G) := by
  subst hk
  refine Fn.enter Tryz.func37 rfl Tryz.ntmps37 rfl ?_
  by_cases hi : i < fs.length
  · obtain ⟨x, hx⟩ : ∃ x, fs[i]? = some x := ⟨fs[i]'hi, List.getElem?_eq_getElem hi⟩
    have hxI := hI x (List.mem_of_getElem? hx)
    unfold I64 at hxI
    have hf : fateM fs i = pickM x 5 := by unfold fateM; rw [hx]
    repeat' (first|refine bA ?_|refine bkq fun q=>?_|(refine bk2 ?_ ?_<;>(first|exact bkn|(refine bkk ?_;intro h))))
    refine WL.idx TT hR rfl rfl rfl (by omega) (by rw [Int.toNat_natCast]; exact hx) rfl rfl rfl rfl (fun bb2 o hA => ?_)
    refine WL.s (op1_at TT hA rfl rfl rfl rfl) rfl ?_
    repeat' (first|refine bA ?_|refine bkq fun q=>?_|(refine bk2 ?_ ?_<;>(first|exact bkn|(refine bkk ?_;intro h))))
    all_goals
      refine QS.retV Tryz.results37 rfl ⟨?_, rfl⟩
      first
        | (rw [hf, pickM, if_pos (by assumption)]; exact congrArg (fun z => Value.int .i64 (Int.tmod z 5)) ((not_i64 ⟨hxI.1, by assumption⟩).trans (by omega)))
        | (rw [hf, pickM, if_neg (by assumption)]; rfl)
  · have hf : fateM fs i = 0 := by unfold fateM; rw [List.getElem?_eq_none (by omega)]
    repeat' (first|refine bA ?_|refine bkq fun q=>?_|(refine bk2 ?_ ?_<;>(first|exact bkn|(refine bkk ?_;intro h))))
    exact QS.retV Tryz.results37 rfl ⟨by rw [hf]; rfl, rfl⟩
end Go.Proofs.YtfolmcpfdcgliaaGreat.B

namespace Go.Proofs.YtfolmcpfdcgliaaGreat.B
open Go Go.Proofs
attribute [local irreducible] WL CS QS WQ WH WS Fn Op1 row Sat
attribute [local irreducible] slc jA diskA mailA nodesA nodesX entsA gotA
abbrev wrC (Aj : Option Addr) (n cj bm : Nat) (w : Wr) : List Value := [.slice Aj n cj, .pointer (some ⟨bm, 0, none⟩), .int .i64 w.e, .int .i64 w.n, .bool w.over]
theorem q_hand {ys : List Nd} {i : Nat} {x : Nd} (hx : ys[i]? = some x) (hxo : NdOk x) (s : ByteArray) (hs : s.size ≤ 9223372036854775807) (W0 : World) (F : List SL) :
    Fn Tryz.prog 23 [.pointer (some ⟨x.b, 0, none⟩), .string s] W0 (nodesA ys :: F) (Ret fun v G' => v = .string (mk (x.ans (bs s))) ∧ G' = nodesA (ys.set i (x.hand (bs s))) :: F) :=
  Fn.post ((j_Handle x.b x.d x.J hxo.J x.D hxo.D s hs W0 (nodesX ys i :: F)).pre (nodes_open hx)) (Ret.post fun v G' ⟨h1, h2⟩ => ⟨nodesA (ys.set i (x.hand (bs s))) :: F, fun w hw => by rw [h2] at hw; exact nodes_shut hx w hw, h1, rfl⟩)
theorem set_at {ys : List Nd} {i : Nat} {x y : Nd} (hx : ys[i]? = some x) : (ys.set i y)[i]? = some y := by
  rw [List.getElem?_set_self (List.getElem?_eq_some_iff.1 hx).1]
theorem set_self {ys : List Nd} {i : Nat} {x : Nd} (hx : ys[i]? = some x) : ys.set i x = ys := by
  obtain ⟨h, rfl⟩ := List.getElem?_eq_some_iff.1 hx
  exact List.set_getElem_self h
theorem heard_m (t : Int × List Ent × Int) (σ : Got) : (heard t σ).m = σ.m := by unfold heard; split; rfl; split <;> rfl
set_option maxHeartbeats 4000000 in
theorem q_each (bq : Nat) (Aj : Option Addr) (cj bm : Nat) (w : Wr) (xs : List Nd) (hok : ∀ x ∈ xs, NdOk x) (hn : xs.length ≤ 5) (m : List Msg) (hm : m.length ≤ 50) (s : ByteArray) (hs : s.size ≤ 9223372036854775807) (A : Option Addr) (k c : Nat) (fs : List Int) (hk : k = fs.length) (hI : ∀ x ∈ fs, I64 x) (bl bb : Nat) (W0 : World) (F : List SL) (hR : Rd W0 F intE A fs) :
    Fn Tryz.prog 72 [.pointer (some ⟨bq, 0, none⟩), .string s, .slice A k c, .func (.func 73) #[] #[.pointer (some ⟨bl, 0, none⟩), .pointer (some ⟨bb, 0, none⟩)]] W0
      (row bq 92 (wrC Aj xs.length cj bm w) :: slc bpE 46 Aj cj (xs.map (·.b)) :: nodesA xs :: mailA bm m :: gotA bl bb [] 12 :: F)
      (Ret fun v G' => v = .tuple #[] ∧ G' = row bq 92 (wrC Aj xs.length cj bm w) :: slc bpE 46 Aj cj (xs.map (·.b)) :: nodesA (ndsM fs s xs xs.length) :: mailA bm (gotsM fs s xs m xs.length).m :: gotA bl bb (gotsM fs s xs m xs.length).logs (gotsM fs s xs m xs.length).bad :: F) := by
  subst hk
  refine Fn.enter Tryz.func72 rfl Tryz.ntmps72 rfl ?_
  simp only [wrC]
  repeat' (first|refine bA ?_|refine bkq fun q=>?_|(refine bk2 ?_ ?_<;>(first|exact bkn|(refine bkk ?_;intro h))))
  refine CS.loop (X := Nat) (fun i => [(0, .pointer (some ⟨bq, 0, none⟩)), (1, .string s), (2, .slice A fs.length c), (3, .func (.func 73) #[] #[.pointer (some ⟨bl, 0, none⟩), .pointer (some ⟨bb, 0, none⟩)]), (15, .slice Aj xs.length cj), (16, .int .i64 (xs.length : Int)), (17, .int .i64 (i : Int))])
    (fun i => row bq 92 (wrC Aj xs.length cj bm w) :: slc bpE 46 Aj cj (xs.map (·.b)) :: nodesA (ndsM fs s xs i) :: mailA bm (gotsM fs s xs m i).m :: gotA bl bb (gotsM fs s xs m i).logs (gotsM fs s xs m i).bad :: F)
    (fun i => i ≤ xs.length) (fun i => xs.length - i) 0 ⟨rfl, rfl, rfl, rfl, rfl, rfl, rfl, trivial⟩ (fun w hs => by rw [ndsM_zero]; exact hs) (Nat.zero_le _) ?_
  intro i hi
  by_cases hix : i < xs.length
  rotate_left 1
  · obtain rfl : i = xs.length := by omega
    repeat' (first|refine bA ?_|refine bkq fun q=>?_|(refine bk2 ?_ ?_<;>(first|exact bkn|(refine bkk ?_;intro h))))
    exact QS.endV Tryz.results72 rfl ⟨rfl, rfl⟩
  obtain ⟨x, hx⟩ : ∃ x, xs[i]? = some x := ⟨xs[i]'hix, List.getElem?_eq_getElem hix⟩
  have hxo := hok x (List.mem_of_getElem? hx)
  have hgl := gotsM_len fs s xs m i
  have hml : (gotsM fs s xs m i).m.length ≤ 50 := gotsM_mail fs s xs m hm i
  have hg1 : gotsM fs s xs m (i + 1) = gotM (fateM fs i) i s x (gotsM fs s xs m i) := by rw [gotsM, hx]
  have hn1 := ndsM_succ (fs := fs) (s := s) hx
  have hnx := ndsM_get (fs := fs) (s := s) (i := i) hx
  generalize ndsM fs s xs i = ys at hn1 hnx ⊢
  generalize gotsM fs s xs m i = σ at hgl hml hg1 ⊢
  obtain ⟨lg, bad, mm⟩ := σ
  simp only at hgl hml hg1 ⊢
  repeat' (first|refine bA ?_|refine bkq fun q=>?_|(refine bk2 ?_ ?_<;>(first|exact bkn|(refine bkk ?_;intro h))))
  refine WL.idx TT (Rd.slc (i := 1) rfl) rfl rfl (by rw [List.length_map]) (by omega) (x := x.b) (by rw [Int.toNat_natCast, List.getElem?_map, hx]; rfl) rfl rfl rfl rfl (fun bb2 o hA => ?_)
  refine WL.s (op1_at TT hA rfl rfl rfl rfl) rfl ?_
  repeat' (first|refine bA ?_|refine bkq fun q=>?_|(refine bk2 ?_ ?_<;>(first|exact bkn|(refine bkk ?_;intro h))))
  refine WL.call c37 rfl rfl rfl rfl (q_fate A _ c fs rfl hI i W0 _ hR.cons.cons.cons.cons.cons) ?_
  rintro _ G2 ⟨rfl, hG2⟩
  rw [hG2]; clear hG2 G2
  have hfr := fate_range fs i
  generalize fateM fs i = f at hfr hg1 hn1 ⊢
  have hf : f = 0 ∨ f = 1 ∨ f = 2 ∨ f = 3 ∨ f = 4 := by omega
  rcases hf with rfl | rfl | rfl | rfl | rfl
  · have e1 : gotsM fs s xs m (i + 1) = heard (toldM (x.ans (bs s))) ⟨lg, bad, mm⟩ := by rw [hg1]; simp [gotM]
    have e2 : ndsM fs s xs (i + 1) = ys.set i (x.hand (bs s)) := by rw [hn1]; simp [ndM]
    have e3 := heard_m (toldM (x.ans (bs s))) ⟨lg, bad, mm⟩
    repeat' (first|refine bA ?_|refine bkq fun q=>?_|(refine bk2 ?_ ?_<;>(first|exact bkn|(refine bkk ?_;intro h))))
    refine WL.call c23 rfl rfl rfl rfl ((q_hand hnx hxo s hs W0 _).pre (fun w hw => hw.front (i := 2) rfl)) ?_
    rintro _ _ ⟨rfl, rfl⟩
    repeat' (first|refine bA ?_|refine bkq fun q=>?_|(refine bk2 ?_ ?_<;>(first|exact bkn|(refine bkk ?_;intro h))))
    refine WL.call c120 rfl rfl rfl rfl (j_Told _ (ans_size _ _) W0 _) ?_
    rintro _ _ ⟨A4, c4, rfl, rfl⟩
    rw [bs_mk]
    repeat' (first|refine bA ?_|refine bkq fun q=>?_|(refine bk2 ?_ ?_<;>(first|exact bkn|(refine bkk ?_;intro h))))
    refine WL.call (fst := []) (cap := [.pointer (some ⟨bl, 0, none⟩), .pointer (some ⟨bb, 0, none⟩)]) c73 rfl rfl rfl rfl ((q_heard bl bb lg bad mm (by omega) _ A4 c4 _ _ W0 _).pre (fun w hw => (hw.front (i := 5) rfl).front (i := 1) rfl)) ?_
    rintro _ _ ⟨rfl, rfl⟩
    repeat' (first|refine bA ?_|refine bkq fun q=>?_|(refine bk2 ?_ ?_<;>(first|exact bkn|(refine bkk ?_;intro h))))
    refine QS.again (i + 1) hix (by show xs.length - (i + 1) < xs.length - i; omega) ⟨rfl, rfl, rfl, rfl, rfl, rfl, rfl, trivial⟩ (fun w hw => ?_)
    rw [e1, e2, e3]
    exact (((hw.front (i := 4) rfl).front (i := 2) rfl).front (i := 4) rfl).front (i := 4) rfl
  · have e1 : gotsM fs s xs m (i + 1) = ⟨lg, bad, mm⟩ := by rw [hg1]; simp [gotM]
    have e2 : ndsM fs s xs (i + 1) = ys := by rw [hn1]; simp only [ndM, true_or, if_true]; exact set_self hnx
    repeat' (first|refine bA ?_|refine bkq fun q=>?_|(refine bk2 ?_ ?_<;>(first|exact bkn|(refine bkk ?_;intro h))))
    refine QS.again (i + 1) hix (by show xs.length - (i + 1) < xs.length - i; omega) ⟨rfl, rfl, rfl, rfl, rfl, rfl, rfl, trivial⟩ (fun w hw => ?_)
    rw [e1, e2]
    exact hw
  · have e1 : gotsM fs s xs m (i + 1) = ⟨lg, bad, mm⟩ := by rw [hg1]; simp [gotM]
    have e2 : ndsM fs s xs (i + 1) = ys.set i (x.hand (bs s)) := by rw [hn1]; simp [ndM]
    repeat' (first|refine bA ?_|refine bkq fun q=>?_|(refine bk2 ?_ ?_<;>(first|exact bkn|(refine bkk ?_;intro h))))
    refine WL.call c23 rfl rfl rfl rfl ((q_hand hnx hxo s hs W0 _).pre (fun w hw => hw.front (i := 2) rfl)) ?_
    rintro _ _ ⟨rfl, rfl⟩
    repeat' (first|refine bA ?_|refine bkq fun q=>?_|(refine bk2 ?_ ?_<;>(first|exact bkn|(refine bkk ?_;intro h))))
    refine QS.again (i + 1) hix (by show xs.length - (i + 1) < xs.length - i; omega) ⟨rfl, rfl, rfl, rfl, rfl, rfl, rfl, trivial⟩ (fun w hw => ?_)
    rw [e1, e2]
    exact (hw.front (i := 2) rfl).front (i := 2) rfl
  · have e1 : gotsM fs s xs m (i + 1) = heard (toldM (x.ans (bs s))) ⟨lg, bad, mm⟩ := by rw [hg1]; simp [gotM]
    have e2 : ndsM fs s xs (i + 1) = (ys.set i (x.hand (bs s))).set i ((x.hand (bs s)).hand (bs s)) := by rw [hn1, List.set_set]; simp [ndM]
    have e3 := heard_m (toldM (x.ans (bs s))) ⟨lg, bad, mm⟩
    repeat' (first|refine bA ?_|refine bkq fun q=>?_|(refine bk2 ?_ ?_<;>(first|exact bkn|(refine bkk ?_;intro h))))
    refine WL.call c23 rfl rfl rfl rfl ((q_hand hnx hxo s hs W0 _).pre (fun w hw => hw.front (i := 2) rfl)) ?_
    rintro _ _ ⟨rfl, rfl⟩
    repeat' (first|refine bA ?_|refine bkq fun q=>?_|(refine bk2 ?_ ?_<;>(first|exact bkn|(refine bkk ?_;intro h))))
    refine WL.call c23 rfl rfl rfl rfl (q_hand (set_at hnx) (hand_ok hxo _) s hs W0 _) ?_
    rintro _ _ ⟨rfl, rfl⟩
    repeat' (first|refine bA ?_|refine bkq fun q=>?_|(refine bk2 ?_ ?_<;>(first|exact bkn|(refine bkk ?_;intro h))))
    refine WL.call c120 rfl rfl rfl rfl (j_Told _ (ans_size _ _) W0 _) ?_
    rintro _ _ ⟨A4, c4, rfl, rfl⟩
    rw [bs_mk]
    repeat' (first|refine bA ?_|refine bkq fun q=>?_|(refine bk2 ?_ ?_<;>(first|exact bkn|(refine bkk ?_;intro h))))
    refine WL.call (fst := []) (cap := [.pointer (some ⟨bl, 0, none⟩), .pointer (some ⟨bb, 0, none⟩)]) c73 rfl rfl rfl rfl ((q_heard bl bb lg bad mm (by omega) _ A4 c4 _ _ W0 _).pre (fun w hw => (hw.front (i := 5) rfl).front (i := 1) rfl)) ?_
    rintro _ _ ⟨rfl, rfl⟩
    repeat' (first|refine bA ?_|refine bkq fun q=>?_|(refine bk2 ?_ ?_<;>(first|exact bkn|(refine bkk ?_;intro h))))
    refine QS.again (i + 1) hix (by show xs.length - (i + 1) < xs.length - i; omega) ⟨rfl, rfl, rfl, rfl, rfl, rfl, rfl, trivial⟩ (fun w hw => ?_)
    rw [e1, e2, e3]
    exact (((hw.front (i := 4) rfl).front (i := 2) rfl).front (i := 4) rfl).front (i := 4) rfl
  · have e1 : gotsM fs s xs m (i + 1) = ⟨lg, bad, sendM mm i s⟩ := by rw [hg1]; simp [gotM]
    have e2 : ndsM fs s xs (i + 1) = ys := by rw [hn1]; simp only [ndM, or_true, if_true]; exact set_self hnx
    repeat' (first|refine bA ?_|refine bkq fun q=>?_|(refine bk2 ?_ ?_<;>(first|exact bkn|(refine bkk ?_;intro h))))
    refine WL.call c119 rfl rfl rfl rfl ((mail_Send bm mm hml i s W0 _).pre (fun w hw => hw.front (i := 3) rfl)) ?_
    rintro _ _ ⟨_, rfl⟩
    repeat' (first|refine bA ?_|refine bkq fun q=>?_|(refine bk2 ?_ ?_<;>(first|exact bkn|(refine bkk ?_;intro h))))
    refine QS.again (i + 1) hix (by show xs.length - (i + 1) < xs.length - i; omega) ⟨rfl, rfl, rfl, rfl, rfl, rfl, rfl, trivial⟩ (fun w hw => ?_)
    rw [e1, e2]
    exact ((hw.front (i := 3) rfl).front (i := 3) rfl).front (i := 3) rfl
end Go.Proofs.YtfolmcpfdcgliaaGreat.B
