import Derived.Test.YtfolmcpfdcgliaaGreatMg31
import Derived.Test.YtfolmcpfdcgliaaGreatMg24
import Derived.Test.YtfolmcpfdcgliaaGreatMg32
import Derived.Test.YtfolmcpfdcgliaaGreatMg13
set_option linter.unusedVariables false
set_option linter.unusedSimpArgs false
set_option maxRecDepth 8000
namespace Go.Proofs.YtfolmcpfdcgliaaGreat.B
open Go Go.Proofs
theorem Fn.post {P : Program} {K : Nat} {vs : List Value} {W0 : World} {G : List SL} {R R' : Ending → List SL → Prop} (h : Fn P K vs W0 G R) (hr : ∀ e G', R e G' → ∃ G'', (∀ w, Sat W0 G' w → Sat W0 G'' w) ∧ R' e G'') : Fn P K vs W0 G R' := fun w hs =>
  (h w hs).mono fun e w' ⟨G', h1, h2⟩ => by
    obtain ⟨G'', h3, h4⟩ := hr e G' h1
    exact ⟨G'', h4, h3 _ h2⟩
theorem Ret.post {R R' : Value → List SL → Prop} {W0 : World} (hr : ∀ v G', R v G' → ∃ G'', (∀ w, Sat W0 G' w → Sat W0 G'' w) ∧ R' v G'') : ∀ e G', Ret R e G' → ∃ G'', (∀ w, Sat W0 G' w → Sat W0 G'' w) ∧ Ret R' e G'' := fun e G' h => by
  cases e with
  | returned v => exact hr v G' h
  | panicked ch => exact h.elim
  | outgrown => exact h.elim
theorem hand_len (J : Jn) (D : Disk) (s : List UInt8) : (handJ J D s).1.length ≤ 4010010 := by
  have hs : ∀ e, I64 e → (saidB e).length ≤ 4010010 := fun e h => joinB_len (saidL_ok h)
  have ht : ∀ e xs, (toldB e xs).length ≤ 4010010 := fun e xs => joinB_len (toldL_ok e xs)
  have i0 : I64 0 ∧ I64 2 ∧ I64 10 ∧ I64 11 ∧ I64 12 := by unfold I64; decide
  unfold handJ
  split
  · exact hs 12 i0.2.2.2.2
  · cases readQ s with
    | none => exact hs 2 i0.2.1
    | some q =>
      simp only
      unfold ansJ
      split
      · rename_i h
        rcases h with h | h <;> rw [h]
        · exact hs 10 i0.2.2.1
        · exact hs 11 i0.2.2.2.1
      · split
        · exact hs 12 i0.2.2.2.2
        · split
          · exact ht _ _
          · exact hs 0 i0.1
theorem ans_size (x : Nd) (s : List UInt8) : (mk (x.ans s)).size ≤ 9223372036854775807 := by
  rw [mk_size]; have := hand_len x.J x.D s; unfold Nd.ans; omega
theorem Sat.ord {W0 w : World} {G G' : List SL} (s : Sat W0 G w) (n : Nat) (is : List Nat) (hG : G' = is.filterMap (fun i => G[i]?) ++ G.drop n) (hn : is.Nodup ∧ ∀ i ∈ is, i < n := by decide) : Sat W0 G' w := by
  obtain ⟨hb, l, rfl, h1, h2⟩ := s
  subst hG
  have h3 : ∀ (i j : Nat) (a b : SL × Hp), i ≠ j → l[i]? = some a → l[j]? = some b → Disj a.2 b.2 := fun i j a b hij ha hb' => by
    obtain ⟨hi, rfl⟩ := List.getElem?_eq_some_iff.1 ha
    obtain ⟨hj, rfl⟩ := List.getElem?_eq_some_iff.1 hb'
    rcases Nat.lt_or_gt_of_ne hij with h | h
    · exact List.pairwise_iff_getElem.1 h2 i j hi hj h
    · exact (List.pairwise_iff_getElem.1 h2 j i hj hi h).symm
  refine ⟨hb, is.filterMap (fun i => l[i]?) ++ l.drop n, ?_, fun x hx => ?_, ?_⟩
  · rw [List.map_append, List.map_drop, List.map_filterMap]
    congr 1
    refine congrArg (fun f => List.filterMap f is) (funext fun i => ?_)
    rw [List.getElem?_map]
  · rcases List.mem_append.1 hx with hx | hx
    · obtain ⟨i, _, hi⟩ := List.mem_filterMap.1 hx
      exact h1 x (List.mem_of_getElem? hi)
    · exact h1 x (List.mem_of_mem_drop hx)
  · rw [List.pairwise_append]
    refine ⟨?_, h2.drop, fun x hx y hy => ?_⟩
    · rw [List.pairwise_filterMap]
      exact hn.1.imp fun {i j} hij a ha b hb' => h3 i j a b hij ha hb'
    · obtain ⟨i, hi, hix⟩ := List.mem_filterMap.1 hx
      obtain ⟨j, hj⟩ := List.mem_iff_getElem?.1 hy
      rw [List.getElem?_drop] at hj
      exact h3 i (n + j) x y (by have := hn.2 i hi; omega) hix hj
def bagA : List SL → SL
  | [] => fun _ => True
  | P :: l => star P (bagA l)
section
variable {W0 w : World} {G : List SL} {P P' : SL}
theorem bag_none (s : Sat W0 G w) : Sat W0 (bagA [] :: G) w := s.triv.imp fun _ _ => trivial
theorem bag_open {l : List SL} (s : Sat W0 (bagA (P :: l) :: G) w) : Sat W0 (P :: bagA l :: G) w := s.split
theorem bag_shut {l : List SL} (s : Sat W0 (P :: bagA l :: G) w) : Sat W0 (bagA (P :: l) :: G) w := s.join
theorem bag_at : ∀ {l : List SL} {i : Nat} {G : List SL}, l[i]? = some P → Sat W0 (bagA l :: G) w → Sat W0 (P :: bagA (l.eraseIdx i) :: G) w
  | [], i, G, h, _ => by simp at h
  | Q :: l, 0, G, h, s => by
    obtain rfl := Option.some.inj h
    exact bag_open s
  | Q :: l, i + 1, G, h, s => by
    have h1 : l[i]? = some P := by simpa using h
    have s2 := bag_at (G := Q :: G) h1 ((bag_open s).front (i := 1) rfl)
    have s3 : Sat W0 (Q :: bagA (l.eraseIdx i) :: P :: G) w := (s2.front (i := 1) rfl).front (i := 2) rfl
    exact (bag_shut s3).front (i := 1) rfl
theorem bag_set : ∀ {l : List SL} {i : Nat} {G : List SL}, i < l.length → Sat W0 (P :: bagA (l.eraseIdx i) :: G) w → Sat W0 (bagA (l.set i P) :: G) w
  | [], i, G, h, _ => by simp at h
  | Q :: l, 0, G, h, s => bag_shut s
  | Q :: l, i + 1, G, h, s => by
    have h1 : i < l.length := by simpa using h
    have s2 : Sat W0 (Q :: bagA (l.eraseIdx i) :: P :: G) w := bag_open (s.front (i := 1) rfl)
    have s3 : Sat W0 (P :: bagA (l.eraseIdx i) :: Q :: G) w := (s2.front (i := 1) rfl).front (i := 2) rfl
    exact bag_shut ((bag_set h1 s3).front (i := 1) rfl)
theorem bag_snoc : ∀ {l : List SL} {G : List SL}, Sat W0 (P :: bagA l :: G) w → Sat W0 (bagA (l ++ [P]) :: G) w
  | [], G, s => bag_shut s
  | Q :: l, G, s => by
    have s2 : Sat W0 (Q :: bagA l :: P :: G) w := bag_open (s.front (i := 1) rfl)
    have s3 : Sat W0 (P :: bagA l :: Q :: G) w := (s2.front (i := 1) rfl).front (i := 2) rfl
    exact bag_shut ((bag_snoc s3).front (i := 1) rfl)
end
def ndA (x : Nd) : SL := star (jA x.b x.d x.J) (diskA x.d x.D)
def nodesA (xs : List Nd) : SL := bagA (xs.map ndA)
def nodesX (xs : List Nd) (i : Nat) : SL := bagA ((xs.map ndA).eraseIdx i)
section
variable {W0 : World} {G : List SL} {xs : List Nd} {x : Nd} {i : Nat}
theorem nodes_open (h : xs[i]? = some x) : ∀ w, Sat W0 (nodesA xs :: G) w → Sat W0 (jA x.b x.d x.J :: diskA x.d x.D :: nodesX xs i :: G) w := fun w s =>
  (bag_at (P := ndA x) (by rw [List.getElem?_map, h]; rfl) s).split
theorem nodes_shut (h : xs[i]? = some x) {J : Jn} {D : Disk} : ∀ w, Sat W0 (jA x.b x.d J :: diskA x.d D :: nodesX xs i :: G) w → Sat W0 (nodesA (xs.set i ⟨x.b, x.d, J, D⟩) :: G) w := fun w s => by
  have h1 : i < (xs.map ndA).length := by rw [List.length_map]; exact (List.getElem?_eq_some_iff.1 h).1
  have := bag_set (P := ndA ⟨x.b, x.d, J, D⟩) h1 s.join
  rw [nodesA, List.map_set]
  exact this
theorem nodes_snoc {b d : Nat} {J : Jn} {D : Disk} : ∀ w, Sat W0 (jA b d J :: diskA d D :: nodesA xs :: G) w → Sat W0 (nodesA (xs ++ [⟨b, d, J, D⟩]) :: G) w := fun w s => by
  have := bag_snoc (P := ndA ⟨b, d, J, D⟩) s.join
  rw [nodesA, List.map_append]
  exact this
theorem nodes_none : ∀ w, Sat W0 G w → Sat W0 (nodesA [] :: G) w := fun w s => bag_none s
end
def bpE : EncK Nat := ⟨fun b => [.pointer (some ⟨b, 0, none⟩)], 1, fun _ => rfl, by decide, fun _ u hu => by simp only [List.mem_singleton] at hu; subst hu; rfl⟩
def msgE : EncK Msg := ⟨fun x => [.int .i64 x.1, .string x.2, .int .i64 0], 3, fun _ => rfl, by decide, fun _ u hu => by simp only [List.mem_cons, List.not_mem_nil, or_false] at hu; rcases hu with rfl | rfl | rfl <;> rfl⟩
def entsA (ls : List LogX) : SL := bagA (ls.map fun x => slc entE 49 x.A x.c x.xs)
def lgOf (x : LogX) : Lg := (x.e, x.xs)
section
variable {W0 : World} {G : List SL} {ls : List LogX}
theorem ents_none : ∀ w, Sat W0 G w → Sat W0 (entsA [] :: G) w := fun w s => bag_none s
theorem ents_snoc {x : LogX} : ∀ w, Sat W0 (slc entE 49 x.A x.c x.xs :: entsA ls :: G) w → Sat W0 (entsA (ls ++ [x]) :: G) w := fun w s => by
  have := bag_snoc s
  rw [entsA, List.map_append]
  exact this
theorem ents_rd {x : LogX} (h : x ∈ ls) {i : Nat} {G' : List SL} (hG : G'[i]? = some (entsA ls)) : Rd W0 G' entE x.A x.xs := fun w hs => by
  obtain ⟨j, hj⟩ := List.mem_iff_getElem?.1 h
  have := bag_at (P := slc entE 49 x.A x.c x.xs) (i := j) (by rw [List.getElem?_map, hj]; rfl) (hs.pick hG)
  exact (Rd.slc (i := 0) rfl) _ this
end
def mailA (bm : Nat) (m : List Msg) : SL := fun h => ∃ x : Option Addr × Nat, star (row bm 118 [.slice x.1 m.length x.2]) (slc msgE 179 x.1 x.2 m) h
section
variable {W0 : World} {F : List SL} {bm : Nat} {m : List Msg}
theorem mailA_open : ∀ w, Sat W0 (mailA bm m :: F) w → ∃ x : Option Addr × Nat, Sat W0 (row bm 118 [.slice x.1 m.length x.2] :: slc msgE 179 x.1 x.2 m :: F) w := fun w hs => by
  obtain ⟨x, hx⟩ := Sat.ex (R := fun x : Option Addr × Nat => star (row bm 118 [.slice x.1 m.length x.2]) (slc msgE 179 x.1 x.2 m)) hs
  exact ⟨x, hx.split⟩
theorem mailA_shut {A : Option Addr} {c : Nat} : ∀ w, Sat W0 (row bm 118 [.slice A m.length c] :: slc msgE 179 A c m :: F) w → Sat W0 (mailA bm m :: F) w := fun w hs =>
  hs.join.imp fun hp h => ⟨(A, c), h⟩
end
end Go.Proofs.YtfolmcpfdcgliaaGreat.B

namespace Go.Proofs.YtfolmcpfdcgliaaGreat.B
open Go Go.Proofs
attribute [local irreducible] WL CS QS WQ WH WS Fn Op1 row Sat
attribute [local irreducible] slc
theorem mail_New (W0 : World) (F : List SL) :
    Fn Tryz.prog 27 [] W0 F (Ret fun v G' => ∃ b, v = .pointer (some ⟨b, 0, none⟩) ∧ G' = mailA b [] :: F) := by
  refine Fn.enter Tryz.func27 rfl Tryz.ntmps27 rfl ?_
  repeat' (first|refine bA ?_|refine bkq fun q=>?_|(refine bk2 ?_ ?_<;>(first|exact bkn|(refine bkk ?_;intro h))))
  exact QS.turn (G' := mailA q [] :: F) (fun w hs => mailA_shut (A := none) (c := 0) w ((hs.slcNil msgE 179).front (i := 1) rfl)) (QS.retV Tryz.results27 rfl ⟨q, rfl, rfl⟩)
theorem mail_Len (b : Nat) (A : Option Addr) (n c : Nat) (W0 : World) (F : List SL) :
    Fn Tryz.prog 50 [.pointer (some ⟨b, 0, none⟩)] W0 (row b 118 [.slice A n c] :: F) (Ret fun v G' => v = .int .i64 n ∧ G' = row b 118 [.slice A n c] :: F) := by
  refine Fn.enter Tryz.func50 rfl Tryz.ntmps50 rfl ?_
  repeat' (first|refine bA ?_|refine bkq fun q=>?_|(refine bk2 ?_ ?_<;>(first|exact bkn|(refine bkk ?_;intro h))))
  exact QS.retV Tryz.results50 rfl ⟨rfl, rfl⟩
set_option maxHeartbeats 2000000 in
theorem mail_put (b : Nat) (m : List Msg) (hm : m.length ≤ 50) (i : Int) (s : ByteArray) (W0 : World) (F : List SL) :
    Fn Tryz.prog 159 [.pointer (some ⟨b, 0, none⟩), .agg #[.int .i64 i, .string s]] W0 (mailA b m :: F) (Ret fun v G' => v = .tuple #[] ∧ G' = mailA b (m ++ [(i, s)]) :: F) := by
  refine Fn.ex (fun w hs => mailA_open w hs) ?_
  rintro ⟨A, c⟩
  simp only
  refine Fn.enter Tryz.func159 rfl Tryz.ntmps159 rfl ?_
  repeat' (first|refine bN ?_|refine bkq fun q=>?_|(refine bk2 ?_ ?_<;>(first|exact bkn|(refine bkk ?_;intro h))))
  revert q; intro q3
  refine CS.drawE (row b 118 [.slice A m.length c] :: row q3 72 [.int .i64 i, .string s] :: F) 11 (fun w hs => ?_) mixed (by kernel_rfl) rfl ?_
  · exact (hs.front (i := 1) rfl).kick (i := 2) rfl
  repeat' (first|refine bka ?_|(refine bk2a ?_ ?_<;>(first|exact bkn|(refine bkk ?_;intro h))))
  refine WA.e1 7 (by kernel_rfl) (by kernel_rfl) rfl rfl (EffC.of (Eff.buildSlice TT rfl rfl rfl rfl rfl rfl rfl)) rfl ?_
  rintro _ _ ⟨q2, rfl, rfl⟩
  refine ⟨fun w hs => (hs.drop.front (i := 1) rfl).kick (i := 2) rfl, ?_⟩
  refine WA.e1 8 (by kernel_rfl) (by kernel_rfl) rfl rfl (EffC.of (Eff.append TT (E := msgE) (xs := m) (ys := [(i, s)]) 3 rfl rfl rfl rfl rfl (Rd.row (i := 0) rfl rfl) rfl rfl rfl rfl rfl (by decide) (by simp only [List.length_cons, List.length_nil]; omega) (fun _ _ => rfl))) rfl ?_
  rintro _ _ ⟨A6, c6, rfl, rfl⟩
  refine ⟨fun w hs => (hs.drop.front (i := 1) rfl).kick (i := 2) rfl, ?_⟩
  repeat' (first|refine bka ?_|(refine bk2a ?_ ?_<;>(first|exact bkn|(refine bkk ?_;intro h))))
  refine WA.last (by kernel_rfl) (by kernel_rfl) (by kernel_rfl) rfl rfl (EffC.store TT 2 rfl rfl rfl rfl rfl rfl rfl rfl rfl) rfl ?_
  rintro _ _ ⟨rfl, rfl⟩
  repeat' (first|refine bA ?_|refine bkq fun q=>?_|(refine bk2 ?_ ?_<;>(first|exact bkn|(refine bkk ?_;intro h))))
  exact QS.turn (G' := mailA b (m ++ [(i, s)]) :: F) (fun w hs => mailA_shut (A := A6) (c := c6) w hs.drop.drop) (QS.endV Tryz.results159 rfl ⟨rfl, rfl⟩)
set_option maxHeartbeats 2000000 in
theorem mail_Send (b : Nat) (m : List Msg) (hm : m.length ≤ 50) (i : Int) (s : ByteArray) (W0 : World) (F : List SL) :
    Fn Tryz.prog 119 [.pointer (some ⟨b, 0, none⟩), .agg #[.int .i64 i, .string s]] W0 (mailA b m :: F) (Ret fun v G' => (∃ e, v = .int .i64 e) ∧ G' = mailA b (sendM m i s) :: F) := by
  refine Fn.ex (fun w hs => mailA_open w hs) ?_
  rintro ⟨A, c⟩
  simp only
  refine Fn.enter Tryz.func119 rfl Tryz.ntmps119 rfl ?_
  repeat' (first|refine bA ?_|refine bkq fun q=>?_|(refine bk2 ?_ ?_<;>(first|exact bkn|(refine bkk ?_;intro h))))
  revert q; intro q3
  refine WL.call c50 rfl rfl rfl rfl ((mail_Len b A m.length c W0 _).pre (fun w hs => hs.front (i := 1) rfl)) ?_
  rintro _ G2 ⟨rfl, hG2⟩
  rw [hG2]; clear hG2 G2
  by_cases h1 : 50 ≤ m.length ∨ 4000 < s.size
  · have hs1 : sendM m i s = m := by unfold sendM; rw [if_pos h1]
    rw [hs1]
    repeat' (first|refine bA ?_|refine bkq fun q=>?_|(refine bk2 ?_ ?_<;>(first|exact bkn|(refine bkk ?_;intro h))))
    all_goals first
      | exact QS.turn (G' := mailA b m :: F) (fun w hs => mailA_shut (A := A) (c := c) w (hs.kick (i := 1) rfl)) (QS.retV Tryz.results119 rfl ⟨⟨_, rfl⟩, rfl⟩)
      | (exfalso; omega)
      | done
  · have hs1 : sendM m i s = m ++ [(i, s)] := by unfold sendM; rw [if_neg h1]
    rw [hs1]
    simp only [not_or] at h1
    obtain ⟨h1, h2⟩ := h1
    repeat' (first|refine bN ?_|refine bkq fun q=>?_|(refine bk2 ?_ ?_<;>(first|exact bkn|(refine bkk ?_;intro h))))
    refine CS.drawT 4 mixed (by kernel_rfl) rfl ?_
    repeat' (first|refine bk ?_|refine bkc ?_|refine bks ?_|refine bkd ?_|refine bkh ?_|refine bkq (fun q => ?_)|((first|refine bk2 ?_ ?_|refine bk2h ?_ ?_)<;>(first|exact bkn|(refine bkk ?_;intro h))))
    refine WL.call c159 rfl rfl rfl rfl ((mail_put b m hm i s W0 _).pre (fun w hs => mailA_shut (A := A) (c := c) w ((hs.front (i := 2) rfl).front (i := 1) rfl))) ?_
    rintro _ _ ⟨rfl, rfl⟩
    repeat' (first|refine bA ?_|refine bkq fun q=>?_|(refine bk2 ?_ ?_<;>(first|exact bkn|(refine bkk ?_;intro h))))
    exact QS.turn (G' := mailA b (m ++ [(i, s)]) :: F) (fun w hs => hs.kick (i := 1) rfl) (QS.retV Tryz.results119 rfl ⟨⟨_, rfl⟩, rfl⟩)
end Go.Proofs.YtfolmcpfdcgliaaGreat.B
