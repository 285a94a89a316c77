import Derived.Test.YtfolmcpfdcgliaaGreatMg49
import Derived.Test.YtfolmcpfdcgliaaGreatMg43
import Derived.Test.YtfolmcpfdcgliaaGreatMg42
import Derived.Test.YtfolmcpfdcgliaaGreatMg37
import Derived.Test.YtfolmcpfdcgliaaGreatMg32
import Derived.Test.YtfolmcpfdcgliaaGreatMg46
import Derived.Test.YtfolmcpfdcgliaaGreatMg24
set_option linter.unusedVariables false
set_option linter.unusedSimpArgs false
set_option maxRecDepth 8000
namespace Go.Proofs.YtfolmcpfdcgliaaGreat.B
open Go Go.Proofs
theorem lg_at {ls ls' : List LogX} (h : ls.map lgOf = ls'.map lgOf) {i : Nat} {x : LogX} (hx : ls[i]? = some x) : ∃ x', ls'[i]? = some x' ∧ x'.e = x.e ∧ x'.xs = x.xs := by
  have h1 : (ls'.map lgOf)[i]? = some (lgOf x) := by rw [← h, List.getElem?_map, hx]; rfl
  rw [List.getElem?_map] at h1
  obtain ⟨x', h2, h3⟩ := Option.map_eq_some_iff.1 h1
  simp only [lgOf, Prod.mk.injEq] at h3
  exact ⟨x', h2, h3.1, h3.2⟩
theorem cnt_lg (ls : List LogX) (E : Int) (k : Nat) : cnt ls E k = (ls.map lgOf).countP fun t => decide (t.1 = E) && decide (k ≤ t.2.length) := by
  unfold cnt
  rw [List.countP_map]
  rfl
theorem out_lg {ls ls' : List LogX} (h : ls.map lgOf = ls'.map lgOf) {N : Int} {out : List Ent} (ho : Out ls N out) : Out ls' N out := by
  have hc : ∀ E k, cnt ls' E k = cnt ls E k := fun E k => by rw [cnt_lg, cnt_lg, h]
  rcases ho with ⟨h1, rfl⟩ | ⟨E, K, i, x, h1, rfl⟩
  · exact .inl ⟨fun E => by rw [hc]; exact h1 E, rfl⟩
  · obtain ⟨x', a1, a2, a3⟩ := lg_at h h1.at_
    refine .inr ⟨E, K, i, x', ⟨by rw [hc]; exact h1.ep, fun E' hE => h1.top E' (by rwa [hc] at hE), by rw [hc]; exact h1.k0, by rw [hc]; exact h1.k1, a1, ⟨by rw [a2]; exact h1.is.1, by rw [a3]; exact h1.is.2⟩, fun j y hj hy hh => ?_⟩, by rw [a3]⟩
    obtain ⟨y', b1, b2, b3⟩ := lg_at h.symm hy
    exact h1.first j y' hj b1 ⟨by rw [b2]; exact hh.1, by rw [b3]; exact hh.2⟩
theorem outL_same {lg : List Lg} {N : Int} {a b : List Ent} (ha : OutL lg N a) (hb : OutL lg N b) : a = b := by
  obtain ⟨l1, e1, o1⟩ := ha
  obtain ⟨l2, e2, o2⟩ := hb
  exact Out.same o1 (out_lg (e2.trans e1.symm) o2)
theorem read_same {xs : List Nd} {fs : List Int} {a b : List Ent} {e f : Int} (ha : ReadM xs fs a e) (hb : ReadM xs fs b f) : a = b ∧ e = f := by
  rcases ha with ⟨h1, rfl, rfl⟩ | ⟨h1, rfl, h3⟩
  · rcases hb with ⟨_, rfl, rfl⟩ | ⟨h2, _, _⟩
    · exact ⟨rfl, rfl⟩
    · exact absurd h1 h2
  · rcases hb with ⟨h2, _, _⟩ | ⟨_, rfl, h4⟩
    · exact absurd h2 h1
    · exact ⟨outL_same h3 h4, rfl⟩
def fromN (ys : List (Nat × Nat)) (xs : List Nd) (zs : List (Option Addr × Nat)) (t : LogX) : Prop := ∃ (j : Nat) (y : Nat × Nat) (x : Nd) (z : Option Addr × Nat), ys[j]? = some y ∧ xs[j]? = some x ∧ zs[j]? = some z ∧ t = ⟨x.J.e, z.1, z.2, x.J.xs⟩
attribute [local irreducible] WL CS QS WQ WH WS Fn Op1 row Sat
attribute [local irreducible] slc jA diskA mailA nodesA nodesX rjA refA rnodesA rnodesX rmailA entsA
set_option maxHeartbeats 8000000 in
theorem t_Read (bt : Nat) (Ay : Option Addr) (cy bn : Nat) (w : Wr) (xs : List Nd) (ys : List (Nat × Nat)) (hl : ys.length = xs.length) (hok : ∀ x ∈ xs, NdOk x) (hn1 : 1 ≤ xs.length) (hn : xs.length ≤ 5) (A : Option Addr) (k c : Nat) (fs : List Int) (hk : k = fs.length) (hI : ∀ x ∈ fs, I64 x) (W0 : World) (F : List SL) (hR : Rd W0 F intE A fs) :
    Fn Tryz.prog 44 [.pointer (some ⟨bt, 0, none⟩), .slice A k c] W0
      (row bt 68 (wrC Ay xs.length cy bn w) :: slc bpE 88 Ay cy (ys.map (·.1)) :: rnodesA ys xs :: F)
      (Ret fun v G' => ∃ out er Al cl, ReadM xs fs out er ∧ v = .tuple #[.slice Al out.length cl, .int .i64 er] ∧
        G' = slc entE 49 Al cl out :: row bt 68 (wrC Ay xs.length cy bn w) :: slc bpE 88 Ay cy (ys.map (·.1)) :: rnodesA ys xs :: F) := by
  subst hk
  refine Fn.ex (A := fun zs : {zs : List (Option Addr × Nat) // zs.length = xs.length} => bagA (rnodesO ys xs zs.1) :: row bt 68 (wrC Ay xs.length cy bn w) :: slc bpE 88 Ay cy (ys.map (·.1)) :: F) (fun w hs => by
    obtain ⟨zs, h1, h2⟩ := rnodes_all ys xs _ w hl (hs.front (i := 2) rfl)
    exact ⟨⟨zs, h1⟩, h2⟩) ?_
  rintro ⟨zs, hzl⟩
  simp only
  refine Fn.enter Tryz.func44 rfl Tryz.ntmps44 rfl ?_
  repeat' (first|refine bA ?_|refine bkq fun q=>?_|(refine bk2 ?_ ?_<;>(first|exact bkn|(refine bkk ?_;intro h))))
  refine CS.loop (X := {y : Nat × List LogX × Option Addr × Nat // y.2.1.map lgOf = seenL fs xs y.1 ∧ ∀ t ∈ y.2.1, fromN ys xs zs t}) (fun y => [(0, .pointer (some ⟨bt, 0, none⟩)), (1, .slice A fs.length c), (6, .slice y.1.2.2.1 y.1.2.1.length y.1.2.2.2), (7, .int .i64 (y.1.1 : Int))])
    (fun y => slc lgE 45 y.1.2.2.1 y.1.2.2.2 y.1.2.1 :: bagA (rnodesO ys xs zs) :: row bt 68 (wrC Ay xs.length cy bn w) :: slc bpE 88 Ay cy (ys.map (·.1)) :: F) (fun y => y.1.1 ≤ xs.length) (fun y => xs.length - y.1.1) ⟨(0, [], none, 0), rfl, fun t ht => by cases ht⟩ ⟨rfl, rfl, rfl, rfl, trivial⟩ (fun w hs => hs.slcNil lgE 45) (Nat.zero_le _) ?_
  rintro ⟨⟨i, ls, Al, cl⟩, hls, hfr⟩ hi
  simp only at hls hfr hi ⊢
  have hll := congrArg List.length hls
  rw [List.length_map] at hll
  have hsl := seenL_len fs xs i
  by_cases hix : i < xs.length
  · obtain ⟨x, hx⟩ : ∃ x, xs[i]? = some x := ⟨xs[i]'hix, List.getElem?_eq_getElem hix⟩
    obtain ⟨y, hy⟩ : ∃ y, ys[i]? = some y := ⟨ys[i]'(by omega), List.getElem?_eq_getElem (by omega)⟩
    obtain ⟨z, hz⟩ : ∃ z, zs[i]? = some z := ⟨zs[i]'(by omega), List.getElem?_eq_getElem (by omega)⟩
    have hyb : (ys.map (·.1))[(i : Int).toNat]? = some y.1 := by rw [Int.toNat_natCast, List.getElem?_map, hy]; rfl
    have hnx := seenL_succ fs xs i
    have hsm : seenM fs xs i = if x.J.dead = false ∧ (fateM fs i = 0 ∨ fateM fs i = 3) then some (x.J.e, x.J.xs) else none := by unfold seenM; rw [hx]
    refine CS.turn (G' := row y.1 112 (rjC y.2 z.1 z.2 x.J) :: slc entE 49 z.1 z.2 x.J.xs :: refA y.2 (toR x.D) :: bagA ((rnodesO ys xs zs).eraseIdx i) :: slc lgE 45 Al cl ls :: row bt 68 (wrC Ay xs.length cy bn w) :: slc bpE 88 Ay cy (ys.map (·.1)) :: F) (fun w hs => by
      have s1 := (bag_at (nodesO_at hy hx hz) (hs.front (i := 1) rfl)).split
      exact s1.split) ?_
    have hback : ∀ {G' : List SL} w, Sat W0 (row y.1 112 (rjC y.2 z.1 z.2 x.J) :: slc entE 49 z.1 z.2 x.J.xs :: refA y.2 (toR x.D) :: bagA ((rnodesO ys xs zs).eraseIdx i) :: G') w → Sat W0 (bagA (rnodesO ys xs zs) :: G') w := fun w hs => by
      have s1 : Sat W0 (rndO y x z :: bagA ((rnodesO ys xs zs).eraseIdx i) :: _) w := (hs.join (P := row y.1 112 (rjC y.2 z.1 z.2 x.J))).join (P := rjO y.1 y.2 x.J z)
      have h3 := nodesO_at hy hx hz
      have s2 := bag_set (List.getElem?_eq_some_iff.1 h3).1 s1
      rwa [show (rnodesO ys xs zs).set i (rndO y x z) = rnodesO ys xs zs from by obtain ⟨h, e⟩ := List.getElem?_eq_some_iff.1 h3; rw [← e]; exact List.set_getElem_self h] at s2
    repeat' (first|refine bA ?_|refine bkq fun q=>?_|(refine bk2 ?_ ?_<;>(first|exact bkn|(refine bkk ?_;intro h))))
    refine WL.call c87 rfl rfl rfl rfl (t_fate A _ c fs rfl hI i W0 _ hR.cons.cons.cons.cons.cons.cons.cons) ?_
    rintro _ G2 ⟨rfl, hG2⟩
    rw [hG2]; clear hG2 G2
    generalize fateM fs i = f at hsm ⊢
    repeat' (first|refine bA ?_|refine bkq fun q=>?_|(refine bk2 ?_ ?_<;>(first|exact bkn|(refine bkk ?_;intro h))))
    refine WL.idx TT (E := bpE) (Rd.slc (i := 6) rfl) rfl rfl (by rw [List.length_map, hl]) (by omega) (x := y.1) hyb rfl rfl rfl rfl (fun bb2 o hA => ?_)
    refine WL.s (op1_at TT hA rfl rfl rfl rfl) rfl ?_
    by_cases hc : x.J.dead = false ∧ (f = 0 ∨ f = 3)
    · rw [if_pos hc] at hsm
      rw [hsm] at hnx
      obtain ⟨hc1, hc2⟩ := hc
      simp only at hnx
      repeat' (first|refine bN ?_|refine bkq fun q=>?_|(refine bk2 ?_ ?_<;>(first|exact bkn|(refine bkk ?_;intro h))))
      all_goals first
        | (exfalso; simp_all; done)
        | (refine WL.idx TT (E := bpE) (Rd.slc (i := 6) rfl) rfl rfl (by rw [List.length_map, hl]) (by omega) (x := y.1) hyb rfl rfl rfl rfl (fun bb2 o hA => ?_)
           refine WL.s (op1_at TT hA rfl rfl rfl rfl) rfl ?_
           repeat' (first|refine bN ?_|refine bkq fun q=>?_|(refine bk2 ?_ ?_<;>(first|exact bkn|(refine bkk ?_;intro h))))
           refine WL.buildSlice TT rfl rfl rfl rfl rfl rfl rfl rfl (fun q2 => ?_)
           refine WL.append TT 5 (E := lgE) (xs := ls) (ys := [⟨x.J.e, z.1, z.2, x.J.xs⟩]) rfl rfl rfl rfl rfl (Rd.row (i := 0) rfl rfl) rfl rfl rfl rfl rfl (by decide) (by simp only [List.length_cons, List.length_nil]; omega) (fun _ _ => rfl) rfl (fun A5 c5 => ?_)
           repeat' (first|refine bA ?_|refine bkq fun q=>?_|(refine bk2 ?_ ?_<;>(first|exact bkn|(refine bkk ?_;intro h))))
           refine QS.again ⟨(i + 1, ls ++ [⟨x.J.e, z.1, z.2, x.J.xs⟩], A5, c5), by simp only [List.map_append, hls, hnx]; rfl, fun t ht => by
             rcases List.mem_append.1 ht with ht | ht
             · exact hfr t ht
             · rw [List.mem_singleton.1 ht]; exact ⟨i, y, x, z, hy, hx, hz, rfl⟩⟩ hix (by show xs.length - (i + 1) < xs.length - i; omega) ⟨rfl, rfl, rfl, rfl, trivial⟩ (fun w hs => ?_)
           exact (hback w (hs.drop)).front (i := 1) rfl)
    · rw [if_neg hc] at hsm
      rw [hsm, List.append_nil] at hnx
      repeat' (first|refine bN ?_|refine bkq fun q=>?_|(refine bk2 ?_ ?_<;>(first|exact bkn|(refine bkk ?_;intro h))))
      all_goals first
        | (exfalso; simp_all; done)
        | (refine QS.again ⟨(i + 1, ls, Al, cl), by simp only [hls, hnx], hfr⟩ hix (by show xs.length - (i + 1) < xs.length - i; omega) ⟨rfl, rfl, rfl, rfl, trivial⟩ (fun w hs => ?_)
           exact (hback w hs).front (i := 1) rfl)
  · obtain rfl : i = xs.length := by omega
    have hback : ∀ {G' : List SL} w, Sat W0 (bagA (rnodesO ys xs zs) :: G') w → Sat W0 (rnodesA ys xs :: G') w := fun w hs => rnodes_back ys xs zs _ w hl hzl hs
    have hxn : ∀ x ∈ ls, x.xs.length ≤ 300 := fun t ht => by
      obtain ⟨j, y, x, z, h1, h2, h3, rfl⟩ := hfr t ht
      exact (hok x (List.mem_of_getElem? h2)).J.len
    repeat' (first|refine bN ?_|refine bkq fun q=>?_|(refine bk2 ?_ ?_<;>(first|exact bkn|(refine bkk ?_;intro h))))
    refine WL.fact (p := ∀ x ∈ ls, x.xs.length ≤ x.c) (fun w hs t ht => by
      obtain ⟨j, y, x, z, h1, h2, h3, rfl⟩ := hfr t ht
      have s1 := (bag_at (nodesO_at h1 h2 h3) (hs.front (i := 1) rfl)).split
      exact slc_cap (i := 1) rfl w (s1.split (P := row y.1 112 (rjC y.2 z.1 z.2 x.J)))) (fun hcap => ?_)
    refine WL.call c82 rfl rfl rfl rfl ((t_Majority bt Ay xs.length cy bn w hn W0 _).pre (fun w hw => hw.front (i := 2) rfl)) ?_
    rintro _ _ ⟨rfl, rfl⟩
    have hMb : 0 ≤ mostM (xs.length : Int) ∧ mostM (xs.length : Int) ≤ 3 := by unfold mostM; split <;> omega
    have hn0 : ¬ (xs.length : Int) = 0 := by omega
    unfold ReadM
    rw [← hll]
    by_cases hlt : (ls.length : Int) < mostM xs.length
    · repeat' (first|refine bA ?_|refine bkq fun q=>?_|(refine bk2 ?_ ?_<;>(first|exact bkn|(refine bkk ?_;intro h))))
      exact QS.turn (G' := slc entE 49 none 0 [] :: row bt 68 (wrC Ay xs.length cy bn w) :: slc bpE 88 Ay cy (ys.map (fun u : Nat × Nat => u.1)) :: rnodesA ys xs :: F) (fun w hs => ((hback w (hs.ord 4 [2, 0, 3] rfl)).ord 3 [1, 2, 0] (G' := row bt 68 (wrC Ay xs.length cy bn _) :: slc bpE 88 Ay cy (ys.map (fun u : Nat × Nat => u.1)) :: rnodesA ys xs :: F) rfl).slcNil entE 49) (QS.retV Tryz.results44 rfl ⟨[], 12, none, 0, .inl ⟨.inr hlt, rfl, rfl⟩, rfl, rfl⟩)
    · repeat' (first|refine bN ?_|refine bkq fun q=>?_|(refine bk2 ?_ ?_<;>(first|exact bkn|(refine bkk ?_;intro h))))
      refine WL.call c82 rfl rfl rfl rfl (t_Majority bt Ay xs.length cy bn w hn W0 _) ?_
      rintro _ _ ⟨rfl, rfl⟩
      repeat' (first|refine bN ?_|refine bkq fun q=>?_|(refine bk2 ?_ ?_<;>(first|exact bkn|(refine bkk ?_;intro h))))
      refine WL.call c88 rfl rfl rfl rfl ((ref_Committed Al _ cl ls rfl (by omega) (fun x hx => ⟨by have := hxn x hx; omega, hcap x hx⟩) (mostM xs.length) (by omega) W0 (bagA (rnodesO ys xs zs) :: slc lgE 45 Al cl ls :: row bt 68 (wrC Ay xs.length cy bn w) :: slc bpE 88 Ay cy (ys.map (·.1)) :: F) (Rd.slc (i := 1) rfl) (fun t ht => by
        obtain ⟨j, y, x, z, h1, h2, h3, rfl⟩ := hfr t ht
        exact nodesO_rd h1 h2 h3)).pre (fun w hs => hs.ord 4 [2, 1, 0, 3] rfl)) ?_
      rintro _ _ ⟨out, A6, c6, ho, rfl, rfl⟩
      repeat' (first|refine bA ?_|refine bkq fun q=>?_|(refine bk2 ?_ ?_<;>(first|exact bkn|(refine bkk ?_;intro h))))
      exact QS.turn (G' := slc entE 49 A6 c6 out :: row bt 68 (wrC Ay xs.length cy bn w) :: slc bpE 88 Ay cy (ys.map (fun u : Nat × Nat => u.1)) :: rnodesA ys xs :: F) (fun w hs => (hback w (hs.ord 5 [1, 0, 3, 4] rfl)).ord 4 [1, 2, 3, 0] rfl) (QS.retV Tryz.results44 rfl ⟨out, 0, A6, c6, .inr ⟨fun hh => hh.elim (fun hh => by omega) (fun hh => hlt hh), rfl, ⟨ls, hls, ho⟩⟩, rfl, rfl⟩)
end Go.Proofs.YtfolmcpfdcgliaaGreat.B

set_option linter.unusedSectionVars false
namespace Go.Proofs.YtfolmcpfdcgliaaGreat.B
open Go Go.Proofs
attribute [local irreducible] WL CS QS WQ WH WS Fn Op1 row Sat
attribute [local irreducible] refA slc
theorem crE_len (x : RFile) (c : Int) : (crE x c).length ≤ 1 := by unfold crE; split <;> simp
theorem crT_len (keeps : List Int) (l : List RFile) : ∀ i, (crT keeps l i).length ≤ i
  | 0 => Nat.le_refl _
  | i + 1 => by
    have := crT_len keeps l i
    rw [crT, List.length_append]
    cases hl : l[i]? with
    | none => simp only [List.length_nil]; omega
    | some x => have := crE_len x (keepN keeps i); simp only; omega
set_option maxHeartbeats 4000000 in
theorem rdisk_Crash (b : Nat) (R : RDisk) (hR : ROk R) (hsy : ∀ f ∈ R.files, FileOk ⟨f.data, f.syn⟩) {B : Option Addr} {cB : Nat} {keeps : List Int} (hk : ∀ x ∈ keeps, I64 x) (hkl : keeps.length ≤ 9223372036854775807) (W0 : World) (F : List SL) (hRd : Rd W0 F intE B keeps) :
    Fn Tryz.prog 48 [.pointer (some ⟨b, 0, none⟩), .slice B keeps.length cB] W0 (refA b R :: F) (Ret fun v G' => v = .tuple #[] ∧ G' = refA b (R.crash keeps) :: F) := by
  have hcn := hR.count
  refine Fn.ex (fun w hs => refA_open w hs) (fun x => ?_)
  obtain ⟨A, c⟩ := x
  simp only
  refine Fn.enter Tryz.func48 rfl Tryz.ntmps48 rfl ?_
  simp only [refCells]
  repeat' (first|refine bA ?_|refine bkq fun q=>?_|(refine bk2 ?_ ?_<;>(first|exact bkn|(refine bkk ?_;intro h))))
  refine CS.loop (X := Nat × Option Addr × Nat) (fun y => [(0, .pointer (some ⟨b, 0, none⟩)), (1, .slice B keeps.length cB), (4, .slice y.2.1 (crT keeps R.files y.1).length y.2.2), (5, .int .i64 (y.1 : Int))])
    (fun y => slc rfE 176 y.2.1 y.2.2 (crT keeps R.files y.1) :: row b 149 (refCells A c R) :: slc rfE 176 A c R.files :: F)
    (fun y => y.1 ≤ R.files.length) (fun y => R.files.length - y.1) (0, none, 0) ⟨rfl, rfl, rfl, rfl, trivial⟩ (fun w hs => hs.slcNil rfE 176) (Nat.zero_le _) ?_
  rintro ⟨i, A2, c2⟩ hi
  simp only [refCells] at hi ⊢
  have hcl := crT_len keeps R.files i
  generalize hX : crT keeps R.files i = X at hcl ⊢
  repeat' (first|refine bA ?_|refine bkq fun q=>?_|(refine bk2 ?_ ?_<;>(first|exact bkn|(refine bkk ?_;intro h))))
  · obtain ⟨f, hf⟩ : ∃ x, R.files[i]? = some x := ⟨R.files[i]'(by omega), List.getElem?_eq_getElem (by omega)⟩
    have hfo := hsy f (List.mem_of_getElem? hf)
    have hf0 := hfo.s0
    have hf1 := hfo.s1
    have hfm := hfo.most
    simp only at hf0 hf1 hfm
    refine WL.idx TT (Rd.slc (i := 2) rfl) rfl rfl rfl (by omega) (by rw [Int.toNat_natCast]; exact hf) rfl rfl rfl rfl (fun b2 o hA => ?_)
    refine WL.s (op1_at TT hA rfl rfl rfl rfl) rfl ?_
    repeat' (first|refine bk ?_|refine bkc ?_|refine bkd ?_|refine bkq (fun q => ?_)|(refine bk2 ?_ ?_<;>(first|exact bkn|(refine bkk ?_;intro h))))
    refine CS.seq ?_
    repeat' (first|refine bk ?_|refine bkc ?_|refine bkd ?_|refine bkq (fun q => ?_)|(refine bk2 ?_ ?_<;>(first|exact bkn|(refine bkk ?_;intro h))))
    refine CS.seq ?_
    refine CS.cut (X := Unit) (fun _ => [(0, .pointer (some ⟨b, 0, none⟩)), (1, .slice B keeps.length cB), (4, .slice A2 X.length c2), (5, .int .i64 (i : Int)), (6, .pointer (some ⟨q, 0, none⟩)), (7, .int .i64 (keeps.getD i 0))]) (fun _ => row q 176 [.string f.name, .string f.data, .int .i64 f.syn] :: slc rfE 176 A2 c2 X :: row b 149 [.int .i64 R.room, .slice A R.files.length c, .int .i64 R.left, .bool R.off] :: slc rfE 176 A c R.files :: F) (fun _ => True) ?_ ?_
    · repeat' (first|refine bA ?_|refine bkq fun q=>?_|(refine bk2 ?_ ?_<;>(first|exact bkn|(refine bkk ?_;intro h))))
      · refine WL.idx TT hRd.cons.cons.cons.cons rfl rfl rfl (by omega) (x := keeps.getD i 0) (by rw [Int.toNat_natCast, List.getD_eq_getElem?_getD, List.getElem?_eq_getElem (by omega)]; rfl) rfl rfl rfl rfl (fun b3 o3 hA3 => ?_)
        refine WL.s (op1_at TT hA3 rfl rfl rfl rfl) rfl ?_
        repeat' (first|refine bA ?_|refine bkq fun q=>?_|(refine bk2 ?_ ?_<;>(first|exact bkn|(refine bkk ?_;intro h))))
        exact QS.met () trivial ⟨rfl, rfl, rfl, rfl, rfl, rfl, trivial⟩ (fun w hs => hs)
      · refine QS.met () trivial ⟨rfl, rfl, rfl, rfl, rfl, ?_, trivial⟩ (fun w hs => hs)
        rw [List.getD_eq_getElem?_getD, List.getElem?_eq_none (by omega)]; rfl
    rintro _ _
    have hz : I64 (keeps.getD i 0) := by
      rw [List.getD_eq_getElem?_getD]
      cases hg : keeps[i]? with
      | none => exact ⟨by simp, by simp⟩
      | some x => exact hk x (List.mem_of_getElem? hg)
    have hz1 := hz.1
    have hz2 := hz.2
    refine QS.then ?_
    refine CS.seq ?_
    refine CS.cut (X := Unit) (fun _ => [(0, .pointer (some ⟨b, 0, none⟩)), (1, .slice B keeps.length cB), (4, .slice A2 X.length c2), (5, .int .i64 (i : Int)), (6, .pointer (some ⟨q, 0, none⟩)), (7, .int .i64 (keepN keeps i))]) (fun _ => row q 176 [.string f.name, .string f.data, .int .i64 f.syn] :: slc rfE 176 A2 c2 X :: row b 149 [.int .i64 R.room, .slice A R.files.length c, .int .i64 R.left, .bool R.off] :: slc rfE 176 A c R.files :: F) (fun _ => True) ?_ ?_
    · repeat' (first|refine bA ?_|refine bkq fun q=>?_|(refine bk2 ?_ ?_<;>(first|exact bkn|(refine bkk ?_;intro h))))
      · refine QS.met () trivial ⟨rfl, rfl, rfl, rfl, rfl, ?_, trivial⟩ (fun w hs => hs)
        rw [keepN, if_pos h, show -keeps.getD i 0 - 1 = -(keeps.getD i 0 + 1) from by omega]; rfl
      · refine QS.met () trivial ⟨rfl, rfl, rfl, rfl, rfl, ?_, trivial⟩ (fun w hs => hs)
        rw [keepN, if_neg h]; rfl
    rintro _ _
    have hkn := keepN_nonneg keeps i
    obtain ⟨hc1, hc2⟩ := crashN_ok hfo hkn
    simp only at hc1 hc2
    have e0 : crashN ⟨f.data, f.syn⟩ (keepN keeps i) = f.syn + keepN keeps i % ((f.data.size : Int) - f.syn + 1) := rfl
    repeat' (first|refine bA ?_|refine bkq fun q=>?_|(refine bk2 ?_ ?_<;>(first|exact bkn|(refine bkk ?_;intro h))))
    refine WL.s (op1_remE TT rfl rfl (by omega)) rfl ?_
    repeat' (first|refine bA ?_|refine bkq fun q=>?_|(refine bk2 ?_ ?_<;>(first|exact bkn|(refine bkk ?_;intro h))))
    rw [← e0]
    refine WL.s (op1_slice TT (l := 0) (r := crashN ⟨f.data, f.syn⟩ (keepN keeps i)) (s := f.data) rfl rfl rfl rfl ⟨by omega, by omega, by omega⟩) rfl ?_
    have hes : (f.data.extract (Int.toNat 0) (crashN ⟨f.data, f.syn⟩ (keepN keeps i)).toNat).size = (crashN ⟨f.data, f.syn⟩ (keepN keeps i)).toNat := extract0_size _ _ (by omega)
    generalize he : f.data.extract (Int.toNat 0) (crashN ⟨f.data, f.syn⟩ (keepN keeps i)).toNat = E at hes ⊢
    repeat' (first|refine bA ?_|refine bkq fun q=>?_|(refine bk2 ?_ ?_<;>(first|exact bkn|(refine bkk ?_;intro h))))
    · have hcf : crashF ⟨f.data, f.syn⟩ (keepN keeps i) = some ⟨E, (E.size : Int)⟩ := by
        unfold crashF
        rw [if_neg (fun e => by have := e.1; omega)]
        have : (E.size : Int) = crashN ⟨f.data, f.syn⟩ (keepN keeps i) := by omega
        rw [this, ← he]; rfl
      have hnext : crT keeps R.files (i + 1) = X ++ [⟨f.name, E, (E.size : Int)⟩] := by
        rw [crT, hX, hf]; simp only [crE, hcf]
      refine WL.buildSlice TT rfl rfl rfl rfl rfl rfl rfl rfl (fun qs => ?_)
      refine WL.append TT (E := rfE) (xs := X) (ys := [⟨f.name, E, (E.size : Int)⟩]) 2 rfl rfl rfl rfl rfl (Rd.row (i := 0) rfl rfl) rfl rfl rfl rfl rfl (by decide) (by simp only [List.length_cons, List.length_nil]; omega) (fun _ _ => rfl) rfl (fun A3 c3 => ?_)
      rw [← hnext]
      repeat' (first|refine bA ?_|refine bkq fun q=>?_|(refine bk2 ?_ ?_<;>(first|exact bkn|(refine bkk ?_;intro h))))
      refine QS.again (i + 1, A3, c3) (by simp only; omega) (by simp only; omega) ⟨rfl, rfl, rfl, ?_, trivial⟩ (fun w hs => hs.drop.drop)
      rw [show ((i + 1 : Nat) : Int) = (i : Int) + 1 from by omega]; rfl
    · have hcf : crashF ⟨f.data, f.syn⟩ (keepN keeps i) = none := by
        unfold crashF
        rw [if_pos ⟨by omega, by simp only; omega⟩]
      have hnext : crT keeps R.files (i + 1) = X := by
        rw [crT, hX, hf]; simp only [crE, hcf, List.append_nil]
      refine QS.again (i + 1, A2, c2) (by simp only; omega) (by simp only; omega) ⟨rfl, rfl, ?_, ?_, trivial⟩ (fun w hs => by rw [hnext]; exact hs.drop)
      · rw [hnext]; rfl
      · rw [show ((i + 1 : Nat) : Int) = (i : Int) + 1 from by omega]; rfl
  · have hin : i = R.files.length := by omega
    rw [hin] at hX
    have hcr : R.crash keeps = ⟨R.room, X, 0, false⟩ := by rw [RDisk.crash, hX]
    rw [hcr]
    exact QS.turn (G' := refA b ⟨R.room, X, 0, false⟩ :: F) (fun w hs => refA_shut (A := A2) (c := c2) w ((hs.kick (i := 2) rfl).front (i := 1) rfl)) (QS.endV Tryz.results48 rfl ⟨rfl, rfl⟩)
end Go.Proofs.YtfolmcpfdcgliaaGreat.B

namespace Go.Proofs.YtfolmcpfdcgliaaGreat.B
open Go Go.Proofs
def trA (Ay : Option Addr) (n cy bn : Nat) (b : Nat) (w : Wr) : SL := row b 68 (wrC Ay n cy bn w)
def trsA (Ay : Option Addr) (n cy bn : Nat) (tb : List Nat) (ws : List Wr) : SL := bagA (List.zipWith (trA Ay n cy bn) tb ws)
def trsX (Ay : Option Addr) (n cy bn : Nat) (tb : List Nat) (ws : List Wr) (k : Nat) : SL := bagA ((List.zipWith (trA Ay n cy bn) tb ws).eraseIdx k)
section
variable {W0 : World} {G : List SL} {Ay : Option Addr} {n cy bn k b : Nat} {tb : List Nat} {ws : List Wr} {w : Wr}
theorem trs_open (hb : tb[k]? = some b) (hw : ws[k]? = some w) : ∀ W, Sat W0 (trsA Ay n cy bn tb ws :: G) W → Sat W0 (row b 68 (wrC Ay n cy bn w) :: trsX Ay n cy bn tb ws k :: G) W := bagZ_open (f := trA Ay n cy bn) hb hw
theorem trs_shut (hb : tb[k]? = some b) (hw : ws[k]? = some w) {b' : Nat} {w' : Wr} : ∀ W, Sat W0 (row b' 68 (wrC Ay n cy bn w') :: trsX Ay n cy bn tb ws k :: G) W → Sat W0 (trsA Ay n cy bn (tb.set k b') (ws.set k w') :: G) W := bagZ_shut (f := trA Ay n cy bn) hb hw
theorem trs_snoc (hl : tb.length = ws.length) : ∀ W, Sat W0 (row b 68 (wrC Ay n cy bn w) :: trsA Ay n cy bn tb ws :: G) W → Sat W0 (trsA Ay n cy bn (tb ++ [b]) (ws ++ [w]) :: G) W := fun W s => by
  have := bag_snoc (P := trA Ay n cy bn b w) s
  rw [trsA, List.zipWith_append hl]
  exact this
theorem trs_none : ∀ W, Sat W0 G W → Sat W0 (trsA Ay n cy bn [] [] :: G) W := fun W s => bag_none s
theorem trs_put (hb : tb[k]? = some b) (hw : ws[k]? = some w) {w' : Wr} : ∀ W, Sat W0 (row b 68 (wrC Ay n cy bn w') :: trsX Ay n cy bn tb ws k :: G) W → Sat W0 (trsA Ay n cy bn tb (ws.set k w') :: G) W := fun W hs => by
  have := trs_shut hb hw W hs
  rwa [set_same hb] at this
end
attribute [local irreducible] WL CS QS WQ WH WS Fn Op1 row Sat
attribute [local irreducible] slc jA diskA mailA nodesA nodesX rjA refA rnodesA rnodesX rmailA entsA
section
variable {xs : List Nd} {ys : List (Nat × Nat)} {i : Nat} {x : Nd} {y : Nat × Nat}
theorem t_Fuse (hx : xs[i]? = some x) (hy : ys[i]? = some y) (hD : DiskOk x.D) (k : Int) (W0 : World) (F : List SL) :
    Fn Tryz.prog 47 [.pointer (some ⟨y.2, 0, none⟩), .int .i64 k] W0 (rnodesA ys xs :: F) (Ret fun v G' => v = .tuple #[] ∧ G' = rnodesA ys (xs.set i ⟨x.b, x.d, x.J, x.D.light k⟩) :: F) :=
  Fn.post ((rdisk_Fuse y.2 (toR x.D) k W0 (rjA y.1 y.2 x.J :: rnodesX ys xs i :: F)).pre (fun w hs => (rnodes_open hx hy w hs).front (i := 1) rfl)) (Ret.post fun v G' ⟨h1, h2⟩ => ⟨_, fun w hw => by
    rw [h2, toR_light hD] at hw
    have := rnodes_shut hx hy (x' := ⟨x.b, x.d, x.J, x.D.light k⟩) (y' := y) w (hw.front (i := 1) rfl)
    rwa [set_same hy] at this, h1, rfl⟩)
theorem t_Crash (hx : xs[i]? = some x) (hy : ys[i]? = some y) (hD : DiskOk x.D) {A : Option Addr} {c : Nat} {keeps : List Int} (hk : ∀ z ∈ keeps, I64 z) (hkl : keeps.length ≤ 9223372036854775807) (W0 : World) (F : List SL) (hR : Rd W0 F intE A keeps) :
    Fn Tryz.prog 48 [.pointer (some ⟨y.2, 0, none⟩), .slice A keeps.length c] W0 (rnodesA ys xs :: F) (Ret fun v G' => v = .tuple #[] ∧ G' = rnodesA ys (xs.set i ⟨x.b, x.d, x.J, x.D.crash keeps⟩) :: F) :=
  Fn.post ((rdisk_Crash y.2 (toR x.D) (toR_ok hD) (fun f hf => rec_syn hD hf) hk hkl W0 (rjA y.1 y.2 x.J :: rnodesX ys xs i :: F) hR.cons.cons).pre (fun w hs => (rnodes_open hx hy w hs).front (i := 1) rfl)) (Ret.post fun v G' ⟨h1, h2⟩ => ⟨_, fun w hw => by
    rw [h2, toR_crash hD] at hw
    have := rnodes_shut hx hy (x' := ⟨x.b, x.d, x.J, x.D.crash keeps⟩) (y' := y) w (hw.front (i := 1) rfl)
    rwa [set_same hy] at this, h1, rfl⟩)
theorem t_Open (hx : xs[i]? = some x) (hy : ys[i]? = some y) (hD : DiskOk x.D) (h0 : (openJ x.D).1 = 0) (b0 d0 : Nat) (W0 : World) (F : List SL) :
    Fn Tryz.prog 30 [.pointer (some ⟨y.2, 0, none⟩)] W0 (rnodesA ys xs :: F) (Ret fun v G' => ∃ b, v = .tuple #[.pointer (some ⟨b, 0, none⟩), .int .i64 0] ∧ G' = rnodesA (ys.set i (b, y.2)) (xs.set i ⟨b0, d0, (openJ x.D).2.1, (openJ x.D).2.2⟩) :: F) := by
  have hc := r_Open y.2 x.D hD W0 (rjA y.1 y.2 x.J :: rnodesX ys xs i :: F)
  unfold openS at hc
  simp only [h0, if_true] at hc
  refine Fn.post (hc.pre (fun w hs => (rnodes_open hx hy w hs).front (i := 1) rfl)) (Ret.post fun v G' ⟨b, h1, h2⟩ => ⟨_, fun w hw => ?_, b, h1, rfl⟩)
  rw [h2] at hw
  exact rnodes_shut hx hy (x' := ⟨b0, d0, (openJ x.D).2.1, (openJ x.D).2.2⟩) (y' := (b, y.2)) w (hw.kick (i := 2) rfl)
end
end Go.Proofs.YtfolmcpfdcgliaaGreat.B

namespace Go.Proofs.YtfolmcpfdcgliaaGreat.B
open Go Go.Proofs
structure LSt where
  xs : List Nd
  m : List Msg
  ws : List Wr
def Lt (x : Nd) : Prop := NdOk x ∧ Q2.Has (fun _ => True) x
def ML (n : Nat) (z : Msg) : Prop := 0 ≤ z.1 ∧ z.1 < n ∧ z.2.size ≤ 4000
def WB (w : Wr) : Prop := 0 ≤ w.n ∧ w.n ≤ 300 ∧ 0 ≤ w.e ∧ w.e ≤ 9007199254740991
structure LInv (n : Nat) (s : LSt) : Prop where
  len : s.xs.length = n
  w3 : s.ws.length = 3
  m50 : s.m.length ≤ 50
  nd : ∀ x ∈ s.xs, Lt x
  ml : ∀ z ∈ s.m, ML n z
  wr : ∀ w ∈ s.ws, WB w
theorem lt_all {xs : List Nd} (h : ∀ x ∈ xs, Lt x) (fs : List Int) (s : ByteArray) (i : Nat) : ∀ x ∈ ndsM fs s xs i, Lt x := by
  intro x hx
  obtain ⟨j, hj⟩ := List.mem_iff_getElem?.1 hx
  simp only [ndsM, List.getElem?_mapIdx, Option.map_eq_some_iff] at hj
  obtain ⟨y, hy, rfl⟩ := hj
  have hL := h y (List.mem_of_getElem? hy)
  split
  · exact ⟨ndM_ok hL.1 _ _, hL.2.step (fun _ _ _ _ _ _ _ _ => trivial) _⟩
  · exact hL
theorem ml_all {n : Nat} {fs : List Int} {s : ByteArray} {xs : List Nd} {m : List Msg} (hm : ∀ z ∈ m, ML n z) : ∀ k, k ≤ n → ∀ z ∈ (gotsM fs s xs m k).m, ML n z
  | 0, _ => hm
  | k + 1, hk => by
    have ih := ml_all (fs := fs) (s := s) (xs := xs) hm k (by omega)
    rw [gotsM]
    cases xs[k]? with
    | none => exact ih
    | some x =>
      simp only
      intro z hz
      unfold gotM heard at hz
      have hsend : z ∈ sendM (gotsM fs s xs m k).m (k : Int) s → ML n z := fun hz => by
        unfold sendM at hz
        split at hz
        · exact ih z hz
        · rename_i hsz
          rcases List.mem_append.1 hz with hz | hz
          · exact ih z hz
          · rw [List.mem_singleton] at hz
            subst hz
            exact ⟨by simp only; omega, by simp only; omega, by simp only; omega⟩
      split at hz
      · exact ih z hz
      · split at hz
        · exact hsend hz
        · split at hz
          · exact ih z hz
          · split at hz
            · exact ih z hz
            · split at hz <;> exact ih z hz
theorem wb_or {w w' : Wr} (h : w' = ⟨0, 0, true⟩ ∨ w' = w) (hw : WB w) : WB w' := by
  rcases h with rfl | rfl
  · exact ⟨by decide, by decide, by decide, by decide⟩
  · exact hw
theorem all_light {n : Nat} {w : Wr} {xs : List Nd} {m : List Msg} (hn : xs.length = n) (h1 : ∀ x ∈ xs, Lt x) (h2 : ∀ z ∈ m, ML n z) (s : ByteArray) (fs : List Int) :
    (∀ x ∈ (allM w xs m s fs).xs, Lt x) ∧ (∀ z ∈ (allM w xs m s fs).m, ML n z) ∧ ((allM w xs m s fs).w = ⟨0, 0, true⟩ ∨ (allM w xs m s fs).w = w) := by
  unfold allM
  simp only
  split
  · exact ⟨lt_all h1 _ _ _, ml_all h2 _ (by omega), .inl rfl⟩
  · exact ⟨lt_all h1 _ _ _, ml_all h2 _ (by omega), .inr rfl⟩
theorem best_len {ls : List Lg} (h : ∀ t ∈ ls, logOk t.1 t.2 = true) : (bestL ls).length ≤ 300 := by
  unfold bestL
  split
  · rename_i x hx
    exact (logOk_iff.1 (h x (List.mem_of_getElem? hx))).1.2.2
  · simp
theorem set_mem {α : Type} {l : List α} {k : Nat} {a b : α} (h : b ∈ l.set k a) : b = a ∨ b ∈ l := by
  rcases List.mem_or_eq_of_mem_set h with h | h
  · exact .inr h
  · exact .inl h
section
variable {n : Nat} {s : LSt} {k i : Nat} {w : Wr} {x y : Nd}
theorem LInv.loks (h : LInv n s) : ∀ x ∈ s.xs, NdOk x := fun x hx => (h.nd x hx).1
theorem LInv.lbegin (h : LInv n s) (hk : s.ws[k]? = some w) (ep : Int) (fs : List Int) {r : Out1} (hr : beginM w s.xs s.m ep fs = r) : LInv n ⟨r.xs, r.m, s.ws.set k r.w⟩ := by
  have hw := h.wr w (List.mem_of_getElem? hk)
  obtain ⟨_, k2, _, k4, _⟩ := begin_ok2 (w := w) h.loks h.m50 ep fs
  have H : (∀ x ∈ (beginM w s.xs s.m ep fs).xs, Lt x) ∧ (∀ z ∈ (beginM w s.xs s.m ep fs).m, ML n z) ∧ WB (beginM w s.xs s.m ep fs).w := by
    unfold beginM
    split
    · exact ⟨h.nd, h.ml, hw⟩
    · split
      · exact ⟨h.nd, h.ml, hw⟩
      · rename_i hep
        obtain ⟨a1, a2, a3⟩ := all_light (w := w) h.len h.nd h.ml (promS ep) fs
        have a4 := best_len (all_logs (w := w) (xs := s.xs) (m := s.m) (s := promS ep) (fs := fs))
        have a5 := (all_facts (w := w) h.loks h.m50 (promS ep) fs).2.1
        simp only
        split
        · exact ⟨a1, a2, wb_or a3 hw⟩
        · unfold begin2
          obtain ⟨b1, b2, b3⟩ := all_light (w := (allM w s.xs s.m (promS ep) fs).w) (a5.trans h.len) a1 a2 (accS ep (bestL (allM w s.xs s.m (promS ep) fs).logs)) (fs.drop (min fs.length (allM w s.xs s.m (promS ep) fs).xs.length))
          simp only
          split
          · exact ⟨b1, b2, wb_or b3 (wb_or a3 hw)⟩
          · exact ⟨b1, b2, ⟨by simp only; omega, by simp only; omega, by simp only; omega, by simp only; omega⟩⟩
  rw [hr] at H k2 k4
  exact ⟨k2.trans h.len, by simp only [List.length_set]; exact h.w3, k4, H.1, H.2.1, fun v hv => (set_mem hv).elim (fun e => e ▸ H.2.2) (h.wr v)⟩
theorem LInv.lwrite (h : LInv n s) (hk : s.ws[k]? = some w) (d : ByteArray) (fs : List Int) {r : Out1} (hr : writeM w s.xs s.m d fs = r) : LInv n ⟨r.xs, r.m, s.ws.set k r.w⟩ := by
  have hw := h.wr w (List.mem_of_getElem? hk)
  obtain ⟨_, k2, _, k4, _⟩ := write_ok2 (w := w) h.loks h.m50 d fs
  have H : (∀ x ∈ (writeM w s.xs s.m d fs).xs, Lt x) ∧ (∀ z ∈ (writeM w s.xs s.m d fs).m, ML n z) ∧ WB (writeM w s.xs s.m d fs).w := by
    unfold writeM
    split
    · exact ⟨h.nd, h.ml, hw⟩
    · split
      · exact ⟨h.nd, h.ml, hw⟩
      · split
        · exact ⟨h.nd, h.ml, hw⟩
        · rename_i hn3
          obtain ⟨a1, a2, a3⟩ := all_light (w := w) h.len h.nd h.ml (addS w.e (w.n + 1) d) fs
          refine ⟨a1, a2, ?_⟩
          simp only
          split
          · rcases a3 with a3 | a3
            · rw [a3]; exact ⟨by decide, by decide, by decide, by decide⟩
            · rw [a3]
              obtain ⟨w1, w2, w4, w5⟩ := hw
              exact ⟨by simp only; omega, by simp only; omega, w4, w5⟩
          · exact wb_or a3 hw
  rw [hr] at H k2 k4
  exact ⟨k2.trans h.len, by simp only [List.length_set]; exact h.w3, k4, H.1, H.2.1, fun v hv => (set_mem hv).elim (fun e => e ▸ H.2.2) (h.wr v)⟩
theorem LInv.lnode (h : LInv n s) (i : Nat) (hy : Lt y) {m' : List Msg} (hm : ∀ z ∈ m', z ∈ s.m) (hml : m'.length ≤ s.m.length) : LInv n ⟨s.xs.set i y, m', s.ws⟩ :=
  ⟨by simp only [List.length_set]; exact h.len, h.w3, Nat.le_trans hml h.m50, fun v hv => (set_mem hv).elim (fun e => e ▸ hy) (h.nd v), fun z hz => h.ml z (hm z hz), h.wr⟩
theorem LInv.ltake (h : LInv n s) {j : Nat} {z : Msg} (hz : s.m[j]? = some z) : ∃ (i : Nat) (x : Nd), z.1 = (i : Int) ∧ s.xs[i]? = some x ∧ z.2.size ≤ 4000 ∧ LInv n ⟨s.xs.set i (x.hand (bs z.2)), s.m.eraseIdx j, s.ws⟩ := by
  obtain ⟨a, b, c⟩ := h.ml z (List.mem_of_getElem? hz)
  have hl := h.len
  obtain ⟨x, hx⟩ : ∃ x, s.xs[z.1.toNat]? = some x := ⟨s.xs[z.1.toNat]'(by omega), List.getElem?_eq_getElem (by omega)⟩
  obtain ⟨h1, h2⟩ := h.nd x (List.mem_of_getElem? hx)
  exact ⟨z.1.toNat, x, by omega, hx, c, h.lnode _ ⟨hand_ok h1 _, h2.hand (fun _ _ _ _ _ _ _ _ => trivial)⟩ (fun y hy => List.mem_of_mem_eraseIdx hy) (List.length_eraseIdx_le s.m j)⟩
theorem LInv.lfuse (h : LInv n s) (hx : s.xs[i]? = some x) {k : Int} (hk : k ≤ 9223372036854775807) : LInv n ⟨s.xs.set i ⟨x.b, x.d, x.J, x.D.light k⟩, s.m, s.ws⟩ := by
  obtain ⟨h1, h2⟩ := h.nd x (List.mem_of_getElem? hx)
  exact h.lnode (y := ⟨x.b, x.d, x.J, x.D.light k⟩) _ ⟨⟨h1.J, light_ok h1.D hk⟩, h2.light hk⟩ (fun z hz => hz) (Nat.le_refl _)
theorem LInv.lcrash (h : LInv n s) (hx : s.xs[i]? = some x) (keeps : List Int) (b : Nat) :
    (openJ (x.D.crash keeps)).1 = 0 ∧ LInv n ⟨s.xs.set i ⟨b, x.d, (openJ (x.D.crash keeps)).2.1, (openJ (x.D.crash keeps)).2.2⟩, s.m, s.ws⟩ := by
  have h0 := (h.nd x (List.mem_of_getElem? hx)).2.crash keeps
  exact ⟨h0.e, h.lnode (y := ⟨b, x.d, (openJ (x.D.crash keeps)).2.1, (openJ (x.D.crash keeps)).2.2⟩) _ ⟨⟨h0.k.ok, h0.k.disk⟩, h0.has b x.d⟩ (fun z hz => hz) (Nat.le_refl _)⟩
theorem LInv.lfresh (h : LInv n s) (k : Nat) : LInv n ⟨s.xs, s.m, s.ws.set k ⟨0, 0, false⟩⟩ :=
  ⟨h.len, by simp only [List.length_set]; exact h.w3, h.m50, h.nd, h.ml, fun v hv => (set_mem hv).elim (fun e => by rw [e]; exact ⟨by decide, by decide, by decide, by decide⟩) (h.wr v)⟩
end
theorem light_start {n : Nat} {xs : List Nd} (hN : New0 xs) (hl : xs.length = n) : LInv n ⟨xs, [], [⟨0, 0, false⟩, ⟨0, 0, false⟩, ⟨0, 0, false⟩]⟩ := by
  have hu := new0_hu hN
  refine ⟨hl, rfl, by simp, fun x hx => ?_, fun z hz => (by cases hz), fun w hw => ?_⟩
  · obtain ⟨i, hi⟩ := List.mem_iff_getElem?.1 hx
    obtain ⟨h1, h2⟩ := hu i x hi
    obtain ⟨e1, e2⟩ := hN x hx
    refine ⟨h1.ok, .inl ⟨by rw [e1], by rw [e2]; rfl, ?_, trivial⟩⟩
    rw [e1, e2]
    have hD := h1.ok.D
    rw [e2] at hD
    have hg := jFiles_get (p := 0) (e := 0) (xs := [])
    exact ⟨⟨well0.ok, Int.le_refl _, fun _ => rfl, hD, rfl, rfl, fun k _ _ _ _ => rfl, fun f hf => (by simp [jD, jFiles] at hf; cases hf), fun f hf => (by simp [jD, jFiles] at hf; cases hf)⟩, rfl⟩
  · obtain rfl : w = ⟨0, 0, false⟩ := by simpa using hw
    exact ⟨by decide, by decide, by decide, by decide⟩
def tkM (m : List Msg) (i : Nat) : Msg := (m[i]?).getD (0, ⟨#[]⟩)
def tkB (m : List Msg) (i : Nat) : Bool := (m[i]?).isSome
attribute [local irreducible] WL CS QS WQ WH WS Fn Op1 row Sat
attribute [local irreducible] slc jA diskA mailA nodesA nodesX rjA refA rnodesA rnodesX rmailA entsA
theorem q_TakeO (b : Nat) (m : List Msg) (i : Nat) (hm : m.length ≤ 50) (hi : i < 8) (W0 : World) (F : List SL) :
    Fn Tryz.prog 22 [.pointer (some ⟨b, 0, none⟩), .int .i64 (i : Int)] W0 (mailA b m :: F) (Ret fun v G' => v = .tuple #[.agg #[.int .i64 (tkM m i).1, .string (tkM m i).2], .bool (tkB m i)] ∧ G' = mailA b (m.eraseIdx i) :: F) := by
  unfold tkM tkB
  cases hz : m[i]? with
  | none =>
    have h := List.getElem?_eq_none_iff.1 hz
    rw [List.eraseIdx_of_length_le h]
    exact mail_TakeN b m i h (by omega) W0 F
  | some z => exact mail_Take b m i z hz hm W0 F
theorem t_TakeO (b : Nat) (m : List Msg) (i : Nat) (hm : m.length ≤ 50) (hi : i < 8) (W0 : World) (F : List SL) :
    Fn Tryz.prog 45 [.pointer (some ⟨b, 0, none⟩), .int .i64 (i : Int)] W0 (rmailA b m :: F) (Ret fun v G' => v = .tuple #[.agg #[.int .i64 (tkM m i).1, .string (tkM m i).2], .bool (tkB m i)] ∧ G' = rmailA b (m.eraseIdx i) :: F) := by
  unfold tkM tkB
  cases hz : m[i]? with
  | none =>
    have h := List.getElem?_eq_none_iff.1 hz
    rw [List.eraseIdx_of_length_le h]
    exact t_TakeN b m i h (by omega) W0 F
  | some z => exact t_Take b m i z hz hm W0 F
end Go.Proofs.YtfolmcpfdcgliaaGreat.B

namespace Go.Proofs.YtfolmcpfdcgliaaGreat.B
open Go Go.Proofs Go.RowKit
theorem sat_but {w : World} {b : Nat} {o : Obj} (hb : w.heap[b]? = some o) : Sat w [blk b o, fun h => ∀ k, k < w.heap.size → k ≠ b → h k = w.heap[k]?] w :=
  ⟨Base.refl w, [(blk b o, fun k => if k = b then some o else none), ((fun h => ∀ k, k < w.heap.size → k ≠ b → h k = w.heap[k]?), fun k => if k = b then none else w.heap[k]?)], rfl, fun x hx => by
    simp only [List.mem_cons, List.not_mem_nil, or_false] at hx
    rcases hx with rfl | rfl
    · refine ⟨by simp [B.blk], fun k o' hk => ?_⟩
      simp only at hk
      split at hk
      · rename_i e; subst e; injection hk with hk; subst hk; exact hb
      · cases hk
    · refine ⟨fun k _ hne => by simp [hne], fun k o' hk => ?_⟩
      simp only at hk
      split at hk
      · cases hk
      · exact hk, by
    simp only [List.pairwise_cons, List.mem_cons, List.not_mem_nil, or_false, forall_eq, List.Pairwise.nil, and_true, false_implies, implies_true]
    intro k
    simp only
    by_cases e : k = b
    · simp [e]
    · simp [e]⟩
theorem below_but {w w' : World} {b : Nat} {o : Obj} (hb : w.heap[b]? = some o) (s : Sat w [blk b o, fun h => ∀ k, k < w.heap.size → k ≠ b → h k = w.heap[k]?] w') : Below w.heap.size w w' := by
  have h1 : w'.heap[b]? = some o := s.blk
  obtain ⟨hp, h, hle⟩ := s.drop.head
  have hblock : ∀ k, k < w.heap.size → w'.heap[k]? = w.heap[k]? := fun k hk => by
    by_cases e : k = b
    · subst e; rw [h1, hb]
    · have h2 := h k hk e
      have h3 : w.heap[k]? = some w.heap[k] := Array.getElem?_eq_getElem (by omega)
      rw [h3] at h2 ⊢
      exact hle k _ h2
  refine ⟨s.base.os, s.base.tape, s.base.output, ?_, hblock⟩
  have hlt : b < w.heap.size := (Array.getElem?_eq_some_iff.1 hb).1
  have := hblock (w.heap.size - 1) (by omega)
  have h2 : w.heap[w.heap.size - 1]? = some (w.heap[w.heap.size - 1]'(by omega)) := Array.getElem?_eq_getElem (by omega)
  rw [h2] at this
  have := (Array.getElem?_eq_some_iff.1 this).1
  omega
theorem Fn.quiet {P : Program} {K : Nat} {vs : List Value} {W0 : World} {G Gq : List SL} {v : Value} (h : ∀ w, Sat W0 Gq w → ∃ b o, w.heap[b]? = some o ∧ ∀ W F, Fn P K vs W (blk b o :: F) (Ret fun u G' => u = v ∧ G' = blk b o :: F))
    (hG : ∀ w, Sat W0 G w → Sat W0 Gq w) : Fn P K vs W0 G (Ret fun u G' => u = v ∧ G' = G) := fun w hs => by
  obtain ⟨b, o, hb, hf⟩ := h w (hG w hs)
  refine (hf w _ w (sat_but hb)).mono fun e w' ⟨G', h1, h2⟩ => ?_
  cases e with
  | returned u =>
    obtain ⟨rfl, rfl⟩ := h1
    exact ⟨G, ⟨rfl, rfl⟩, hs.below (below_but hb h2)⟩
  | panicked ch => exact h1.elim
  | outgrown => exact h1.elim
attribute [local irreducible] WL CS QS WQ WH WS Fn Op1 row Sat
end Go.Proofs.YtfolmcpfdcgliaaGreat.B

namespace Go.Proofs.YtfolmcpfdcgliaaGreat.B
open Go Go.Proofs
abbrev bothA (br b17 bm bn n cd cj cx cy : Nat) (Ad Aj Ax Ay : Option Addr) (xs : List Nd) (ys : List (Nat × Nat)) (m m2 : List Msg) (F : List SL) : List SL :=
  row br 35 (rlC Ad Aj n cd cj bm) :: row b17 62 (rlC Ax Ay n cx cy bn) :: slc bpE 76 Ad cd (xs.map (·.d)) :: slc bpE 86 Ax cx (ys.map (·.2)) ::
  slc bpE 46 Aj cj (xs.map (·.b)) :: nodesA xs :: mailA bm m :: slc bpE 88 Ay cy (ys.map (·.1)) :: rnodesA ys xs :: rmailA bn m2 :: F
theorem bop {B : Prop} (f : B := by first | (first|exact op1_pure1 TT rfl|exact op1_load TT 0 rfl rfl rfl|exact op1_load TT 1 rfl rfl rfl|exact op1_load TT 2 rfl rfl rfl|exact op1_load TT 3 rfl rfl rfl|exact op1_load TT 4 rfl rfl rfl|exact op1_load TT 5 rfl rfl rfl|exact op1_load TT 6 rfl rfl rfl|exact op1_load TT 7 rfl rfl rfl|exact op1_load TT 8 rfl rfl rfl|exact op1_add TT rfl rfl (by omega)|exact op1_sub TT rfl rfl (by omega)|exact op1_mul TT rfl rfl (by omega)|exact op1_conv TT rfl rfl rfl (by omega)|exact op1_neg TT rfl (by omega)|exact op1_cat rfl rfl (by omega)|exact op1_pure TT rfl|exact op1_build TT rfl rfl rfl rfl rfl rfl|exact op1_buildA TT rfl rfl rfl rfl rfl|exact op1_lenM TT 0 rfl rfl rfl|exact op1_lenM TT 1 rfl rfl rfl|exact op1_lenM TT 2 rfl rfl rfl|exact op1_lenM TT 3 rfl rfl rfl) | fail) : B := f
attribute [local irreducible] WL CS QS WQ WH WS Fn Op1 row Sat
attribute [local irreducible] slc jA diskA mailA nodesA nodesX rjA refA rnodesA rnodesX rmailA entsA
theorem t_DeadQ {b bd : Nat} {J : Jn} {W0 : World} {F : List SL} : ∀ G', (∀ w, Sat W0 G' w → Sat W0 (jA b bd J :: F) w) →
    Fn Tryz.prog 38 [.pointer (some ⟨b, 0, none⟩)] W0 G' (Ret fun v G'' => v = .bool J.dead ∧ G'' = G') := fun G' hG =>
  Fn.quiet (fun w hs => by
    obtain ⟨⟨A, c⟩, hx⟩ := jA_open w hs
    exact ⟨b, _, Sat.blk (b := b) (by unfold row at hx; exact hx), fun W F => by have h := q_DeadR b bd A c J W F; unfold row at h; exact h⟩) hG
theorem r_SameG (e e2 : Int) (A B : Option Addr) (k c k2 c2 : Nat) (xs ys : List Ent) (hk : k = xs.length) (hk2 : k2 = ys.length) (hkb : k ≤ 1000000) (W0 : World) (G : List SL) (hR : Rd W0 G entE A xs) (hR2 : Rd W0 G entE B ys) :
    Fn Tryz.prog 49 [logV e A k c, logV e2 B k2 c2] W0 G (Ret fun v G' => v = .bool (decide (e = e2 ∧ xs = ys)) ∧ G' = G) := by
  refine Fn.enter Tryz.func49 rfl Tryz.ntmps49 rfl ?_
  by_cases he : e = e2
  · have ht : decide (e = e2 ∧ xs = ys) = decide (xs = ys) := by simp [he]
    rw [ht]
    repeat' (first|refine bA ?_|refine bkq fun q=>?_|(refine bk2 ?_ ?_<;>(first|exact bkn|(refine bkk ?_;intro h))))
    refine WL.call c93 rfl rfl rfl rfl (r_Entries A B k c k2 c2 xs ys hk hk2 hkb W0 _ hR.cons.cons hR2.cons.cons) ?_
    rintro _ G2 ⟨rfl, hG2⟩
    rw [hG2]; clear hG2 G2
    repeat' (first|refine bA ?_|refine bkq fun q=>?_|(refine bk2 ?_ ?_<;>(first|exact bkn|(refine bkk ?_;intro h))))
    exact QS.turn (G' := G) (fun w hs => hs.drop.drop) (QS.retV Tryz.results49 rfl ⟨rfl, rfl⟩)
  · have ht : decide (e = e2 ∧ xs = ys) = false := by simp [he]
    rw [ht]
    repeat' (first|refine bA ?_|refine bkq fun q=>?_|(refine bk2 ?_ ?_<;>(first|exact bkn|(refine bkk ?_;intro h))))
    exact QS.turn (G' := G) (fun w hs => hs.drop.drop) (QS.retV Tryz.results49 rfl ⟨rfl, rfl⟩)
set_option maxHeartbeats 16000000 in
theorem law_state (br b17 bm bn n : Nat) (Ad Aj Ax Ay : Option Addr) (cd cj cx cy : Nat) (xs : List Nd) (ys : List (Nat × Nat)) (m : List Msg) (hl : xs.length = n) (hly : ys.length = n) (hn : n ≤ 5) (hok : ∀ x ∈ xs, NdOk x) (W0 : World) (F : List SL) :
    Fn Tryz.prog 20 [.pointer (some ⟨br, 0, none⟩), .pointer (some ⟨b17, 0, none⟩)] W0 (bothA br b17 bm bn n cd cj cx cy Ad Aj Ax Ay xs ys m m F) (Ret fun v G' => v = .bool true ∧ G' = bothA br b17 bm bn n cd cj cx cy Ad Aj Ax Ay xs ys m m F) := by
  refine Fn.ex (A := fun u : {zs : List (Option Addr × Nat) // zs.length = xs.length} × Option Addr × Nat × Option Addr × Nat => row br 35 (rlC Ad Aj n cd cj bm) :: row b17 62 (rlC Ax Ay n cx cy bn) :: slc bpE 46 Aj cj (xs.map (·.b)) :: slc bpE 88 Ay cy (ys.map (·.1)) :: nodesA xs :: bagA (rnodesO ys xs u.1.1) :: row bn 84 [.slice u.2.1 m.length u.2.2.1, .slice u.2.2.2.1 m.length u.2.2.2.2] :: slc rmsgE 72 u.2.1 u.2.2.1 m :: slc intE 3 u.2.2.2.1 u.2.2.2.2 (List.replicate m.length 0) :: slc bpE 76 Ad cd (xs.map (·.d)) :: slc bpE 86 Ax cx (ys.map (·.2)) :: mailA bm m :: F) (fun w hs => by
    obtain ⟨zs, h1, h2⟩ := rnodes_all ys xs _ w (by omega) (hs.front (i := 8) rfl)
    obtain ⟨⟨A1, c1, A2, c2⟩, h3⟩ := rmailA_open w (h2.ord 10 [9, 0, 1, 2, 3, 4, 5, 6, 7, 8] rfl)
    exact ⟨⟨⟨zs, h1⟩, A1, c1, A2, c2⟩, h3.ord 12 [4, 5, 8, 11, 9, 3, 0, 1, 2, 6, 7, 10] rfl⟩) ?_
  rintro ⟨⟨zs, hzl⟩, A1, c1, A2, c2⟩
  simp only
  obtain ⟨U, hU⟩ : ∃ U : List SL, U = row bn 84 [.slice A1 m.length c1, .slice A2 m.length c2] :: slc rmsgE 72 A1 c1 m :: slc intE 3 A2 c2 (List.replicate m.length 0) :: slc bpE 76 Ad cd (xs.map (·.d)) :: slc bpE 86 Ax cx (ys.map (·.2)) :: mailA bm m :: F := ⟨_, rfl⟩
  rw [← hU]
  refine Fn.enter Tryz.func20 rfl Tryz.ntmps20 rfl ?_
  repeat' (first|refine bN ?_|refine bkq fun q=>?_|(refine bk2 ?_ ?_<;>(first|exact bkn|(refine bkk ?_;intro h))))
  refine CS.loop (X := Nat) (fun i => [(0, .pointer (some ⟨br, 0, none⟩)), (1, .pointer (some ⟨b17, 0, none⟩)), (5, .int .i64 (i : Int))])
    (fun _ => row br 35 (rlC Ad Aj n cd cj bm) :: row b17 62 (rlC Ax Ay n cx cy bn) :: slc bpE 46 Aj cj (xs.map (·.b)) :: slc bpE 88 Ay cy (ys.map (·.1)) :: nodesA xs :: bagA (rnodesO ys xs zs) :: U)
    (fun i => i ≤ n) (fun i => n - i) 0 ⟨rfl, rfl, rfl, trivial⟩ (fun w hs => hs) (Nat.zero_le _) ?_
  intro i hi
  by_cases hix : i < n
  · obtain ⟨x, hx⟩ : ∃ x, xs[i]? = some x := ⟨xs[i]'(by omega), List.getElem?_eq_getElem (by omega)⟩
    obtain ⟨y, hy⟩ : ∃ y, ys[i]? = some y := ⟨ys[i]'(by omega), List.getElem?_eq_getElem (by omega)⟩
    obtain ⟨z, hz⟩ : ∃ z, zs[i]? = some z := ⟨zs[i]'(by omega), List.getElem?_eq_getElem (by omega)⟩
    have hxb : (xs.map (·.b))[(i : Int).toNat]? = some x.b := by rw [Int.toNat_natCast, List.getElem?_map, hx]; rfl
    have hyb : (ys.map (·.1))[(i : Int).toNat]? = some y.1 := by rw [Int.toNat_natCast, List.getElem?_map, hy]; rfl
    have hxl := (hok x (List.mem_of_getElem? hx)).J.len
    have h3 := nodesO_at hy hx hz
    obtain ⟨T, hT⟩ : ∃ T : List SL, T = refA y.2 (toR x.D) :: bagA ((rnodesO ys xs zs).eraseIdx i) :: diskA x.d x.D :: nodesX xs i :: U := ⟨_, rfl⟩
    have hC : rjC y.2 z.1 z.2 x.J = [.pointer (some ⟨y.2, 0, none⟩), .int .i64 x.J.p, .int .i64 x.J.e, .slice z.1 x.J.xs.length z.2, .bool x.J.dead] := rfl
    have hshut : ∀ w, Sat W0 (row br 35 (rlC Ad Aj n cd cj bm) :: row b17 62 (rlC Ax Ay n cx cy bn) :: slc bpE 46 Aj cj (xs.map (·.b)) :: slc bpE 88 Ay cy (ys.map (·.1)) :: jA x.b x.d x.J :: row y.1 112 (rjC y.2 z.1 z.2 x.J) :: slc entE 49 z.1 z.2 x.J.xs :: T) w → Sat W0 (row br 35 (rlC Ad Aj n cd cj bm) :: row b17 62 (rlC Ax Ay n cx cy bn) :: slc bpE 46 Aj cj (xs.map (·.b)) :: slc bpE 88 Ay cy (ys.map (·.1)) :: nodesA xs :: bagA (rnodesO ys xs zs) :: U) w := fun w hs => by
      rw [hT] at hs
      have s0 := hs.ord 11 [5, 6, 7, 8, 4, 9, 10, 0, 1, 2, 3] rfl
      have s1 := (s0.join (P := row y.1 112 (rjC y.2 z.1 z.2 x.J))).join (P := rjO y.1 y.2 x.J z)
      have s2 := bag_set (P := rndO y x z) (List.getElem?_eq_some_iff.1 h3).1 s1
      rw [set_same h3] at s2
      have h2 := nodes_shut hx w (s2.ord 8 [1, 2, 3, 0, 4, 5, 6, 7] rfl)
      rw [set_self hx] at h2
      exact h2.ord 6 [2, 3, 4, 5, 0, 1] rfl
    refine CS.turn (G' := row br 35 (rlC Ad Aj n cd cj bm) :: row b17 62 (rlC Ax Ay n cx cy bn) :: slc bpE 46 Aj cj (xs.map (·.b)) :: slc bpE 88 Ay cy (ys.map (·.1)) :: jA x.b x.d x.J :: row y.1 112 (rjC y.2 z.1 z.2 x.J) :: slc entE 49 z.1 z.2 x.J.xs :: T) (fun w hs => by
      have h1 := nodes_open hx w (hs.ord 6 [4, 0, 1, 2, 3, 5] rfl)
      have h2 := (bag_at h3 (h1.ord 8 [7, 0, 1, 2, 3, 4, 5, 6] rfl)).split
      have h4 : Sat W0 (row y.1 112 (rjC y.2 z.1 z.2 x.J) :: slc entE 49 z.1 z.2 x.J.xs :: refA y.2 (toR x.D) :: bagA ((rnodesO ys xs zs).eraseIdx i) :: _) w := h2.split
      rw [hT]
      exact h4.ord 11 [7, 8, 9, 10, 4, 0, 1, 2, 3, 5, 6] rfl) ?_
    clear hT
    have hlog := fun F => j_Log x.b x.d x.J (by omega) W0 F
    rw [hC] at hshut ⊢
    cases hd : x.J.dead
    all_goals
      rw [hd] at hlog hshut
      simp only [if_true, if_false, Bool.false_eq_true] at hlog
      repeat' (first|refine bN ?_|refine bkq fun q=>?_|(refine bk2 ?_ ?_<;>(first|exact bkn|(refine bkk ?_;intro h))))
      refine CS.world fun hwd => ?_
      repeat' (first|refine bA ?_|refine bkq fun q=>?_|(refine bk2 ?_ ?_<;>(first|exact bkn|(refine bkk ?_;intro h))))
      refine WQ.idx TT (E := bpE) (Rd.slc (i := 2) rfl) rfl rfl (by rw [List.length_map, hl]) (by omega) (x := x.b) hxb rfl rfl rfl rfl hwd (fun b4 o4 hA4 => ?_)
      refine WQ.s (op1_at TT hA4 rfl rfl rfl rfl) rfl ?_
      repeat' (first|refine bA ?_|refine bkq fun q=>?_|(refine bk2 ?_ ?_<;>(first|exact bkn|(refine bkk ?_;intro h))))
      refine WQ.call c38 rfl rfl rfl rfl (t_DeadQ (bd := x.d) (J := x.J) _ (fun w hs => hs.front (i := 4) rfl)) ?_
      rw [hd]
      repeat' (first|refine bA ?_|refine bkq fun q=>?_|(refine bk2 ?_ ?_<;>(first|exact bkn|(refine bkk ?_;intro h))))
      refine WQ.idx TT (E := bpE) (Rd.slc (i := 3) rfl) rfl rfl (by rw [List.length_map, hly]) (by omega) (x := y.1) hyb rfl rfl rfl rfl hwd (fun b5 o5 hA5 => ?_)
      refine WQ.s (op1_at TT hA5 rfl rfl rfl rfl) rfl ?_
      repeat' (first|refine bN ?_|refine bkq fun q=>?_|(refine bk2 ?_ ?_<;>(first|exact bkn|(refine bkk ?_;intro h))))
      refine CS.world fun hwd => ?_
      refine CS.drawA _ (fun w hs => hs) mixed (by kernel_rfl) rfl ?_
      repeat' (first|refine bka ?_|(refine bk2a ?_ ?_<;>(first|exact bkn|(refine bkk ?_;intro h))))
      refine WA.idx TT (E := bpE) hwd (Rd.slc (i := 2) rfl) rfl rfl (by kernel_rfl) rfl rfl rfl (by rw [List.length_map, hl]) (by omega) (x := x.b) hxb rfl rfl rfl rfl (fun b4 o4 hA4 => ?_)
      refine WA.s rfl rfl (by kernel_rfl) rfl (op1_at TT hA4 rfl rfl rfl rfl) rfl ?_
      (apply WA.at 8 (by kernel_rfl) rfl (by kernel_rfl) rfl;exact bop;exact rfl)
      (apply WA.at 9 (by kernel_rfl) rfl (by kernel_rfl) rfl;exact bop;exact rfl)
      (apply WA.at 10 (by kernel_rfl) rfl (by kernel_rfl) rfl;exact bop;exact rfl)
      (apply WA.at 11 (by kernel_rfl) rfl (by kernel_rfl) rfl;exact bop;exact rfl)
      (apply WA.at 12 (by kernel_rfl) rfl (by kernel_rfl) rfl;exact bop;exact rfl)
      refine WA.idxAt 13 TT (E := bpE) hwd (Rd.slc (i := 3) rfl) (by kernel_rfl) rfl (by kernel_rfl) rfl rfl rfl (by rw [List.length_map, hly]) (by omega) (x := y.1) hyb rfl rfl rfl rfl (fun b5 o5 hA5 => ?_)
      refine WA.at 14 (by kernel_rfl) rfl (by kernel_rfl) rfl (op1_at TT hA5 rfl rfl rfl rfl) rfl ?_
      (apply WA.at 15 (by kernel_rfl) rfl (by kernel_rfl) rfl;exact bop;exact rfl)
      (apply WA.at 16 (by kernel_rfl) rfl (by kernel_rfl) rfl;exact bop;exact rfl)
      (apply WA.at 17 (by kernel_rfl) rfl (by kernel_rfl) rfl;exact bop;exact rfl)
      refine WA.e1 7 (by kernel_rfl) (by kernel_rfl) rfl rfl (EffC.call c16 rfl rfl rfl ((hlog _).pre (fun w hs => hs.front (i := 4) rfl))) rfl ?_
      rintro _ _ ⟨A3, c3, rfl, rfl⟩
      refine ⟨fun w hs => hs.ord 8 [2, 3, 4, 5, 1, 6, 7] rfl, ?_⟩
      refine WA.e1 18 (by kernel_rfl) (by kernel_rfl) rfl rfl (EffC.call c49 rfl rfl rfl (r_SameG _ _ A3 z.1 _ c3 _ z.2 _ _ rfl rfl (by first | omega | simp) W0 _ (Rd.slc (i := 0) rfl) (Rd.slc (i := 7) rfl))) rfl ?_
      rintro _ G2 ⟨rfl, hG2⟩
      rw [hG2]; clear hG2 G2
      try rw [show decide (x.J.e = x.J.e ∧ x.J.xs = x.J.xs) = true from decide_eq_true ⟨rfl, rfl⟩]
      refine ⟨fun w hs => hs.ord 8 [2, 3, 4, 5, 1, 6, 7] rfl, ?_⟩
      repeat' (first|refine bka ?_|(refine bk2a ?_ ?_<;>(first|exact bkn|(refine bkk ?_;intro h))))
      refine WA.fin (by kernel_rfl) ?_
      repeat' (first|refine bN ?_|refine bkq fun q=>?_|(refine bk2 ?_ ?_<;>(first|exact bkn|(refine bkk ?_;intro h))))
      refine WL.idx TT (E := bpE) (Rd.slc (i := 5) rfl) rfl rfl (by rw [List.length_map, hly]) (by omega) (x := y.1) hyb rfl rfl rfl rfl (fun b5 o5 hA5 => ?_)
      refine WL.s (op1_at TT hA5 rfl rfl rfl rfl) rfl ?_
      repeat' (first|refine bN ?_|refine bkq fun q=>?_|(refine bk2 ?_ ?_<;>(first|exact bkn|(refine bkk ?_;intro h))))
      exact QS.again (i + 1) hix (by show n - (i + 1) < n - i; omega) ⟨rfl, rfl, rfl, trivial⟩ (fun w hs => hshut w (hs.ord 8 [2, 3, 4, 5, 1, 6, 7] rfl))
  · obtain rfl : i = n := by omega
    rw [hU]
    repeat' (first|refine bN ?_|refine bkq fun q=>?_|(refine bk2 ?_ ?_<;>(first|exact bkn|(refine bkk ?_;intro h))))
    refine CS.drawA _ (fun w hs => hs) mixed (by kernel_rfl) rfl ?_
    repeat' (first|refine bka ?_|(refine bk2a ?_ ?_<;>(first|exact bkn|(refine bkk ?_;intro h))))
    (apply WA.at 5 (by kernel_rfl) rfl (by kernel_rfl) rfl;exact bop;exact rfl)
    (apply WA.at 6 (by kernel_rfl) rfl (by kernel_rfl) rfl;exact bop;exact rfl)
    (apply WA.at 7 (by kernel_rfl) rfl (by kernel_rfl) rfl;exact bop;exact rfl)
    (apply WA.at 8 (by kernel_rfl) rfl (by kernel_rfl) rfl;exact bop;exact rfl)
    (apply WA.at 9 (by kernel_rfl) rfl (by kernel_rfl) rfl;exact bop;exact rfl)
    (apply WA.at 10 (by kernel_rfl) rfl (by kernel_rfl) rfl;exact bop;exact rfl)
    (apply WA.at 11 (by kernel_rfl) rfl (by kernel_rfl) rfl;exact bop;exact rfl)
    (apply WA.at 12 (by kernel_rfl) rfl (by kernel_rfl) rfl;exact bop;exact rfl)
    refine WA.e1 4 (by kernel_rfl) (by kernel_rfl) rfl rfl (EffC.call c50 rfl rfl rfl ((mail_LenA bm m W0 _).pre (fun w hs => hs.front (i := 11) rfl))) rfl ?_
    rintro _ _ ⟨rfl, rfl⟩
    refine ⟨fun w hs => hs.ord 12 [1, 2, 3, 4, 5, 6, 7, 8, 9, 10, 11, 0] rfl, ?_⟩
    repeat' (first|refine bka ?_|(refine bk2a ?_ ?_<;>(first|exact bkn|(refine bkk ?_;intro h))))
    refine WA.fin (by kernel_rfl) ?_
    repeat' (first|refine bN ?_|refine bkq fun q=>?_|(refine bk2 ?_ ?_<;>(first|exact bkn|(refine bkk ?_;intro h))))
    refine QS.turn (G' := bothA br b17 bm bn i cd cj cx cy Ad Aj Ax Ay xs ys m m F) (fun w hs => ?_) (QS.retV Tryz.results20 rfl ⟨by simp; rfl, rfl⟩)
    have h1 := rnodes_back ys xs zs _ w (by omega) hzl (hs.ord 12 [6, 7, 8, 9, 0, 1, 2, 3, 4, 5, 10, 11] rfl)
    have h2 := rmailA_shut (A := A1) (c := c1) (A2 := A2) (c2 := c2) w (h1.ord 12 [1, 2, 3, 0, 4, 5, 6, 7, 8, 9, 10, 11] rfl)
    exact h2.ord 10 [3, 4, 8, 9, 5, 7, 2, 6, 1, 0] rfl
end Go.Proofs.YtfolmcpfdcgliaaGreat.B
