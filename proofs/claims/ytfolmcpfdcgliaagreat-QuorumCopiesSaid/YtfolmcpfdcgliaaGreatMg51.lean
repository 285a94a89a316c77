import Derived.Test.YtfolmcpfdcgliaaGreatMg50
import Derived.Test.YtfolmcpfdcgliaaGreatMg49
set_option linter.unusedVariables false
set_option linter.unusedSimpArgs false
set_option maxRecDepth 8000
/-! A writer begins with nodes that are not alike; the chapter's example. -/
namespace Go.Proofs.YtfolmcpfdcgliaaGreat.B
open Go Go.Proofs
theorem range_map {α β : Type} {f : Nat → Option β} {g : α → β} : ∀ (xs : List α), (∀ (i : Nat) x, xs[i]? = some x → f i = some (g x)) → (List.range xs.length).filterMap f = xs.map g := fun xs h => by
  have key : ∀ n, n ≤ xs.length → (List.range n).filterMap f = (xs.take n).map g := fun n => by
    induction n with
    | zero => intro _; simp
    | succ n ih =>
      intro hn
      obtain ⟨x, hx⟩ : ∃ x, xs[n]? = some x := ⟨xs[n]'(by omega), List.getElem?_eq_getElem (by omega)⟩
      rw [List.range_succ, List.filterMap_append, ih (by omega), List.take_add_one, hx]
      simp [h n x hx]
  have := key xs.length (Nat.le_refl _)
  rwa [List.take_length] at this
/-- All nodes answer OK. -/
theorem all_each {xs : List Nd} {s : ByteArray} {q : Rq} (h : ∀ x ∈ xs, NW x ∧ (pureJ x.J q).1 = 0) (hq : readQ (bs s) = some q) (w : Wr) (m : List Msg) (hn : 1 ≤ xs.length) :
    ∃ m', allM w xs m s [] = ⟨xs.map (fun x => toldQ x.J q), 0, w, ndsM [] s xs xs.length, m'⟩ ∧
      ∀ (i : Nat) y, (ndsM [] s xs xs.length)[i]? = some y → ∃ x, xs[i]? = some x ∧ NW y ∧ y.J = (pureJ x.J q).2 := by
  have hl : (gotsM [] s xs m xs.length).logs = xs.map (fun x => toldQ x.J q) := by
    rw [logs_are]
    refine range_map xs fun i x hx => ?_
    obtain ⟨h1, h2⟩ := h x (List.mem_of_getElem? hx)
    have t1 := (h1.told hq).1
    rw [if_pos h2] at t1
    unfold respM
    rw [hx]
    simp [fateM, t1]
  refine ⟨(gotsM [] s xs m xs.length).m, ?_, fun i y hy => ?_⟩
  · unfold allM
    simp only
    rw [if_neg (by rw [hl, List.length_map, most_pos hn]; omega), hl]
  · have hi := (List.getElem?_eq_some_iff.1 hy).1
    rw [ndsM_len] at hi
    rw [nds_at hi] at hy
    obtain ⟨x, hx, rfl⟩ := Option.map_eq_some_iff.1 hy
    obtain ⟨h1, h2⟩ := h x (List.mem_of_getElem? hx)
    refine ⟨x, hx, h1.step _ _, ?_⟩
    have e : ndM (fateM [] i) s x = x.hand (bs s) := by simp [ndM, fateM]
    rw [e, (h1.told hq).2]
/-- A writer begins: all nodes answer. -/
theorem begin_all {xs : List Nd} {ep : Int} (h : ∀ x ∈ xs, NW x ∧ x.J.p < ep) (h2 : 1 ≤ ep) (h3 : ep ≤ 9007199254740991) (m : List Msg) (hn : 1 ≤ xs.length) {L : List Ent} (hL : bestL (xs.map fun x => (x.J.e, x.J.xs)) = L) (hlog : logOk ep L = true) :
    ∃ xs' m', beginM ⟨0, 0, false⟩ xs m ep [] = ⟨L, 0, ⟨ep, L.length, false⟩, xs', m'⟩ ∧ Hu ⟨ep, ep, L, false⟩ 0 xs' ∧ xs'.length = xs.length := by
  obtain ⟨m1, a1, a2⟩ := all_each (q := ⟨kP, ep, []⟩) (fun x hx => ⟨(h x hx).1, by rw [pure_prom (h x hx).2]⟩) (read_prom ⟨h2, h3⟩) ⟨0, 0, false⟩ m hn
  have e1 : xs.map (fun x => toldQ x.J ⟨kP, ep, []⟩) = xs.map (fun x => (x.J.e, x.J.xs)) := by
    refine List.map_congr_left fun x hx => ?_
    unfold toldQ; rw [if_pos rfl, pure_prom (h x hx).2]
  rw [e1] at a1
  have hlen := ndsM_len [] (promS ep) xs xs.length
  have hy : ∀ y ∈ ndsM [] (promS ep) xs xs.length, NW y ∧ y.J.p = ep ∧ y.J.e < ep := fun y hy => by
    obtain ⟨i, hi⟩ := List.mem_iff_getElem?.1 hy
    obtain ⟨x, hx, b1, b2⟩ := a2 i y hi
    have hxm := h x (List.mem_of_getElem? hx)
    rw [pure_prom hxm.2] at b2
    have := hxm.1.J.ep
    exact ⟨b1, by rw [b2], by rw [b2]; simp only; omega⟩
  clear a2
  generalize ndsM [] (promS ep) xs xs.length = ys at a1 hlen hy
  obtain ⟨m2, b1, b2⟩ := all_each (q := ⟨kA, ep, L⟩) (fun y hym => ⟨(hy y hym).1, by rw [pure_acc (hy y hym).2.1 (hy y hym).2.2]⟩) (read_acc h2 hlog) ⟨0, 0, false⟩ m1 (by omega)
  refine ⟨ndsM [] (accS ep L) ys ys.length, m2, ?_, fun i y hyi => ?_, by rw [ndsM_len, hlen]⟩
  · unfold beginM
    rw [if_neg (by simp), if_neg (by omega)]
    simp only [a1]
    rw [if_neg (by simp), hL]
    unfold begin2
    simp only [List.drop_nil, b1]
    rw [if_neg (by simp)]
  · obtain ⟨x, hx, c1, c2⟩ := b2 i y hyi
    obtain ⟨d1, d2, d3⟩ := hy x (List.mem_of_getElem? hx)
    rw [pure_acc d2 d3] at c2
    refine ⟨c1, fun _ => ?_⟩
    rw [c2, d1.J.alive]
abbrev qx : ByteArray := ⟨#[120]⟩
abbrev qy : ByteArray := ⟨#[121]⟩
/-- The chapter's example. -/
theorem example_q {xs : List Nd} (h : Hu ⟨0, 0, [], false⟩ 0 xs) (hl : xs.length = 3) : ∃ x1 m1 x2 m2 x3 m3 x4 m4,
    beginM ⟨0, 0, false⟩ xs [] 1 [] = ⟨[], 0, ⟨1, 0, false⟩, x1, m1⟩ ∧ x1.length = 3 ∧
    writeM ⟨1, 0, false⟩ x1 m1 qx [] = ⟨[], 0, ⟨1, 1, false⟩, x2, m2⟩ ∧ x2.length = 3 ∧
    writeM ⟨1, 1, false⟩ x2 m2 qy [1, 1] = ⟨[], 12, ⟨0, 0, true⟩, x3, m3⟩ ∧ x3.length = 3 ∧
    beginM ⟨0, 0, false⟩ x3 m3 2 [] = ⟨[⟨1, qx⟩, ⟨2, qy⟩], 0, ⟨2, 2, false⟩, x4, m4⟩ := by
  obtain ⟨x1, m1, a1, a2, a3⟩ := begin_ok h (FD.nil _) (by simpa using FD.nil xs.length) (ep := 1) (by decide) (by decide) (by decide) [] (by omega) (by omega)
  rw [hl] at a3
  obtain ⟨x2, m2, b1, b2, b3⟩ := write_ok a2 (FD.nil _) (ep := 1) rfl rfl (by decide) (s := qx) (by decide) (by decide) m1 (by omega) (by omega)
  rw [a3] at b3
  have hf : FD [1, 1] 2 x2.length := fun i hi => by
    rw [b3] at hi
    have : i = 0 ∨ i = 1 ∨ i = 2 := by omega
    rcases this with rfl | rfl | rfl <;> rfl
  have b2' : Hu ⟨1, 1, [⟨1, qx⟩], false⟩ 0 x2 := b2
  have b22 : Hu ⟨1, 1, [⟨1, qx⟩], false⟩ 2 x2 := fun i x hx => ⟨(b2' i x hx).1, fun _ => (b2' i x hx).2 (Nat.zero_le _)⟩
  have hpa : pureJ ⟨1, 1, [⟨1, qx⟩], false⟩ ⟨kW, 1, [⟨2, qy⟩]⟩ = (0, ⟨1, 1, [⟨1, qx⟩, ⟨2, qy⟩], false⟩) := pure_add (J := ⟨1, 1, [⟨1, qx⟩], false⟩) (s := qy) rfl rfl
  have hq := read_add (ep := 1) (n := 2) (s := qy) (by decide) (by decide) (by decide)
  obtain ⟨m3, c1⟩ := all_few b22 hf hq (by rw [hpa]) ⟨1, 1, false⟩ m2 (by omega) (by omega)
  have c2 := hu_next b22 hf hq
  rw [hpa] at c2
  have c3 : ∀ (i : Nat) y, (ndsM [1, 1] (addS 1 2 qy) x2 x2.length)[i]? = some y → i < 2 → y.J = ⟨1, 1, [⟨1, qx⟩], false⟩ := fun i y hy hi2 => by
    have hi := (List.getElem?_eq_some_iff.1 hy).1
    rw [ndsM_len] at hi
    rw [nds_at hi] at hy
    obtain ⟨x, hx, rfl⟩ := Option.map_eq_some_iff.1 hy
    have e : fateM [1, 1] i = 1 := by rw [hf i hi, if_pos hi2]
    rw [e]
    have : ndM 1 (addS 1 2 qy) x = x := by simp [ndM]
    rw [this]
    exact (b2' i x hx).2 (Nat.zero_le _)
  have c4 := ndsM_len [1, 1] (addS 1 2 qy) x2 x2.length
  rw [b3] at c4
  have hw : writeM ⟨1, 1, false⟩ x2 m2 qy [1, 1] = ⟨[], 12, ⟨0, 0, true⟩, ndsM [1, 1] (addS 1 2 qy) x2 x2.length, m3⟩ := by
    unfold writeM
    rw [if_neg (by simp), if_neg (by decide), if_neg (by decide)]
    have : (1 : Int) + 1 = 2 := rfl
    simp only [this, c1]
    rw [if_neg (by decide)]
  rw [b3] at hw c1 c2 c3
  generalize ndsM [1, 1] (addS 1 2 qy) x2 3 = x3 at hw c2 c3 c4
  obtain ⟨n0, n1, n2, rfl⟩ : ∃ n0 n1 n2, x3 = [n0, n1, n2] := by
    match x3, c4 with
    | [n0, n1, n2], _ => exact ⟨n0, n1, n2, rfl⟩
  have j0 := c3 0 n0 rfl (by decide)
  have j1 := c3 1 n1 rfl (by decide)
  have j2 := (c2 2 n2 rfl).2 (Nat.le_refl _)
  have hL : bestL ([n0, n1, n2].map fun x => (x.J.e, x.J.xs)) = [⟨1, qx⟩, ⟨2, qy⟩] := by
    simp only [List.map_cons, List.map_nil, j0, j1, j2]; rfl
  obtain ⟨x4, m4, d1, d2, d3⟩ := begin_all (ep := 2) (xs := [n0, n1, n2]) (fun x hx => by
    obtain ⟨i, hi⟩ := List.mem_iff_getElem?.1 hx
    refine ⟨(c2 i x hi).1, ?_⟩
    simp only [List.mem_cons, List.not_mem_nil, or_false] at hx
    rcases hx with rfl | rfl | rfl
    · rw [j0]; decide
    · rw [j1]; decide
    · rw [j2]; decide) (by decide) (by decide) m3 (Nat.le_add_left 1 2) hL (by decide)
  exact ⟨x1, m1, x2, m2, _, m3, x4, m4, a1, a3, b1, b3, hw, rfl, d1⟩
end Go.Proofs.YtfolmcpfdcgliaaGreat.B

set_option linter.unusedVariables false
set_option linter.unusedSimpArgs false
set_option maxRecDepth 8000
/-! The chapter's example. -/
namespace Go.Proofs.YtfolmcpfdcgliaaGreat.B
open Go Go.Proofs
theorem new0_hu {xs : List Nd} (h : New0 xs) : Hu J00 0 xs := fun i x hx => by
  obtain ⟨h1, h2⟩ := h x (List.mem_of_getElem? hx)
  have hD := new_ok 2000000 (by decide)
  have e : Disk.new 2000000 = jD 2000000 J00 := new_jD (by decide)
  rw [e] at hD
  refine ⟨⟨by rw [h1]; exact well0, by rw [h2, h1], ⟨by rw [h1]; exact well0.ok, by rw [h2]; exact hD⟩⟩, fun _ => h1⟩
theorem Hu.oks {J : Jn} {d : Nat} {xs : List Nd} (h : Hu J d xs) : ∀ x ∈ xs, NdOk x := fun x hx => (h.mem x hx).ok
theorem begin_ok2 {w : Wr} {xs : List Nd} (hok : ∀ x ∈ xs, NdOk x) {m : List Msg} (hm : m.length ≤ 50) (ep : Int) (fs : List Int) : (∀ x ∈ (beginM w xs m ep fs).xs, NdOk x) ∧ (beginM w xs m ep fs).xs.length = xs.length ∧ (beginM w xs m ep fs).xs.map (·.b) = xs.map (·.b) ∧ (beginM w xs m ep fs).m.length ≤ 50 ∧ (beginM w xs m ep fs).xs.map (·.d) = xs.map (·.d) := by
  unfold beginM
  split
  · exact ⟨hok, rfl, rfl, hm, rfl⟩
  · split
    · exact ⟨hok, rfl, rfl, hm, rfl⟩
    · obtain ⟨f1, f2, f3, f4, _, _, f7⟩ := all_facts (w := w) hok hm (promS ep) fs
      simp only
      split
      · exact ⟨f1, f2, f3, f4, f7.symm⟩
      · unfold begin2
        obtain ⟨g1, g2, g3, g4, _, _, g7⟩ := all_facts (w := (allM w xs m (promS ep) fs).w) f1 f4 (accS ep (bestL (allM w xs m (promS ep) fs).logs)) (fs.drop (min fs.length (allM w xs m (promS ep) fs).xs.length))
        simp only
        split
        · exact ⟨g1, g2.trans f2, g3.trans f3, g4, (f7.trans g7).symm⟩
        · exact ⟨g1, g2.trans f2, g3.trans f3, g4, (f7.trans g7).symm⟩
theorem write_ok2 {w : Wr} {xs : List Nd} (hok : ∀ x ∈ xs, NdOk x) {m : List Msg} (hm : m.length ≤ 50) (s : ByteArray) (fs : List Int) : (∀ x ∈ (writeM w xs m s fs).xs, NdOk x) ∧ (writeM w xs m s fs).xs.length = xs.length ∧ (writeM w xs m s fs).xs.map (·.b) = xs.map (·.b) ∧ (writeM w xs m s fs).m.length ≤ 50 ∧ (writeM w xs m s fs).xs.map (·.d) = xs.map (·.d) := by
  unfold writeM
  split
  · exact ⟨hok, rfl, rfl, hm, rfl⟩
  · split
    · exact ⟨hok, rfl, rfl, hm, rfl⟩
    · split
      · exact ⟨hok, rfl, rfl, hm, rfl⟩
      · obtain ⟨f1, f2, f3, f4, _, _, f7⟩ := all_facts (w := w) hok hm (addS w.e (w.n + 1) s) fs
        exact ⟨f1, f2, f3, f4, f7.symm⟩
attribute [local irreducible] WL CS QS WQ WH WS Fn Op1 row Sat
attribute [local irreducible] slc jA diskA mailA nodesA nodesX rjA refA rnodesA rnodesX rmailA
/-- Nodes that are begun, one writer of them; a call's contract, told of a state. -/
abbrev jsA (Aj : Option Addr) (cj bm : Nat) (xs : List Nd) (m : List Msg) (F : List SL) : List SL := slc bpE 46 Aj cj (xs.map (·.b)) :: nodesA xs :: mailA bm m :: F
theorem q_Begin2 {bq : Nat} {Aj : Option Addr} {cj bm n : Nat} {w : Wr} {xs : List Nd} {m : List Msg} {ep : Int} {fs : List Int} {o : Out1} (h : beginM w xs m ep fs = o) (hl : xs.length = n) (hok : ∀ x ∈ xs, NdOk x) (hn : n ≤ 5) (hm : m.length ≤ 50) (hep : I64 ep) {A : Option Addr} {k c : Nat} (hk : k = fs.length) (hkc : k ≤ c) (hkb : k ≤ 9223372036854775807) (hI : ∀ x ∈ fs, I64 x) (W0 : World) (F : List SL) (hR : Rd W0 F intE A fs) :
    Fn Tryz.prog 12 [.pointer (some ⟨bq, 0, none⟩), .int .i64 ep, .slice A k c] W0 (row bq 92 (wrC Aj n cj bm w) :: jsA Aj cj bm xs m F)
      (Ret fun v G' => ∃ Al cl, v = .tuple #[.slice Al o.l.length cl, .int .i64 o.err] ∧ G' = slc entE 49 Al cl o.l :: row bq 92 (wrC Aj n cj bm o.w) :: jsA Aj cj bm o.xs o.m F) := by
  subst h; subst hl
  have h1 := (begin_ok2 (w := w) hok hm ep fs).2.2.1
  have := q_Begin bq Aj cj bm w xs hok hn m hm ep hep A k c fs hk hkc hkb hI W0 F hR
  simp only [jsA]
  rw [h1]
  exact this
theorem q_Write2 {bq : Nat} {Aj : Option Addr} {cj bm n : Nat} {w : Wr} {xs : List Nd} {m : List Msg} {s : ByteArray} {fs : List Int} {o : Out1} (h : writeM w xs m s fs = o) (hl : xs.length = n) (hok : ∀ x ∈ xs, NdOk x) (hn : n ≤ 5) (hm : m.length ≤ 50) (hw0 : 0 ≤ w.n ∧ w.n ≤ 9223372036854775807) (hwe : I64 w.e) (hs : s.size ≤ 9223372036854775807) {A : Option Addr} {k c : Nat} (hk : k = fs.length) (hI : ∀ x ∈ fs, I64 x) (W0 : World) (F : List SL) (hR : Rd W0 F intE A fs) :
    Fn Tryz.prog 13 [.pointer (some ⟨bq, 0, none⟩), .string s, .slice A k c] W0 (row bq 92 (wrC Aj n cj bm w) :: jsA Aj cj bm xs m F)
      (Ret fun v G' => v = .int .i64 o.err ∧ G' = row bq 92 (wrC Aj n cj bm o.w) :: jsA Aj cj bm o.xs o.m F) := by
  subst h; subst hl
  have h1 := (write_ok2 (w := w) hok hm s fs).2.2.1
  have := q_Write bq Aj cj bm w hw0 hwe xs hok hn m hm s hs A k c fs hk hI W0 F hR
  simp only [jsA]
  rw [h1]
  exact this
set_option maxHeartbeats 8000000 in
theorem law_examples (W0 : World) (F : List SL) : Fn Tryz.prog 8 [] W0 F (Ret fun v G' => v = .bool true ∧ G' = F) := by
  refine Fn.enter Tryz.func8 rfl Tryz.ntmps8 rfl ?_
  repeat' (first|refine bk ?_|refine bkc ?_|refine bks ?_|refine bkd ?_|refine bkq (fun q => ?_)|(refine bk2 ?_ ?_<;>(first|exact bkn|(refine bkk ?_;intro h))))
  refine WL.call c10 rfl rfl rfl rfl (law_begun 3 (by decide) W0 _) ?_
  rintro _ _ ⟨br, bm, bs, bn, ⟨xs, ys, Ad, cd, Aj, cj, Ax, cx, Ay, cy⟩, hN, hl, hly, rfl, rfl⟩
  simp only at hN hl hly ⊢
  refine WL.turn (G' := row br 35 (rlC Ad Aj 3 cd cj bm) :: jsA Aj cj bm xs [] F) (fun w hs => by rw [← hl]; exact hs.ord 10 [0, 2, 3, 4] rfl) ?_
  refine WL.fact (p := 3 ≤ cj) (fun w hs => by have := slc_cap (i := 1) rfl w hs; rw [List.length_map] at this; omega) (fun hcj => ?_)
  obtain ⟨x1, m1, x2, m2, x3, m3, x4, m4, p1, l1, p2, l2, p3, l3, p4⟩ := example_q (new0_hu hN) hl
  have k0 := (new0_hu hN).oks
  have k1 := begin_ok2 (w := ⟨0, 0, false⟩) k0 (m := []) (by decide) 1 []
  rw [p1] at k1
  have k2 := write_ok2 (w := ⟨1, 0, false⟩) k1.1 k1.2.2.2.1 qx []
  rw [p2] at k2
  have k3 := write_ok2 (w := ⟨1, 1, false⟩) k2.1 k2.2.2.2.1 qy [1, 1]
  rw [p3] at k3
  repeat' (first|refine bk ?_|refine bkc ?_|refine bks ?_|refine bkq (fun q => ?_)|(refine bk2 ?_ ?_<;>(first|exact bkn|(refine bkk ?_;intro h))))
  refine CS.drawT 8 mixed (by kernel_rfl) rfl ?_
  repeat' (first|refine bk ?_|refine bkc ?_|refine bks ?_|refine bkd ?_|refine bkh ?_|refine bkq (fun q => ?_)|((first|refine bk2 ?_ ?_|refine bk2h ?_ ?_)<;>(first|exact bkn|(refine bkk ?_;intro h))))
  refine WL.call c11 rfl rfl rfl rfl (q_New Aj 3 cj bm (by decide) hcj W0 _) ?_
  rintro _ _ ⟨bq, rfl, rfl⟩
  repeat' (first|refine bk ?_|refine bkc ?_|refine bks ?_|refine bkq (fun q => ?_)|(refine bk2 ?_ ?_<;>(first|exact bkn|(refine bkk ?_;intro h))))
  refine CS.drawT 8 mixed (by kernel_rfl) rfl ?_
  repeat' (first|refine bk ?_|refine bkc ?_|refine bks ?_|refine bkd ?_|refine bkh ?_|refine bkq (fun q => ?_)|((first|refine bk2 ?_ ?_|refine bk2h ?_ ?_)<;>(first|exact bkn|(refine bkk ?_;intro h))))
  refine WL.call c11 rfl rfl rfl rfl (q_New Aj 3 cj bm (by decide) hcj W0 _) ?_
  rintro _ _ ⟨bp, rfl, rfl⟩
  repeat' (first|refine bk ?_|refine bkc ?_|refine bks ?_|refine bkd ?_|refine bkq (fun q => ?_)|(refine bk2 ?_ ?_<;>(first|exact bkn|(refine bkk ?_;intro h))))
  refine WL.call c12 rfl rfl rfl rfl ((q_Begin2 (bq := bq) (Aj := Aj) (cj := cj) (bm := bm) (n := 3) p1 hl k0 (by decide) (by decide) (by unfold I64; decide) (A := none) (k := 0) (c := 0) rfl (by decide) (by decide) (fun x hx => by cases hx) W0 (row bp 92 (wrC Aj 3 cj bm ⟨0, 0, false⟩) :: F) Rd.nil).pre (fun w hs => hs.ord 6 [1, 3, 4, 5, 0] rfl)) ?_
  rintro _ _ ⟨Al, cl, rfl, rfl⟩
  repeat' (first|refine bk ?_|refine bkc ?_|refine bks ?_|refine bkd ?_|refine bkq (fun q => ?_)|(refine bk2 ?_ ?_<;>(first|exact bkn|(refine bkk ?_;intro h))))
  refine WL.call c13 rfl rfl rfl rfl ((q_Write2 (bq := bq) (Aj := Aj) (cj := cj) (bm := bm) (n := 3) p2 l1 k1.1 (by decide) k1.2.2.2.1 (by decide) (by unfold I64; decide) (by decide) (A := none) (k := 0) (c := 0) rfl (fun x hx => by cases hx) W0 (row bp 92 (wrC Aj 3 cj bm ⟨0, 0, false⟩) :: F) Rd.nil).pre (fun w hs => hs.drop)) ?_
  rintro _ _ ⟨rfl, rfl⟩
  repeat' (first|refine bk ?_|refine bkc ?_|refine bks ?_|refine bkd ?_|refine bkq (fun q => ?_)|(refine bk2 ?_ ?_<;>(first|exact bkn|(refine bkk ?_;intro h))))
  refine WL.buildSlice TT rfl rfl rfl rfl rfl rfl rfl rfl (fun q2 => ?_)
  refine WL.call c13 rfl rfl rfl rfl ((q_Write2 (bq := bq) (Aj := Aj) (cj := cj) (bm := bm) (n := 3) p3 l2 k2.1 (by decide) k2.2.2.2.1 (by decide) (by unfold I64; decide) (by decide) (A := some ⟨q2, 0, none⟩) (k := 2) (c := 2) rfl (fun x hx => by simp only [List.mem_cons, List.not_mem_nil, or_false] at hx; unfold I64; omega) W0 (row q2 3 [.int .i64 1, .int .i64 1] :: row bp 92 (wrC Aj 3 cj bm ⟨0, 0, false⟩) :: F) (Rd.row (i := 0) rfl rfl)).pre (fun w hs => hs.ord 6 [1, 2, 3, 4, 0, 5] rfl)) ?_
  rintro _ _ ⟨rfl, rfl⟩
  repeat' (first|refine bk ?_|refine bkc ?_|refine bks ?_|refine bkd ?_|refine bkq (fun q => ?_)|(refine bk2 ?_ ?_<;>(first|exact bkn|(refine bkk ?_;intro h))))
  refine WL.call c12 rfl rfl rfl rfl ((q_Begin2 (bq := bp) (Aj := Aj) (cj := cj) (bm := bm) (n := 3) p4 l3 k3.1 (by decide) k3.2.2.2.1 (by unfold I64; decide) (A := none) (k := 0) (c := 0) rfl (by decide) (by decide) (fun x hx => by cases hx) W0 (row bq 92 (wrC Aj 3 cj bm ⟨0, 0, true⟩) :: F) Rd.nil).pre (fun w hs => hs.ord 6 [5, 1, 2, 3, 0] rfl)) ?_
  rintro _ _ ⟨Al2, cl2, rfl, rfl⟩
  repeat' (first|refine bk ?_|refine bkc ?_|refine bks ?_|refine bkd ?_|refine bkq (fun q => ?_)|(refine bk2 ?_ ?_<;>(first|exact bkn|(refine bkk ?_;intro h))))
  refine WL.idx TT (E := entE) (xs := [⟨1, qx⟩, ⟨2, qy⟩]) (Rd.slc (i := 0) rfl) rfl rfl rfl (by decide) (x := ⟨2, qy⟩) rfl rfl rfl rfl rfl (fun b3 o3 hA3 => ?_)
  repeat' (first|refine bk ?_|refine bkc ?_|refine bks ?_|refine bkd ?_|refine bkq (fun q => ?_)|(refine bk2 ?_ ?_<;>(first|exact bkn|(refine bkk ?_;intro h))))
  refine WL.s (op1_atF TT 1 hA3 rfl rfl rfl rfl rfl) rfl ?_
  repeat' (first|refine bk ?_|refine bkc ?_|refine bks ?_|refine bkd ?_|refine bkq (fun q => ?_)|(refine bk2 ?_ ?_<;>(first|exact bkn|(refine bkk ?_;intro h))))
  refine WL.call c15 rfl rfl rfl rfl ((q_Epoch bq Aj 3 cj bm ⟨0, 0, true⟩ W0 _).pre (fun w hs => hs.ord 6 [5, 0, 1, 2, 3, 4] rfl)) ?_
  rintro _ _ ⟨rfl, rfl⟩
  repeat' (first|refine bk ?_|refine bkc ?_|refine bks ?_|refine bkd ?_|refine bkq (fun q => ?_)|(refine bk2 ?_ ?_<;>(first|exact bkn|(refine bkk ?_;intro h))))
  refine WL.call c14 rfl rfl rfl rfl ((q_Many bp Aj 3 cj bm ⟨2, 2, false⟩ W0 _).pre (fun w hs => hs.ord 6 [2, 0, 1, 3, 4, 5] rfl)) ?_
  rintro _ _ ⟨rfl, rfl⟩
  repeat' (first|refine bk ?_|refine bkc ?_|refine bks ?_|refine bkd ?_|refine bkq (fun q => ?_)|(refine bk2 ?_ ?_<;>(first|exact bkn|(refine bkk ?_;intro h))))
  exact QS.turn (G' := F) (fun w hs => hs.ord 6 [] rfl) (QS.retV Tryz.results8 rfl ⟨rfl, rfl⟩)
end Go.Proofs.YtfolmcpfdcgliaaGreat.B
