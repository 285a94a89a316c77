import Derived.Test.YtfolmcpfdcgliaaGreatMg32
import Derived.Test.YtfolmcpfdcgliaaGreatMg38
import Derived.Test.YtfolmcpfdcgliaaGreatMg48
set_option linter.unusedVariables false
set_option linter.unusedSimpArgs false
set_option maxRecDepth 8000
/-! The statements' own functions: numbers, lists, nodes begun. -/
namespace Go.Proofs.YtfolmcpfdcgliaaGreat.B
open Go Go.Proofs
def rmsgE : EncK Msg := ⟨fun x => [.int .i64 x.1, .string x.2], 2, fun _ => rfl, by decide, fun _ u hu => by simp only [List.mem_cons, List.not_mem_nil, or_false] at hu; rcases hu with rfl | rfl <;> rfl⟩
def rmailA (bm : Nat) (m : List Msg) : SL := fun h => ∃ x : Option Addr × Nat × Option Addr × Nat, star (row bm 84 [.slice x.1 m.length x.2.1, .slice x.2.2.1 m.length x.2.2.2]) (star (slc rmsgE 72 x.1 x.2.1 m) (slc intE 3 x.2.2.1 x.2.2.2 (List.replicate m.length 0))) h
section
variable {W0 : World} {F : List SL} {bm : Nat} {m : List Msg}
theorem rmailA_open : ∀ w, Sat W0 (rmailA bm m :: F) w → ∃ x : Option Addr × Nat × Option Addr × Nat, Sat W0 (row bm 84 [.slice x.1 m.length x.2.1, .slice x.2.2.1 m.length x.2.2.2] :: slc rmsgE 72 x.1 x.2.1 m :: slc intE 3 x.2.2.1 x.2.2.2 (List.replicate m.length 0) :: F) w := fun w hs => by
  obtain ⟨x, hx⟩ := Sat.ex hs
  refine ⟨x, ?_⟩
  exact ((hx.split.front (i := 1) rfl).split.front (i := 2) rfl)
theorem rmailA_shut {A A2 : Option Addr} {c c2 : Nat} : ∀ w, Sat W0 (row bm 84 [.slice A m.length c, .slice A2 m.length c2] :: slc rmsgE 72 A c m :: slc intE 3 A2 c2 (List.replicate m.length 0) :: F) w → Sat W0 (rmailA bm m :: F) w := fun w hs => by
  have h1 : Sat W0 (slc rmsgE 72 A c m :: slc intE 3 A2 c2 (List.replicate m.length 0) :: row bm 84 [.slice A m.length c, .slice A2 m.length c2] :: F) w := (hs.front (i := 1) rfl).front (i := 2) rfl |>.front (i := 1) rfl
  exact (h1.join.front (i := 1) rfl).join.imp fun hp h => ⟨(A, c, A2, c2), h⟩
end
/-- The document's nodes and disks beside the real ones. -/
def rndA (y : Nat × Nat) (x : Nd) : SL := star (rjA y.1 y.2 x.J) (refA y.2 (toR x.D))
def rnodesA (ys : List (Nat × Nat)) (xs : List Nd) : SL := bagA (List.zipWith rndA ys xs)
def rnodesX (ys : List (Nat × Nat)) (xs : List Nd) (i : Nat) : SL := bagA ((List.zipWith rndA ys xs).eraseIdx i)
section
variable {W0 : World} {G : List SL} {xs : List Nd} {ys : List (Nat × Nat)} {x : Nd} {y : Nat × Nat} {i : Nat}
theorem rnodes_none : ∀ w, Sat W0 G w → Sat W0 (rnodesA [] [] :: G) w := fun w s => bag_none s
theorem rnodes_snoc (hl : ys.length = xs.length) : ∀ w, Sat W0 (rjA y.1 y.2 x.J :: refA y.2 (toR x.D) :: rnodesA ys xs :: G) w → Sat W0 (rnodesA (ys ++ [y]) (xs ++ [x]) :: G) w := fun w s => by
  have := bag_snoc (P := rndA y x) s.join
  rw [rnodesA, List.zipWith_append hl]
  exact this
theorem rnodes_open (hx : xs[i]? = some x) (hy : ys[i]? = some y) : ∀ w, Sat W0 (rnodesA ys xs :: G) w → Sat W0 (rjA y.1 y.2 x.J :: refA y.2 (toR x.D) :: rnodesX ys xs i :: G) w := fun w s =>
  (bag_at (P := rndA y x) (by rw [List.getElem?_zipWith, hx, hy]) s).split
theorem rnodes_shut (hx : xs[i]? = some x) (hy : ys[i]? = some y) {x' : Nd} {y' : Nat × Nat} : ∀ w, Sat W0 (rjA y'.1 y'.2 x'.J :: refA y'.2 (toR x'.D) :: rnodesX ys xs i :: G) w → Sat W0 (rnodesA (ys.set i y') (xs.set i x') :: G) w := fun w s => by
  have h1 : i < (List.zipWith rndA ys xs).length := by
    have := (List.getElem?_eq_some_iff.1 hx).1; have := (List.getElem?_eq_some_iff.1 hy).1
    rw [List.length_zipWith]; omega
  have h2 := bag_set (P := rndA y' x') h1 s.join
  have e : List.zipWith rndA (ys.set i y') (xs.set i x') = (List.zipWith rndA ys xs).set i (rndA y' x') := by
    refine List.ext_getElem? fun j => ?_
    rw [List.getElem?_zipWith, List.getElem?_set, List.getElem?_set, List.getElem?_set, List.getElem?_zipWith]
    have h3 := (List.getElem?_eq_some_iff.1 hx).1
    have h4 := (List.getElem?_eq_some_iff.1 hy).1
    by_cases hj : i = j
    · subst hj
      simp [h3, h4]; omega
    · simp [hj]
  rw [rnodesA, e]
  exact h2
end
abbrev rlC (Ad Aj : Option Addr) (n cd cj bm : Nat) : List Value := [.slice Ad n cd, .slice Aj n cj, .pointer (some ⟨bm, 0, none⟩)]
attribute [local irreducible] WL CS QS WQ WH WS Fn Op1 row Sat
attribute [local irreducible] slc jA diskA mailA nodesA nodesX rjA refA rnodesA rnodesX rmailA
theorem law_pick (n m : Int) (hn : I64 n) (hm : 0 < m) (W0 : World) (G : List SL) :
    Fn Tryz.prog 9 [.int .i64 n, .int .i64 m] W0 G (Ret fun v G' => v = .int .i64 (pickM n m) ∧ G' = G) := by
  refine Fn.enter Tryz.func9 rfl Tryz.ntmps9 rfl ?_
  unfold I64 at hn
  have hm0 : decide (m = 0) = false := decide_eq_false (by omega)
  repeat' (first|refine bk ?_|refine bkc ?_|refine bks ?_|refine bkd ?_|refine bkq (fun q => ?_)|(refine bk2 ?_ ?_<;>(first|exact bkn|(refine bkk ?_;intro h))))
  all_goals
    refine WL.s (op1_rem TT rfl rfl (by omega)) rfl ?_
    repeat' (first|refine bk ?_|refine bkc ?_|refine bks ?_|refine bkd ?_|refine bkq (fun q => ?_)|(refine bk2 ?_ ?_<;>(first|exact bkn|(refine bkk ?_;intro h))))
    refine QS.retV Tryz.results9 rfl ⟨?_, rfl⟩
    first
      | (rw [pickM, if_pos (by assumption)]; exact congrArg (fun z => Value.int .i64 (Int.tmod z m)) (by omega))
      | (rw [pickM, if_neg (by assumption)]; rfl)
theorem ents17 (A B : Option Addr) (k c k2 c2 : Nat) (xs ys : List Ent) (hk : k = xs.length) (hk2 : k2 = ys.length) (hkb : k ≤ 9223372036854775807) (W0 : World) (G : List SL) (hR : Rd W0 G entE A xs) (hR2 : Rd W0 G entE B ys) :
    Fn Tryz.prog 42 [.slice A k c, .slice B k2 c2] W0 G (Ret fun v G' => v = .bool (decide (xs = ys)) ∧ G' = G) := by
  refine Fn.enter Tryz.func42 rfl Tryz.ntmps42 rfl ?_
  repeat' (first|refine bk ?_|refine bkc ?_|refine bks ?_|refine bkd ?_|refine bkq (fun q => ?_)|(refine bk2 ?_ ?_<;>(first|exact bkn|(refine bkk ?_;intro h))))
  · refine QS.retV Tryz.results42 rfl ⟨?_, rfl⟩
    rw [decide_eq_false (fun e => by subst e; omega)]; rfl
  have hkk : xs.length = ys.length := by omega
  refine CS.loop (X := Nat) (fun i => [(0, .slice A k c), (1, .slice B k2 c2), (5, .int .i64 (i : Int))]) (fun i => G)
    (fun i => i ≤ k ∧ xs.take i = ys.take i) (fun i => k - i) 0 ⟨rfl, rfl, rfl, trivial⟩ (fun w hs => hs) ⟨Nat.zero_le _, rfl⟩ ?_
  rintro i ⟨hi, he⟩
  refine CS.world fun hw => ?_
  repeat' (first|refine bk ?_|refine bkc ?_|refine bks ?_|refine bkd ?_|refine bkq (fun q => ?_)|(refine bk2 ?_ ?_<;>(first|exact bkn|(refine bkk ?_;intro h))))
  · obtain ⟨x, hx⟩ : ∃ x, xs[i]? = some x := ⟨xs[i]'(by omega), List.getElem?_eq_getElem (by omega)⟩
    obtain ⟨y, hy⟩ : ∃ y, ys[i]? = some y := ⟨ys[i]'(by omega), List.getElem?_eq_getElem (by omega)⟩
    refine WQ.idx TT hR rfl rfl hk (by omega) (by rw [Int.toNat_natCast]; exact hx) rfl rfl rfl rfl hw (fun b2 o hA => ?_)
    refine WQ.s (op1_at TT hA rfl rfl rfl rfl) rfl ?_
    repeat' (first|refine bk ?_|refine bkc ?_|refine bks ?_|refine bkd ?_|refine bkq (fun q => ?_)|(refine bk2 ?_ ?_<;>(first|exact bkn|(refine bkk ?_;intro h))))
    refine WQ.idx TT hR2 rfl rfl hk2 (by omega) (by rw [Int.toNat_natCast]; exact hy) rfl rfl rfl rfl hw (fun b3 o3 hA3 => ?_)
    refine WQ.s (op1_at TT hA3 rfl rfl rfl rfl) rfl ?_
    refine WQ.s (op1_neS TT cmp49 rfl rfl rfl rfl (eqEnt x y)) rfl ?_
    by_cases hxy : x = y
    · rw [decide_eq_true hxy]
      repeat' (first|refine bk ?_|refine bkc ?_|refine bks ?_|refine bkd ?_|refine bkq (fun q => ?_)|(refine bk2 ?_ ?_<;>(first|exact bkn|(refine bkk ?_;intro h))))
      refine QS.again (i + 1) ⟨by omega, ?_⟩ (by omega) ⟨rfl, rfl, ?_, trivial⟩ (fun w hs => hs)
      · rw [List.take_add_one, List.take_add_one, hx, hy, he, hxy]
      · rw [show ((i + 1 : Nat) : Int) = (i : Int) + 1 from by omega]; rfl
    · rw [decide_eq_false hxy]
      repeat' (first|refine bk ?_|refine bkc ?_|refine bks ?_|refine bkd ?_|refine bkq (fun q => ?_)|(refine bk2 ?_ ?_<;>(first|exact bkn|(refine bkk ?_;intro h))))
      refine QS.retV Tryz.results42 rfl ⟨?_, rfl⟩
      rw [decide_eq_false (fun e => hxy (by rw [e, hy] at hx; exact (Option.some.inj hx).symm))]; rfl
  · refine QS.retV Tryz.results42 rfl ⟨?_, rfl⟩
    rw [decide_eq_true (by rw [List.take_of_length_le (by omega), List.take_of_length_le (by omega)] at he; exact he)]; rfl
/-- What is laid before a statement: n nodes, each new, and none of them has anything. -/
abbrev J00 : Jn := ⟨0, 0, [], false⟩
def New0 (xs : List Nd) : Prop := ∀ x ∈ xs, x.J = J00 ∧ x.D = jD 2000000 J00
def realA (br : Nat) (Ad Aj : Option Addr) (cd cj bm : Nat) (xs : List Nd) : List SL :=
  [row br 35 (rlC Ad Aj xs.length cd cj bm), slc bpE 76 Ad cd (xs.map (·.d)), slc bpE 46 Aj cj (xs.map (·.b)), nodesA xs]
structure Bg where
  xs : List Nd
  ys : List (Nat × Nat)
  Ad : Option Addr
  cd : Nat
  Aj : Option Addr
  cj : Nat
  Ax : Option Addr
  cx : Nat
  Ay : Option Addr
  cy : Nat
abbrev bgA (br bm bs bn : Nat) (s : Bg) (F : List SL) : List SL :=
  row br 35 (rlC s.Ad s.Aj s.xs.length s.cd s.cj bm) :: slc bpE 76 s.Ad s.cd (s.xs.map (·.d)) :: slc bpE 46 s.Aj s.cj (s.xs.map (·.b)) :: nodesA s.xs :: mailA bm [] ::
  row bs 62 (rlC s.Ax s.Ay s.xs.length s.cx s.cy bn) :: slc bpE 86 s.Ax s.cx (s.ys.map (·.2)) :: slc bpE 88 s.Ay s.cy (s.ys.map (·.1)) :: rnodesA s.ys s.xs :: rmailA bn [] :: F
set_option maxHeartbeats 8000000 in
theorem law_begun (n : Nat) (hn : n ≤ 5) (W0 : World) (F : List SL) :
    Fn Tryz.prog 10 [.int .i64 (n : Int)] W0 F
      (Ret fun v G' => ∃ br bm bs bn s, New0 s.xs ∧ s.xs.length = n ∧ s.ys.length = n ∧ v = .tuple #[.pointer (some ⟨br, 0, none⟩), .pointer (some ⟨bs, 0, none⟩), .bool true] ∧ G' = bgA br bm bs bn s F) := by
  refine Fn.enter Tryz.func10 rfl Tryz.ntmps10 rfl ?_
  repeat' (first|refine bk ?_|refine bkc ?_|refine bks ?_|refine bkd ?_|refine bkq (fun q => ?_)|(refine bk2 ?_ ?_<;>(first|exact bkn|(refine bkk ?_;intro h))))
  refine WL.call c27 rfl rfl rfl rfl (mail_New W0 _) ?_
  rintro _ _ ⟨bm, rfl, rfl⟩
  repeat' (first|refine bk ?_|refine bkc ?_|refine bks ?_|refine bkd ?_|refine bkq (fun q => ?_)|(refine bk2 ?_ ?_<;>(first|exact bkn|(refine bkk ?_;intro h))))
  rename_i br bn
  revert q
  intro bs
  refine CS.loop (X := Bg) (fun s => [(0, .int .i64 (n : Int)), (5, .pointer (some ⟨br, 0, none⟩)), (6, .pointer (some ⟨bs, 0, none⟩)), (7, .int .i64 (s.xs.length : Int))])
    (fun s => bgA br bm bs bn s F) (fun s => New0 s.xs ∧ s.xs.length ≤ n ∧ s.ys.length = s.xs.length) (fun s => n - s.xs.length) ⟨[], [], none, 0, none, 0, none, 0, none, 0⟩ ⟨rfl, rfl, rfl, rfl, trivial⟩ (fun w hs => ?_) ⟨(fun x hx => by cases hx), Nat.zero_le _, rfl⟩ ?_
  · -- the start
    have h1 : Sat W0 (row bn 84 [.slice none 0 0, .slice none 0 0] :: slc rmsgE 72 none 0 [] :: slc intE 3 none 0 [] :: row bs 62 [.slice none 0 0, .slice none 0 0, .pointer (some ⟨bn, 0, none⟩)] :: row br 35 [.slice none 0 0, .slice none 0 0, .pointer (some ⟨bm, 0, none⟩)] :: mailA bm [] :: F) w :=
      ((hs.slcNil intE 3).slcNil rmsgE 72).front (i := 3) rfl
    have h2 := rnodes_none w (rmailA_shut (m := []) (A := none) (A2 := none) (c := 0) (c2 := 0) w h1)
    have h3 := (h2.slcNil bpE 88).slcNil bpE 86
    have h4 := (h3.front (i := 4) rfl).front (i := 6) rfl
    have h5 := ((nodes_none w h4).slcNil bpE 46).slcNil bpE 76
    exact h5.front (i := 9) rfl
  rintro ⟨xs, ys, Ad, cd, Aj, cj, Ax, cx, Ay, cy⟩ ⟨hN, hl, hly⟩
  simp only at hN hl hly ⊢
  have hJ0 : JnOk J00 := ⟨by decide, by decide, by decide⟩
  have hD0 := new_ok 2000000 (by decide)
  have ho : openJ (Disk.new 2000000) = (0, J00, jD 2000000 J00) := open_new 2000000 (by decide)
  by_cases hi : xs.length < n
  rotate_left 1
  · obtain rfl : xs.length = n := by omega
    repeat' (first|refine bk ?_|refine bkc ?_|refine bks ?_|refine bkd ?_|refine bkq (fun q => ?_)|(refine bk2 ?_ ?_<;>(first|exact bkn|(refine bkk ?_;intro h))))
    exact QS.retV Tryz.results10 rfl ⟨br, bm, bs, bn, _, hN, rfl, hly, rfl, rfl⟩
  · repeat' (first|refine bk ?_|refine bkc ?_|refine bks ?_|refine bkd ?_|refine bkq (fun q => ?_)|(refine bk2 ?_ ?_<;>(first|exact bkn|(refine bkk ?_;intro h))))
    refine WL.call c28 rfl rfl rfl rfl (disk_New 2000000 W0 _) ?_
    rintro _ _ ⟨d1, rfl, rfl⟩
    repeat' (first|refine bk ?_|refine bkc ?_|refine bks ?_|refine bkd ?_|refine bkq (fun q => ?_)|(refine bk2 ?_ ?_<;>(first|exact bkn|(refine bkk ?_;intro h))))
    refine WL.call c29 rfl rfl rfl rfl (rdisk_New 2000000 W0 _) ?_
    rintro _ _ ⟨x1, rfl, rfl⟩
    rw [← toR_new]
    repeat' (first|refine bk ?_|refine bkc ?_|refine bks ?_|refine bkd ?_|refine bkq (fun q => ?_)|(refine bk2 ?_ ?_<;>(first|exact bkn|(refine bkk ?_;intro h))))
    have hc := fun F => j_Open d1 (Disk.new 2000000) hD0 W0 F
    simp only [openO, ho, if_true] at hc
    try dsimp only at hc
    refine WL.call c26 rfl rfl rfl rfl ((hc _).pre (fun w hs => hs.front (i := 1) rfl)) ?_
    clear hc
    rintro _ _ ⟨b1, rfl, rfl⟩
    repeat' (first|refine bk ?_|refine bkc ?_|refine bks ?_|refine bkd ?_|refine bkq (fun q => ?_)|(refine bk2 ?_ ?_<;>(first|exact bkn|(refine bkk ?_;intro h))))
    have hc := fun F => r_Open x1 (Disk.new 2000000) hD0 W0 F
    simp only [openS, ho, if_true] at hc
    try dsimp only at hc
    refine WL.call c30 rfl rfl rfl rfl ((hc _).pre (fun w hs => hs.front (i := 2) rfl)) ?_
    clear hc
    rintro _ _ ⟨b2, rfl, rfl⟩
    repeat' (first|refine bk ?_|refine bkc ?_|refine bks ?_|refine bkd ?_|refine bkq (fun q => ?_)|(refine bk2 ?_ ?_<;>(first|exact bkn|(refine bkk ?_;intro h))))
    obtain ⟨x, hx⟩ : ∃ x : Nd, x = ⟨b1, d1, J00, jD 2000000 J00⟩ := ⟨_, rfl⟩
    obtain ⟨y, hy⟩ : ∃ y : Nat × Nat, y = (b2, x1) := ⟨_, rfl⟩
    have e1 : xs.map (·.d) ++ [d1] = (xs ++ [x]).map (·.d) := by rw [hx]; simp
    have e2 : xs.map (·.b) ++ [b1] = (xs ++ [x]).map (·.b) := by rw [hx]; simp
    have e3 : ys.map (·.2) ++ [x1] = (ys ++ [y]).map (·.2) := by rw [hy]; simp
    have e4 : ys.map (·.1) ++ [b2] = (ys ++ [y]).map (·.1) := by rw [hy]; simp
    have ly : (ys ++ [y]).length = (xs ++ [x]).length := by simp [hly]
    have lx : (xs ++ [x]).length = xs.length + 1 := by simp
    refine WL.turn (G' := row br 35 (rlC Ad Aj xs.length cd cj bm) :: row bs 62 (rlC Ax Ay xs.length cx cy bn) :: slc bpE 76 Ad cd (xs.map (·.d)) :: slc bpE 46 Aj cj (xs.map (·.b)) ::
      slc bpE 86 Ax cx (ys.map (·.2)) :: slc bpE 88 Ay cy (ys.map (·.1)) :: nodesA (xs ++ [x]) :: rnodesA (ys ++ [y]) (xs ++ [x]) :: mailA bm [] :: rmailA bn [] :: F) (fun w hs => ?_) ?_
    · have hs : Sat W0 (rjA b2 x1 J00 :: refA x1 (toR (jD 2000000 J00)) :: jA b1 d1 J00 :: diskA d1 (jD 2000000 J00) :: row br 35 (rlC Ad Aj xs.length cd cj bm) :: slc bpE 76 Ad cd (xs.map (·.d)) :: slc bpE 46 Aj cj (xs.map (·.b)) :: nodesA xs :: mailA bm [] ::
        row bs 62 (rlC Ax Ay xs.length cx cy bn) :: slc bpE 86 Ax cx (ys.map (·.2)) :: slc bpE 88 Ay cy (ys.map (·.1)) :: rnodesA ys xs :: rmailA bn [] :: F) w := hs
      have h1 := rnodes_snoc (x := x) (y := y) hly w (by rw [hx, hy]; exact hs.ord 14 [0, 1, 12, 2, 3, 7, 4, 5, 6, 8, 9, 10, 11, 13] rfl)
      have h2 := nodes_snoc w (h1.ord 12 [1, 2, 3, 0, 4, 5, 6, 7, 8, 9, 10, 11] rfl)
      rw [← hx] at h2
      -- nodes', rnodes', br, dA, jA, mail, bs, dX, jY, rmail
      exact h2.ord 10 [2, 6, 3, 4, 7, 8, 0, 1, 5, 9] rfl
    repeat' (first|refine bk ?_|refine bkc ?_|refine bks ?_|refine bkd ?_|refine bkq (fun q => ?_)|(refine bk2 ?_ ?_<;>(first|exact bkn|(refine bkk ?_;intro h))))
    refine WL.buildSlice TT rfl rfl rfl rfl rfl rfl rfl rfl (fun q2 => ?_)
    refine WL.append TT 3 (E := bpE) (xs := xs.map (·.d)) (ys := [d1]) rfl (by simp only [List.length_map] <;> omega) rfl rfl rfl (Rd.row (i := 0) rfl rfl) rfl rfl rfl rfl rfl (by decide) (by simp only [List.length_map, List.length_cons, List.length_nil]; omega) (fun _ _ => rfl) rfl (fun A2 c2 => ?_)
    refine WL.turn (fun w hs => hs.drop) ?_
    rw [e1, List.length_map]
    revert A2 c2
    intro A5 c5
    repeat' (first|refine bk ?_|refine bkc ?_|refine bks ?_|refine bkd ?_|refine bkq (fun q => ?_)|(refine bk2 ?_ ?_<;>(first|exact bkn|(refine bkk ?_;intro h))))
    refine WL.buildSlice TT rfl rfl rfl rfl rfl rfl rfl rfl (fun q2 => ?_)
    refine WL.append TT 4 (E := bpE) (xs := xs.map (·.b)) (ys := [b1]) rfl (by simp only [List.length_map] <;> omega) rfl rfl rfl (Rd.row (i := 0) rfl rfl) rfl rfl rfl rfl rfl (by decide) (by simp only [List.length_map, List.length_cons, List.length_nil]; omega) (fun _ _ => rfl) rfl (fun A2 c2 => ?_)
    refine WL.turn (fun w hs => hs.drop) ?_
    rw [e2, List.length_map]
    revert A2 c2
    intro A6 c6
    repeat' (first|refine bk ?_|refine bkc ?_|refine bks ?_|refine bkd ?_|refine bkq (fun q => ?_)|(refine bk2 ?_ ?_<;>(first|exact bkn|(refine bkk ?_;intro h))))
    refine WL.buildSlice TT rfl rfl rfl rfl rfl rfl rfl rfl (fun q2 => ?_)
    refine WL.append TT 5 (E := bpE) (xs := ys.map (·.2)) (ys := [x1]) rfl (by simp only [List.length_map] <;> omega) rfl rfl rfl (Rd.row (i := 0) rfl rfl) rfl rfl rfl rfl rfl (by decide) (by simp only [List.length_map, List.length_cons, List.length_nil]; omega) (fun _ _ => rfl) rfl (fun A2 c2 => ?_)
    refine WL.turn (fun w hs => hs.drop) ?_
    rw [e3, List.length_map, ly]
    revert A2 c2
    intro A7 c7
    repeat' (first|refine bk ?_|refine bkc ?_|refine bks ?_|refine bkd ?_|refine bkq (fun q => ?_)|(refine bk2 ?_ ?_<;>(first|exact bkn|(refine bkk ?_;intro h))))
    refine WL.buildSlice TT rfl rfl rfl rfl rfl rfl rfl rfl (fun q2 => ?_)
    refine WL.append TT 6 (E := bpE) (xs := ys.map (·.1)) (ys := [b2]) rfl (by simp only [List.length_map] <;> omega) rfl rfl rfl (Rd.row (i := 0) rfl rfl) rfl rfl rfl rfl rfl (by decide) (by simp only [List.length_map, List.length_cons, List.length_nil]; omega) (fun _ _ => rfl) rfl (fun A2 c2 => ?_)
    refine WL.turn (fun w hs => hs.drop) ?_
    rw [e4, List.length_map, ly]
    revert A2 c2
    intro A8 c8
    repeat' (first|refine bk ?_|refine bkc ?_|refine bks ?_|refine bkd ?_|refine bkq (fun q => ?_)|(refine bk2 ?_ ?_<;>(first|exact bkn|(refine bkk ?_;intro h))))
    refine QS.again ⟨xs ++ [x], ys ++ [y], A5, c5, A6, c6, A7, c7, A8, c8⟩ ⟨?_, by simp only; omega, ly⟩ (by simp only; omega) ⟨rfl, rfl, rfl, ?_, trivial⟩ (fun w hs => ?_)
    · intro z hz
      rcases List.mem_append.1 hz with hz | hz
      · exact hN z hz
      · rw [List.mem_singleton] at hz
        rw [hz, hx]; exact ⟨rfl, rfl⟩
    · simp only [lx]
      rw [show ((xs.length + 1 : Nat) : Int) = (xs.length : Int) + 1 from by omega]; rfl
    · exact hs.ord 10 [0, 2, 3, 6, 8, 1, 4, 5, 7, 9] rfl
end Go.Proofs.YtfolmcpfdcgliaaGreat.B
