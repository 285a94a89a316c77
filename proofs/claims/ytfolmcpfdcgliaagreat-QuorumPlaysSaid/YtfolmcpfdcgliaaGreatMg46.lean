import Derived.Test.YtfolmcpfdcgliaaGreatMg35
import Derived.Test.YtfolmcpfdcgliaaGreatMg38
import Derived.Test.YtfolmcpfdcgliaaGreatMg45
import Derived.Test.YtfolmcpfdcgliaaGreatMg32
import Derived.Test.YtfolmcpfdcgliaaGreatMg13
import Derived.Test.YtfolmcpfdcgliaaGreatMg11
import Derived.Test.YtfolmcpfdcgliaaGreatMg33
set_option linter.unusedVariables false
set_option linter.unusedSimpArgs false
set_option maxRecDepth 8000
namespace Go.Proofs.YtfolmcpfdcgliaaGreat.B
open Go Go.Proofs
def rmsgE : EncK Msg := ⟨fun x => [.int .i64 x.1, .string x.2], 2, fun _ => rfl, by decide, fun _ u hu => by simp only [List.mem_cons, List.not_mem_nil, or_false] at hu; rcases hu with rfl | rfl <;> rfl⟩
def rmailA (bm : Nat) (m : List Msg) : SL := fun h => ∃ x : Option Addr × Nat × Option Addr × Nat, star (row bm 84 [.slice x.1 m.length x.2.1, .slice x.2.2.1 m.length x.2.2.2]) (star (slc rmsgE 72 x.1 x.2.1 m) (slc intE 3 x.2.2.1 x.2.2.2 (List.replicate m.length 0))) h
section
variable {W0 : World} {F : List SL} {bm : Nat} {m : List Msg}
theorem rmailA_open : ∀ w, Sat W0 (rmailA bm m :: F) w → ∃ x : Option Addr × Nat × Option Addr × Nat, Sat W0 (row bm 84 [.slice x.1 m.length x.2.1, .slice x.2.2.1 m.length x.2.2.2] :: slc rmsgE 72 x.1 x.2.1 m :: slc intE 3 x.2.2.1 x.2.2.2 (List.replicate m.length 0) :: F) w := fun w hs => by
  obtain ⟨x, hx⟩ := Sat.ex hs
  refine ⟨x, ?_⟩
  exact ((hx.split.front (i := 1) rfl).split.front (i := 2) rfl)
theorem rmailA_shut {A A2 : Option Addr} {c c2 : Nat} : ∀ w, Sat W0 (row bm 84 [.slice A m.length c, .slice A2 m.length c2] :: slc rmsgE 72 A c m :: slc intE 3 A2 c2 (List.replicate m.length 0) :: F) w → Sat W0 (rmailA bm m :: F) w := fun w hs => by
  have h1 : Sat W0 (slc rmsgE 72 A c m :: slc intE 3 A2 c2 (List.replicate m.length 0) :: row bm 84 [.slice A m.length c, .slice A2 m.length c2] :: F) w := (hs.front (i := 1) rfl).front (i := 2) rfl |>.front (i := 1) rfl
  exact (h1.join.front (i := 1) rfl).join.imp fun hp h => ⟨(A, c, A2, c2), h⟩
end
def rndA (y : Nat × Nat) (x : Nd) : SL := star (rjA y.1 y.2 x.J) (refA y.2 (toR x.D))
def rnodesA (ys : List (Nat × Nat)) (xs : List Nd) : SL := bagA (List.zipWith rndA ys xs)
def rnodesX (ys : List (Nat × Nat)) (xs : List Nd) (i : Nat) : SL := bagA ((List.zipWith rndA ys xs).eraseIdx i)
section
variable {W0 : World} {G : List SL} {xs : List Nd} {ys : List (Nat × Nat)} {x : Nd} {y : Nat × Nat} {i : Nat}
theorem rnodes_none : ∀ w, Sat W0 G w → Sat W0 (rnodesA [] [] :: G) w := fun w s => bag_none s
theorem rnodes_snoc (hl : ys.length = xs.length) : ∀ w, Sat W0 (rjA y.1 y.2 x.J :: refA y.2 (toR x.D) :: rnodesA ys xs :: G) w → Sat W0 (rnodesA (ys ++ [y]) (xs ++ [x]) :: G) w := fun w s => by
  have := bag_snoc (P := rndA y x) s.join
  rw [rnodesA, List.zipWith_append hl]
  exact this
theorem rnodes_open (hx : xs[i]? = some x) (hy : ys[i]? = some y) : ∀ w, Sat W0 (rnodesA ys xs :: G) w → Sat W0 (rjA y.1 y.2 x.J :: refA y.2 (toR x.D) :: rnodesX ys xs i :: G) w := fun w s =>
  (bag_at (P := rndA y x) (by rw [List.getElem?_zipWith, hx, hy]) s).split
theorem rnodes_shut (hx : xs[i]? = some x) (hy : ys[i]? = some y) {x' : Nd} {y' : Nat × Nat} : ∀ w, Sat W0 (rjA y'.1 y'.2 x'.J :: refA y'.2 (toR x'.D) :: rnodesX ys xs i :: G) w → Sat W0 (rnodesA (ys.set i y') (xs.set i x') :: G) w := fun w s => by
  have h1 : i < (List.zipWith rndA ys xs).length := by
    have := (List.getElem?_eq_some_iff.1 hx).1; have := (List.getElem?_eq_some_iff.1 hy).1
    rw [List.length_zipWith]; omega
  have h2 := bag_set (P := rndA y' x') h1 s.join
  have e : List.zipWith rndA (ys.set i y') (xs.set i x') = (List.zipWith rndA ys xs).set i (rndA y' x') := by
    refine List.ext_getElem? fun j => ?_
    rw [List.getElem?_zipWith, List.getElem?_set, List.getElem?_set, List.getElem?_set, List.getElem?_zipWith]
    have h3 := (List.getElem?_eq_some_iff.1 hx).1
    have h4 := (List.getElem?_eq_some_iff.1 hy).1
    by_cases hj : i = j
    · subst hj
      simp [h3, h4]; omega
    · simp [hj]
  rw [rnodesA, e]
  exact h2
end
abbrev rlC (Ad Aj : Option Addr) (n cd cj bm : Nat) : List Value := [.slice Ad n cd, .slice Aj n cj, .pointer (some ⟨bm, 0, none⟩)]
attribute [local irreducible] WL CS QS WQ WH WS Fn Op1 row Sat
attribute [local irreducible] slc jA diskA mailA nodesA nodesX rjA refA rnodesA rnodesX rmailA
theorem law_pick (n m : Int) (hn : I64 n) (hm : 0 < m) (W0 : World) (G : List SL) :
    Fn Tryz.prog 9 [.int .i64 n, .int .i64 m] W0 G (Ret fun v G' => v = .int .i64 (pickM n m) ∧ G' = G) := by
  refine Fn.enter Tryz.func9 rfl Tryz.ntmps9 rfl ?_
  unfold I64 at hn
  have hm0 : decide (m = 0) = false := decide_eq_false (by omega)
  repeat' (first|refine bA ?_|refine bkq fun q=>?_|(refine bk2 ?_ ?_<;>(first|exact bkn|(refine bkk ?_;intro h))))
  all_goals
    refine WL.s (op1_rem TT rfl rfl (by omega)) rfl ?_
    repeat' (first|refine bA ?_|refine bkq fun q=>?_|(refine bk2 ?_ ?_<;>(first|exact bkn|(refine bkk ?_;intro h))))
    refine QS.retV Tryz.results9 rfl ⟨?_, rfl⟩
    first
      | (rw [pickM, if_pos (by assumption)]; exact congrArg (fun z => Value.int .i64 (Int.tmod z m)) (by omega))
      | (rw [pickM, if_neg (by assumption)]; rfl)
theorem ents17 (A B : Option Addr) (k c k2 c2 : Nat) (xs ys : List Ent) (hk : k = xs.length) (hk2 : k2 = ys.length) (hkb : k ≤ 9223372036854775807) (W0 : World) (G : List SL) (hR : Rd W0 G entE A xs) (hR2 : Rd W0 G entE B ys) :
    Fn Tryz.prog 42 [.slice A k c, .slice B k2 c2] W0 G (Ret fun v G' => v = .bool (decide (xs = ys)) ∧ G' = G) := by
  refine Fn.enter Tryz.func42 rfl Tryz.ntmps42 rfl ?_
  repeat' (first|refine bA ?_|refine bkq fun q=>?_|(refine bk2 ?_ ?_<;>(first|exact bkn|(refine bkk ?_;intro h))))
  · refine QS.retV Tryz.results42 rfl ⟨?_, rfl⟩
    rw [decide_eq_false (fun e => by subst e; omega)]; rfl
  have hkk : xs.length = ys.length := by omega
  refine CS.loop (X := Nat) (fun i => [(0, .slice A k c), (1, .slice B k2 c2), (5, .int .i64 (i : Int))]) (fun i => G)
    (fun i => i ≤ k ∧ xs.take i = ys.take i) (fun i => k - i) 0 ⟨rfl, rfl, rfl, trivial⟩ (fun w hs => hs) ⟨Nat.zero_le _, rfl⟩ ?_
  rintro i ⟨hi, he⟩
  refine CS.world fun hw => ?_
  repeat' (first|refine bA ?_|refine bkq fun q=>?_|(refine bk2 ?_ ?_<;>(first|exact bkn|(refine bkk ?_;intro h))))
  · obtain ⟨x, hx⟩ : ∃ x, xs[i]? = some x := ⟨xs[i]'(by omega), List.getElem?_eq_getElem (by omega)⟩
    obtain ⟨y, hy⟩ : ∃ y, ys[i]? = some y := ⟨ys[i]'(by omega), List.getElem?_eq_getElem (by omega)⟩
    refine WQ.idx TT hR rfl rfl hk (by omega) (by rw [Int.toNat_natCast]; exact hx) rfl rfl rfl rfl hw (fun b2 o hA => ?_)
    refine WQ.s (op1_at TT hA rfl rfl rfl rfl) rfl ?_
    repeat' (first|refine bA ?_|refine bkq fun q=>?_|(refine bk2 ?_ ?_<;>(first|exact bkn|(refine bkk ?_;intro h))))
    refine WQ.idx TT hR2 rfl rfl hk2 (by omega) (by rw [Int.toNat_natCast]; exact hy) rfl rfl rfl rfl hw (fun b3 o3 hA3 => ?_)
    refine WQ.s (op1_at TT hA3 rfl rfl rfl rfl) rfl ?_
    refine WQ.s (op1_neS TT cmp49 rfl rfl rfl rfl (eqEnt x y)) rfl ?_
    by_cases hxy : x = y
    · rw [decide_eq_true hxy]
      repeat' (first|refine bA ?_|refine bkq fun q=>?_|(refine bk2 ?_ ?_<;>(first|exact bkn|(refine bkk ?_;intro h))))
      refine QS.again (i + 1) ⟨by omega, ?_⟩ (by omega) ⟨rfl, rfl, ?_, trivial⟩ (fun w hs => hs)
      · rw [List.take_add_one, List.take_add_one, hx, hy, he, hxy]
      · rw [show ((i + 1 : Nat) : Int) = (i : Int) + 1 from by omega]; rfl
    · rw [decide_eq_false hxy]
      repeat' (first|refine bA ?_|refine bkq fun q=>?_|(refine bk2 ?_ ?_<;>(first|exact bkn|(refine bkk ?_;intro h))))
      refine QS.retV Tryz.results42 rfl ⟨?_, rfl⟩
      rw [decide_eq_false (fun e => hxy (by rw [e, hy] at hx; exact (Option.some.inj hx).symm))]; rfl
  · refine QS.retV Tryz.results42 rfl ⟨?_, rfl⟩
    rw [decide_eq_true (by rw [List.take_of_length_le (by omega), List.take_of_length_le (by omega)] at he; exact he)]; rfl
abbrev J00 : Jn := ⟨0, 0, [], false⟩
def New0 (xs : List Nd) : Prop := ∀ x ∈ xs, x.J = J00 ∧ x.D = jD 2000000 J00
def realA (br : Nat) (Ad Aj : Option Addr) (cd cj bm : Nat) (xs : List Nd) : List SL :=
  [row br 35 (rlC Ad Aj xs.length cd cj bm), slc bpE 76 Ad cd (xs.map (·.d)), slc bpE 46 Aj cj (xs.map (·.b)), nodesA xs]
structure Bg where
  xs : List Nd
  ys : List (Nat × Nat)
  Ad : Option Addr
  cd : Nat
  Aj : Option Addr
  cj : Nat
  Ax : Option Addr
  cx : Nat
  Ay : Option Addr
  cy : Nat
abbrev bgA (br bm bs bn : Nat) (s : Bg) (F : List SL) : List SL :=
  row br 35 (rlC s.Ad s.Aj s.xs.length s.cd s.cj bm) :: slc bpE 76 s.Ad s.cd (s.xs.map (·.d)) :: slc bpE 46 s.Aj s.cj (s.xs.map (·.b)) :: nodesA s.xs :: mailA bm [] ::
  row bs 62 (rlC s.Ax s.Ay s.xs.length s.cx s.cy bn) :: slc bpE 86 s.Ax s.cx (s.ys.map (·.2)) :: slc bpE 88 s.Ay s.cy (s.ys.map (·.1)) :: rnodesA s.ys s.xs :: rmailA bn [] :: F
set_option maxHeartbeats 8000000 in
theorem law_begun (n : Nat) (hn : n ≤ 5) (W0 : World) (F : List SL) :
    Fn Tryz.prog 10 [.int .i64 (n : Int)] W0 F
      (Ret fun v G' => ∃ br bm bs bn s, New0 s.xs ∧ s.xs.length = n ∧ s.ys.length = n ∧ v = .tuple #[.pointer (some ⟨br, 0, none⟩), .pointer (some ⟨bs, 0, none⟩), .bool true] ∧ G' = bgA br bm bs bn s F) := by
  refine Fn.enter Tryz.func10 rfl Tryz.ntmps10 rfl ?_
  repeat' (first|refine bA ?_|refine bkq fun q=>?_|(refine bk2 ?_ ?_<;>(first|exact bkn|(refine bkk ?_;intro h))))
  refine WL.call c27 rfl rfl rfl rfl (mail_New W0 _) ?_
  rintro _ _ ⟨bm, rfl, rfl⟩
  repeat' (first|refine bA ?_|refine bkq fun q=>?_|(refine bk2 ?_ ?_<;>(first|exact bkn|(refine bkk ?_;intro h))))
  rename_i br bn
  revert q
  intro bs
  refine CS.loop (X := Bg) (fun s => [(0, .int .i64 (n : Int)), (5, .pointer (some ⟨br, 0, none⟩)), (6, .pointer (some ⟨bs, 0, none⟩)), (7, .int .i64 (s.xs.length : Int))])
    (fun s => bgA br bm bs bn s F) (fun s => New0 s.xs ∧ s.xs.length ≤ n ∧ s.ys.length = s.xs.length) (fun s => n - s.xs.length) ⟨[], [], none, 0, none, 0, none, 0, none, 0⟩ ⟨rfl, rfl, rfl, rfl, trivial⟩ (fun w hs => ?_) ⟨(fun x hx => by cases hx), Nat.zero_le _, rfl⟩ ?_
  · -- the start
    have h1 : Sat W0 (row bn 84 [.slice none 0 0, .slice none 0 0] :: slc rmsgE 72 none 0 [] :: slc intE 3 none 0 [] :: row bs 62 [.slice none 0 0, .slice none 0 0, .pointer (some ⟨bn, 0, none⟩)] :: row br 35 [.slice none 0 0, .slice none 0 0, .pointer (some ⟨bm, 0, none⟩)] :: mailA bm [] :: F) w :=
      ((hs.slcNil intE 3).slcNil rmsgE 72).front (i := 3) rfl
    have h2 := rnodes_none w (rmailA_shut (m := []) (A := none) (A2 := none) (c := 0) (c2 := 0) w h1)
    have h3 := (h2.slcNil bpE 88).slcNil bpE 86
    have h4 := (h3.front (i := 4) rfl).front (i := 6) rfl
    have h5 := ((nodes_none w h4).slcNil bpE 46).slcNil bpE 76
    exact h5.front (i := 9) rfl
  rintro ⟨xs, ys, Ad, cd, Aj, cj, Ax, cx, Ay, cy⟩ ⟨hN, hl, hly⟩
  simp only at hN hl hly ⊢
  have hJ0 : JnOk J00 := ⟨by decide, by decide, by decide⟩
  have hD0 := new_ok 2000000 (by decide)
  have ho : openJ (Disk.new 2000000) = (0, J00, jD 2000000 J00) := open_new 2000000 (by decide)
  by_cases hi : xs.length < n
  rotate_left 1
  · obtain rfl : xs.length = n := by omega
    repeat' (first|refine bA ?_|refine bkq fun q=>?_|(refine bk2 ?_ ?_<;>(first|exact bkn|(refine bkk ?_;intro h))))
    exact QS.retV Tryz.results10 rfl ⟨br, bm, bs, bn, _, hN, rfl, hly, rfl, rfl⟩
  · repeat' (first|refine bA ?_|refine bkq fun q=>?_|(refine bk2 ?_ ?_<;>(first|exact bkn|(refine bkk ?_;intro h))))
    refine WL.call c28 rfl rfl rfl rfl (disk_New 2000000 W0 _) ?_
    rintro _ _ ⟨d1, rfl, rfl⟩
    repeat' (first|refine bA ?_|refine bkq fun q=>?_|(refine bk2 ?_ ?_<;>(first|exact bkn|(refine bkk ?_;intro h))))
    refine WL.call c29 rfl rfl rfl rfl (rdisk_New 2000000 W0 _) ?_
    rintro _ _ ⟨x1, rfl, rfl⟩
    rw [← toR_new]
    repeat' (first|refine bA ?_|refine bkq fun q=>?_|(refine bk2 ?_ ?_<;>(first|exact bkn|(refine bkk ?_;intro h))))
    have hc := fun F => j_Open d1 (Disk.new 2000000) hD0 W0 F
    simp only [openO, ho, if_true] at hc
    try dsimp only at hc
    refine WL.call c26 rfl rfl rfl rfl ((hc _).pre (fun w hs => hs.front (i := 1) rfl)) ?_
    clear hc
    rintro _ _ ⟨b1, rfl, rfl⟩
    repeat' (first|refine bA ?_|refine bkq fun q=>?_|(refine bk2 ?_ ?_<;>(first|exact bkn|(refine bkk ?_;intro h))))
    have hc := fun F => r_Open x1 (Disk.new 2000000) hD0 W0 F
    simp only [openS, ho, if_true] at hc
    try dsimp only at hc
    refine WL.call c30 rfl rfl rfl rfl ((hc _).pre (fun w hs => hs.front (i := 2) rfl)) ?_
    clear hc
    rintro _ _ ⟨b2, rfl, rfl⟩
    repeat' (first|refine bA ?_|refine bkq fun q=>?_|(refine bk2 ?_ ?_<;>(first|exact bkn|(refine bkk ?_;intro h))))
    obtain ⟨x, hx⟩ : ∃ x : Nd, x = ⟨b1, d1, J00, jD 2000000 J00⟩ := ⟨_, rfl⟩
    obtain ⟨y, hy⟩ : ∃ y : Nat × Nat, y = (b2, x1) := ⟨_, rfl⟩
    have e1 : xs.map (·.d) ++ [d1] = (xs ++ [x]).map (·.d) := by rw [hx]; simp
    have e2 : xs.map (·.b) ++ [b1] = (xs ++ [x]).map (·.b) := by rw [hx]; simp
    have e3 : ys.map (·.2) ++ [x1] = (ys ++ [y]).map (·.2) := by rw [hy]; simp
    have e4 : ys.map (·.1) ++ [b2] = (ys ++ [y]).map (·.1) := by rw [hy]; simp
    have ly : (ys ++ [y]).length = (xs ++ [x]).length := by simp [hly]
    have lx : (xs ++ [x]).length = xs.length + 1 := by simp
    refine WL.turn (G' := row br 35 (rlC Ad Aj xs.length cd cj bm) :: row bs 62 (rlC Ax Ay xs.length cx cy bn) :: slc bpE 76 Ad cd (xs.map (·.d)) :: slc bpE 46 Aj cj (xs.map (·.b)) ::
      slc bpE 86 Ax cx (ys.map (·.2)) :: slc bpE 88 Ay cy (ys.map (·.1)) :: nodesA (xs ++ [x]) :: rnodesA (ys ++ [y]) (xs ++ [x]) :: mailA bm [] :: rmailA bn [] :: F) (fun w hs => ?_) ?_
    · have hs : Sat W0 (rjA b2 x1 J00 :: refA x1 (toR (jD 2000000 J00)) :: jA b1 d1 J00 :: diskA d1 (jD 2000000 J00) :: row br 35 (rlC Ad Aj xs.length cd cj bm) :: slc bpE 76 Ad cd (xs.map (·.d)) :: slc bpE 46 Aj cj (xs.map (·.b)) :: nodesA xs :: mailA bm [] ::
        row bs 62 (rlC Ax Ay xs.length cx cy bn) :: slc bpE 86 Ax cx (ys.map (·.2)) :: slc bpE 88 Ay cy (ys.map (·.1)) :: rnodesA ys xs :: rmailA bn [] :: F) w := hs
      have h1 := rnodes_snoc (x := x) (y := y) hly w (by rw [hx, hy]; exact hs.ord 14 [0, 1, 12, 2, 3, 7, 4, 5, 6, 8, 9, 10, 11, 13] rfl)
      have h2 := nodes_snoc w (h1.ord 12 [1, 2, 3, 0, 4, 5, 6, 7, 8, 9, 10, 11] rfl)
      rw [← hx] at h2
      -- nodes', rnodes', br, dA, jA, mail, bs, dX, jY, rmail
      exact h2.ord 10 [2, 6, 3, 4, 7, 8, 0, 1, 5, 9] rfl
    repeat' (first|refine bA ?_|refine bkq fun q=>?_|(refine bk2 ?_ ?_<;>(first|exact bkn|(refine bkk ?_;intro h))))
    refine WL.buildSlice TT rfl rfl rfl rfl rfl rfl rfl rfl (fun q2 => ?_)
    refine WL.append TT 3 (E := bpE) (xs := xs.map (·.d)) (ys := [d1]) rfl (by simp only [List.length_map] <;> omega) rfl rfl rfl (Rd.row (i := 0) rfl rfl) rfl rfl rfl rfl rfl (by decide) (by simp only [List.length_map, List.length_cons, List.length_nil]; omega) (fun _ _ => rfl) rfl (fun A2 c2 => ?_)
    refine WL.turn (fun w hs => hs.drop) ?_
    rw [e1, List.length_map]
    revert A2 c2
    intro A5 c5
    repeat' (first|refine bA ?_|refine bkq fun q=>?_|(refine bk2 ?_ ?_<;>(first|exact bkn|(refine bkk ?_;intro h))))
    refine WL.buildSlice TT rfl rfl rfl rfl rfl rfl rfl rfl (fun q2 => ?_)
    refine WL.append TT 4 (E := bpE) (xs := xs.map (·.b)) (ys := [b1]) rfl (by simp only [List.length_map] <;> omega) rfl rfl rfl (Rd.row (i := 0) rfl rfl) rfl rfl rfl rfl rfl (by decide) (by simp only [List.length_map, List.length_cons, List.length_nil]; omega) (fun _ _ => rfl) rfl (fun A2 c2 => ?_)
    refine WL.turn (fun w hs => hs.drop) ?_
    rw [e2, List.length_map]
    revert A2 c2
    intro A6 c6
    repeat' (first|refine bA ?_|refine bkq fun q=>?_|(refine bk2 ?_ ?_<;>(first|exact bkn|(refine bkk ?_;intro h))))
    refine WL.buildSlice TT rfl rfl rfl rfl rfl rfl rfl rfl (fun q2 => ?_)
    refine WL.append TT 5 (E := bpE) (xs := ys.map (·.2)) (ys := [x1]) rfl (by simp only [List.length_map] <;> omega) rfl rfl rfl (Rd.row (i := 0) rfl rfl) rfl rfl rfl rfl rfl (by decide) (by simp only [List.length_map, List.length_cons, List.length_nil]; omega) (fun _ _ => rfl) rfl (fun A2 c2 => ?_)
    refine WL.turn (fun w hs => hs.drop) ?_
    rw [e3, List.length_map, ly]
    revert A2 c2
    intro A7 c7
    repeat' (first|refine bA ?_|refine bkq fun q=>?_|(refine bk2 ?_ ?_<;>(first|exact bkn|(refine bkk ?_;intro h))))
    refine WL.buildSlice TT rfl rfl rfl rfl rfl rfl rfl rfl (fun q2 => ?_)
    refine WL.append TT 6 (E := bpE) (xs := ys.map (·.1)) (ys := [b2]) rfl (by simp only [List.length_map] <;> omega) rfl rfl rfl (Rd.row (i := 0) rfl rfl) rfl rfl rfl rfl rfl (by decide) (by simp only [List.length_map, List.length_cons, List.length_nil]; omega) (fun _ _ => rfl) rfl (fun A2 c2 => ?_)
    refine WL.turn (fun w hs => hs.drop) ?_
    rw [e4, List.length_map, ly]
    revert A2 c2
    intro A8 c8
    repeat' (first|refine bA ?_|refine bkq fun q=>?_|(refine bk2 ?_ ?_<;>(first|exact bkn|(refine bkk ?_;intro h))))
    refine QS.again ⟨xs ++ [x], ys ++ [y], A5, c5, A6, c6, A7, c7, A8, c8⟩ ⟨?_, by simp only; omega, ly⟩ (by simp only; omega) ⟨rfl, rfl, rfl, ?_, trivial⟩ (fun w hs => ?_)
    · intro z hz
      rcases List.mem_append.1 hz with hz | hz
      · exact hN z hz
      · rw [List.mem_singleton] at hz
        rw [hz, hx]; exact ⟨rfl, rfl⟩
    · simp only [lx]
      rw [show ((xs.length + 1 : Nat) : Int) = (xs.length : Int) + 1 from by omega]; rfl
    · exact hs.ord 10 [0, 2, 3, 6, 8, 1, 4, 5, 7, 9] rfl
end Go.Proofs.YtfolmcpfdcgliaaGreat.B

namespace Go.Proofs.YtfolmcpfdcgliaaGreat.B
open Go Go.Proofs
theorem range_map {α β : Type} {f : Nat → Option β} {g : α → β} : ∀ (xs : List α), (∀ (i : Nat) x, xs[i]? = some x → f i = some (g x)) → (List.range xs.length).filterMap f = xs.map g := fun xs h => by
  have key : ∀ n, n ≤ xs.length → (List.range n).filterMap f = (xs.take n).map g := fun n => by
    induction n with
    | zero => intro _; simp
    | succ n ih =>
      intro hn
      obtain ⟨x, hx⟩ : ∃ x, xs[n]? = some x := ⟨xs[n]'(by omega), List.getElem?_eq_getElem (by omega)⟩
      rw [List.range_succ, List.filterMap_append, ih (by omega), List.take_add_one, hx]
      simp [h n x hx]
  have := key xs.length (Nat.le_refl _)
  rwa [List.take_length] at this
theorem all_each {xs : List Nd} {s : ByteArray} {q : Rq} (h : ∀ x ∈ xs, NW x ∧ (pureJ x.J q).1 = 0) (hq : readQ (bs s) = some q) (w : Wr) (m : List Msg) (hn : 1 ≤ xs.length) :
    ∃ m', allM w xs m s [] = ⟨xs.map (fun x => toldQ x.J q), 0, w, ndsM [] s xs xs.length, m'⟩ ∧
      ∀ (i : Nat) y, (ndsM [] s xs xs.length)[i]? = some y → ∃ x, xs[i]? = some x ∧ NW y ∧ y.J = (pureJ x.J q).2 := by
  have hl : (gotsM [] s xs m xs.length).logs = xs.map (fun x => toldQ x.J q) := by
    rw [logs_are]
    refine range_map xs fun i x hx => ?_
    obtain ⟨h1, h2⟩ := h x (List.mem_of_getElem? hx)
    have t1 := (h1.told hq).1
    rw [if_pos h2] at t1
    unfold respM
    rw [hx]
    simp [fateM, t1]
  refine ⟨(gotsM [] s xs m xs.length).m, ?_, fun i y hy => ?_⟩
  · unfold allM
    simp only
    rw [if_neg (by rw [hl, List.length_map, most_pos hn]; omega), hl]
  · have hi := (List.getElem?_eq_some_iff.1 hy).1
    rw [ndsM_len] at hi
    rw [nds_at hi] at hy
    obtain ⟨x, hx, rfl⟩ := Option.map_eq_some_iff.1 hy
    obtain ⟨h1, h2⟩ := h x (List.mem_of_getElem? hx)
    refine ⟨x, hx, h1.step _ _, ?_⟩
    have e : ndM (fateM [] i) s x = x.hand (bs s) := by simp [ndM, fateM]
    rw [e, (h1.told hq).2]
theorem begin_all {xs : List Nd} {ep : Int} (h : ∀ x ∈ xs, NW x ∧ x.J.p < ep) (h2 : 1 ≤ ep) (h3 : ep ≤ 9007199254740991) (m : List Msg) (hn : 1 ≤ xs.length) {L : List Ent} (hL : bestL (xs.map fun x => (x.J.e, x.J.xs)) = L) (hlog : logOk ep L = true) :
    ∃ xs' m', beginM ⟨0, 0, false⟩ xs m ep [] = ⟨L, 0, ⟨ep, L.length, false⟩, xs', m'⟩ ∧ Hu ⟨ep, ep, L, false⟩ 0 xs' ∧ xs'.length = xs.length := by
  obtain ⟨m1, a1, a2⟩ := all_each (q := ⟨kP, ep, []⟩) (fun x hx => ⟨(h x hx).1, by rw [pure_prom (h x hx).2]⟩) (read_prom ⟨h2, h3⟩) ⟨0, 0, false⟩ m hn
  have e1 : xs.map (fun x => toldQ x.J ⟨kP, ep, []⟩) = xs.map (fun x => (x.J.e, x.J.xs)) := by
    refine List.map_congr_left fun x hx => ?_
    unfold toldQ; rw [if_pos rfl, pure_prom (h x hx).2]
  rw [e1] at a1
  have hlen := ndsM_len [] (promS ep) xs xs.length
  have hy : ∀ y ∈ ndsM [] (promS ep) xs xs.length, NW y ∧ y.J.p = ep ∧ y.J.e < ep := fun y hy => by
    obtain ⟨i, hi⟩ := List.mem_iff_getElem?.1 hy
    obtain ⟨x, hx, b1, b2⟩ := a2 i y hi
    have hxm := h x (List.mem_of_getElem? hx)
    rw [pure_prom hxm.2] at b2
    have := hxm.1.J.ep
    exact ⟨b1, by rw [b2], by rw [b2]; simp only; omega⟩
  clear a2
  generalize ndsM [] (promS ep) xs xs.length = ys at a1 hlen hy
  obtain ⟨m2, b1, b2⟩ := all_each (q := ⟨kA, ep, L⟩) (fun y hym => ⟨(hy y hym).1, by rw [pure_acc (hy y hym).2.1 (hy y hym).2.2]⟩) (read_acc h2 hlog) ⟨0, 0, false⟩ m1 (by omega)
  refine ⟨ndsM [] (accS ep L) ys ys.length, m2, ?_, fun i y hyi => ?_, by rw [ndsM_len, hlen]⟩
  · unfold beginM
    rw [if_neg (by simp), if_neg (by omega)]
    simp only [a1]
    rw [if_neg (by simp), hL]
    unfold begin2
    simp only [List.drop_nil, b1]
    rw [if_neg (by simp)]
  · obtain ⟨x, hx, c1, c2⟩ := b2 i y hyi
    obtain ⟨d1, d2, d3⟩ := hy x (List.mem_of_getElem? hx)
    rw [pure_acc d2 d3] at c2
    refine ⟨c1, fun _ => ?_⟩
    rw [c2, d1.J.alive]
abbrev qx : ByteArray := ⟨#[120]⟩
abbrev qy : ByteArray := ⟨#[121]⟩
theorem example_q {xs : List Nd} (h : Hu ⟨0, 0, [], false⟩ 0 xs) (hl : xs.length = 3) : ∃ x1 m1 x2 m2 x3 m3 x4 m4,
    beginM ⟨0, 0, false⟩ xs [] 1 [] = ⟨[], 0, ⟨1, 0, false⟩, x1, m1⟩ ∧ x1.length = 3 ∧
    writeM ⟨1, 0, false⟩ x1 m1 qx [] = ⟨[], 0, ⟨1, 1, false⟩, x2, m2⟩ ∧ x2.length = 3 ∧
    writeM ⟨1, 1, false⟩ x2 m2 qy [1, 1] = ⟨[], 12, ⟨0, 0, true⟩, x3, m3⟩ ∧ x3.length = 3 ∧
    beginM ⟨0, 0, false⟩ x3 m3 2 [] = ⟨[⟨1, qx⟩, ⟨2, qy⟩], 0, ⟨2, 2, false⟩, x4, m4⟩ := by
  obtain ⟨x1, m1, a1, a2, a3⟩ := begin_ok h (FD.nil _) (by simpa using FD.nil xs.length) (ep := 1) (by decide) (by decide) (by decide) [] (by omega) (by omega)
  rw [hl] at a3
  obtain ⟨x2, m2, b1, b2, b3⟩ := write_ok a2 (FD.nil _) (ep := 1) rfl rfl (by decide) (s := qx) (by decide) (by decide) m1 (by omega) (by omega)
  rw [a3] at b3
  have hf : FD [1, 1] 2 x2.length := fun i hi => by
    rw [b3] at hi
    have : i = 0 ∨ i = 1 ∨ i = 2 := by omega
    rcases this with rfl | rfl | rfl <;> rfl
  have b2' : Hu ⟨1, 1, [⟨1, qx⟩], false⟩ 0 x2 := b2
  have b22 : Hu ⟨1, 1, [⟨1, qx⟩], false⟩ 2 x2 := fun i x hx => ⟨(b2' i x hx).1, fun _ => (b2' i x hx).2 (Nat.zero_le _)⟩
  have hpa : pureJ ⟨1, 1, [⟨1, qx⟩], false⟩ ⟨kW, 1, [⟨2, qy⟩]⟩ = (0, ⟨1, 1, [⟨1, qx⟩, ⟨2, qy⟩], false⟩) := pure_add (J := ⟨1, 1, [⟨1, qx⟩], false⟩) (s := qy) rfl rfl
  have hq := read_add (ep := 1) (n := 2) (s := qy) (by decide) (by decide) (by decide)
  obtain ⟨m3, c1⟩ := all_few b22 hf hq (by rw [hpa]) ⟨1, 1, false⟩ m2 (by omega) (by omega)
  have c2 := hu_next b22 hf hq
  rw [hpa] at c2
  have c3 : ∀ (i : Nat) y, (ndsM [1, 1] (addS 1 2 qy) x2 x2.length)[i]? = some y → i < 2 → y.J = ⟨1, 1, [⟨1, qx⟩], false⟩ := fun i y hy hi2 => by
    have hi := (List.getElem?_eq_some_iff.1 hy).1
    rw [ndsM_len] at hi
    rw [nds_at hi] at hy
    obtain ⟨x, hx, rfl⟩ := Option.map_eq_some_iff.1 hy
    have e : fateM [1, 1] i = 1 := by rw [hf i hi, if_pos hi2]
    rw [e]
    have : ndM 1 (addS 1 2 qy) x = x := by simp [ndM]
    rw [this]
    exact (b2' i x hx).2 (Nat.zero_le _)
  have c4 := ndsM_len [1, 1] (addS 1 2 qy) x2 x2.length
  rw [b3] at c4
  have hw : writeM ⟨1, 1, false⟩ x2 m2 qy [1, 1] = ⟨[], 12, ⟨0, 0, true⟩, ndsM [1, 1] (addS 1 2 qy) x2 x2.length, m3⟩ := by
    unfold writeM
    rw [if_neg (by simp), if_neg (by decide), if_neg (by decide)]
    have : (1 : Int) + 1 = 2 := rfl
    simp only [this, c1]
    rw [if_neg (by decide)]
  rw [b3] at hw c1 c2 c3
  generalize ndsM [1, 1] (addS 1 2 qy) x2 3 = x3 at hw c2 c3 c4
  obtain ⟨n0, n1, n2, rfl⟩ : ∃ n0 n1 n2, x3 = [n0, n1, n2] := by
    match x3, c4 with
    | [n0, n1, n2], _ => exact ⟨n0, n1, n2, rfl⟩
  have j0 := c3 0 n0 rfl (by decide)
  have j1 := c3 1 n1 rfl (by decide)
  have j2 := (c2 2 n2 rfl).2 (Nat.le_refl _)
  have hL : bestL ([n0, n1, n2].map fun x => (x.J.e, x.J.xs)) = [⟨1, qx⟩, ⟨2, qy⟩] := by
    simp only [List.map_cons, List.map_nil, j0, j1, j2]; rfl
  obtain ⟨x4, m4, d1, d2, d3⟩ := begin_all (ep := 2) (xs := [n0, n1, n2]) (fun x hx => by
    obtain ⟨i, hi⟩ := List.mem_iff_getElem?.1 hx
    refine ⟨(c2 i x hi).1, ?_⟩
    simp only [List.mem_cons, List.not_mem_nil, or_false] at hx
    rcases hx with rfl | rfl | rfl
    · rw [j0]; decide
    · rw [j1]; decide
    · rw [j2]; decide) (by decide) (by decide) m3 (Nat.le_add_left 1 2) hL (by decide)
  exact ⟨x1, m1, x2, m2, _, m3, x4, m4, a1, a3, b1, b3, hw, rfl, d1⟩
end Go.Proofs.YtfolmcpfdcgliaaGreat.B

namespace Go.Proofs.YtfolmcpfdcgliaaGreat.B
open Go Go.Proofs
theorem new0_hu {xs : List Nd} (h : New0 xs) : Hu J00 0 xs := fun i x hx => by
  obtain ⟨h1, h2⟩ := h x (List.mem_of_getElem? hx)
  have hD := new_ok 2000000 (by decide)
  have e : Disk.new 2000000 = jD 2000000 J00 := new_jD (by decide)
  rw [e] at hD
  refine ⟨⟨by rw [h1]; exact well0, by rw [h2, h1], ⟨by rw [h1]; exact well0.ok, by rw [h2]; exact hD⟩⟩, fun _ => h1⟩
theorem Hu.oks {J : Jn} {d : Nat} {xs : List Nd} (h : Hu J d xs) : ∀ x ∈ xs, NdOk x := fun x hx => (h.mem x hx).ok
theorem begin_ok2 {w : Wr} {xs : List Nd} (hok : ∀ x ∈ xs, NdOk x) {m : List Msg} (hm : m.length ≤ 50) (ep : Int) (fs : List Int) : (∀ x ∈ (beginM w xs m ep fs).xs, NdOk x) ∧ (beginM w xs m ep fs).xs.length = xs.length ∧ (beginM w xs m ep fs).xs.map (·.b) = xs.map (·.b) ∧ (beginM w xs m ep fs).m.length ≤ 50 ∧ (beginM w xs m ep fs).xs.map (·.d) = xs.map (·.d) := by
  unfold beginM
  split
  · exact ⟨hok, rfl, rfl, hm, rfl⟩
  · split
    · exact ⟨hok, rfl, rfl, hm, rfl⟩
    · obtain ⟨f1, f2, f3, f4, _, _, f7⟩ := all_facts (w := w) hok hm (promS ep) fs
      simp only
      split
      · exact ⟨f1, f2, f3, f4, f7.symm⟩
      · unfold begin2
        obtain ⟨g1, g2, g3, g4, _, _, g7⟩ := all_facts (w := (allM w xs m (promS ep) fs).w) f1 f4 (accS ep (bestL (allM w xs m (promS ep) fs).logs)) (fs.drop (min fs.length (allM w xs m (promS ep) fs).xs.length))
        simp only
        split
        · exact ⟨g1, g2.trans f2, g3.trans f3, g4, (f7.trans g7).symm⟩
        · exact ⟨g1, g2.trans f2, g3.trans f3, g4, (f7.trans g7).symm⟩
theorem write_ok2 {w : Wr} {xs : List Nd} (hok : ∀ x ∈ xs, NdOk x) {m : List Msg} (hm : m.length ≤ 50) (s : ByteArray) (fs : List Int) : (∀ x ∈ (writeM w xs m s fs).xs, NdOk x) ∧ (writeM w xs m s fs).xs.length = xs.length ∧ (writeM w xs m s fs).xs.map (·.b) = xs.map (·.b) ∧ (writeM w xs m s fs).m.length ≤ 50 ∧ (writeM w xs m s fs).xs.map (·.d) = xs.map (·.d) := by
  unfold writeM
  split
  · exact ⟨hok, rfl, rfl, hm, rfl⟩
  · split
    · exact ⟨hok, rfl, rfl, hm, rfl⟩
    · split
      · exact ⟨hok, rfl, rfl, hm, rfl⟩
      · obtain ⟨f1, f2, f3, f4, _, _, f7⟩ := all_facts (w := w) hok hm (addS w.e (w.n + 1) s) fs
        exact ⟨f1, f2, f3, f4, f7.symm⟩
attribute [local irreducible] WL CS QS WQ WH WS Fn Op1 row Sat
attribute [local irreducible] slc jA diskA mailA nodesA nodesX rjA refA rnodesA rnodesX rmailA
abbrev jsA (Aj : Option Addr) (cj bm : Nat) (xs : List Nd) (m : List Msg) (F : List SL) : List SL := slc bpE 46 Aj cj (xs.map (·.b)) :: nodesA xs :: mailA bm m :: F
theorem q_Begin2 {bq : Nat} {Aj : Option Addr} {cj bm n : Nat} {w : Wr} {xs : List Nd} {m : List Msg} {ep : Int} {fs : List Int} {o : Out1} (h : beginM w xs m ep fs = o) (hl : xs.length = n) (hok : ∀ x ∈ xs, NdOk x) (hn : n ≤ 5) (hm : m.length ≤ 50) (hep : I64 ep) {A : Option Addr} {k c : Nat} (hk : k = fs.length) (hkc : k ≤ c) (hkb : k ≤ 9223372036854775807) (hI : ∀ x ∈ fs, I64 x) (W0 : World) (F : List SL) (hR : Rd W0 F intE A fs) :
    Fn Tryz.prog 12 [.pointer (some ⟨bq, 0, none⟩), .int .i64 ep, .slice A k c] W0 (row bq 92 (wrC Aj n cj bm w) :: jsA Aj cj bm xs m F)
      (Ret fun v G' => ∃ Al cl, v = .tuple #[.slice Al o.l.length cl, .int .i64 o.err] ∧ G' = slc entE 49 Al cl o.l :: row bq 92 (wrC Aj n cj bm o.w) :: jsA Aj cj bm o.xs o.m F) := by
  subst h; subst hl
  have h1 := (begin_ok2 (w := w) hok hm ep fs).2.2.1
  have := q_Begin bq Aj cj bm w xs hok hn m hm ep hep A k c fs hk hkc hkb hI W0 F hR
  simp only [jsA]
  rw [h1]
  exact this
theorem q_Write2 {bq : Nat} {Aj : Option Addr} {cj bm n : Nat} {w : Wr} {xs : List Nd} {m : List Msg} {s : ByteArray} {fs : List Int} {o : Out1} (h : writeM w xs m s fs = o) (hl : xs.length = n) (hok : ∀ x ∈ xs, NdOk x) (hn : n ≤ 5) (hm : m.length ≤ 50) (hw0 : 0 ≤ w.n ∧ w.n ≤ 9223372036854775807) (hwe : I64 w.e) (hs : s.size ≤ 9223372036854775807) {A : Option Addr} {k c : Nat} (hk : k = fs.length) (hI : ∀ x ∈ fs, I64 x) (W0 : World) (F : List SL) (hR : Rd W0 F intE A fs) :
    Fn Tryz.prog 13 [.pointer (some ⟨bq, 0, none⟩), .string s, .slice A k c] W0 (row bq 92 (wrC Aj n cj bm w) :: jsA Aj cj bm xs m F)
      (Ret fun v G' => v = .int .i64 o.err ∧ G' = row bq 92 (wrC Aj n cj bm o.w) :: jsA Aj cj bm o.xs o.m F) := by
  subst h; subst hl
  have h1 := (write_ok2 (w := w) hok hm s fs).2.2.1
  have := q_Write bq Aj cj bm w hw0 hwe xs hok hn m hm s hs A k c fs hk hI W0 F hR
  simp only [jsA]
  rw [h1]
  exact this
set_option maxHeartbeats 8000000 in
theorem law_examples (W0 : World) (F : List SL) : Fn Tryz.prog 8 [] W0 F (Ret fun v G' => v = .bool true ∧ G' = F) := by
  refine Fn.enter Tryz.func8 rfl Tryz.ntmps8 rfl ?_
  repeat' (first|refine bA ?_|refine bkq fun q=>?_|(refine bk2 ?_ ?_<;>(first|exact bkn|(refine bkk ?_;intro h))))
  refine WL.call c10 rfl rfl rfl rfl (law_begun 3 (by decide) W0 _) ?_
  rintro _ _ ⟨br, bm, bs, bn, ⟨xs, ys, Ad, cd, Aj, cj, Ax, cx, Ay, cy⟩, hN, hl, hly, rfl, rfl⟩
  simp only at hN hl hly ⊢
  refine WL.turn (G' := row br 35 (rlC Ad Aj 3 cd cj bm) :: jsA Aj cj bm xs [] F) (fun w hs => by rw [← hl]; exact hs.ord 10 [0, 2, 3, 4] rfl) ?_
  refine WL.fact (p := 3 ≤ cj) (fun w hs => by have := slc_cap (i := 1) rfl w hs; rw [List.length_map] at this; omega) (fun hcj => ?_)
  obtain ⟨x1, m1, x2, m2, x3, m3, x4, m4, p1, l1, p2, l2, p3, l3, p4⟩ := example_q (new0_hu hN) hl
  have k0 := (new0_hu hN).oks
  have k1 := begin_ok2 (w := ⟨0, 0, false⟩) k0 (m := []) (by decide) 1 []
  rw [p1] at k1
  have k2 := write_ok2 (w := ⟨1, 0, false⟩) k1.1 k1.2.2.2.1 qx []
  rw [p2] at k2
  have k3 := write_ok2 (w := ⟨1, 1, false⟩) k2.1 k2.2.2.2.1 qy [1, 1]
  rw [p3] at k3
  repeat' (first|refine bN ?_|refine bkq fun q=>?_|(refine bk2 ?_ ?_<;>(first|exact bkn|(refine bkk ?_;intro h))))
  refine CS.drawT 8 mixed (by kernel_rfl) rfl ?_
  repeat' (first|refine bk ?_|refine bkc ?_|refine bks ?_|refine bkd ?_|refine bkh ?_|refine bkq (fun q => ?_)|((first|refine bk2 ?_ ?_|refine bk2h ?_ ?_)<;>(first|exact bkn|(refine bkk ?_;intro h))))
  refine WL.call c11 rfl rfl rfl rfl (q_New Aj 3 cj bm (by decide) hcj W0 _) ?_
  rintro _ _ ⟨bq, rfl, rfl⟩
  repeat' (first|refine bN ?_|refine bkq fun q=>?_|(refine bk2 ?_ ?_<;>(first|exact bkn|(refine bkk ?_;intro h))))
  refine CS.drawT 8 mixed (by kernel_rfl) rfl ?_
  repeat' (first|refine bk ?_|refine bkc ?_|refine bks ?_|refine bkd ?_|refine bkh ?_|refine bkq (fun q => ?_)|((first|refine bk2 ?_ ?_|refine bk2h ?_ ?_)<;>(first|exact bkn|(refine bkk ?_;intro h))))
  refine WL.call c11 rfl rfl rfl rfl (q_New Aj 3 cj bm (by decide) hcj W0 _) ?_
  rintro _ _ ⟨bp, rfl, rfl⟩
  repeat' (first|refine bA ?_|refine bkq fun q=>?_|(refine bk2 ?_ ?_<;>(first|exact bkn|(refine bkk ?_;intro h))))
  refine WL.call c12 rfl rfl rfl rfl ((q_Begin2 (bq := bq) (Aj := Aj) (cj := cj) (bm := bm) (n := 3) p1 hl k0 (by decide) (by decide) (by unfold I64; decide) (A := none) (k := 0) (c := 0) rfl (by decide) (by decide) (fun x hx => by cases hx) W0 (row bp 92 (wrC Aj 3 cj bm ⟨0, 0, false⟩) :: F) Rd.nil).pre (fun w hs => hs.ord 6 [1, 3, 4, 5, 0] rfl)) ?_
  rintro _ _ ⟨Al, cl, rfl, rfl⟩
  repeat' (first|refine bA ?_|refine bkq fun q=>?_|(refine bk2 ?_ ?_<;>(first|exact bkn|(refine bkk ?_;intro h))))
  refine WL.call c13 rfl rfl rfl rfl ((q_Write2 (bq := bq) (Aj := Aj) (cj := cj) (bm := bm) (n := 3) p2 l1 k1.1 (by decide) k1.2.2.2.1 (by decide) (by unfold I64; decide) (by decide) (A := none) (k := 0) (c := 0) rfl (fun x hx => by cases hx) W0 (row bp 92 (wrC Aj 3 cj bm ⟨0, 0, false⟩) :: F) Rd.nil).pre (fun w hs => hs.drop)) ?_
  rintro _ _ ⟨rfl, rfl⟩
  repeat' (first|refine bA ?_|refine bkq fun q=>?_|(refine bk2 ?_ ?_<;>(first|exact bkn|(refine bkk ?_;intro h))))
  refine WL.buildSlice TT rfl rfl rfl rfl rfl rfl rfl rfl (fun q2 => ?_)
  refine WL.call c13 rfl rfl rfl rfl ((q_Write2 (bq := bq) (Aj := Aj) (cj := cj) (bm := bm) (n := 3) p3 l2 k2.1 (by decide) k2.2.2.2.1 (by decide) (by unfold I64; decide) (by decide) (A := some ⟨q2, 0, none⟩) (k := 2) (c := 2) rfl (fun x hx => by simp only [List.mem_cons, List.not_mem_nil, or_false] at hx; unfold I64; omega) W0 (row q2 3 [.int .i64 1, .int .i64 1] :: row bp 92 (wrC Aj 3 cj bm ⟨0, 0, false⟩) :: F) (Rd.row (i := 0) rfl rfl)).pre (fun w hs => hs.ord 6 [1, 2, 3, 4, 0, 5] rfl)) ?_
  rintro _ _ ⟨rfl, rfl⟩
  repeat' (first|refine bA ?_|refine bkq fun q=>?_|(refine bk2 ?_ ?_<;>(first|exact bkn|(refine bkk ?_;intro h))))
  refine WL.call c12 rfl rfl rfl rfl ((q_Begin2 (bq := bp) (Aj := Aj) (cj := cj) (bm := bm) (n := 3) p4 l3 k3.1 (by decide) k3.2.2.2.1 (by unfold I64; decide) (A := none) (k := 0) (c := 0) rfl (by decide) (by decide) (fun x hx => by cases hx) W0 (row bq 92 (wrC Aj 3 cj bm ⟨0, 0, true⟩) :: F) Rd.nil).pre (fun w hs => hs.ord 6 [5, 1, 2, 3, 0] rfl)) ?_
  rintro _ _ ⟨Al2, cl2, rfl, rfl⟩
  repeat' (first|refine bA ?_|refine bkq fun q=>?_|(refine bk2 ?_ ?_<;>(first|exact bkn|(refine bkk ?_;intro h))))
  refine WL.idx TT (E := entE) (xs := [⟨1, qx⟩, ⟨2, qy⟩]) (Rd.slc (i := 0) rfl) rfl rfl rfl (by decide) (x := ⟨2, qy⟩) rfl rfl rfl rfl rfl (fun b3 o3 hA3 => ?_)
  repeat' (first|refine bA ?_|refine bkq fun q=>?_|(refine bk2 ?_ ?_<;>(first|exact bkn|(refine bkk ?_;intro h))))
  refine WL.s (op1_atF TT 1 hA3 rfl rfl rfl rfl rfl) rfl ?_
  repeat' (first|refine bA ?_|refine bkq fun q=>?_|(refine bk2 ?_ ?_<;>(first|exact bkn|(refine bkk ?_;intro h))))
  refine WL.call c15 rfl rfl rfl rfl ((q_Epoch bq Aj 3 cj bm ⟨0, 0, true⟩ W0 _).pre (fun w hs => hs.ord 6 [5, 0, 1, 2, 3, 4] rfl)) ?_
  rintro _ _ ⟨rfl, rfl⟩
  repeat' (first|refine bA ?_|refine bkq fun q=>?_|(refine bk2 ?_ ?_<;>(first|exact bkn|(refine bkk ?_;intro h))))
  refine WL.call c14 rfl rfl rfl rfl ((q_Many bp Aj 3 cj bm ⟨2, 2, false⟩ W0 _).pre (fun w hs => hs.ord 6 [2, 0, 1, 3, 4, 5] rfl)) ?_
  rintro _ _ ⟨rfl, rfl⟩
  repeat' (first|refine bA ?_|refine bkq fun q=>?_|(refine bk2 ?_ ?_<;>(first|exact bkn|(refine bkk ?_;intro h))))
  exact QS.turn (G' := F) (fun w hs => hs.ord 6 [] rfl) (QS.retV Tryz.results8 rfl ⟨rfl, rfl⟩)
end Go.Proofs.YtfolmcpfdcgliaaGreat.B

namespace Go.Proofs.YtfolmcpfdcgliaaGreat.B
open Go Go.Proofs
theorem He.oks {ep : Int} {xs : List Nd} (h : He ep xs) : ∀ x ∈ xs, NdOk x := fun x hx => (h x hx).1.ok
attribute [local irreducible] WL CS QS WQ WH WS Fn Op1 row Sat
attribute [local irreducible] slc jA diskA mailA nodesA nodesX rjA refA rnodesA rnodesX rmailA
theorem q_Log {ys : List Nd} {i : Nat} {x : Nd} (hx : ys[i]? = some x) (hxo : NdOk x) (ha : x.J.dead = false) (W0 : World) (F : List SL) :
    Fn Tryz.prog 16 [.pointer (some ⟨x.b, 0, none⟩)] W0 (nodesA ys :: F) (Ret fun v G' => ∃ A c, v = logV x.J.e A x.J.xs.length c ∧ G' = slc entE 49 A c x.J.xs :: nodesA ys :: F) := by
  have h := j_Log x.b x.d x.J (by have := hxo.J.len; omega) W0 (diskA x.d x.D :: nodesX ys i :: F)
  rw [if_neg (by rw [ha]; decide), if_neg (by rw [ha]; decide)] at h
  refine Fn.post (h.pre (nodes_open hx)) (Ret.post fun v G' ⟨A, c, h1, h2⟩ => ⟨slc entE 49 A c x.J.xs :: nodesA ys :: F, fun w hw => ?_, A, c, h1, rfl⟩)
  rw [h2] at hw
  have h3 := nodes_shut hx w (hw.ord 4 [1, 2, 3, 0] rfl)
  rw [set_self hx] at h3
  exact h3.front (i := 1) rfl
end Go.Proofs.YtfolmcpfdcgliaaGreat.B

namespace Go.Proofs.YtfolmcpfdcgliaaGreat.B
open Go Go.Proofs
attribute [local irreducible] WL CS QS WQ WH WS Fn Op1 row Sat
attribute [local irreducible] slc
set_option maxHeartbeats 1000000 in
theorem ent_Clone2 (A : Option Addr) (k c : Nat) (xs : List Ent) (hk : k = xs.length) (hkb : k ≤ 5864062014805) (W0 : World) (G : List SL) (hR : Rd W0 G entE A xs) :
    Fn Tryz.prog 35 [.slice A k c] W0 G
      (Ret fun v G' => ∃ A' c', v = .slice A' k c' ∧ G' = slc entE 49 A' c' xs :: G) := by
  refine Fn.fact (p := A = none → xs = []) (fun w hs hA => ?_) (fun hnil => ?_)
  · rcases hR w hs with h | ⟨b, o, h, _⟩
    · exact List.eq_nil_of_length_eq_zero (by
        have := congrArg List.length h
        rw [flat_len] at this
        have e2 : entE.sz = 2 := rfl
        rw [e2] at this
        simp only [List.length_nil] at this; omega)
    · rw [hA] at h; cases h
  refine Fn.enter Tryz.func35 rfl Tryz.ntmps35 rfl ?_
  repeat' (first|refine bA ?_|refine bkq fun q=>?_|(refine bk2 ?_ ?_<;>(first|exact bkn|(refine bkk ?_;intro h))))
  refine WL.s (op1_eqNil TT rfl rfl rfl) rfl ?_
  cases A with
  | none =>
    have hx := hnil rfl
    subst hx
    simp only [Option.isNone_none]
    repeat' (first|refine bA ?_|refine bkq fun q=>?_|(refine bk2 ?_ ?_<;>(first|exact bkn|(refine bkk ?_;intro h))))
    exact QS.turn (fun w hs => hs.slcNil entE 49) (QS.retV Tryz.results35 rfl ⟨none, 0, by rw [hk]; rfl, rfl⟩)
  | some a =>
    simp only [Option.isNone_some]
    repeat' (first|refine bA ?_|refine bkq fun q=>?_|(refine bk2 ?_ ?_<;>(first|exact bkn|(refine bkk ?_;intro h))))
    refine WL.buildSlice TT rfl rfl rfl rfl rfl rfl rfl rfl (fun qs => ?_)
    refine WL.turn (fun w hs => row_slc entE (b := qs) (t := 49) hs) ?_
    repeat' (first|refine bA ?_|refine bkq fun q=>?_|(refine bk2 ?_ ?_<;>(first|exact bkn|(refine bkk ?_;intro h))))
    refine WL.append TT (E := entE) (xs := ([] : List Ent)) (ys := xs) 0 rfl rfl rfl hk rfl hR.cons rfl rfl rfl rfl rfl (by decide) (by simp only [List.length_nil]; omega) (fun _ _ => rfl) rfl (fun A' c2 => ?_)
    rw [List.nil_append]
    repeat' (first|refine bA ?_|refine bkq fun q=>?_|(refine bk2 ?_ ?_<;>(first|exact bkn|(refine bkk ?_;intro h))))
    exact QS.retV Tryz.results35 rfl ⟨A', c2, by rw [hk]; rfl, rfl⟩
end Go.Proofs.YtfolmcpfdcgliaaGreat.B

namespace Go.Proofs.YtfolmcpfdcgliaaGreat.B
open Go Go.Proofs
structure SzX where
  A : Option Addr
  c : Nat
  xs : List Int
def szV (s : SzX) : Value := .slice s.A s.xs.length s.c
def szNil : SzX := ⟨none, 0, []⟩
def slcs : List (Int × SzX) → SL
  | [] => fun _ => True
  | p :: r => star (slc intE 3 p.2.A p.2.c p.2.xs) (slcs r)
section
variable {W0 : World} {G : List SL} {w : World}
theorem slcs_take : ∀ {D : List (Int × SzX)} {k : Int} {s : SzX} {G : List SL}, aget D k = some s → Sat W0 (slcs D :: G) w → Sat W0 (slc intE 3 s.A s.c s.xs :: slcs (adel D k) :: G) w
  | [], _, _, _, h, _ => by cases h
  | (k', y) :: r, k, s, G, h, hs => by
    simp only [aget] at h
    simp only [adel]
    have h1 := Sat.split (P := slc intE 3 y.A y.c y.xs) (Q := slcs r) hs
    split at h
    · rename_i e
      injection h with h
      subst h
      rw [if_pos e]
      exact h1
    · rename_i e
      rw [if_neg e]
      have h2 := slcs_take (G := slc intE 3 y.A y.c y.xs :: G) h (h1.perm (List.Perm.swap ..))
      have h3 := (h2.front (i := 2) rfl).front (i := 2) rfl
      have h4 := h3.front (i := 1) rfl
      exact (Sat.join (P := slc intE 3 y.A y.c y.xs) (Q := slcs (adel r k)) h4).front (i := 1) rfl
theorem slcs_put : ∀ {D : List (Int × SzX)} {k : Int} {s : SzX} {G : List SL}, Sat W0 (slc intE 3 s.A s.c s.xs :: slcs (adel D k) :: G) w → Sat W0 (slcs (aput D k s) :: G) w
  | [], k, s, G, hs => Sat.join (P := slc intE 3 s.A s.c s.xs) (Q := slcs []) hs
  | (k', y) :: r, k, s, G, hs => by
    simp only [adel] at hs
    simp only [aput]
    split at hs
    · rename_i e
      rw [if_pos e]
      exact Sat.join (P := slc intE 3 s.A s.c s.xs) (Q := slcs r) hs
    · rename_i e
      rw [if_neg e]
      have h1 := Sat.split (P := slc intE 3 y.A y.c y.xs) (Q := slcs (adel r k)) (hs.front (i := 1) rfl)
      have h2 := (h1.front (i := 1) rfl).front (i := 2) rfl
      have h3 := slcs_put (D := r) (k := k) (s := s) h2
      exact Sat.join (P := slc intE 3 y.A y.c y.xs) (Q := slcs (aput r k s)) (h3.perm (List.Perm.swap ..))
theorem aput_self : ∀ (D : List (Int × SzX)) (k : Int) (s : SzX), aget (aput D k s) k = some s
  | [], k, s => by simp [aput, aget]
  | (k', y) :: r, k, s => by
    simp only [aput]
    split
    · simp [aget]
    · rename_i e; simp only [aget]; rw [if_neg e]; exact aput_self r k s
theorem aput_other : ∀ (D : List (Int × SzX)) (k E : Int) (s : SzX), k ≠ E → aget (aput D k s) E = aget D E
  | [], k, E, s, h => by simp [aput, aget, h]
  | (k', y) :: r, k, E, s, h => by
    simp only [aput]
    split
    · rename_i e; subst e; simp [aget, h]
    · simp only [aget]; rw [aput_other r k E s h]
theorem slcs_nil (hs : Sat W0 G w) : Sat W0 (slcs [] :: G) w := hs.triv
theorem adel_none : ∀ {D : List (Int × SzX)} {k : Int}, aget D k = none → adel D k = D
  | [], _, _ => rfl
  | (k', y) :: r, k, h => by
    simp only [aget] at h
    simp only [adel]
    split at h
    · cases h
    · rename_i e; rw [if_neg e, adel_none h]
theorem slcs_look {D : List (Int × SzX)} {k : Int} (hs : Sat W0 (slcs D :: G) w) : Sat W0 (slc intE 3 ((aget D k).getD szNil).A ((aget D k).getD szNil).c ((aget D k).getD szNil).xs :: slcs (adel D k) :: G) w := by
  cases h : aget D k with
  | none => rw [adel_none h]; exact hs.slcNil _ _
  | some s => exact slcs_take h hs
end
attribute [local irreducible] WL CS QS WQ WH WS Fn Op1 row Sat
attribute [local irreducible] slcs slc mapb
def hitB (E : Int) (K : Nat) (x : LogX) : Bool := decide (x.e = E) && decide (K ≤ x.xs.length)
theorem choose_hit (E : Int) (K : Nat) (x : LogX) (pe pk : Nat) (W0 : World) (G : List SL) :
    Fn Tryz.prog 79 [.agg #[.int .i64 x.e, .slice x.A x.xs.length x.c], .pointer (some ⟨pe, 0, none⟩), .pointer (some ⟨pk, 0, none⟩)] W0 (row pe 3 [.int .i64 E] :: row pk 3 [.int .i64 (K : Int)] :: G)
      (Ret fun v G' => v = .bool (hitB E K x) ∧ G' = row pe 3 [.int .i64 E] :: row pk 3 [.int .i64 (K : Int)] :: G) := by
  refine Fn.enter Tryz.func79 rfl Tryz.ntmps79 rfl ?_
  repeat' (first|refine bA ?_|refine bkq fun q=>?_|(refine bk2 ?_ ?_<;>(first|exact bkn|(refine bkk ?_;intro h))))
  all_goals
    refine QS.turn (fun w hs => hs.drop) (QS.retV Tryz.results79 rfl ⟨?_, rfl⟩)
    simp [hitB, resV, *]
set_option maxHeartbeats 1000000 in
theorem choose_IndexFunc (A : Option Addr) (k c : Nat) (ls : List LogX) (hk : k = ls.length) (hkb : k ≤ 9223372036854775807) (E : Int) (K : Nat) (i : Nat) (x : LogX) (hi : ls[i]? = some x) (hx : hit E K x) (hf : ∀ j y, j < i → ls[j]? = some y → ¬ hit E K y)
    (pe pk : Nat) (W0 : World) (G : List SL) (hR : Rd W0 G lgE A ls) :
    Fn Tryz.prog 78 [.slice A k c, .func (.func 79) #[] #[.pointer (some ⟨pe, 0, none⟩), .pointer (some ⟨pk, 0, none⟩)]] W0 (row pe 3 [.int .i64 E] :: row pk 3 [.int .i64 (K : Int)] :: G)
      (Ret fun v G' => v = .int .i64 (i : Int) ∧ G' = row pe 3 [.int .i64 E] :: row pk 3 [.int .i64 (K : Int)] :: G) := by
  refine Fn.enter Tryz.func78 rfl Tryz.ntmps78 rfl ?_
  have hil := (List.getElem?_eq_some_iff.1 hi).1
  repeat' (first|refine bA ?_|refine bkq fun q=>?_|(refine bk2 ?_ ?_<;>(first|exact bkn|(refine bkk ?_;intro h))))
  refine CS.loop (X := Nat) (fun j => [(0, .slice A k c), (1, .func (.func 79) #[] #[.pointer (some ⟨pe, 0, none⟩), .pointer (some ⟨pk, 0, none⟩)]), (7, .int .i64 (k : Int)), (8, .int .i64 (j : Int))]) (fun j => row pe 3 [.int .i64 E] :: row pk 3 [.int .i64 (K : Int)] :: G)
    (fun j => j ≤ i) (fun j => k - j) 0 ⟨rfl, rfl, rfl, rfl, trivial⟩ (fun w hs => hs) (Nat.zero_le _) ?_
  intro j hj
  repeat' (first|refine bA ?_|refine bkq fun q=>?_|(refine bk2 ?_ ?_<;>(first|exact bkn|(refine bkk ?_;intro h))))
  obtain ⟨y, hy⟩ : ∃ y, ls[j]? = some y := ⟨ls[j]'(by omega), List.getElem?_eq_getElem (by omega)⟩
  refine WL.idx TT hR.cons.cons rfl rfl hk (by omega) (by rw [Int.toNat_natCast]; exact hy) rfl rfl rfl rfl (fun b2 o hA => ?_)
  refine WL.s (op1_at TT hA rfl rfl rfl rfl) rfl ?_
  refine WL.call c79 rfl rfl rfl rfl (choose_hit E K y pe pk W0 _) ?_
  rintro _ _ ⟨rfl, rfl⟩
  by_cases hj2 : j = i
  · subst hj2
    obtain rfl : x = y := by rw [hi] at hy; exact Option.some.inj hy
    rw [show hitB E K x = true from by simpa [hitB, hit] using hx]
    repeat' (first|refine bA ?_|refine bkq fun q=>?_|(refine bk2 ?_ ?_<;>(first|exact bkn|(refine bkk ?_;intro h))))
    exact QS.retV Tryz.results78 rfl ⟨rfl, rfl⟩
  · have hn := hf j y (by omega) hy
    rw [show hitB E K y = false from by
      cases hb : hitB E K y with
      | false => rfl
      | true => exact absurd (show hit E K y from by simpa [hitB, hit] using hb) hn]
    repeat' (first|refine bA ?_|refine bkq fun q=>?_|(refine bk2 ?_ ?_<;>(first|exact bkn|(refine bkk ?_;intro h))))
    refine QS.again (j + 1) (by omega) (by omega) ⟨rfl, rfl, rfl, ?_, trivial⟩ (fun w hs => hs)
    rw [show ((j + 1 : Nat) : Int) = (j : Int) + 1 from by omega]; rfl
set_option maxHeartbeats 4000000 in
theorem choose_Committed (A : Option Addr) (k c : Nat) (ls : List LogX) (hk : k = ls.length) (hkb : k ≤ 1000) (hxs : ∀ x ∈ ls, x.xs.length ≤ 5864062014805 ∧ x.xs.length ≤ x.c) (need : Int) (hneed : need ≤ 9223372036854775807) (W0 : World) (G : List SL) (hR : Rd W0 G lgE A ls) (hL : ∀ x ∈ ls, Rd W0 G entE x.A x.xs) :
    Fn Tryz.prog 40 [.slice A k c, .int .i64 need] W0 G
      (Ret fun v G' => ∃ out A' c', Out ls (max need 1) out ∧ v = .slice A' out.length c' ∧ G' = slc entE 49 A' c' out :: G) := by
  refine Fn.enter Tryz.func40 rfl Tryz.ntmps40 rfl ?_
  repeat' (first|refine bA ?_|refine bkq fun q=>?_|(refine bk2 ?_ ?_<;>(first|exact bkn|(refine bkk ?_;intro h))))
  obtain ⟨N, hN, hN1⟩ : ∃ N, N = max need 1 ∧ (if 1 > need then (1 : Int) else need) = N := ⟨max need 1, rfl, by split <;> omega⟩
  rw [hN1, ← hN]
  have hN2 : 1 ≤ N := by omega
  refine WL.makeMap Int SzX intK szV rfl (fun m => ?_)
  repeat' (first|refine bA ?_|refine bkq fun q=>?_|(refine bk2 ?_ ?_<;>(first|exact bkn|(refine bkk ?_;intro h))))
  revert q
  intro q0
  refine CS.loop (X := Nat × List (Int × SzX)) (fun x => [(0, .slice A k c), (1, .int .i64 N), (5, .map (some m)), (6, .pointer (some ⟨q0, 0, none⟩)), (7, .bool (epS ls N x.1).1), (16, .slice A k c), (17, .int .i64 (k : Int)), (18, .int .i64 (x.1 : Int))])
    (fun x => mapb intK szV m x.2 :: slcs x.2 :: row q0 3 [.int .i64 (epS ls N x.1).2] :: G)
    (fun x => x.1 ≤ k ∧ ∀ E, ((aget x.2 E).getD szNil).xs = lensOf ls x.1 E) (fun x => k - x.1) (0, []) ⟨rfl, rfl, rfl, rfl, rfl, rfl, rfl, rfl, trivial⟩ (fun w hs => (slcs_nil hs).front (i := 2) rfl |>.perm (List.Perm.refl _)) ⟨Nat.zero_le _, fun E => rfl⟩ ?_
  rintro ⟨i, D⟩ ⟨hi, hD⟩
  simp only at *
  refine CS.world fun hw => ?_
  repeat' (first|refine bA ?_|refine bkq fun q=>?_|(refine bk2 ?_ ?_<;>(first|exact bkn|(refine bkk ?_;intro h))))
  · obtain ⟨x, hx⟩ : ∃ x, ls[i]? = some x := ⟨ls[i]'(by omega), List.getElem?_eq_getElem (by omega)⟩
    refine WL.idx TT hR.cons.cons.cons rfl rfl hk (by omega) (by rw [Int.toNat_natCast]; exact hx) rfl rfl rfl rfl (fun b2 o hA => ?_)
    refine WL.s (op1_at TT hA rfl rfl rfl rfl) rfl ?_
    obtain ⟨u, hu⟩ : ∃ u, u = (aget D x.e).getD szNil := ⟨_, rfl⟩
    have hux : u.xs = lensOf ls i x.e := by rw [hu]; exact hD x.e
    refine WL.turn (G' := slc intE 3 u.A u.c u.xs :: slcs (adel D x.e) :: mapb intK szV m D :: row q0 3 [.int .i64 (epS ls N i).2] :: G) (fun w hs => by rw [hu]; exact slcs_look (hs.front (i := 1) rfl)) ?_
    repeat' (first|refine bA ?_|refine bkq fun q=>?_|(refine bk2 ?_ ?_<;>(first|exact bkn|(refine bkk ?_;intro h))))
    have hul : u.xs.length ≤ 1000 := by rw [hux]; have := lensOf_le ls i x.e; omega
    have hu2 : u.xs ++ [(x.xs.length : Int)] = lensOf ls (i + 1) x.e := by rw [lensOf_next hx, if_pos rfl, hux]
    refine CS.drawZ 10 (row q 45 [.int .i64 x.e, .slice x.A x.xs.length x.c] :: mapb intK szV m D :: row q0 3 [.int .i64 (epS ls N i).2] :: G) (fun w hs => (hs.kick (i := 1) rfl).kick (i := 1) rfl) mixed (by kernel_rfl) (by kernel_rfl) rfl ?_
    iterate 6 refine bkz ?_
    refine WZ.s (op1_look1D TT 1 u (u0 := szNil) rfl rfl rfl rfl rfl rfl rfl hu) rfl rfl ?_
    iterate 3 refine bkz ?_
    refine WZ.two (R2 := fun v G1 uu G2 => ∃ b A' c', uu = .slice A' (lensOf ls (i + 1) x.e).length c' ∧ G2 = row b 3 [.int .i64 (x.xs.length : Int)] :: row q 45 [.int .i64 x.e, .slice x.A x.xs.length x.c] :: slc intE 3 A' c' (lensOf ls (i + 1) x.e) :: slcs (adel D x.e) :: mapb intK szV m D :: row q0 3 [.int .i64 (epS ls N i).2] :: G) rfl rfl (fun w hs => (hs.kick (i := 1) rfl).kick (i := 1) rfl) (Eff.buildSlice TT rfl rfl rfl rfl rfl rfl rfl) rfl rfl rfl ?_ rfl rfl rfl ?_
    · rintro v G1 ⟨b, rfl, rfl⟩
      refine ⟨fun w hs => ((hs.drop.kick (i := 1) rfl).kick (i := 1) rfl), ?_⟩
      refine Eff.mono (Eff.append TT (E := intE) (xs := u.xs) (ys := [(x.xs.length : Int)]) 2 rfl rfl rfl rfl rfl (Rd.row (i := 0) rfl rfl) rfl rfl rfl rfl rfl (by decide) (by simp only [List.length_cons, List.length_nil]; omega) (fun _ _ => rfl)) ?_
      rintro v G2 ⟨A', c', rfl, rfl⟩
      rw [hu2]
      exact ⟨b, A', c', rfl, rfl⟩
    rintro v G1 uu G2 ⟨b, rfl, rfl⟩ ⟨b', A', c', rfl, rfl⟩
    refine ⟨fun w hs => ((hs.drop.kick (i := 1) rfl).kick (i := 1) rfl), ?_⟩
    obtain ⟨s, hs⟩ : ∃ s : SzX, s = ⟨A', c', lensOf ls (i + 1) x.e⟩ := ⟨_, rfl⟩
    repeat' (first|refine bA ?_|refine bkq fun q=>?_|(refine bk2 ?_ ?_<;>(first|exact bkn|(refine bkk ?_;intro h))))
    refine WL.mapUpdate TT (kk := intK) (ev := szV) (u := s) 4 rfl rfl rfl rfl rfl rfl (by rw [hs]; rfl) rfl ?_
    repeat' (first|refine bA ?_|refine bkq fun q=>?_|(refine bk2 ?_ ?_<;>(first|exact bkn|(refine bkk ?_;intro h))))
    refine WL.turn (G' := slcs (aput D x.e s) :: row q 45 [.int .i64 x.e, .slice x.A x.xs.length x.c] :: mapb intK szV m (aput D x.e s) :: row q0 3 [.int .i64 (epS ls N i).2] :: G) (fun w h => slcs_put (s := s) (by subst hs; exact (h.drop.front (i := 2) rfl).front (i := 2) rfl)) ?_
    refine WL.s (op1_look1D TT 2 s (u0 := szNil) rfl rfl rfl rfl rfl rfl rfl (by rw [aput_self]; rfl)) rfl ?_
    have hnx := epS_next (need := N) hx
    have hD2 : ∀ E, ((aget (aput D x.e s) E).getD szNil).xs = lensOf ls (i + 1) E := fun E => by
      by_cases hE : x.e = E
      · subst hE; rw [aput_self, hs]; rfl
      · rw [aput_other _ _ _ _ hE, hD E, lensOf_next hx, if_neg hE, List.append_nil]
    have hsl : s.xs = lensOf ls (i + 1) x.e := by rw [hs]
    have hll := lensOf_le ls (i + 1) x.e
    simp only [szV, hsl]
    obtain ⟨an, ep, hS⟩ : ∃ an ep, epS ls N i = (an, ep) := ⟨_, _, rfl⟩
    rw [hS] at hnx ⊢
    simp only at hnx ⊢
    repeat' (first|refine bA ?_|refine bkq fun q=>?_|(refine bk2 ?_ ?_<;>(first|exact bkn|(refine bkk ?_;intro h))))
    all_goals
      first
        | rw [if_pos ⟨by assumption, .inl (by assumption)⟩] at hnx
        | rw [if_pos ⟨by assumption, .inr (by assumption)⟩] at hnx
        | rw [if_neg (fun h => absurd h.1 (by assumption))] at hnx
        | rw [if_neg (fun h => h.2.elim (fun h => by simp [*] at h) (fun h => absurd h (by assumption)))] at hnx
      refine QS.again (i + 1, aput D x.e s) ⟨by simp only; omega, hD2⟩ (by simp only; omega) ⟨rfl, rfl, rfl, rfl, ?_, rfl, rfl, ?_, trivial⟩ (fun w hs => ?_)
      · simp only [hnx]; rfl
      · rw [show ((i + 1 : Nat) : Int) = (i : Int) + 1 from by omega]; rfl
      · simp only [hnx]
        exact (hs.front (i := 2) rfl).kick (i := 2) rfl
  · have hie : i = ls.length := by omega
    have hok := epS_ok ls N hN2 i (by omega)
    have hany : (epS ls N i).1 = false := by assumption
    rw [if_neg (by rw [hany]; decide)] at hok
    refine QS.turn (G' := slc entE 49 none 0 ([] : List Ent) :: G) (fun w hs => hs.drop.drop.drop.slcNil _ _) (QS.retV Tryz.results40 rfl ⟨[], none, 0, .inl ⟨fun E => ?_, rfl⟩, rfl, rfl⟩)
    have := hok E
    rw [lensOf_len, hie, List.take_length] at this
    exact this
  · have hie : i = ls.length := by omega
    have hok := epS_ok ls N hN2 i (by omega)
    have hany : (epS ls N i).1 = true := by assumption
    rw [if_pos hany] at hok
    obtain ⟨E, hE⟩ : ∃ E, E = (epS ls N i).2 := ⟨_, rfl⟩
    rw [← hE] at hok ⊢
    obtain ⟨u, hu⟩ : ∃ u, u = (aget D E).getD szNil := ⟨_, rfl⟩
    have hux : u.xs = lensOf ls i E := by rw [hu]; exact hD E
    have hul : u.xs.length ≤ 1000 := by rw [hux]; have := lensOf_le ls i E; omega
    refine WL.turn (G' := slc intE 3 u.A u.c u.xs :: slcs (adel D E) :: mapb intK szV m D :: row q0 3 [.int .i64 E] :: G) (fun w hs => by rw [hu]; exact slcs_look (hs.front (i := 1) rfl)) ?_
    refine WL.s (op1_look1D TT 2 u (u0 := szNil) rfl rfl rfl rfl rfl rfl rfl hu) rfl ?_
    repeat' (first|refine bA ?_|refine bkq fun q=>?_|(refine bk2 ?_ ?_<;>(first|exact bkn|(refine bkk ?_;intro h))))
    refine WL.call c77 rfl rfl rfl rfl (sort_ints (xs := u.xs) (by omega) W0 _) ?_
    rintro _ _ ⟨rfl, rfl⟩
    simp only [szV]
    repeat' (first|refine bA ?_|refine bkq fun q=>?_|(refine bk2 ?_ ?_<;>(first|exact bkn|(refine bkk ?_;intro h))))
    have hNl : N ≤ (u.xs.length : Int) := by rw [hux]; exact hok.1
    have hsl := sortI_len u.xs
    obtain ⟨K, hK⟩ : ∃ K : Nat, (sortI u.xs)[((u.xs.length : Int) - N).toNat]? = some (K : Int) := by
      obtain ⟨z, hz⟩ : ∃ z, (sortI u.xs)[((u.xs.length : Int) - N).toNat]? = some z := ⟨_, List.getElem?_eq_getElem (by rw [hsl]; omega)⟩
      have hz0 : 0 ≤ z := lensOf_mem (ls := ls) (i := i) (E := E) (by rw [← hux]; exact (List.mergeSort_perm _ _).mem_iff.1 (List.mem_of_getElem? hz))
      exact ⟨z.toNat, by rw [hz, Int.toNat_of_nonneg hz0]⟩
    obtain ⟨j, x, hC⟩ : ∃ j x, Comm ls N E K j x := by
      have hany2 : (epS ls N ls.length).1 = true := by rw [← hie]; exact hany
      have := comm_of (ls := ls) (need := N) hN2 hany2 (K := (K : Int)) (by rw [← hie, ← hE, ← hux]; exact hK)
      rw [← hie, ← hE, Int.toNat_natCast] at this
      exact this
    have hjl := (List.getElem?_eq_some_iff.1 hC.at_).1
    have hxm := hxs x (List.mem_of_getElem? hC.at_)
    have hKx : K ≤ x.xs.length := hC.is.2
    refine WL.idx TT (Rd.slc (i := 0) rfl) rfl rfl hsl.symm (by omega) hK rfl rfl rfl rfl (fun b2 o hA => ?_)
    refine WL.s (op1_at TT hA rfl rfl rfl rfl) rfl ?_
    repeat' (first|refine bA ?_|refine bkq fun q=>?_|(refine bk2 ?_ ?_<;>(first|exact bkn|(refine bkk ?_;intro h))))
    refine WL.turn (G' := row q0 3 [.int .i64 E] :: row q 3 [.int .i64 (K : Int)] :: G) (fun w hs => (((hs.kick (i := 1) rfl).kick (i := 1) rfl).kick (i := 1) rfl).front (i := 1) rfl) ?_
    refine WL.call c78 rfl rfl rfl rfl (choose_IndexFunc A k c ls hk (by omega) E K j x hC.at_ hC.is hC.first q0 q W0 _ hR) ?_
    rintro _ _ ⟨rfl, rfl⟩
    refine WL.fact (fun w hs => Exists.intro w hs) (fun hw2 => ?_)
    refine WL.s (op1_pure1 TT rfl) rfl ?_
    refine WL.nil ?_
    refine QS.then ?_
    refine CS.seq ?_
    refine CS.drawT 6 mixed (by kernel_rfl) rfl ?_
    repeat' (first|refine bk ?_|refine bkh ?_|refine bkw ?_|refine bkq (fun q => ?_)|((first|refine bk2 ?_ ?_|refine bk2h ?_ ?_)<;>(first|exact bkn|(refine bkk ?_;intro h))))
    refine WH.idx TT hR.cons.cons rfl rfl hk (by omega) (by rw [Int.toNat_natCast]; exact hC.at_) rfl rfl rfl rfl hw2 (fun b3 o3 hA3 => ?_)
    repeat' (first|refine bk ?_|refine bkh ?_|refine bkw ?_|refine bkq (fun q => ?_)|((first|refine bk2 ?_ ?_|refine bk2h ?_ ?_)<;>(first|exact bkn|(refine bkk ?_;intro h))))
    refine WH.s (op1_atF TT 1 hA3 rfl rfl rfl rfl rfl) rfl ?_
    repeat' (first|refine bk ?_|refine bkh ?_|refine bkw ?_|refine bkq (fun q => ?_)|((first|refine bk2 ?_ ?_|refine bk2h ?_ ?_)<;>(first|exact bkn|(refine bkk ?_;intro h))))
    refine WL.s (op1_sliceS (E := entE) (xs := x.xs) (l := 0) (r := (K : Int)) TT (by rfl) (by rfl) rfl rfl rfl rfl rfl (by omega) hxm.2) rfl ?_
    simp only [Int.toNat_zero, Nat.sub_zero, Int.toNat_natCast]
    refine WL.call c35 rfl rfl rfl rfl (ent_Clone2 _ K x.c ((x.xs.take K).drop 0) (by rw [List.drop_zero, List.length_take]; omega) (by omega) W0 _ ((hL x (List.mem_of_getElem? hC.at_)).cons.cons.part hKx hxm.2)) ?_
    rintro _ _ ⟨A2, c2, rfl, rfl⟩
    repeat' (first|refine bA ?_|refine bkq fun q=>?_|(refine bk2 ?_ ?_<;>(first|exact bkn|(refine bkk ?_;intro h))))
    refine QS.turn (G' := slc entE 49 A2 c2 ((x.xs.take K).drop 0) :: G) (fun w hs => (hs.kick (i := 1) rfl).kick (i := 1) rfl) (QS.retV Tryz.results40 rfl ⟨(x.xs.take K).drop 0, A2, c2, .inr ⟨E, K, j, x, hC, List.drop_zero⟩, ?_, rfl⟩)
    rw [List.drop_zero, List.length_take, Nat.min_eq_left hKx]; rfl
end Go.Proofs.YtfolmcpfdcgliaaGreat.B
