import Derived.Test.YtfolmcpfdcgliaaGreatMg37
import Derived.Test.YtfolmcpfdcgliaaGreatMg23
import Derived.Test.YtfolmcpfdcgliaaGreatMg31
set_option linter.unusedVariables false
set_option linter.unusedSimpArgs false
set_option maxRecDepth 8000
namespace Go.Proofs.YtfolmcpfdcgliaaGreat.B
open Go Go.Proofs
attribute [local irreducible] WL CS QS WQ WH WS Fn Op1 row Sat
attribute [local irreducible] slc jA diskA mailA nodesA nodesX entsA gotA
theorem mostM_i64 {n : Nat} (h : n ≤ 5) : I64 (n : Int) := by unfold I64; omega
theorem all_facts {w : Wr} {xs : List Nd} (hok : ∀ x ∈ xs, NdOk x) {m : List Msg} (hm : m.length ≤ 50) (s : ByteArray) (fs : List Int) :
    (∀ x ∈ (allM w xs m s fs).xs, NdOk x) ∧ (allM w xs m s fs).xs.length = xs.length ∧ (allM w xs m s fs).xs.map (·.b) = xs.map (·.b) ∧ (allM w xs m s fs).m.length ≤ 50 ∧ ((allM w xs m s fs).err = 0 → (allM w xs m s fs).logs.length ≤ xs.length ∧ 1 ≤ (allM w xs m s fs).logs.length) ∧
    (allM w xs m s fs).w = (if (allM w xs m s fs).err = 0 then w else ⟨0, 0, true⟩) ∧ (xs.map (·.d) = (allM w xs m s fs).xs.map (·.d)) := by
  have h1 := ndsM_ok hok fs s xs.length
  have h2 := ndsM_len fs s xs xs.length
  have h3 := ndsM_map (fun x => x.b) (fun k s x => (ndM_same k s x).1) fs s xs xs.length
  have h3d := ndsM_map (fun x => x.d) (fun k s x => (ndM_same k s x).2) fs s xs xs.length
  have h4 := gotsM_mail fs s xs m hm xs.length
  have h5 := gotsM_len fs s xs m xs.length
  have hb := bad_is fs s xs m xs.length
  unfold allM
  simp only
  split
  · refine ⟨h1, h2, h3, h4, fun h => ?_, ?_, h3d.symm⟩
    · simp only at h; omega
    · rw [if_neg (by simp only; omega)]
  · rename_i hc
    refine ⟨h1, h2, h3, h4, fun _ => ⟨h5, ?_⟩, by rw [if_pos rfl], h3d.symm⟩
    have : mostM xs.length = (xs.length : Int) / 2 + 1 := by unfold mostM; rw [if_neg (by omega)]
    simp only
    omega
theorem told_ok (s : List UInt8) : logOk (toldM s).1 (toldM s).2.1 = true := by
  have h0 : logOk 0 [] = true := by decide
  unfold toldM
  split
  · split
    · split
      · split
        · exact h0
        · split
          · rename_i e xs r hp
            split
            · exact (parseP_some hp).1
            · exact h0
          · exact h0
      · exact h0
    · exact h0
  · exact h0
theorem all_logs {w : Wr} {xs : List Nd} {m : List Msg} {s : ByteArray} {fs : List Int} : ∀ t ∈ (allM w xs m s fs).logs, logOk t.1 t.2 = true := by
  intro t ht
  have h : t ∈ (gotsM fs s xs m xs.length).logs := by
    unfold allM at ht
    simp only at ht
    split at ht
    · cases ht
    · exact ht
  rw [logs_are] at h
  obtain ⟨i, _, hi⟩ := List.mem_filterMap.1 h
  unfold respM at hi
  split at hi
  · split at hi
    · obtain rfl := Option.some.inj hi
      exact told_ok _
    · cases hi
  · cases hi
def outW (a : Res) : Out1 := ⟨[], a.err, if a.err = 0 then { a.w with n := a.w.n + 1 } else a.w, a.xs, a.m⟩
theorem bestP_is (ls : List LogX) : ∀ i, bestP ls i = bestQ (ls.map lgOf) i
  | 0 => rfl
  | i + 1 => by
    unfold bestP bestQ
    rw [bestP_is ls i, List.getElem?_map, List.getElem?_map]
    split
    · rfl
    · cases ls[i]? with
      | none => rfl
      | some a => cases ls[(bestQ (ls.map lgOf) i).toNat]? with
        | none => rfl
        | some b => rfl
theorem bestI_is {ls : List LogX} {lg : List Lg} (h : ls.map lgOf = lg) (hl : 1 ≤ lg.length) : ∃ x, ls[(bestI ls).toNat]? = some x ∧ 0 ≤ bestI ls ∧ bestL lg = x.xs := by
  subst h
  rw [List.length_map] at hl
  have h1 := bestP_range ls ls.length
  have h2 : bestI ls = bestP ls ls.length := rfl
  have h3 := h1.2.2 (by omega)
  obtain ⟨x, hx⟩ : ∃ x, ls[(bestI ls).toNat]? = some x := ⟨ls[(bestI ls).toNat]'(by omega), List.getElem?_eq_getElem (by omega)⟩
  refine ⟨x, hx, by omega, ?_⟩
  unfold bestL
  rw [List.length_map, ← bestP_is, ← h2, List.getElem?_map, hx]; rfl
set_option maxHeartbeats 4000000 in
theorem q_all (bq : Nat) (Aj : Option Addr) (cj bm : Nat) (w : Wr) (xs : List Nd) (hok : ∀ x ∈ xs, NdOk x) (hn : xs.length ≤ 5) (m : List Msg) (hm : m.length ≤ 50) (s : ByteArray) (hs : s.size ≤ 9223372036854775807) (A : Option Addr) (k c : Nat) (fs : List Int) (hk : k = fs.length) (hI : ∀ x ∈ fs, I64 x) (W0 : World) (F : List SL) (hR : Rd W0 F intE A fs) :
    Fn Tryz.prog 31 [.pointer (some ⟨bq, 0, none⟩), .string s, .slice A k c] W0
      (row bq 92 (wrC Aj xs.length cj bm w) :: slc bpE 46 Aj cj (xs.map (·.b)) :: nodesA xs :: mailA bm m :: F)
      (Ret fun v G' => ∃ ls Al cl, ls.map lgOf = (allM w xs m s fs).logs ∧ v = .tuple #[.slice Al ls.length cl, .int .i64 (allM w xs m s fs).err] ∧
        G' = slc lgE 45 Al cl ls :: entsA ls :: row bq 92 (wrC Aj xs.length cj bm (allM w xs m s fs).w) :: slc bpE 46 Aj cj (xs.map (·.b)) :: nodesA (allM w xs m s fs).xs :: mailA bm (allM w xs m s fs).m :: F) := by
  subst hk
  refine Fn.enter Tryz.func31 rfl Tryz.ntmps31 rfl ?_
  repeat' (first|refine bA ?_|refine bkq fun q=>?_|(refine bk2 ?_ ?_<;>(first|exact bkn|(refine bkk ?_;intro h))))
  rename_i bl
  revert q; intro bb
  repeat' (first|refine bA ?_|refine bkq fun q=>?_|(refine bk2 ?_ ?_<;>(first|exact bkn|(refine bkk ?_;intro h))))
  refine WL.call c72 rfl rfl rfl rfl ((q_each bq Aj cj bm w xs hok hn m hm s hs A _ c fs rfl hI bl bb W0 F hR).pre (fun w hw => ?_)) ?_
  · have h1 := gotA_shut (bl := bl) (bb := bb) (A := none) (c := 0) (ls := []) (logs := []) (bad := 12) rfl w (((ents_none w ((hw.front (i := 1) rfl))).slcNil lgE 45 |> fun h => (h.front (i := 3) rfl).front (i := 3) rfl))
    exact (((h1.front (i := 4) rfl).front (i := 4) rfl).front (i := 4) rfl).front (i := 4) rfl
  rintro _ _ ⟨rfl, rfl⟩
  have hgl := gotsM_len fs s xs m xs.length
  unfold allM
  generalize gotsM fs s xs m xs.length = g at hgl ⊢
  obtain ⟨logs, bad, m'⟩ := g
  generalize ndsM fs s xs xs.length = ys
  simp only at hgl ⊢
  refine WL.ex (A := fun y : {y : List LogX × Option Addr × Nat // y.1.map lgOf = logs} => row bl 93 [.slice y.1.2.1 y.1.1.length y.1.2.2] :: row bb 37 [.int .i64 bad] :: slc lgE 45 y.1.2.1 y.1.2.2 y.1.1 :: entsA y.1.1 ::
    row bq 92 (wrC Aj xs.length cj bm w) :: slc bpE 46 Aj cj (xs.map (·.b)) :: nodesA ys :: mailA bm m' :: F) (fun w hw => gotA_open w (hw.front (i := 4) rfl)) ?_
  rintro ⟨⟨ls, Al, cl⟩, rfl⟩
  simp only at hgl ⊢
  rw [List.length_map] at hgl ⊢
  have bad_end : ∀ w, Sat W0 (row bl 93 [.slice Al ls.length cl] :: row bb 37 [.int .i64 bad] :: slc lgE 45 Al cl ls :: entsA ls :: row bq 92 (wrC Aj xs.length cj bm ⟨0, 0, true⟩) :: slc bpE 46 Aj cj (xs.map (·.b)) :: nodesA ys :: mailA bm m' :: F) w →
      Sat W0 (slc lgE 45 none 0 [] :: entsA [] :: row bq 92 (wrC Aj xs.length cj bm ⟨0, 0, true⟩) :: slc bpE 46 Aj cj (xs.map (·.b)) :: nodesA ys :: mailA bm m' :: F) w := fun w hw =>
    (ents_none w hw.drop.drop.drop.drop).slcNil lgE 45
  repeat' (first|refine bA ?_|refine bkq fun q=>?_|(refine bk2 ?_ ?_<;>(first|exact bkn|(refine bkk ?_;intro h))))
  · rw [if_pos (.inl (by omega))]
    exact QS.turn bad_end (QS.retV Tryz.results31 rfl ⟨[], none, 0, rfl, rfl, rfl⟩)
  · refine WQ.call c39 rfl rfl rfl rfl (choose_Most _ (mostM_i64 hn) W0 _) ?_
    repeat' (first|refine bA ?_|refine bkq fun q=>?_|(refine bk2 ?_ ?_<;>(first|exact bkn|(refine bkk ?_;intro h))))
    · rw [if_pos (.inr h)]
      exact QS.turn bad_end (QS.retV Tryz.results31 rfl ⟨[], none, 0, rfl, rfl, rfl⟩)
    · rename_i h1
      rw [if_neg (fun hh => hh.elim (fun hh => h1 (by omega)) (fun hh => by unfold mostM at hh; exact h hh))]
      exact QS.turn (G' := slc lgE 45 Al cl ls :: entsA ls :: row bq 92 (wrC Aj xs.length cj bm w) :: slc bpE 46 Aj cj (xs.map (·.b)) :: nodesA ys :: mailA bm m' :: F) (fun w hw => hw.drop.drop) (QS.retV Tryz.results31 rfl ⟨ls, Al, cl, rfl, rfl, rfl⟩)
theorem q_New (Aj : Option Addr) (n cj bm : Nat) (hn : n ≤ 5) (hc : n ≤ cj) (W0 : World) (F : List SL) :
    Fn Tryz.prog 11 [.slice Aj n cj, .pointer (some ⟨bm, 0, none⟩)] W0 F
      (Ret fun v G' => ∃ bq, v = .pointer (some ⟨bq, 0, none⟩) ∧ G' = row bq 92 (wrC Aj n cj bm ⟨0, 0, false⟩) :: F) := by
  refine Fn.enter Tryz.func11 rfl Tryz.ntmps11 rfl ?_
  repeat' (first|refine bA ?_|refine bkq fun q=>?_|(refine bk2 ?_ ?_<;>(first|exact bkn|(refine bkk ?_;intro h))))
  rw [show (if (5 : Int) < (n : Int) then (5 : Int) else (n : Int)) = (n : Int) from if_neg (by omega)]
  refine WL.s (op1_sliceS (E := bpE) (xs := List.replicate n 0) (l := 0) (r := (n : Int)) TT (by rfl) (by rfl) rfl rfl (by simp) rfl rfl (by omega) hc) rfl ?_
  simp only [Int.toNat_zero, Nat.sub_zero, Int.toNat_natCast]
  have hA : (if cj = 0 then Aj else Aj.map (·.add (0 * bpE.sz))) = Aj := by
    split
    · rfl
    · cases Aj with
      | none => rfl
      | some a => simp [Addr.add]
  rw [hA]
  repeat' (first|refine bA ?_|refine bkq fun q=>?_|(refine bk2 ?_ ?_<;>(first|exact bkn|(refine bkk ?_;intro h))))
  exact QS.retV Tryz.results11 rfl ⟨_, rfl, rfl⟩
theorem q_Epoch (bq : Nat) (Aj : Option Addr) (n cj bm : Nat) (w : Wr) (W0 : World) (F : List SL) :
    Fn Tryz.prog 15 [.pointer (some ⟨bq, 0, none⟩)] W0 (row bq 92 (wrC Aj n cj bm w) :: F) (Ret fun v G' => v = .int .i64 w.e ∧ G' = row bq 92 (wrC Aj n cj bm w) :: F) := by
  refine Fn.enter Tryz.func15 rfl Tryz.ntmps15 rfl ?_
  repeat' (first|refine bA ?_|refine bkq fun q=>?_|(refine bk2 ?_ ?_<;>(first|exact bkn|(refine bkk ?_;intro h))))
  exact QS.retV Tryz.results15 rfl ⟨rfl, rfl⟩
theorem q_Many (bq : Nat) (Aj : Option Addr) (n cj bm : Nat) (w : Wr) (W0 : World) (F : List SL) :
    Fn Tryz.prog 14 [.pointer (some ⟨bq, 0, none⟩)] W0 (row bq 92 (wrC Aj n cj bm w) :: F) (Ret fun v G' => v = .int .i64 w.n ∧ G' = row bq 92 (wrC Aj n cj bm w) :: F) := by
  refine Fn.enter Tryz.func14 rfl Tryz.ntmps14 rfl ?_
  repeat' (first|refine bA ?_|refine bkq fun q=>?_|(refine bk2 ?_ ?_<;>(first|exact bkn|(refine bkk ?_;intro h))))
  exact QS.retV Tryz.results14 rfl ⟨rfl, rfl⟩
set_option maxHeartbeats 4000000 in
theorem q_Write (bq : Nat) (Aj : Option Addr) (cj bm : Nat) (w : Wr) (hw0 : 0 ≤ w.n ∧ w.n ≤ 9223372036854775807) (hwe : I64 w.e) (xs : List Nd) (hok : ∀ x ∈ xs, NdOk x) (hn : xs.length ≤ 5) (m : List Msg) (hm : m.length ≤ 50) (s : ByteArray) (hs : s.size ≤ 9223372036854775807) (A : Option Addr) (k c : Nat) (fs : List Int) (hk : k = fs.length) (hI : ∀ x ∈ fs, I64 x) (W0 : World) (F : List SL) (hR : Rd W0 F intE A fs) :
    Fn Tryz.prog 13 [.pointer (some ⟨bq, 0, none⟩), .string s, .slice A k c] W0
      (row bq 92 (wrC Aj xs.length cj bm w) :: slc bpE 46 Aj cj (xs.map (·.b)) :: nodesA xs :: mailA bm m :: F)
      (Ret fun v G' => v = .int .i64 (writeM w xs m s fs).err ∧
        G' = row bq 92 (wrC Aj xs.length cj bm (writeM w xs m s fs).w) :: slc bpE 46 Aj cj (xs.map (·.b)) :: nodesA (writeM w xs m s fs).xs :: mailA bm (writeM w xs m s fs).m :: F) := by
  subst hk
  refine Fn.enter Tryz.func13 rfl Tryz.ntmps13 rfl ?_
  unfold I64 at hwe
  repeat' (first|refine bA ?_|refine bkq fun q=>?_|(refine bk2 ?_ ?_<;>(first|exact bkn|(refine bkk ?_;intro h))))
  · have e : writeM w xs m s fs = ⟨[], 14, w, xs, m⟩ := by unfold writeM; rw [if_pos (.inl h)]
    rw [e]
    exact QS.retV Tryz.results13 rfl ⟨rfl, rfl⟩
  · have e : writeM w xs m s fs = ⟨[], 14, w, xs, m⟩ := by unfold writeM; rw [if_pos (.inr h)]
    rw [e]
    exact QS.retV Tryz.results13 rfl ⟨rfl, rfl⟩
  · rename_i h0 h1
    have e : writeM w xs m s fs = ⟨[], 1, w, xs, m⟩ := by unfold writeM; rw [if_neg (by rw [h0]; simp [h1]), if_pos (by omega)]
    rw [e]
    exact QS.retV Tryz.results13 rfl ⟨rfl, rfl⟩
  · rename_i h0 h1 h2
    have e : writeM w xs m s fs = ⟨[], 4, w, xs, m⟩ := by unfold writeM; rw [if_neg (by rw [h0]; simp [h1]), if_neg (by omega), if_pos h]
    rw [e]
    exact QS.retV Tryz.results13 rfl ⟨rfl, rfl⟩
  · rename_i h0 h1 h2
    have hf : fitsB (w.n + 1) s = true := by unfold fitsB; exact decide_eq_true ⟨by omega, by omega, by omega⟩
    have e : writeM w xs m s fs = outW (allM w xs m (addS w.e (w.n + 1) s) fs) := by
      unfold writeM; rw [if_neg (by rw [h0]; simp [h1]), if_neg (by omega), if_neg h]; rfl
    have hadd : ∀ G, Fn Tryz.prog 36 [.int .i64 w.e, .agg #[.int .i64 (w.n + 1), .string s]] W0 G (Ret fun v G' => v = .tuple #[.string (addS w.e (w.n + 1) s), .int .i64 0] ∧ G' = G) := fun G => by
      have := j_Add w.e hwe (w.n + 1) s W0 G
      rw [if_pos hf] at this
      unfold addS
      rw [if_pos hf]
      exact this
    have hsz : (addS w.e (w.n + 1) s).size ≤ 9223372036854775807 := by
      unfold addS
      rw [if_pos hf, mk_size]
      have := joinB_len (addL_ok (ep := w.e) (x := ⟨w.n + 1, s⟩) hwe (by unfold I64; constructor <;> simp only <;> omega) (by simp only; omega))
      omega
    have haw : 0 ≤ (allM w xs m (addS w.e (w.n + 1) s) fs).w.n ∧ (allM w xs m (addS w.e (w.n + 1) s) fs).w.n ≤ 300 := by
      unfold allM
      simp only
      split
      · simp
      · simp only; omega
    rw [e]
    refine WQ.call c36 rfl rfl rfl rfl (hadd _) ?_
    repeat' (first|refine bA ?_|refine bkq fun q=>?_|(refine bk2 ?_ ?_<;>(first|exact bkn|(refine bkk ?_;intro h))))
    refine WL.call c31 rfl rfl rfl rfl (q_all bq Aj cj bm w xs hok hn m hm (addS w.e (w.n + 1) s) hsz A _ c fs rfl hI W0 F hR) ?_
    clear hadd hsz e
    generalize allM w xs m (addS w.e (w.n + 1) s) fs = a at haw ⊢
    rintro _ _ ⟨ls, Al, cl, hls, rfl, rfl⟩
    repeat' (first|refine bA ?_|refine bkq fun q=>?_|(refine bk2 ?_ ?_<;>(first|exact bkn|(refine bkk ?_;intro h))))
    · have eo : outW a = ⟨[], 0, { a.w with n := a.w.n + 1 }, a.xs, a.m⟩ := by unfold outW; rw [if_pos h, h]
      rw [eo, h]
      exact QS.turn (fun w hw => hw.drop.drop) (QS.retV Tryz.results13 rfl ⟨rfl, rfl⟩)
    · have eo : outW a = ⟨[], a.err, a.w, a.xs, a.m⟩ := by unfold outW; rw [if_neg h]
      rw [eo]
      exact QS.turn (fun w hw => hw.drop.drop) (QS.retV Tryz.results13 rfl ⟨rfl, rfl⟩)
set_option maxHeartbeats 4000000 in
theorem q_Begin (bq : Nat) (Aj : Option Addr) (cj bm : Nat) (w : Wr) (xs : List Nd) (hok : ∀ x ∈ xs, NdOk x) (hn : xs.length ≤ 5) (m : List Msg) (hm : m.length ≤ 50) (ep : Int) (hep : I64 ep) (A : Option Addr) (k c : Nat) (fs : List Int) (hk : k = fs.length) (hkc : k ≤ c) (hkb : k ≤ 9223372036854775807) (hI : ∀ x ∈ fs, I64 x) (W0 : World) (F : List SL) (hR : Rd W0 F intE A fs) :
    Fn Tryz.prog 12 [.pointer (some ⟨bq, 0, none⟩), .int .i64 ep, .slice A k c] W0
      (row bq 92 (wrC Aj xs.length cj bm w) :: slc bpE 46 Aj cj (xs.map (·.b)) :: nodesA xs :: mailA bm m :: F)
      (Ret fun v G' => ∃ Al cl, v = .tuple #[.slice Al (beginM w xs m ep fs).l.length cl, .int .i64 (beginM w xs m ep fs).err] ∧
        G' = slc entE 49 Al cl (beginM w xs m ep fs).l :: row bq 92 (wrC Aj xs.length cj bm (beginM w xs m ep fs).w) :: slc bpE 46 Aj cj (xs.map (·.b)) :: nodesA (beginM w xs m ep fs).xs :: mailA bm (beginM w xs m ep fs).m :: F) := by
  subst hk
  refine Fn.enter Tryz.func12 rfl Tryz.ntmps12 rfl ?_
  unfold I64 at hep
  repeat' (first|refine bA ?_|refine bkq fun q=>?_|(refine bk2 ?_ ?_<;>(first|exact bkn|(refine bkk ?_;intro h))))
  · have e : beginM w xs m ep fs = ⟨[], 14, w, xs, m⟩ := by unfold beginM; rw [if_pos (.inl h)]
    rw [e]
    exact QS.turn (fun w hw => hw.slcNil entE 49) (QS.retV Tryz.results12 rfl ⟨none, 0, rfl, rfl⟩)
  · have e : beginM w xs m ep fs = ⟨[], 14, w, xs, m⟩ := by unfold beginM; rw [if_pos (.inr h)]
    rw [e]
    exact QS.turn (fun w hw => hw.slcNil entE 49) (QS.retV Tryz.results12 rfl ⟨none, 0, rfl, rfl⟩)
  · rename_i h0 h1
    have e : beginM w xs m ep fs = ⟨[], 1, w, xs, m⟩ := by unfold beginM; rw [if_neg (by rw [h0]; simp [h1]), if_pos (.inl h)]
    rw [e]
    exact QS.turn (fun w hw => hw.slcNil entE 49) (QS.retV Tryz.results12 rfl ⟨none, 0, rfl, rfl⟩)
  · rename_i h0 h1 h2
    have e : beginM w xs m ep fs = ⟨[], 1, w, xs, m⟩ := by unfold beginM; rw [if_neg (by rw [h0]; simp [h1]), if_pos (.inr h)]
    rw [e]
    exact QS.turn (fun w hw => hw.slcNil entE 49) (QS.retV Tryz.results12 rfl ⟨none, 0, rfl, rfl⟩)
  · rename_i h0 h1 h2
    have e : beginM w xs m ep fs = (if (allM w xs m (promS ep) fs).err ≠ 0 then ⟨[], (allM w xs m (promS ep) fs).err, (allM w xs m (promS ep) fs).w, (allM w xs m (promS ep) fs).xs, (allM w xs m (promS ep) fs).m⟩ else begin2 ep fs (bestL (allM w xs m (promS ep) fs).logs) (allM w xs m (promS ep) fs).w (allM w xs m (promS ep) fs).xs (allM w xs m (promS ep) fs).m) := by
      unfold beginM; rw [if_neg (by rw [h0]; simp [h1]), if_neg (by omega)]
    rw [e]; clear e
    refine WL.call c32 rfl rfl rfl rfl (j_Promise ep hep W0 _) ?_
    rintro _ G2 ⟨rfl, hG2⟩
    rw [hG2]; clear hG2 G2
    have hsz : (promS ep).size ≤ 9223372036854775807 := by
      unfold promS; rw [mk_size]; have := joinB_len (promL_ok (ep := ep) hep); omega
    repeat' (first|refine bA ?_|refine bkq fun q=>?_|(refine bk2 ?_ ?_<;>(first|exact bkn|(refine bkk ?_;intro h))))
    refine WL.call c31 rfl rfl rfl rfl (q_all bq Aj cj bm w xs hok hn m hm (promS ep) hsz A _ c fs rfl hI W0 F hR) ?_
    obtain ⟨f1, f2, f3, f4, f5, f6, f7⟩ := all_facts (w := w) hok hm (promS ep) fs
    have hlg := all_logs (w := w) (xs := xs) (m := m) (s := promS ep) (fs := fs)
    generalize allM w xs m (promS ep) fs = a at f1 f2 f3 f4 f5 f6 f7 hlg ⊢
    obtain ⟨lg, er, w2, ys, m2⟩ := a
    simp only at f1 f2 f3 f4 f5 f6 f7 hlg ⊢
    rw [← f2, ← f3]
    rintro _ _ ⟨ls, Al, cl, hls, rfl, rfl⟩
    repeat' (first|refine bA ?_|refine bkq fun q=>?_|(refine bk2 ?_ ?_<;>(first|exact bkn|(refine bkk ?_;intro h))))
    · rw [if_pos h]
      exact QS.turn (fun w hw => hw.drop.drop.slcNil entE 49) (QS.retV Tryz.results12 rfl ⟨none, 0, rfl, rfl⟩)
    · subst h
      rw [if_neg (by simp)]
      obtain ⟨y, hy, hy0, hyL⟩ := bestI_is hls (f5 rfl).2
      rw [hyL]
      have hll := congrArg List.length hls
      rw [List.length_map] at hll
      have hym : y ∈ ls := List.mem_of_getElem? hy
      have hyo := hlg (lgOf y) (by rw [← hls]; exact List.mem_map_of_mem hym)
      refine WL.call c33 rfl rfl rfl rfl (choose_Best Al _ cl ls rfl (by have := f5 rfl; omega) W0 _ (Rd.slc (i := 0) rfl)) ?_
      rintro _ G2 ⟨rfl, hG2⟩
      rw [hG2]; clear hG2 G2
      repeat' (first|refine bA ?_|refine bkq fun q=>?_|(refine bk2 ?_ ?_<;>(first|exact bkn|(refine bkk ?_;intro h))))
      refine WL.idx TT (Rd.slc (i := 0) rfl) rfl rfl rfl hy0 hy rfl rfl rfl rfl (fun b3 o3 hA3 => ?_)
      repeat' (first|refine bA ?_|refine bkq fun q=>?_|(refine bk2 ?_ ?_<;>(first|exact bkn|(refine bkk ?_;intro h))))
      refine WL.s (op1_atF TT 1 hA3 rfl rfl rfl rfl rfl) rfl ?_
      repeat' (first|refine bA ?_|refine bkq fun q=>?_|(refine bk2 ?_ ?_<;>(first|exact bkn|(refine bkk ?_;intro h))))
      have hyl : y.xs.length ≤ 300 := (logOk_iff.1 hyo).1.2.2
      have hRy : ∀ {G'' : List SL} {i : Nat}, G''[i]? = some (entsA ls) → Rd W0 G'' entE y.A y.xs := fun h => ents_rd hym h
      refine WL.call c34 rfl rfl rfl rfl (j_Accept ep hep y.A _ y.c y.xs rfl (by omega) W0 _ (hRy (i := 1) rfl)) ?_
      rintro _ G2 ⟨rfl, hG2⟩
      rw [hG2]; clear hG2 G2
      have hyE : logOk ep y.xs = true := by
        obtain ⟨⟨_, _, l3⟩, l4⟩ := logOk_iff.1 hyo
        exact logOk_iff.2 ⟨⟨by omega, by omega, l3⟩, l4⟩
      have hacc : mk (joinB (accL ep y.xs)) = accS ep y.xs := by unfold accS; rw [if_pos hyE]
      have hsz2 : (accS ep y.xs).size ≤ 9223372036854775807 := by
        rw [← hacc, mk_size]; have := joinB_len (accL_ok hyE); omega
      rw [if_pos hyE, hacc]
      repeat' (first|refine bA ?_|refine bkq fun q=>?_|(refine bk2 ?_ ?_<;>(first|exact bkn|(refine bkk ?_;intro h))))
      obtain ⟨mn, hmn, hmn2⟩ : ∃ mn : Nat, (if (ys.length : Int) < (fs.length : Int) then (ys.length : Int) else (fs.length : Int)) = (mn : Int) ∧ mn = min fs.length ys.length := ⟨min fs.length ys.length, by split <;> omega, rfl⟩
      rw [hmn]
      refine WL.s (op1_sliceS (E := intE) (xs := fs) (l := (mn : Int)) (r := (fs.length : Int)) TT (by rfl) (by rfl) rfl rfl rfl rfl rfl (by omega) hkc) rfl ?_
      simp only [Int.toNat_natCast]
      have hRp : Rd W0 (slc lgE 45 Al cl ls :: entsA ls :: F) intE (if c = mn then A else A.map (·.add (mn * intE.sz))) (fs.drop mn) := by
        have := (hR.cons (P := entsA ls)).cons (P := slc lgE 45 Al cl ls) |>.part (c := c) (l := mn) (r := fs.length) (Nat.le_refl _) (by omega)
        rwa [List.take_length] at this
      generalize (if c = mn then A else A.map (·.add (mn * intE.sz))) = A7 at hRp ⊢
      have hId : ∀ x ∈ fs.drop mn, I64 x := fun x hx => hI x (List.mem_of_mem_drop hx)
      have hld : fs.length - mn = (fs.drop mn).length := by rw [List.length_drop]
      repeat' (first|refine bA ?_|refine bkq fun q=>?_|(refine bk2 ?_ ?_<;>(first|exact bkn|(refine bkk ?_;intro h))))
      refine WL.call c31 rfl rfl rfl rfl ((q_all bq Aj cj bm w2 ys f1 (by omega) m2 f4 (accS ep y.xs) hsz2 A7 _ (c - mn) (fs.drop mn) hld hId W0 (slc lgE 45 Al cl ls :: entsA ls :: F) hRp).pre (fun w hw => (((hw.front (i := 5) rfl).front (i := 5) rfl).front (i := 5) rfl).front (i := 5) rfl)) ?_
      obtain ⟨g1, g2, g3, g4, g5, g6, g7⟩ := all_facts (w := w2) f1 f4 (accS ep y.xs) (fs.drop mn)
      have eb : begin2 ep fs y.xs w2 ys m2 = (if (allM w2 ys m2 (accS ep y.xs) (fs.drop mn)).err ≠ 0 then ⟨[], (allM w2 ys m2 (accS ep y.xs) (fs.drop mn)).err, (allM w2 ys m2 (accS ep y.xs) (fs.drop mn)).w, (allM w2 ys m2 (accS ep y.xs) (fs.drop mn)).xs, (allM w2 ys m2 (accS ep y.xs) (fs.drop mn)).m⟩ else ⟨y.xs, 0, ⟨ep, y.xs.length, (allM w2 ys m2 (accS ep y.xs) (fs.drop mn)).w.over⟩, (allM w2 ys m2 (accS ep y.xs) (fs.drop mn)).xs, (allM w2 ys m2 (accS ep y.xs) (fs.drop mn)).m⟩) := by
        rw [hmn2]; rfl
      rw [eb]; clear eb
      generalize allM w2 ys m2 (accS ep y.xs) (fs.drop mn) = a at g1 g2 g3 g4 g5 g6 g7 ⊢
      obtain ⟨lg2, er2, w3, zs, m3⟩ := a
      simp only at g1 g2 g3 g4 g5 g6 g7 ⊢
      rintro _ _ ⟨ls2, Al2, cl2, hls2, rfl, rfl⟩
      repeat' (first|refine bA ?_|refine bkq fun q=>?_|(refine bk2 ?_ ?_<;>(first|exact bkn|(refine bkk ?_;intro h))))
      · rw [if_pos h]
        exact QS.turn (fun w hw => (((hw.drop.drop.kick (i := 4) rfl).kick (i := 4) rfl).slcNil entE 49)) (QS.retV Tryz.results12 rfl ⟨none, 0, rfl, rfl⟩)
      · subst h
        rw [if_neg (by simp)]
        refine WL.call c35 rfl rfl rfl rfl (ent_Clone y.A _ y.c y.xs rfl (by omega) W0 _ (hRy (i := 7) rfl)) ?_
        rintro _ _ ⟨A8, c8, rfl, rfl⟩
        repeat' (first|refine bA ?_|refine bkq fun q=>?_|(refine bk2 ?_ ?_<;>(first|exact bkn|(refine bkk ?_;intro h))))
        exact QS.turn (fun w hw => ((((hw.kick (i := 1) rfl).kick (i := 1) rfl).kick (i := 5) rfl).kick (i := 5) rfl)) (QS.retV Tryz.results12 rfl ⟨A8, c8, rfl, rfl⟩)
end Go.Proofs.YtfolmcpfdcgliaaGreat.B
