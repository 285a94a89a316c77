import Derived.Test.YtfolmcpfdcgliaaGreatMg38
import Derived.Test.YtfolmcpfdcgliaaGreatMg32
set_option linter.unusedVariables false
set_option linter.unusedSimpArgs false
set_option maxRecDepth 8000
/-! A writer asks all nodes. -/
namespace Go.Proofs.YtfolmcpfdcgliaaGreat.B
open Go Go.Proofs
attribute [local irreducible] WL CS QS WQ WH WS Fn Op1 row Sat
attribute [local irreducible] slc jA diskA mailA nodesA nodesX entsA gotA
abbrev wrC (Aj : Option Addr) (n cj bm : Nat) (w : Wr) : List Value := [.slice Aj n cj, .pointer (some ⟨bm, 0, none⟩), .int .i64 w.e, .int .i64 w.n, .bool w.over]
/-- A node of many is asked. -/
theorem q_hand {ys : List Nd} {i : Nat} {x : Nd} (hx : ys[i]? = some x) (hxo : NdOk x) (s : ByteArray) (hs : s.size ≤ 9223372036854775807) (W0 : World) (F : List SL) :
    Fn Tryz.prog 23 [.pointer (some ⟨x.b, 0, none⟩), .string s] W0 (nodesA ys :: F) (Ret fun v G' => v = .string (mk (x.ans (bs s))) ∧ G' = nodesA (ys.set i (x.hand (bs s))) :: F) :=
  Fn.post ((j_Handle x.b x.d x.J hxo.J x.D hxo.D s hs W0 (nodesX ys i :: F)).pre (nodes_open hx)) (Ret.post fun v G' ⟨h1, h2⟩ => ⟨nodesA (ys.set i (x.hand (bs s))) :: F, fun w hw => by rw [h2] at hw; exact nodes_shut hx w hw, h1, rfl⟩)
theorem set_at {ys : List Nd} {i : Nat} {x y : Nd} (hx : ys[i]? = some x) : (ys.set i y)[i]? = some y := by
  rw [List.getElem?_set_self (List.getElem?_eq_some_iff.1 hx).1]
theorem set_self {ys : List Nd} {i : Nat} {x : Nd} (hx : ys[i]? = some x) : ys.set i x = ys := by
  obtain ⟨h, rfl⟩ := List.getElem?_eq_some_iff.1 hx
  exact List.set_getElem_self h
theorem heard_m (t : Int × List Ent × Int) (σ : Got) : (heard t σ).m = σ.m := by unfold heard; split; rfl; split <;> rfl
set_option maxHeartbeats 4000000 in
theorem q_each (bq : Nat) (Aj : Option Addr) (cj bm : Nat) (w : Wr) (xs : List Nd) (hok : ∀ x ∈ xs, NdOk x) (hn : xs.length ≤ 5) (m : List Msg) (hm : m.length ≤ 50) (s : ByteArray) (hs : s.size ≤ 9223372036854775807) (A : Option Addr) (k c : Nat) (fs : List Int) (hk : k = fs.length) (hI : ∀ x ∈ fs, I64 x) (bl bb : Nat) (W0 : World) (F : List SL) (hR : Rd W0 F intE A fs) :
    Fn Tryz.prog 72 [.pointer (some ⟨bq, 0, none⟩), .string s, .slice A k c, .func (.func 73) #[] #[.pointer (some ⟨bl, 0, none⟩), .pointer (some ⟨bb, 0, none⟩)]] W0
      (row bq 92 (wrC Aj xs.length cj bm w) :: slc bpE 46 Aj cj (xs.map (·.b)) :: nodesA xs :: mailA bm m :: gotA bl bb [] 12 :: F)
      (Ret fun v G' => v = .tuple #[] ∧ G' = row bq 92 (wrC Aj xs.length cj bm w) :: slc bpE 46 Aj cj (xs.map (·.b)) :: nodesA (ndsM fs s xs xs.length) :: mailA bm (gotsM fs s xs m xs.length).m :: gotA bl bb (gotsM fs s xs m xs.length).logs (gotsM fs s xs m xs.length).bad :: F) := by
  subst hk
  refine Fn.enter Tryz.func72 rfl Tryz.ntmps72 rfl ?_
  simp only [wrC]
  repeat' (first|refine bk ?_|refine bkc ?_|refine bks ?_|refine bkd ?_|refine bkq (fun q => ?_)|(refine bk2 ?_ ?_<;>(first|exact bkn|(refine bkk ?_;intro h))))
  refine CS.loop (X := Nat) (fun i => [(0, .pointer (some ⟨bq, 0, none⟩)), (1, .string s), (2, .slice A fs.length c), (3, .func (.func 73) #[] #[.pointer (some ⟨bl, 0, none⟩), .pointer (some ⟨bb, 0, none⟩)]), (15, .slice Aj xs.length cj), (16, .int .i64 (xs.length : Int)), (17, .int .i64 (i : Int))])
    (fun i => row bq 92 (wrC Aj xs.length cj bm w) :: slc bpE 46 Aj cj (xs.map (·.b)) :: nodesA (ndsM fs s xs i) :: mailA bm (gotsM fs s xs m i).m :: gotA bl bb (gotsM fs s xs m i).logs (gotsM fs s xs m i).bad :: F)
    (fun i => i ≤ xs.length) (fun i => xs.length - i) 0 ⟨rfl, rfl, rfl, rfl, rfl, rfl, rfl, trivial⟩ (fun w hs => by rw [ndsM_zero]; exact hs) (Nat.zero_le _) ?_
  intro i hi
  by_cases hix : i < xs.length
  rotate_left 1
  · obtain rfl : i = xs.length := by omega
    repeat' (first|refine bk ?_|refine bkc ?_|refine bks ?_|refine bkd ?_|refine bkq (fun q => ?_)|(refine bk2 ?_ ?_<;>(first|exact bkn|(refine bkk ?_;intro h))))
    exact QS.endV Tryz.results72 rfl ⟨rfl, rfl⟩
  obtain ⟨x, hx⟩ : ∃ x, xs[i]? = some x := ⟨xs[i]'hix, List.getElem?_eq_getElem hix⟩
  have hxo := hok x (List.mem_of_getElem? hx)
  have hgl := gotsM_len fs s xs m i
  have hml : (gotsM fs s xs m i).m.length ≤ 50 := gotsM_mail fs s xs m hm i
  have hg1 : gotsM fs s xs m (i + 1) = gotM (fateM fs i) i s x (gotsM fs s xs m i) := by rw [gotsM, hx]
  have hn1 := ndsM_succ (fs := fs) (s := s) hx
  have hnx := ndsM_get (fs := fs) (s := s) (i := i) hx
  generalize ndsM fs s xs i = ys at hn1 hnx ⊢
  generalize gotsM fs s xs m i = σ at hgl hml hg1 ⊢
  obtain ⟨lg, bad, mm⟩ := σ
  simp only at hgl hml hg1 ⊢
  repeat' (first|refine bk ?_|refine bkc ?_|refine bks ?_|refine bkd ?_|refine bkq (fun q => ?_)|(refine bk2 ?_ ?_<;>(first|exact bkn|(refine bkk ?_;intro h))))
  refine WL.idx TT (Rd.slc (i := 1) rfl) rfl rfl (by rw [List.length_map]) (by omega) (x := x.b) (by rw [Int.toNat_natCast, List.getElem?_map, hx]; rfl) rfl rfl rfl rfl (fun bb2 o hA => ?_)
  refine WL.s (op1_at TT hA rfl rfl rfl rfl) rfl ?_
  repeat' (first|refine bk ?_|refine bkc ?_|refine bks ?_|refine bkd ?_|refine bkq (fun q => ?_)|(refine bk2 ?_ ?_<;>(first|exact bkn|(refine bkk ?_;intro h))))
  refine WL.call c37 rfl rfl rfl rfl (q_fate A _ c fs rfl hI i W0 _ hR.cons.cons.cons.cons.cons) ?_
  rintro _ G2 ⟨rfl, hG2⟩
  rw [hG2]; clear hG2 G2
  have hfr := fate_range fs i
  generalize fateM fs i = f at hfr hg1 hn1 ⊢
  have hf : f = 0 ∨ f = 1 ∨ f = 2 ∨ f = 3 ∨ f = 4 := by omega
  rcases hf with rfl | rfl | rfl | rfl | rfl
  · have e1 : gotsM fs s xs m (i + 1) = heard (toldM (x.ans (bs s))) ⟨lg, bad, mm⟩ := by rw [hg1]; simp [gotM]
    have e2 : ndsM fs s xs (i + 1) = ys.set i (x.hand (bs s)) := by rw [hn1]; simp [ndM]
    have e3 := heard_m (toldM (x.ans (bs s))) ⟨lg, bad, mm⟩
    repeat' (first|refine bk ?_|refine bkc ?_|refine bks ?_|refine bkd ?_|refine bkq (fun q => ?_)|(refine bk2 ?_ ?_<;>(first|exact bkn|(refine bkk ?_;intro h))))
    refine WL.call c23 rfl rfl rfl rfl ((q_hand hnx hxo s hs W0 _).pre (fun w hw => hw.front (i := 2) rfl)) ?_
    rintro _ _ ⟨rfl, rfl⟩
    repeat' (first|refine bk ?_|refine bkc ?_|refine bks ?_|refine bkd ?_|refine bkq (fun q => ?_)|(refine bk2 ?_ ?_<;>(first|exact bkn|(refine bkk ?_;intro h))))
    refine WL.call c120 rfl rfl rfl rfl (j_Told _ (ans_size _ _) W0 _) ?_
    rintro _ _ ⟨A4, c4, rfl, rfl⟩
    rw [bs_mk]
    repeat' (first|refine bk ?_|refine bkc ?_|refine bks ?_|refine bkd ?_|refine bkq (fun q => ?_)|(refine bk2 ?_ ?_<;>(first|exact bkn|(refine bkk ?_;intro h))))
    refine WL.call (fst := []) (cap := [.pointer (some ⟨bl, 0, none⟩), .pointer (some ⟨bb, 0, none⟩)]) c73 rfl rfl rfl rfl ((q_heard bl bb lg bad mm (by omega) _ A4 c4 _ _ W0 _).pre (fun w hw => (hw.front (i := 5) rfl).front (i := 1) rfl)) ?_
    rintro _ _ ⟨rfl, rfl⟩
    repeat' (first|refine bk ?_|refine bkc ?_|refine bks ?_|refine bkd ?_|refine bkq (fun q => ?_)|(refine bk2 ?_ ?_<;>(first|exact bkn|(refine bkk ?_;intro h))))
    refine QS.again (i + 1) hix (by show xs.length - (i + 1) < xs.length - i; omega) ⟨rfl, rfl, rfl, rfl, rfl, rfl, rfl, trivial⟩ (fun w hw => ?_)
    rw [e1, e2, e3]
    exact (((hw.front (i := 4) rfl).front (i := 2) rfl).front (i := 4) rfl).front (i := 4) rfl
  · have e1 : gotsM fs s xs m (i + 1) = ⟨lg, bad, mm⟩ := by rw [hg1]; simp [gotM]
    have e2 : ndsM fs s xs (i + 1) = ys := by rw [hn1]; simp only [ndM, true_or, if_true]; exact set_self hnx
    repeat' (first|refine bk ?_|refine bkc ?_|refine bks ?_|refine bkd ?_|refine bkq (fun q => ?_)|(refine bk2 ?_ ?_<;>(first|exact bkn|(refine bkk ?_;intro h))))
    refine QS.again (i + 1) hix (by show xs.length - (i + 1) < xs.length - i; omega) ⟨rfl, rfl, rfl, rfl, rfl, rfl, rfl, trivial⟩ (fun w hw => ?_)
    rw [e1, e2]
    exact hw
  · have e1 : gotsM fs s xs m (i + 1) = ⟨lg, bad, mm⟩ := by rw [hg1]; simp [gotM]
    have e2 : ndsM fs s xs (i + 1) = ys.set i (x.hand (bs s)) := by rw [hn1]; simp [ndM]
    repeat' (first|refine bk ?_|refine bkc ?_|refine bks ?_|refine bkd ?_|refine bkq (fun q => ?_)|(refine bk2 ?_ ?_<;>(first|exact bkn|(refine bkk ?_;intro h))))
    refine WL.call c23 rfl rfl rfl rfl ((q_hand hnx hxo s hs W0 _).pre (fun w hw => hw.front (i := 2) rfl)) ?_
    rintro _ _ ⟨rfl, rfl⟩
    repeat' (first|refine bk ?_|refine bkc ?_|refine bks ?_|refine bkd ?_|refine bkq (fun q => ?_)|(refine bk2 ?_ ?_<;>(first|exact bkn|(refine bkk ?_;intro h))))
    refine QS.again (i + 1) hix (by show xs.length - (i + 1) < xs.length - i; omega) ⟨rfl, rfl, rfl, rfl, rfl, rfl, rfl, trivial⟩ (fun w hw => ?_)
    rw [e1, e2]
    exact (hw.front (i := 2) rfl).front (i := 2) rfl
  · have e1 : gotsM fs s xs m (i + 1) = heard (toldM (x.ans (bs s))) ⟨lg, bad, mm⟩ := by rw [hg1]; simp [gotM]
    have e2 : ndsM fs s xs (i + 1) = (ys.set i (x.hand (bs s))).set i ((x.hand (bs s)).hand (bs s)) := by rw [hn1, List.set_set]; simp [ndM]
    have e3 := heard_m (toldM (x.ans (bs s))) ⟨lg, bad, mm⟩
    repeat' (first|refine bk ?_|refine bkc ?_|refine bks ?_|refine bkd ?_|refine bkq (fun q => ?_)|(refine bk2 ?_ ?_<;>(first|exact bkn|(refine bkk ?_;intro h))))
    refine WL.call c23 rfl rfl rfl rfl ((q_hand hnx hxo s hs W0 _).pre (fun w hw => hw.front (i := 2) rfl)) ?_
    rintro _ _ ⟨rfl, rfl⟩
    repeat' (first|refine bk ?_|refine bkc ?_|refine bks ?_|refine bkd ?_|refine bkq (fun q => ?_)|(refine bk2 ?_ ?_<;>(first|exact bkn|(refine bkk ?_;intro h))))
    refine WL.call c23 rfl rfl rfl rfl (q_hand (set_at hnx) (hand_ok hxo _) s hs W0 _) ?_
    rintro _ _ ⟨rfl, rfl⟩
    repeat' (first|refine bk ?_|refine bkc ?_|refine bks ?_|refine bkd ?_|refine bkq (fun q => ?_)|(refine bk2 ?_ ?_<;>(first|exact bkn|(refine bkk ?_;intro h))))
    refine WL.call c120 rfl rfl rfl rfl (j_Told _ (ans_size _ _) W0 _) ?_
    rintro _ _ ⟨A4, c4, rfl, rfl⟩
    rw [bs_mk]
    repeat' (first|refine bk ?_|refine bkc ?_|refine bks ?_|refine bkd ?_|refine bkq (fun q => ?_)|(refine bk2 ?_ ?_<;>(first|exact bkn|(refine bkk ?_;intro h))))
    refine WL.call (fst := []) (cap := [.pointer (some ⟨bl, 0, none⟩), .pointer (some ⟨bb, 0, none⟩)]) c73 rfl rfl rfl rfl ((q_heard bl bb lg bad mm (by omega) _ A4 c4 _ _ W0 _).pre (fun w hw => (hw.front (i := 5) rfl).front (i := 1) rfl)) ?_
    rintro _ _ ⟨rfl, rfl⟩
    repeat' (first|refine bk ?_|refine bkc ?_|refine bks ?_|refine bkd ?_|refine bkq (fun q => ?_)|(refine bk2 ?_ ?_<;>(first|exact bkn|(refine bkk ?_;intro h))))
    refine QS.again (i + 1) hix (by show xs.length - (i + 1) < xs.length - i; omega) ⟨rfl, rfl, rfl, rfl, rfl, rfl, rfl, trivial⟩ (fun w hw => ?_)
    rw [e1, e2, e3]
    exact (((hw.front (i := 4) rfl).front (i := 2) rfl).front (i := 4) rfl).front (i := 4) rfl
  · have e1 : gotsM fs s xs m (i + 1) = ⟨lg, bad, sendM mm i s⟩ := by rw [hg1]; simp [gotM]
    have e2 : ndsM fs s xs (i + 1) = ys := by rw [hn1]; simp only [ndM, or_true, if_true]; exact set_self hnx
    repeat' (first|refine bk ?_|refine bkc ?_|refine bks ?_|refine bkd ?_|refine bkq (fun q => ?_)|(refine bk2 ?_ ?_<;>(first|exact bkn|(refine bkk ?_;intro h))))
    refine WL.call c119 rfl rfl rfl rfl ((mail_Send bm mm hml i s W0 _).pre (fun w hw => hw.front (i := 3) rfl)) ?_
    rintro _ _ ⟨_, rfl⟩
    repeat' (first|refine bk ?_|refine bkc ?_|refine bks ?_|refine bkd ?_|refine bkq (fun q => ?_)|(refine bk2 ?_ ?_<;>(first|exact bkn|(refine bkk ?_;intro h))))
    refine QS.again (i + 1) hix (by show xs.length - (i + 1) < xs.length - i; omega) ⟨rfl, rfl, rfl, rfl, rfl, rfl, rfl, trivial⟩ (fun w hw => ?_)
    rw [e1, e2]
    exact ((hw.front (i := 3) rfl).front (i := 3) rfl).front (i := 3) rfl
end Go.Proofs.YtfolmcpfdcgliaaGreat.B
