import Derived.Test.YtfolmcpfdcgliaaGreatMg13
import Derived.Test.YtfolmcpfdcgliaaGreatMg22
import Derived.Test.YtfolmcpfdcgliaaGreatMg17
import Derived.Test.YtfolmcpfdcgliaaGreatMg10
import Derived.Test.YtfolmcpfdcgliaaGreatMg8
set_option linter.unusedVariables false
set_option linter.unusedSimpArgs false
set_option maxRecDepth 8000
namespace Go.Proofs.YtfolmcpfdcgliaaGreat.B
open Go Go.Proofs
attribute [local irreducible] WL CS QS WQ WH WS Fn Op1 row Sat
attribute [local irreducible] slc
theorem j_join (A : Option Addr) (k c : Nat) (xs : List ByteArray) (hk : k = xs.length) (hx : joinOk xs = true) (W0 : World) (G : List SL) (hR : Rd W0 G strE A xs) :
    Fn Tryz.prog 74 [.slice A k c] W0 G (Ret fun v G' => v = .string (mk (joinB xs)) ∧ G' = G) := by
  obtain ⟨h1, h2⟩ := joinOk_iff.1 hx
  refine Fn.enter Tryz.func74 rfl Tryz.ntmps74 rfl ?_
  repeat' (first|refine bA ?_|refine bkq fun q=>?_|(refine bk2 ?_ ?_<;>(first|exact bkn|(refine bkk ?_;intro h))))
  refine WL.call c121 rfl rfl rfl rfl (wire_Join A k c xs hk (fun s hs => by have := h2 s hs; omega) (by omega) W0 _ hR) ?_
  rintro _ G2 ⟨rfl, hG2⟩
  rw [hG2]; clear hG2 G2
  rw [if_pos hx]
  repeat' (first|refine bA ?_|refine bkq fun q=>?_|(refine bk2 ?_ ?_<;>(first|exact bkn|(refine bkk ?_;intro h))))
  exact QS.retV Tryz.results74 rfl ⟨rfl, rfl⟩
theorem j_Promise (ep : Int) (h : I64 ep) (W0 : World) (G : List SL) :
    Fn Tryz.prog 32 [.int .i64 ep] W0 G (Ret fun v G' => v = .string (mk (joinB (promL ep))) ∧ G' = G) := by
  refine Fn.enter Tryz.func32 rfl Tryz.ntmps32 rfl ?_
  repeat' (first|refine bA ?_|refine bkq fun q=>?_|(refine bk2 ?_ ?_<;>(first|exact bkn|(refine bkk ?_;intro h))))
  refine WL.call c75 rfl rfl rfl rfl (wire_Num h W0 _) ?_
  rintro _ G2 ⟨rfl, hG2⟩
  rw [hG2]; clear hG2 G2
  repeat' (first|refine bA ?_|refine bkq fun q=>?_|(refine bk2 ?_ ?_<;>(first|exact bkn|(refine bkk ?_;intro h))))
  refine WL.buildSlice TT rfl rfl rfl rfl rfl rfl rfl rfl (fun q => ?_)
  refine WL.call c74 rfl rfl rfl rfl (j_join _ _ _ (promL ep) rfl (promL_ok h) W0 _ (Rd.row (i := 0) rfl rfl)) ?_
  rintro _ _ ⟨rfl, rfl⟩
  repeat' (first|refine bA ?_|refine bkq fun q=>?_|(refine bk2 ?_ ?_<;>(first|exact bkn|(refine bkk ?_;intro h))))
  exact QS.turn (G' := G) (fun w hs => hs.drop) (QS.retV Tryz.results32 rfl ⟨rfl, rfl⟩)
theorem j_said (e : Int) (h : I64 e) (W0 : World) (G : List SL) :
    Fn Tryz.prog 52 [.int .i64 e] W0 G (Ret fun v G' => v = .string (mk (saidB e)) ∧ G' = G) := by
  refine Fn.enter Tryz.func52 rfl Tryz.ntmps52 rfl ?_
  repeat' (first|refine bA ?_|refine bkq fun q=>?_|(refine bk2 ?_ ?_<;>(first|exact bkn|(refine bkk ?_;intro h))))
  refine WL.call c75 rfl rfl rfl rfl (wire_Num h W0 _) ?_
  rintro _ G2 ⟨rfl, hG2⟩
  rw [hG2]; clear hG2 G2
  repeat' (first|refine bA ?_|refine bkq fun q=>?_|(refine bk2 ?_ ?_<;>(first|exact bkn|(refine bkk ?_;intro h))))
  refine WL.buildSlice TT rfl rfl rfl rfl rfl rfl rfl rfl (fun q => ?_)
  refine WL.call c74 rfl rfl rfl rfl (j_join _ _ _ (saidL e) rfl (saidL_ok h) W0 _ (Rd.row (i := 0) rfl rfl)) ?_
  rintro _ _ ⟨rfl, rfl⟩
  repeat' (first|refine bA ?_|refine bkq fun q=>?_|(refine bk2 ?_ ?_<;>(first|exact bkn|(refine bkk ?_;intro h))))
  exact QS.turn (G' := G) (fun w hs => hs.drop) (QS.retV Tryz.results52 rfl ⟨rfl, rfl⟩)
set_option maxHeartbeats 1000000 in
theorem j_Accept (ep : Int) (h : I64 ep) (A : Option Addr) (k c : Nat) (xs : List Ent) (hk : k = xs.length) (hl : xs.length ≤ 9223372036854775807) (W0 : World) (G : List SL) (hR : Rd W0 G entE A xs) :
    Fn Tryz.prog 34 [.int .i64 ep, .slice A k c] W0 G (Ret fun v G' => v = (if logOk ep xs = true then .tuple #[.string (mk (joinB (accL ep xs))), .int .i64 0] else .tuple #[.string ⟨#[]⟩, .int .i64 1]) ∧ G' = G) := by
  subst hk
  refine Fn.enter Tryz.func34 rfl Tryz.ntmps34 rfl ?_
  repeat' (first|refine bA ?_|refine bkq fun q=>?_|(refine bk2 ?_ ?_<;>(first|exact bkn|(refine bkk ?_;intro h))))
  refine WL.call c57 rfl rfl rfl rfl (log_Right ep A _ c xs rfl W0 _ hR) ?_
  rintro _ G2 ⟨rfl, hG2⟩
  rw [hG2]; clear hG2 G2
  cases hok : logOk ep xs with
  | false =>
    repeat' (first|refine bA ?_|refine bkq fun q=>?_|(refine bk2 ?_ ?_<;>(first|exact bkn|(refine bkk ?_;intro h))))
    exact QS.retV Tryz.results34 rfl ⟨rfl, rfl⟩
  | true =>
    obtain ⟨⟨h1, h2, h3⟩, h4⟩ := logOk_iff.1 hok
    repeat' (first|refine bA ?_|refine bkq fun q=>?_|(refine bk2 ?_ ?_<;>(first|exact bkn|(refine bkk ?_;intro h))))
    refine WL.call c75 rfl rfl rfl rfl (wire_Num h W0 _) ?_
    rintro _ G2 ⟨rfl, hG2⟩
    rw [hG2]; clear hG2 G2
    repeat' (first|refine bA ?_|refine bkq fun q=>?_|(refine bk2 ?_ ?_<;>(first|exact bkn|(refine bkk ?_;intro h))))
    refine WL.buildSlice TT rfl rfl rfl rfl rfl rfl rfl rfl (fun q => ?_)
    repeat' (first|refine bA ?_|refine bkq fun q=>?_|(refine bk2 ?_ ?_<;>(first|exact bkn|(refine bkk ?_;intro h))))
    refine CS.loop (X := Nat × Option Addr × Nat) (fun y => [(4, .string ⟨#[]⟩), (5, .int .i64 0), (6, .slice y.2.1 (accL ep (xs.take y.1)).length y.2.2), (17, .slice A xs.length c), (18, .int .i64 (xs.length : Int)), (19, .int .i64 (y.1 : Int))])
      (fun y => slc strE 9 y.2.1 y.2.2 (accL ep (xs.take y.1)) :: G) (fun y => y.1 ≤ xs.length) (fun y => xs.length - y.1) (0, some ⟨q, 0, none⟩, 2) ⟨rfl, rfl, rfl, rfl, rfl, rfl, trivial⟩ (fun w hs => row_own strE (accL ep []) rfl (by simp [accL, maxLen]) hs) (Nat.zero_le _) ?_
    rintro ⟨i, A1, c1⟩ hi
    simp only at hi ⊢
    have hal : (accL ep (xs.take i)).length = i + 2 := by simp [accL]; omega
    repeat' (first|refine bA ?_|refine bkq fun q=>?_|(refine bk2 ?_ ?_<;>(first|exact bkn|(refine bkk ?_;intro h))))
    · obtain ⟨x, hx⟩ : ∃ x, xs[i]? = some x := ⟨xs[i]'(by omega), List.getElem?_eq_getElem (by omega)⟩
      refine WL.idx TT hR.cons rfl rfl rfl (by omega) (by rw [Int.toNat_natCast]; exact hx) rfl rfl rfl rfl (fun bb o hA => ?_)
      refine WL.s (op1_at TT hA rfl rfl rfl rfl) rfl ?_
      repeat' (first|refine bA ?_|refine bkq fun q=>?_|(refine bk2 ?_ ?_<;>(first|exact bkn|(refine bkk ?_;intro h))))
      refine WL.buildSlice TT rfl rfl rfl rfl rfl rfl rfl rfl (fun qs => ?_)
      refine WL.append TT (E := strE) (xs := accL ep (xs.take i)) (ys := [x.s]) 2 rfl rfl rfl rfl rfl (Rd.row (i := 0) rfl rfl) rfl rfl rfl rfl rfl (by decide) (by simp only [List.length_cons, List.length_nil]; omega) (fun _ _ => rfl) rfl (fun A5 c5 => ?_)
      have hsn : accL ep (xs.take i) ++ [x.s] = accL ep (xs.take (i + 1)) := by
        rw [List.take_add_one, hx]; simp [accL]
      rw [hsn]
      repeat' (first|refine bA ?_|refine bkq fun q=>?_|(refine bk2 ?_ ?_<;>(first|exact bkn|(refine bkk ?_;intro h))))
      refine QS.again (i + 1, A5, c5) (by simp only; omega) (by simp only; omega) ⟨rfl, rfl, rfl, rfl, rfl, ?_, trivial⟩ (fun w hs => hs.drop.drop)
      rw [show ((i + 1 : Nat) : Int) = (i : Int) + 1 from by omega]; rfl
    · have hix : i = xs.length := by omega
      subst hix
      rw [List.take_length] at *
      refine WL.call c74 rfl rfl rfl rfl (j_join _ _ _ (accL ep xs) rfl (accL_ok hok) W0 _ (Rd.slc (i := 0) rfl)) ?_
      rintro _ _ ⟨rfl, rfl⟩
      repeat' (first|refine bA ?_|refine bkq fun q=>?_|(refine bk2 ?_ ?_<;>(first|exact bkn|(refine bkk ?_;intro h))))
      exact QS.turn (G' := G) (fun w hs => hs.drop) (QS.retV Tryz.results34 rfl ⟨rfl, rfl⟩)
def fitsB (n : Int) (s : ByteArray) : Bool := decide (1 ≤ n ∧ n ≤ 300 ∧ s.size ≤ 600)
theorem logOk_one (s : ByteArray) : logOk 0 [⟨1, s⟩] = decide (s.size ≤ 600) := by
  simp [logOk, entsOk]
theorem j_fits (n : Int) (s : ByteArray) (W0 : World) (G : List SL) :
    Fn Tryz.prog 58 [.agg #[.int .i64 n, .string s]] W0 G (Ret fun v G' => v = .bool (fitsB n s) ∧ G' = G) := by
  refine Fn.enter Tryz.func58 rfl Tryz.ntmps58 rfl ?_
  repeat' (first|refine bA ?_|refine bkq fun q=>?_|(refine bk2 ?_ ?_<;>(first|exact bkn|(refine bkk ?_;intro h))))
  · refine WL.buildSlice TT rfl rfl rfl rfl rfl rfl rfl rfl (fun qs => ?_)
    repeat' (first|refine bA ?_|refine bkq fun q=>?_|(refine bk2 ?_ ?_<;>(first|exact bkn|(refine bkk ?_;intro h))))
    refine WL.call c57 rfl rfl rfl rfl (log_Right 0 _ 1 _ [⟨1, s⟩] rfl W0 _ (Rd.row (i := 0) rfl rfl)) ?_
    rintro _ _ ⟨rfl, rfl⟩
    rw [logOk_one]
    repeat' (first|refine bA ?_|refine bkq fun q=>?_|(refine bk2 ?_ ?_<;>(first|exact bkn|(refine bkk ?_;intro h))))
    refine QS.turn (G' := G) (fun w hs => hs.drop.drop) (QS.retV Tryz.results58 rfl ⟨?_, rfl⟩)
    rw [fitsB, show decide (1 ≤ n ∧ n ≤ 300 ∧ s.size ≤ 600) = decide (s.size ≤ 600) from by simp [*]]; rfl
  all_goals
    refine QS.turn (G' := G) (fun w hs => hs.drop) (QS.retV Tryz.results58 rfl ⟨?_, rfl⟩)
    rw [fitsB, show decide (1 ≤ n ∧ n ≤ 300 ∧ s.size ≤ 600) = false from decide_eq_false (by omega)]; rfl
set_option maxHeartbeats 1000000 in
theorem j_Add (ep : Int) (h : I64 ep) (n : Int) (s : ByteArray) (W0 : World) (G : List SL) :
    Fn Tryz.prog 36 [.int .i64 ep, .agg #[.int .i64 n, .string s]] W0 G (Ret fun v G' => v = (if fitsB n s = true then .tuple #[.string (mk (joinB (addL ep ⟨n, s⟩))), .int .i64 0] else .tuple #[.string ⟨#[]⟩, .int .i64 1]) ∧ G' = G) := by
  refine Fn.enter Tryz.func36 rfl Tryz.ntmps36 rfl ?_
  repeat' (first|refine bA ?_|refine bkq fun q=>?_|(refine bk2 ?_ ?_<;>(first|exact bkn|(refine bkk ?_;intro h))))
  refine WL.call c58 rfl rfl rfl rfl (j_fits n s W0 _) ?_
  rintro _ G2 ⟨rfl, hG2⟩
  rw [hG2]; clear hG2 G2
  cases hf : fitsB n s with
  | false =>
    repeat' (first|refine bA ?_|refine bkq fun q=>?_|(refine bk2 ?_ ?_<;>(first|exact bkn|(refine bkk ?_;intro h))))
    exact QS.turn (G' := G) (fun w hs => hs.drop) (QS.retV Tryz.results36 rfl ⟨rfl, rfl⟩)
  | true =>
    have hf2 := of_decide_eq_true hf
    have hI : I64 n := by unfold I64; omega
    repeat' (first|refine bA ?_|refine bkq fun q=>?_|(refine bk2 ?_ ?_<;>(first|exact bkn|(refine bkk ?_;intro h))))
    refine CS.drawA _ (fun w hs => hs) mixed (by kernel_rfl) rfl ?_
    repeat' (first|refine bka ?_|(refine bk2a ?_ ?_<;>(first|exact bkn|(refine bkk ?_;intro h))))
    refine WA.call rfl rfl (by kernel_rfl) rfl c75 rfl rfl rfl rfl (fun G' _ => wire_Num h W0 G') ?_
    repeat' (first|refine bka ?_|(refine bk2a ?_ ?_<;>(first|exact bkn|(refine bkk ?_;intro h))))
    refine WA.call rfl rfl (by kernel_rfl) rfl c75 rfl rfl rfl rfl (fun G' _ => wire_Num hI W0 G') ?_
    repeat' (first|refine bka ?_|(refine bk2a ?_ ?_<;>(first|exact bkn|(refine bkk ?_;intro h))))
    refine WA.e1 7 (by kernel_rfl) (by kernel_rfl) rfl rfl (EffC.of (Eff.buildSlice TT rfl rfl rfl rfl rfl rfl rfl)) rfl ?_
    rintro _ _ ⟨q2, rfl, rfl⟩
    refine ⟨fun w hs => hs.drop, ?_⟩
    refine WA.e1 8 (by kernel_rfl) (by kernel_rfl) rfl rfl (EffC.call c74 rfl rfl rfl (j_join _ _ _ (addL ep ⟨n, s⟩) rfl (addL_ok h hI hf2.2.2) W0 _ (Rd.row (i := 0) rfl rfl))) rfl ?_
    rintro _ _ ⟨rfl, rfl⟩
    refine ⟨fun w hs => hs.drop, ?_⟩
    repeat' (first|refine bka ?_|(refine bk2a ?_ ?_<;>(first|exact bkn|(refine bkk ?_;intro h))))
    refine WA.fin rfl ?_
    repeat' (first|refine bA ?_|refine bkq fun q=>?_|(refine bk2 ?_ ?_<;>(first|exact bkn|(refine bkk ?_;intro h))))
    exact QS.turn (G' := G) (fun w hs => hs.drop.drop) (QS.retV Tryz.results36 rfl ⟨rfl, rfl⟩)
def tornJ : List PanicEntry := [{ v := .iface 129 (.agg #[]), recovered := false }]
def mustR (b : Bool) (G : List SL) : Ending → List SL → Prop
  | .returned v, G' => b = true ∧ v = .tuple #[] ∧ G' = G
  | .panicked ch, G' => b = false ∧ ch = tornJ ∧ G' = G
  | .outgrown, _ => False
theorem j_must (b : Bool) (W0 : World) (G : List SL) : Fn Tryz.prog 55 [.bool b] W0 G (mustR b G) := by
  refine Fn.enter Tryz.func55 rfl Tryz.ntmps55 rfl ?_
  repeat' (first|refine bA ?_|refine bkq fun q=>?_|(refine bk2 ?_ ?_<;>(first|exact bkn|(refine bkk ?_;intro h))))
  · refine WL.s (op1_iface TT rfl rfl rfl) rfl ?_
    refine WL.panic rfl ?_
    repeat' (first|refine bA ?_|refine bkq fun q=>?_|(refine bk2 ?_ ?_<;>(first|exact bkn|(refine bkk ?_;intro h))))
    exact QS.panicV ⟨h, rfl, rfl⟩
  · exact QS.endV Tryz.results55 rfl ⟨h, rfl, rfl⟩
def numR (s : ByteArray) (G : List SL) : Ending → List SL → Prop
  | .returned v, G' => (∃ n, numP s = some n ∧ v = .int .i64 n) ∧ G' = G
  | .panicked ch, G' => numP s = none ∧ ch = tornJ ∧ G' = G
  | .outgrown, _ => False
theorem j_number (s : ByteArray) (hs : s.size ≤ 9223372036854775807) (W0 : World) (G : List SL) : Fn Tryz.prog 56 [.string s] W0 G (numR s G) := by
  refine Fn.enter Tryz.func56 rfl Tryz.ntmps56 rfl ?_
  repeat' (first|refine bA ?_|refine bkq fun q=>?_|(refine bk2 ?_ ?_<;>(first|exact bkn|(refine bkk ?_;intro h))))
  refine WL.call c64 rfl rfl rfl rfl (wire_TakeNum s hs W0 _) ?_
  rintro _ G2 ⟨rfl, hG2⟩
  rw [hG2]; clear hG2 G2
  cases hn : takeNum (bs s) with
  | none =>
    simp only
    repeat' (first|refine bA ?_|refine bkq fun q=>?_|(refine bk2 ?_ ?_<;>(first|exact bkn|(refine bkk ?_;intro h))))
    refine WL.callP c55 rfl rfl rfl rfl (j_must false W0 _) (fun _ h => h) (fun _ _ h => absurd h.1 (by simp)) ?_
    rintro _ G2 ⟨_, rfl, hG2⟩
    rw [hG2]; clear hG2 G2
    repeat' (first|refine bA ?_|refine bkq fun q=>?_|(refine bk2 ?_ ?_<;>(first|exact bkn|(refine bkk ?_;intro h))))
    exact QS.panicV ⟨by rw [numP, hn], rfl, rfl⟩
  | some p =>
    obtain ⟨n, r⟩ := p
    simp only
    repeat' (first|refine bA ?_|refine bkq fun q=>?_|(refine bk2 ?_ ?_<;>(first|exact bkn|(refine bkk ?_;intro h))))
    refine WL.callP c55 rfl rfl rfl rfl (j_must (decide (mk r = ⟨#[]⟩)) W0 _) (fun _ h => h) ?_ ?_
    · rintro _ G2 ⟨hb, rfl, hG2⟩
      rw [hG2]; clear hG2 G2
      repeat' (first|refine bA ?_|refine bkq fun q=>?_|(refine bk2 ?_ ?_<;>(first|exact bkn|(refine bkk ?_;intro h))))
      refine QS.retV Tryz.results56 rfl ⟨⟨n, ?_, rfl⟩, rfl⟩
      rw [numP, hn]
      simp only
      rw [if_pos (congrArg bs (of_decide_eq_true hb))]
    · rintro _ G2 ⟨hb, rfl, hG2⟩
      rw [hG2]; clear hG2 G2
      repeat' (first|refine bA ?_|refine bkq fun q=>?_|(refine bk2 ?_ ?_<;>(first|exact bkn|(refine bkk ?_;intro h))))
      refine QS.panicV ⟨?_, rfl, rfl⟩
      rw [numP, hn]
      simp only
      rw [if_neg (fun e => of_decide_eq_false hb (by rw [e]))]
end Go.Proofs.YtfolmcpfdcgliaaGreat.B

namespace Go.Proofs.YtfolmcpfdcgliaaGreat.B
open Go Go.Proofs
attribute [local irreducible] WL CS QS WQ WH WS Fn Op1 row Sat
attribute [local irreducible] slc
theorem Rd.none_nil {α : Type} {W0 : World} {G : List SL} {E : EncK α} {xs : List α} (h : Rd W0 G E none xs) (hw : ∃ w, Sat W0 G w) : xs = [] := by
  obtain ⟨w, hs⟩ := hw
  rcases h w hs with h | ⟨b, o, h, _⟩
  · have h1 := congrArg List.length h
    rw [flat_len] at h1
    have := E.pos
    rcases Nat.mul_eq_zero.1 (by simpa using h1) with h2 | h2
    · exact List.eq_nil_of_length_eq_zero h2
    · omega
  · cases h
theorem ent_Clone (A : Option Addr) (k c : Nat) (xs : List Ent) (hk : k = xs.length) (hl : xs.length ≤ 1000000) (W0 : World) (G : List SL) (hR : Rd W0 G entE A xs) :
    Fn Tryz.prog 35 [.slice A k c] W0 G (Ret fun v G' => ∃ A' c', v = .slice A' xs.length c' ∧ G' = slc entE 49 A' c' xs :: G) := by
  subst hk
  refine Fn.world fun hw => ?_
  refine Fn.enter Tryz.func35 rfl Tryz.ntmps35 rfl ?_
  repeat' (first|refine bA ?_|refine bkq fun q=>?_|(refine bk2 ?_ ?_<;>(first|exact bkn|(refine bkk ?_;intro h))))
  refine WL.s (op1_eqNil TT rfl rfl rfl) rfl ?_
  cases A with
  | none =>
    obtain rfl := hR.none_nil hw
    repeat' (first|refine bA ?_|refine bkq fun q=>?_|(refine bk2 ?_ ?_<;>(first|exact bkn|(refine bkk ?_;intro h))))
    exact QS.turn (G' := slc entE 49 none 0 ([] : List Ent) :: G) (fun w hs => hs.slcNil _ _) (QS.retV Tryz.results35 rfl ⟨none, 0, rfl, rfl⟩)
  | some a =>
    repeat' (first|refine bA ?_|refine bkq fun q=>?_|(refine bk2 ?_ ?_<;>(first|exact bkn|(refine bkk ?_;intro h))))
    refine WL.buildSlice TT rfl rfl rfl rfl rfl rfl rfl rfl (fun q => ?_)
    refine WL.turn (fun w hs => row_slc (α := Ent) entE hs) ?_
    repeat' (first|refine bA ?_|refine bkq fun q=>?_|(refine bk2 ?_ ?_<;>(first|exact bkn|(refine bkk ?_;intro h))))
    refine WL.append TT (E := entE) (xs := []) (ys := xs) 0 rfl rfl rfl rfl rfl hR.cons rfl rfl rfl rfl rfl (by decide) (by simp only [List.length_nil]; omega) (fun _ _ => rfl) rfl (fun A5 c5 => ?_)
    rw [List.nil_append]
    repeat' (first|refine bA ?_|refine bkq fun q=>?_|(refine bk2 ?_ ?_<;>(first|exact bkn|(refine bkk ?_;intro h))))
    exact QS.retV Tryz.results35 rfl ⟨A5, c5, rfl, rfl⟩
end Go.Proofs.YtfolmcpfdcgliaaGreat.B

namespace Go.Proofs.YtfolmcpfdcgliaaGreat.B
open Go Go.Proofs
attribute [local irreducible] WL CS QS WQ WH WS Fn Op1 row Sat
attribute [local irreducible] slc
theorem ent_Clip (A : Option Addr) (k c : Nat) (hkc : k ≤ c) (hl : k ≤ 1000000) (W0 : World) (G : List SL) :
    Fn Tryz.prog 137 [.slice A k c] W0 G (Ret fun v G' => v = .slice A k k ∧ G' = G) := by
  refine Fn.enter Tryz.func137 rfl Tryz.ntmps137 rfl ?_
  repeat' (first|refine bA ?_|refine bkq fun q=>?_|(refine bk2 ?_ ?_<;>(first|exact bkn|(refine bkk ?_;intro h))))
  refine WL.s (op1_clip TT (r := k) rfl rfl rfl rfl rfl hkc) rfl ?_
  repeat' (first|refine bA ?_|refine bkq fun q=>?_|(refine bk2 ?_ ?_<;>(first|exact bkn|(refine bkk ?_;intro h))))
  exact QS.retV Tryz.results137 rfl ⟨rfl, rfl⟩
set_option maxHeartbeats 1000000 in
theorem ent_Equal (A B : Option Addr) (k c k2 c2 : Nat) (xs ys : List Ent) (hk : k = xs.length) (hk2 : k2 = ys.length) (hkb : k ≤ 1000000) (hkb2 : k2 ≤ 1000000) (W0 : World) (G : List SL) (hR : Rd W0 G entE A xs) (hR2 : Rd W0 G entE B ys) :
    Fn Tryz.prog 138 [.slice A k c, .slice B k2 c2] W0 G (Ret fun v G' => v = .bool (decide (xs = ys)) ∧ G' = G) := by
  refine Fn.enter Tryz.func138 rfl Tryz.ntmps138 rfl ?_
  repeat' (first|refine bA ?_|refine bkq fun q=>?_|(refine bk2 ?_ ?_<;>(first|exact bkn|(refine bkk ?_;intro h))))
  · refine QS.retV Tryz.results138 rfl ⟨?_, rfl⟩
    rw [decide_eq_false (fun e => by subst e; omega)]; rfl
  have hkk : xs.length = ys.length := by omega
  refine CS.loop (X := Nat) (fun i => [(0, .slice A k c), (1, .slice B k2 c2), (12, .int .i64 (k : Int)), (13, .int .i64 (i : Int))]) (fun i => G)
    (fun i => i ≤ k ∧ xs.take i = ys.take i) (fun i => k - i) 0 ⟨rfl, rfl, rfl, rfl, trivial⟩ (fun w hs => hs) ⟨Nat.zero_le _, rfl⟩ ?_
  rintro i ⟨hi, he⟩
  refine CS.world fun hw => ?_
  repeat' (first|refine bA ?_|refine bkq fun q=>?_|(refine bk2 ?_ ?_<;>(first|exact bkn|(refine bkk ?_;intro h))))
  · obtain ⟨x, hx⟩ : ∃ x, xs[i]? = some x := ⟨xs[i]'(by omega), List.getElem?_eq_getElem (by omega)⟩
    obtain ⟨y, hy⟩ : ∃ y, ys[i]? = some y := ⟨ys[i]'(by omega), List.getElem?_eq_getElem (by omega)⟩
    refine WQ.idx TT hR rfl rfl hk (by omega) (by rw [Int.toNat_natCast]; exact hx) rfl rfl rfl rfl hw (fun b2 o hA => ?_)
    refine WQ.s (op1_at TT hA rfl rfl rfl rfl) rfl ?_
    repeat' (first|refine bA ?_|refine bkq fun q=>?_|(refine bk2 ?_ ?_<;>(first|exact bkn|(refine bkk ?_;intro h))))
    refine WQ.idx TT hR2 rfl rfl hk2 (by omega) (by rw [Int.toNat_natCast]; exact hy) rfl rfl rfl rfl hw (fun b3 o3 hA3 => ?_)
    refine WQ.s (op1_at TT hA3 rfl rfl rfl rfl) rfl ?_
    refine WQ.s (op1_neS TT cmp49 rfl rfl rfl rfl rfl) rfl ?_
    rw [show (!(decide (x.n = y.n) && (decide (x.s = y.s) && true))) = !decide (x = y) from by
      obtain ⟨n1, s1⟩ := x; obtain ⟨n2, s2⟩ := y; simp]
    by_cases hxy : x = y
    · rw [decide_eq_true hxy]
      repeat' (first|refine bA ?_|refine bkq fun q=>?_|(refine bk2 ?_ ?_<;>(first|exact bkn|(refine bkk ?_;intro h))))
      refine QS.again (i + 1) ⟨by omega, ?_⟩ (by omega) ⟨rfl, rfl, rfl, ?_, trivial⟩ (fun w hs => hs)
      · rw [List.take_add_one, List.take_add_one, hx, hy, he, hxy]
      · rw [show ((i + 1 : Nat) : Int) = (i : Int) + 1 from by omega]; rfl
    · rw [decide_eq_false hxy]
      repeat' (first|refine bA ?_|refine bkq fun q=>?_|(refine bk2 ?_ ?_<;>(first|exact bkn|(refine bkk ?_;intro h))))
      refine QS.retV Tryz.results138 rfl ⟨?_, rfl⟩
      rw [decide_eq_false (fun e => hxy (by rw [e, hy] at hx; exact (Option.some.inj hx).symm))]; rfl
  · refine QS.retV Tryz.results138 rfl ⟨?_, rfl⟩
    rw [decide_eq_true (by rw [List.take_of_length_le (by omega), List.take_of_length_le (by omega)] at he; exact he)]; rfl
end Go.Proofs.YtfolmcpfdcgliaaGreat.B
