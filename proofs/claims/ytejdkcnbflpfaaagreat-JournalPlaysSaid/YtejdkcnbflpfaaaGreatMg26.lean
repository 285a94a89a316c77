import Derived.Test.YtejdkcnbflpfaaaGreatMg14
import Derived.Test.YtejdkcnbflpfaaaGreatMg23
import Derived.Test.YtejdkcnbflpfaaaGreatMg25
import Derived.Test.YtejdkcnbflpfaaaGreatMg18
import Derived.Test.YtejdkcnbflpfaaaGreatMg11
set_option linter.unusedVariables false
set_option linter.unusedSimpArgs false
set_option maxRecDepth 8000
/-! A journal's texts. -/
namespace Go.Proofs.YtejdkcnbflpfaaaGreat.B
open Go Go.Proofs
attribute [local irreducible] WL CS QS WQ WH WS Fn Op1 row Sat
attribute [local irreducible] slc

theorem j_join (A : Option Addr) (k c : Nat) (xs : List ByteArray) (hk : k = xs.length) (hx : joinOk xs = true) (W0 : World) (G : List SL) (hR : Rd W0 G strE A xs) :
    Fn Tryz.prog 73 [.slice A k c] W0 G (Ret fun v G' => v = .string (mk (joinB xs)) ∧ G' = G) := by
  obtain ⟨h1, h2⟩ := joinOk_iff.1 hx
  refine Fn.enter Tryz.func73 rfl Tryz.ntmps73 rfl ?_
  repeat' (first|refine bk ?_|refine bkc ?_|refine bks ?_|refine bkd ?_|refine bkq (fun q => ?_)|(refine bk2 ?_ ?_<;>(first|exact bkn|(refine bkk ?_;intro h))))
  refine WL.call c108 rfl rfl rfl rfl (wire_Join A k c xs hk (fun s hs => by have := h2 s hs; omega) (by omega) W0 _ hR) ?_
  rintro _ G2 ⟨rfl, hG2⟩
  rw [hG2]; clear hG2 G2
  rw [if_pos hx]
  repeat' (first|refine bk ?_|refine bkc ?_|refine bks ?_|refine bkd ?_|refine bkq (fun q => ?_)|(refine bk2 ?_ ?_<;>(first|exact bkn|(refine bkk ?_;intro h))))
  exact QS.retV Tryz.results73 rfl ⟨rfl, rfl⟩
theorem j_Promise (ep : Int) (h : I64 ep) (W0 : World) (G : List SL) :
    Fn Tryz.prog 30 [.int .i64 ep] W0 G (Ret fun v G' => v = .string (mk (joinB (promL ep))) ∧ G' = G) := by
  refine Fn.enter Tryz.func30 rfl Tryz.ntmps30 rfl ?_
  repeat' (first|refine bk ?_|refine bkc ?_|refine bks ?_|refine bkd ?_|refine bkq (fun q => ?_)|(refine bk2 ?_ ?_<;>(first|exact bkn|(refine bkk ?_;intro h))))
  refine WL.call c17 rfl rfl rfl rfl (wire_Num h W0 _) ?_
  rintro _ G2 ⟨rfl, hG2⟩
  rw [hG2]; clear hG2 G2
  repeat' (first|refine bk ?_|refine bkc ?_|refine bks ?_|refine bkd ?_|refine bkq (fun q => ?_)|(refine bk2 ?_ ?_<;>(first|exact bkn|(refine bkk ?_;intro h))))
  refine WL.buildSlice TT rfl rfl rfl rfl rfl rfl rfl rfl (fun q => ?_)
  refine WL.call c73 rfl rfl rfl rfl (j_join _ _ _ (promL ep) rfl (promL_ok h) W0 _ (Rd.row (i := 0) rfl rfl)) ?_
  rintro _ _ ⟨rfl, rfl⟩
  repeat' (first|refine bk ?_|refine bkc ?_|refine bks ?_|refine bkd ?_|refine bkq (fun q => ?_)|(refine bk2 ?_ ?_<;>(first|exact bkn|(refine bkk ?_;intro h))))
  exact QS.turn (G' := G) (fun w hs => hs.drop) (QS.retV Tryz.results30 rfl ⟨rfl, rfl⟩)
theorem j_said (e : Int) (h : I64 e) (W0 : World) (G : List SL) :
    Fn Tryz.prog 49 [.int .i64 e] W0 G (Ret fun v G' => v = .string (mk (saidB e)) ∧ G' = G) := by
  refine Fn.enter Tryz.func49 rfl Tryz.ntmps49 rfl ?_
  repeat' (first|refine bk ?_|refine bkc ?_|refine bks ?_|refine bkd ?_|refine bkq (fun q => ?_)|(refine bk2 ?_ ?_<;>(first|exact bkn|(refine bkk ?_;intro h))))
  refine WL.call c17 rfl rfl rfl rfl (wire_Num h W0 _) ?_
  rintro _ G2 ⟨rfl, hG2⟩
  rw [hG2]; clear hG2 G2
  repeat' (first|refine bk ?_|refine bkc ?_|refine bks ?_|refine bkd ?_|refine bkq (fun q => ?_)|(refine bk2 ?_ ?_<;>(first|exact bkn|(refine bkk ?_;intro h))))
  refine WL.buildSlice TT rfl rfl rfl rfl rfl rfl rfl rfl (fun q => ?_)
  refine WL.call c73 rfl rfl rfl rfl (j_join _ _ _ (saidL e) rfl (saidL_ok h) W0 _ (Rd.row (i := 0) rfl rfl)) ?_
  rintro _ _ ⟨rfl, rfl⟩
  repeat' (first|refine bk ?_|refine bkc ?_|refine bks ?_|refine bkd ?_|refine bkq (fun q => ?_)|(refine bk2 ?_ ?_<;>(first|exact bkn|(refine bkk ?_;intro h))))
  exact QS.turn (G' := G) (fun w hs => hs.drop) (QS.retV Tryz.results49 rfl ⟨rfl, rfl⟩)
set_option maxHeartbeats 1000000 in
theorem j_Accept (ep : Int) (h : I64 ep) (A : Option Addr) (k c : Nat) (xs : List Ent) (hk : k = xs.length) (hl : xs.length ≤ 9223372036854775807) (W0 : World) (G : List SL) (hR : Rd W0 G entE A xs) :
    Fn Tryz.prog 75 [.int .i64 ep, .slice A k c] W0 G (Ret fun v G' => v = (if logOk ep xs = true then .tuple #[.string (mk (joinB (accL ep xs))), .int .i64 0] else .tuple #[.string ⟨#[]⟩, .int .i64 1]) ∧ G' = G) := by
  subst hk
  refine Fn.enter Tryz.func75 rfl Tryz.ntmps75 rfl ?_
  repeat' (first|refine bk ?_|refine bkc ?_|refine bks ?_|refine bkd ?_|refine bkq (fun q => ?_)|(refine bk2 ?_ ?_<;>(first|exact bkn|(refine bkk ?_;intro h))))
  refine WL.call c54 rfl rfl rfl rfl (log_Right ep A _ c xs rfl W0 _ hR) ?_
  rintro _ G2 ⟨rfl, hG2⟩
  rw [hG2]; clear hG2 G2
  cases hok : logOk ep xs with
  | false =>
    repeat' (first|refine bk ?_|refine bkc ?_|refine bks ?_|refine bkd ?_|refine bkq (fun q => ?_)|(refine bk2 ?_ ?_<;>(first|exact bkn|(refine bkk ?_;intro h))))
    exact QS.retV Tryz.results75 rfl ⟨rfl, rfl⟩
  | true =>
    obtain ⟨⟨h1, h2, h3⟩, h4⟩ := logOk_iff.1 hok
    repeat' (first|refine bk ?_|refine bkc ?_|refine bks ?_|refine bkd ?_|refine bkq (fun q => ?_)|(refine bk2 ?_ ?_<;>(first|exact bkn|(refine bkk ?_;intro h))))
    refine WL.call c17 rfl rfl rfl rfl (wire_Num h W0 _) ?_
    rintro _ G2 ⟨rfl, hG2⟩
    rw [hG2]; clear hG2 G2
    repeat' (first|refine bk ?_|refine bkc ?_|refine bks ?_|refine bkd ?_|refine bkq (fun q => ?_)|(refine bk2 ?_ ?_<;>(first|exact bkn|(refine bkk ?_;intro h))))
    refine WL.buildSlice TT rfl rfl rfl rfl rfl rfl rfl rfl (fun q => ?_)
    repeat' (first|refine bk ?_|refine bkc ?_|refine bks ?_|refine bkd ?_|refine bkq (fun q => ?_)|(refine bk2 ?_ ?_<;>(first|exact bkn|(refine bkk ?_;intro h))))
    refine CS.loop (X := Nat × Option Addr × Nat) (fun y => [(4, .string ⟨#[]⟩), (5, .int .i64 0), (6, .slice y.2.1 (accL ep (xs.take y.1)).length y.2.2), (17, .slice A xs.length c), (18, .int .i64 (xs.length : Int)), (19, .int .i64 (y.1 : Int))])
      (fun y => slc strE 9 y.2.1 y.2.2 (accL ep (xs.take y.1)) :: G) (fun y => y.1 ≤ xs.length) (fun y => xs.length - y.1) (0, some ⟨q, 0, none⟩, 2) ⟨rfl, rfl, rfl, rfl, rfl, rfl, trivial⟩ (fun w hs => row_own strE (accL ep []) rfl (by simp [accL, maxLen]) hs) (Nat.zero_le _) ?_
    rintro ⟨i, A1, c1⟩ hi
    simp only at hi ⊢
    have hal : (accL ep (xs.take i)).length = i + 2 := by simp [accL]; omega
    repeat' (first|refine bk ?_|refine bkc ?_|refine bks ?_|refine bkd ?_|refine bkq (fun q => ?_)|(refine bk2 ?_ ?_<;>(first|exact bkn|(refine bkk ?_;intro h))))
    · obtain ⟨x, hx⟩ : ∃ x, xs[i]? = some x := ⟨xs[i]'(by omega), List.getElem?_eq_getElem (by omega)⟩
      refine WL.idx TT hR.cons rfl rfl rfl (by omega) (by rw [Int.toNat_natCast]; exact hx) rfl rfl rfl rfl (fun bb o hA => ?_)
      refine WL.s (op1_at TT hA rfl rfl rfl rfl) rfl ?_
      repeat' (first|refine bk ?_|refine bkc ?_|refine bks ?_|refine bkd ?_|refine bkq (fun q => ?_)|(refine bk2 ?_ ?_<;>(first|exact bkn|(refine bkk ?_;intro h))))
      refine WL.buildSlice TT rfl rfl rfl rfl rfl rfl rfl rfl (fun qs => ?_)
      refine WL.append TT (E := strE) (xs := accL ep (xs.take i)) (ys := [x.s]) 2 rfl rfl rfl rfl rfl (Rd.row (i := 0) rfl rfl) rfl rfl rfl rfl rfl (by decide) (by simp only [List.length_cons, List.length_nil]; omega) (fun _ _ => rfl) rfl (fun A5 c5 => ?_)
      have hsn : accL ep (xs.take i) ++ [x.s] = accL ep (xs.take (i + 1)) := by
        rw [List.take_add_one, hx]; simp [accL]
      rw [hsn]
      repeat' (first|refine bk ?_|refine bkc ?_|refine bks ?_|refine bkd ?_|refine bkq (fun q => ?_)|(refine bk2 ?_ ?_<;>(first|exact bkn|(refine bkk ?_;intro h))))
      refine QS.again (i + 1, A5, c5) (by simp only; omega) (by simp only; omega) ⟨rfl, rfl, rfl, rfl, rfl, ?_, trivial⟩ (fun w hs => hs.drop.drop)
      rw [show ((i + 1 : Nat) : Int) = (i : Int) + 1 from by omega]; rfl
    · have hix : i = xs.length := by omega
      subst hix
      rw [List.take_length] at *
      refine WL.call c73 rfl rfl rfl rfl (j_join _ _ _ (accL ep xs) rfl (accL_ok hok) W0 _ (Rd.slc (i := 0) rfl)) ?_
      rintro _ _ ⟨rfl, rfl⟩
      repeat' (first|refine bk ?_|refine bkc ?_|refine bks ?_|refine bkd ?_|refine bkq (fun q => ?_)|(refine bk2 ?_ ?_<;>(first|exact bkn|(refine bkk ?_;intro h))))
      exact QS.turn (G' := G) (fun w hs => hs.drop) (QS.retV Tryz.results75 rfl ⟨rfl, rfl⟩)

def fitsB (n : Int) (s : ByteArray) : Bool := decide (1 ≤ n ∧ n ≤ 300 ∧ s.size ≤ 600)
theorem logOk_one (s : ByteArray) : logOk 0 [⟨1, s⟩] = decide (s.size ≤ 600) := by
  simp [logOk, entsOk]
theorem j_fits (n : Int) (s : ByteArray) (W0 : World) (G : List SL) :
    Fn Tryz.prog 55 [.agg #[.int .i64 n, .string s]] W0 G (Ret fun v G' => v = .bool (fitsB n s) ∧ G' = G) := by
  refine Fn.enter Tryz.func55 rfl Tryz.ntmps55 rfl ?_
  repeat' (first|refine bk ?_|refine bkc ?_|refine bks ?_|refine bkd ?_|refine bkq (fun q => ?_)|(refine bk2 ?_ ?_<;>(first|exact bkn|(refine bkk ?_;intro h))))
  · refine WL.buildSlice TT rfl rfl rfl rfl rfl rfl rfl rfl (fun qs => ?_)
    repeat' (first|refine bk ?_|refine bkc ?_|refine bks ?_|refine bkd ?_|refine bkq (fun q => ?_)|(refine bk2 ?_ ?_<;>(first|exact bkn|(refine bkk ?_;intro h))))
    refine WL.call c54 rfl rfl rfl rfl (log_Right 0 _ 1 _ [⟨1, s⟩] rfl W0 _ (Rd.row (i := 0) rfl rfl)) ?_
    rintro _ _ ⟨rfl, rfl⟩
    rw [logOk_one]
    repeat' (first|refine bk ?_|refine bkc ?_|refine bks ?_|refine bkd ?_|refine bkq (fun q => ?_)|(refine bk2 ?_ ?_<;>(first|exact bkn|(refine bkk ?_;intro h))))
    refine QS.turn (G' := G) (fun w hs => hs.drop.drop) (QS.retV Tryz.results55 rfl ⟨?_, rfl⟩)
    rw [fitsB, show decide (1 ≤ n ∧ n ≤ 300 ∧ s.size ≤ 600) = decide (s.size ≤ 600) from by simp [*]]; rfl
  all_goals
    refine QS.turn (G' := G) (fun w hs => hs.drop) (QS.retV Tryz.results55 rfl ⟨?_, rfl⟩)
    rw [fitsB, show decide (1 ≤ n ∧ n ≤ 300 ∧ s.size ≤ 600) = false from decide_eq_false (by omega)]; rfl
set_option maxHeartbeats 1000000 in
theorem j_Add (ep : Int) (h : I64 ep) (n : Int) (s : ByteArray) (W0 : World) (G : List SL) :
    Fn Tryz.prog 74 [.int .i64 ep, .agg #[.int .i64 n, .string s]] W0 G (Ret fun v G' => v = (if fitsB n s = true then .tuple #[.string (mk (joinB (addL ep ⟨n, s⟩))), .int .i64 0] else .tuple #[.string ⟨#[]⟩, .int .i64 1]) ∧ G' = G) := by
  refine Fn.enter Tryz.func74 rfl Tryz.ntmps74 rfl ?_
  repeat' (first|refine bk ?_|refine bkc ?_|refine bks ?_|refine bkd ?_|refine bkq (fun q => ?_)|(refine bk2 ?_ ?_<;>(first|exact bkn|(refine bkk ?_;intro h))))
  refine WL.call c55 rfl rfl rfl rfl (j_fits n s W0 _) ?_
  rintro _ G2 ⟨rfl, hG2⟩
  rw [hG2]; clear hG2 G2
  cases hf : fitsB n s with
  | false =>
    repeat' (first|refine bk ?_|refine bkc ?_|refine bks ?_|refine bkd ?_|refine bkq (fun q => ?_)|(refine bk2 ?_ ?_<;>(first|exact bkn|(refine bkk ?_;intro h))))
    exact QS.turn (G' := G) (fun w hs => hs.drop) (QS.retV Tryz.results74 rfl ⟨rfl, rfl⟩)
  | true =>
    have hf2 := of_decide_eq_true hf
    have hI : I64 n := by unfold I64; omega
    repeat' (first|refine bk ?_|refine bkc ?_|refine bks ?_|refine bkd ?_|refine bkq (fun q => ?_)|(refine bk2 ?_ ?_<;>(first|exact bkn|(refine bkk ?_;intro h))))
    refine CS.drawA _ (fun w hs => hs) mixed (by kernel_rfl) rfl ?_
    repeat' (first|refine bka ?_|(refine bk2a ?_ ?_<;>(first|exact bkn|(refine bkk ?_;intro h))))
    refine WA.call rfl rfl (by kernel_rfl) rfl c17 rfl rfl rfl rfl (fun G' _ => wire_Num h W0 G') ?_
    repeat' (first|refine bka ?_|(refine bk2a ?_ ?_<;>(first|exact bkn|(refine bkk ?_;intro h))))
    refine WA.call rfl rfl (by kernel_rfl) rfl c17 rfl rfl rfl rfl (fun G' _ => wire_Num hI W0 G') ?_
    repeat' (first|refine bka ?_|(refine bk2a ?_ ?_<;>(first|exact bkn|(refine bkk ?_;intro h))))
    refine WA.e1 7 (by kernel_rfl) (by kernel_rfl) rfl rfl (EffC.of (Eff.buildSlice TT rfl rfl rfl rfl rfl rfl rfl)) rfl ?_
    rintro _ _ ⟨q2, rfl, rfl⟩
    refine ⟨fun w hs => hs.drop, ?_⟩
    refine WA.e1 8 (by kernel_rfl) (by kernel_rfl) rfl rfl (EffC.call c73 rfl rfl rfl (j_join _ _ _ (addL ep ⟨n, s⟩) rfl (addL_ok h hI hf2.2.2) W0 _ (Rd.row (i := 0) rfl rfl))) rfl ?_
    rintro _ _ ⟨rfl, rfl⟩
    refine ⟨fun w hs => hs.drop, ?_⟩
    repeat' (first|refine bka ?_|(refine bk2a ?_ ?_<;>(first|exact bkn|(refine bkk ?_;intro h))))
    refine WA.fin rfl ?_
    repeat' (first|refine bk ?_|refine bkc ?_|refine bks ?_|refine bkd ?_|refine bkq (fun q => ?_)|(refine bk2 ?_ ?_<;>(first|exact bkn|(refine bkk ?_;intro h))))
    exact QS.turn (G' := G) (fun w hs => hs.drop.drop) (QS.retV Tryz.results74 rfl ⟨rfl, rfl⟩)

/-! ### What can't be read -/
def tornJ : List PanicEntry := [{ v := .iface 106 (.agg #[]), recovered := false }]
def mustR (b : Bool) (G : List SL) : Ending → List SL → Prop
  | .returned v, G' => b = true ∧ v = .tuple #[] ∧ G' = G
  | .panicked ch, G' => b = false ∧ ch = tornJ ∧ G' = G
  | .outgrown, _ => False
theorem j_must (b : Bool) (W0 : World) (G : List SL) : Fn Tryz.prog 52 [.bool b] W0 G (mustR b G) := by
  refine Fn.enter Tryz.func52 rfl Tryz.ntmps52 rfl ?_
  repeat' (first|refine bk ?_|refine bkc ?_|refine bks ?_|refine bkd ?_|refine bkq (fun q => ?_)|(refine bk2 ?_ ?_<;>(first|exact bkn|(refine bkk ?_;intro h))))
  · refine WL.s (op1_iface TT rfl rfl rfl) rfl ?_
    refine WL.panic rfl ?_
    repeat' (first|refine bk ?_|refine bkc ?_|refine bks ?_|refine bkd ?_|refine bkq (fun q => ?_)|(refine bk2 ?_ ?_<;>(first|exact bkn|(refine bkk ?_;intro h))))
    exact QS.panicV ⟨h, rfl, rfl⟩
  · exact QS.endV Tryz.results52 rfl ⟨h, rfl, rfl⟩
def numR (s : ByteArray) (G : List SL) : Ending → List SL → Prop
  | .returned v, G' => (∃ n, numP s = some n ∧ v = .int .i64 n) ∧ G' = G
  | .panicked ch, G' => numP s = none ∧ ch = tornJ ∧ G' = G
  | .outgrown, _ => False
theorem j_number (s : ByteArray) (hs : s.size ≤ 9223372036854775807) (W0 : World) (G : List SL) : Fn Tryz.prog 53 [.string s] W0 G (numR s G) := by
  refine Fn.enter Tryz.func53 rfl Tryz.ntmps53 rfl ?_
  repeat' (first|refine bk ?_|refine bkc ?_|refine bks ?_|refine bkd ?_|refine bkq (fun q => ?_)|(refine bk2 ?_ ?_<;>(first|exact bkn|(refine bkk ?_;intro h))))
  refine WL.call c41 rfl rfl rfl rfl (wire_TakeNum s hs W0 _) ?_
  rintro _ G2 ⟨rfl, hG2⟩
  rw [hG2]; clear hG2 G2
  cases hn : takeNum (bs s) with
  | none =>
    simp only
    repeat' (first|refine bk ?_|refine bkc ?_|refine bks ?_|refine bkd ?_|refine bkq (fun q => ?_)|(refine bk2 ?_ ?_<;>(first|exact bkn|(refine bkk ?_;intro h))))
    refine WL.callP c52 rfl rfl rfl rfl (j_must false W0 _) (fun _ h => h) (fun _ _ h => absurd h.1 (by simp)) ?_
    rintro _ G2 ⟨_, rfl, hG2⟩
    rw [hG2]; clear hG2 G2
    repeat' (first|refine bk ?_|refine bkc ?_|refine bks ?_|refine bkd ?_|refine bkq (fun q => ?_)|(refine bk2 ?_ ?_<;>(first|exact bkn|(refine bkk ?_;intro h))))
    exact QS.panicV ⟨by rw [numP, hn], rfl, rfl⟩
  | some p =>
    obtain ⟨n, r⟩ := p
    simp only
    repeat' (first|refine bk ?_|refine bkc ?_|refine bks ?_|refine bkd ?_|refine bkq (fun q => ?_)|(refine bk2 ?_ ?_<;>(first|exact bkn|(refine bkk ?_;intro h))))
    refine WL.callP c52 rfl rfl rfl rfl (j_must (decide (mk r = ⟨#[]⟩)) W0 _) (fun _ h => h) ?_ ?_
    · rintro _ G2 ⟨hb, rfl, hG2⟩
      rw [hG2]; clear hG2 G2
      repeat' (first|refine bk ?_|refine bkc ?_|refine bks ?_|refine bkd ?_|refine bkq (fun q => ?_)|(refine bk2 ?_ ?_<;>(first|exact bkn|(refine bkk ?_;intro h))))
      refine QS.retV Tryz.results53 rfl ⟨⟨n, ?_, rfl⟩, rfl⟩
      rw [numP, hn]
      simp only
      rw [if_pos (congrArg bs (of_decide_eq_true hb))]
    · rintro _ G2 ⟨hb, rfl, hG2⟩
      rw [hG2]; clear hG2 G2
      repeat' (first|refine bk ?_|refine bkc ?_|refine bks ?_|refine bkd ?_|refine bkq (fun q => ?_)|(refine bk2 ?_ ?_<;>(first|exact bkn|(refine bkk ?_;intro h))))
      refine QS.panicV ⟨?_, rfl, rfl⟩
      rw [numP, hn]
      simp only
      rw [if_neg (fun e => of_decide_eq_false hb (by rw [e]))]
end Go.Proofs.YtejdkcnbflpfaaaGreat.B

set_option linter.unusedVariables false
set_option linter.unusedSimpArgs false
set_option maxRecDepth 8000
/-! A journal's answers, made; and what reads its texts. -/
namespace Go.Proofs.YtejdkcnbflpfaaaGreat.B
open Go Go.Proofs
attribute [local irreducible] WL CS QS WQ WH WS Fn Op1 row Sat
attribute [local irreducible] slc

theorem mk_ne {l : List UInt8} : mk l = ⟨#[]⟩ ↔ l = [] := ⟨fun h => congrArg bs h, fun h => by rw [h]⟩
set_option maxHeartbeats 2000000 in
theorem j_told (e : Int) (A : Option Addr) (k c : Nat) (xs : List Ent) (hk : k = xs.length) (W0 : World) (G : List SL) (hR : Rd W0 G entE A xs) :
    Fn Tryz.prog 57 [logV e A k c] W0 G (Ret fun v G' => v = .string (mk (toldB e xs)) ∧ G' = G) := by
  refine Fn.enter Tryz.func57 rfl Tryz.ntmps57 rfl ?_
  repeat' (first|refine bk ?_|refine bkc ?_|refine bks ?_|refine bkd ?_|refine bkq (fun q => ?_)|(refine bk2 ?_ ?_<;>(first|exact bkn|(refine bkk ?_;intro h))))
  refine WL.call c83 rfl rfl rfl rfl (log_Bytes e A k c xs hk W0 _ hR.cons) ?_
  rintro _ _ ⟨rfl, rfl⟩
  obtain ⟨LB, er, hLB, hv⟩ : ∃ (LB : List UInt8) (er : Int), LB = (if logOk e xs = true then logB e xs else []) ∧ (if logOk e xs = true then Value.tuple #[.string (mk (logB e xs)), .int .i64 0] else .tuple #[.string ⟨#[]⟩, .int .i64 1]) = .tuple #[.string (mk LB), .int .i64 er] := by
    split
    · exact ⟨_, 0, rfl, rfl⟩
    · exact ⟨[], 1, rfl, rfl⟩
  rw [hv]
  have hBL : LB.length ≤ 187900 := by
    rw [hLB]; split
    · exact logB_small ‹_›
    · simp
  have hT : toldL e xs = mk (numB 0) :: chunks LB.length LB := by
    rw [toldL, hLB]; split
    · rfl
    · rfl
  repeat' (first|refine bk ?_|refine bkc ?_|refine bks ?_|refine bkd ?_|refine bkq (fun q => ?_)|(refine bk2 ?_ ?_<;>(first|exact bkn|(refine bkk ?_;intro h))))
  refine WL.call c17 rfl rfl rfl rfl (wire_Num (n := 0) (by unfold I64; decide) W0 _) ?_
  rintro _ _ ⟨rfl, rfl⟩
  repeat' (first|refine bk ?_|refine bkc ?_|refine bks ?_|refine bkd ?_|refine bkq (fun q => ?_)|(refine bk2 ?_ ?_<;>(first|exact bkn|(refine bkk ?_;intro h))))
  refine WL.buildSlice TT rfl rfl rfl rfl rfl rfl rfl rfl (fun q2 => ?_)
  repeat' (first|refine bk ?_|refine bkc ?_|refine bks ?_|refine bkd ?_|refine bkq (fun q => ?_)|(refine bk2 ?_ ?_<;>(first|exact bkn|(refine bkk ?_;intro h))))
  refine CS.loop (X := List UInt8 × List ByteArray × Option Addr × Nat) (fun y => [(3, .string (mk y.1)), (5, .slice y.2.2.1 y.2.1.length y.2.2.2)])
    (fun y => slc strE 9 y.2.2.1 y.2.2.2 y.2.1 :: G) (fun y => y.1.length ≤ 187900 ∧ y.2.1.length ≤ 1000000 ∧ toldL e xs = y.2.1 ++ chunks y.1.length y.1) (fun y => y.1.length) (LB, [mk (numB 0)], some ⟨q2, 0, none⟩, 1) ⟨rfl, rfl, trivial⟩ (fun w hs => (row_own strE [mk (numB 0)] rfl (by simp [maxLen]) hs).kick (i := 1) rfl) ⟨hBL, by simp, by rw [hT]; rfl⟩ ?_
  rintro ⟨l, ps, A1, c1⟩ ⟨h1, h2, h3⟩
  simp only at h1 h2 h3 ⊢
  repeat' (first|refine bk ?_|refine bkc ?_|refine bks ?_|refine bkq (fun q => ?_)|(refine bk2 ?_ ?_<;>(first|exact bkn|(refine bkk ?_;intro h))))
  · have hne : l ≠ [] := fun e => h (by rw [e])
    have hp := List.length_pos_iff.2 hne
    obtain ⟨m, hm⟩ : ∃ m, m = min l.length 4000 := ⟨_, rfl⟩
    rw [show (if (4000 : Int) < ((mk l).size : Int) then (4000 : Int) else ((mk l).size : Int)) = (m : Int) from by rw [mk_size, hm]; split <;> omega]
    have e1 : (mk l).extract (Int.toNat 0) (Int.toNat (m : Int)) = mk (l.take 4000) := by
      rw [ext_mk, bs_mk, Int.toNat_natCast, hm]
      simp only [Int.toNat_zero, List.drop_zero, Nat.sub_zero]
      by_cases h4 : l.length ≤ 4000
      · rw [Nat.min_eq_left h4, List.take_length, List.take_of_length_le h4]
      · rw [Nat.min_eq_right (by omega)]
    have e2 : (mk l).extract (Int.toNat (m : Int)) (Int.toNat ((mk l).size : Int)) = mk (l.drop 4000) := by
      rw [ext_mk, bs_mk, Int.toNat_natCast, mk_size, Int.toNat_natCast, hm]
      by_cases h4 : l.length ≤ 4000
      · rw [Nat.min_eq_left h4, List.drop_eq_nil_of_le (Nat.le_refl _), List.drop_eq_nil_of_le h4, List.take_nil]
      · rw [Nat.min_eq_right (by omega), List.take_of_length_le (by rw [List.length_drop]; omega)]
    have hch : chunks l.length l = mk (l.take 4000) :: chunks (l.drop 4000).length (l.drop 4000) := by
      obtain ⟨f, hf⟩ : ∃ f, l.length = f + 1 := ⟨l.length - 1, by omega⟩
      rw [hf, chunks, if_neg hne]
      congr 1
      exact chunks_fuel (by rw [List.length_drop]; omega) (Nat.le_refl _)
    have hpl : (ps ++ [mk (l.take 4000)]).length = ps.length + 1 := by simp
    have hTl := (joinOk_iff.1 (toldL_ok e xs)).1
    have hpt : ps.length + 1 ≤ 1000 := by
      rw [h3, hch, List.length_append, List.length_cons] at hTl; omega
    refine CS.drawA G (fun w hs => hs.drop) mixed (by kernel_rfl) rfl ?_
    repeat' (first|refine bka ?_|(refine bk2a ?_ ?_<;>(first|exact bkn|(refine bkk ?_;intro h))))
    refine WA.s rfl rfl (by kernel_rfl) rfl (op1_slice TT (l := 0) (r := (m : Int)) (s := mk l) rfl rfl rfl rfl ⟨by omega, by omega, by rw [mk_size]; omega⟩) rfl ?_
    rw [e1]
    refine WA.at 6 (by kernel_rfl) rfl (by kernel_rfl) rfl (op1_pure1 TT rfl) rfl ?_
    refine WA.at 7 (by kernel_rfl) rfl (by kernel_rfl) rfl (op1_pure1 TT rfl) rfl ?_
    refine WA.at 8 (by kernel_rfl) rfl (by kernel_rfl) rfl (op1_slice TT (l := (m : Int)) (r := ((mk l).size : Int)) (s := mk l) rfl rfl rfl rfl ⟨by omega, by rw [mk_size]; omega, by omega⟩) rfl ?_
    rw [e2]
    refine WA.e1 4 (by kernel_rfl) (by kernel_rfl) rfl rfl (EffC.of (Eff.buildSlice TT rfl rfl rfl rfl rfl rfl rfl)) rfl ?_
    rintro _ _ ⟨q3, rfl, rfl⟩
    refine ⟨fun w hs => hs.drop.drop, ?_⟩
    refine WA.e1 5 (by kernel_rfl) (by kernel_rfl) rfl rfl (EffC.of (Eff.append TT (E := strE) (xs := ps) (ys := [mk (l.take 4000)]) 1 rfl rfl rfl rfl rfl (Rd.row (i := 0) rfl rfl) rfl rfl rfl rfl rfl (by decide) (by simp only [List.length_cons, List.length_nil]; omega) (fun _ _ => rfl))) rfl ?_
    rintro _ _ ⟨A5, c5, rfl, rfl⟩
    refine ⟨fun w hs => hs.drop.drop, ?_⟩
    repeat' (first|refine bka ?_|(refine bk2a ?_ ?_<;>(first|exact bkn|(refine bkk ?_;intro h))))
    refine WA.fin rfl ?_
    repeat' (first|refine bk ?_|refine bkc ?_|refine bks ?_|refine bkd ?_|refine bkq (fun q => ?_)|(refine bk2 ?_ ?_<;>(first|exact bkn|(refine bkk ?_;intro h))))
    refine QS.again (l.drop 4000, ps ++ [mk (l.take 4000)], A5, c5) ⟨by simp only; rw [List.length_drop]; omega, by simp only; omega, by simp only; rw [h3, hch, List.append_assoc]; rfl⟩ (by simp only; rw [List.length_drop]; omega) ⟨rfl, rfl, trivial⟩ (fun w hs => hs.drop)
  · have hl : l = [] := mk_ne.1 h
    subst hl
    rw [show chunks ([] : List UInt8).length [] = [] from rfl, List.append_nil] at h3
    repeat' (first|refine bk ?_|refine bkc ?_|refine bks ?_|refine bkd ?_|refine bkq (fun q => ?_)|(refine bk2 ?_ ?_<;>(first|exact bkn|(refine bkk ?_;intro h))))
    refine WL.call c73 rfl rfl rfl rfl (j_join _ _ _ ps rfl (by rw [← h3]; exact toldL_ok e xs) W0 _ (Rd.slc (i := 0) rfl)) ?_
    rintro _ _ ⟨rfl, rfl⟩
    repeat' (first|refine bk ?_|refine bkc ?_|refine bks ?_|refine bkd ?_|refine bkq (fun q => ?_)|(refine bk2 ?_ ?_<;>(first|exact bkn|(refine bkk ?_;intro h))))
    exact QS.turn (G' := G) (fun w hs => hs.drop) (QS.retV Tryz.results57 rfl ⟨by rw [← h3]; rfl, rfl⟩)

/-! ### Reading -/
theorem read_deferred (u : FrameMode) (hu : u = .returning ∨ u = .panicking tornJ) (W0 : World) (G : List SL) : DefOk Tryz.prog { target := .fn (.func 92) #[], args := #[] } u W0 G := by
  refine ⟨.func 92, #[], 92, #[], rfl, fun w => c92.invoke w, fun w hs => ?_⟩
  refine callsD_of_wpS Tryz.func92 rfl fun c₀ cs hc => ?_
  rcases hu with rfl | rfl
  · apply wpS_seq
    refine wpS_region ?_
    refine recO_run (v := .nilIface) (cs' := c₀ :: cs) (by rw [Tryz.ntmps92]; decide) (.inr ⟨by simp [recoverD, hc], rfl, rfl⟩) ?_
    refine wpS_of_wp ?_
    refine CS.use (n := (Tryz.f92).ntmps) (ds := []) (L := [(0, .nilIface), (3, .nilIface)]) (W0 := W0) (G := G) ?_ (((Fr.start _).put (d := some 3) rfl).put (d := some 0) rfl) hs
    repeat' (first|refine bk ?_|refine bkc ?_|refine bks ?_|refine bkd ?_|refine bkq (fun q => ?_)|(refine bk2 ?_ ?_<;>(first|exact bkn|(refine bkk ?_;intro h))))
    refine WL.s (op1_nilIface TT rfl rfl) rfl ?_
    repeat' (first|refine bk ?_|refine bkc ?_|refine bks ?_|refine bkd ?_|refine bkq (fun q => ?_)|(refine bk2 ?_ ?_<;>(first|exact bkn|(refine bkk ?_;intro h))))
    exact QS.endS (u' := .returning) (.inl rfl) Tryz.results92 (by rw [← hc]) (fun w hs => ⟨⟨_, rfl⟩, rfl, hs⟩)
  · apply wpS_seq
    refine wpS_region ?_
    refine recO_run (v := .iface 106 (.agg #[])) (cs' := { c₀ with mode := .panicking [{ v := .iface 106 (.agg #[]), recovered := true }] } :: cs) (by rw [Tryz.ntmps92]; decide) (.inl (by simp [recoverD, hc, tornJ])) ?_
    refine wpS_of_wp ?_
    refine CS.use (n := (Tryz.f92).ntmps) (ds := []) (L := [(0, .iface 106 (.agg #[])), (3, .iface 106 (.agg #[]))]) (W0 := W0) (G := G) ?_ (((Fr.start _).put (d := some 3) rfl).put (d := some 0) rfl) hs
    repeat' (first|refine bk ?_|refine bkc ?_|refine bks ?_|refine bkd ?_|refine bkq (fun q => ?_)|(refine bk2 ?_ ?_<;>(first|exact bkn|(refine bkk ?_;intro h))))
    refine WL.s (op1_someIface TT rfl rfl) rfl ?_
    repeat' (first|refine bk ?_|refine bkc ?_|refine bks ?_|refine bkd ?_|refine bkq (fun q => ?_)|(refine bk2 ?_ ?_<;>(first|exact bkn|(refine bkk ?_;intro h))))
    refine WL.s (op1_assertOk TT rfl rfl rfl) rfl ?_
    repeat' (first|refine bk ?_|refine bkc ?_|refine bks ?_|refine bkd ?_|refine bkq (fun q => ?_)|(refine bk2 ?_ ?_<;>(first|exact bkn|(refine bkk ?_;intro h))))
    exact QS.turn (G' := G) (fun w hs => hs.drop) (QS.endS (u' := .panicking [{ v := .iface 106 (.agg #[]), recovered := true }]) (.inl rfl) Tryz.results92 rfl (fun w hs => ⟨⟨_, rfl⟩, rfl, hs⟩))
/-- read: whether the call came back. -/
theorem j_read {K : Nat} {cap : List Value} (hK : Callable Tryz.prog K) (s : ByteArray) (hs : s.size ≤ 9223372036854775807) (W0 : World) (G : List SL) (R : List ByteArray → Ending → List SL → Prop) (R' : Value → List SL → Prop)
    (spec : ∀ l A c, splitP (bs s) = some l → Fn Tryz.prog K (.slice A l.length c :: cap) W0 (slc strE 9 A c l :: G) (R l)) (hout : ∀ l G', ¬ R l .outgrown G')
    (hret : ∀ l v G', splitP (bs s) = some l → R l (.returned v) G' → R' (.bool true) G') (hpan : ∀ l ch G', splitP (bs s) = some l → R l (.panicked ch) G' → ch = tornJ ∧ R' (.bool false) G') (hno : splitP (bs s) = none → R' (.bool false) G) :
    Fn Tryz.prog 50 [.string s, .func (.func K) #[] cap.toArray] W0 G (Ret R') := by
  refine Fn.enterD Tryz.func50 rfl Tryz.ntmps50 rfl ?_
  refine CS.seq ?_
  refine CS.region ?_
  repeat' (first|refine bk ?_|refine bkh ?_|refine bkw ?_|refine bkq (fun q => ?_)|((first|refine bk2 ?_ ?_|refine bk2h ?_ ?_)<;>(first|exact bkn|(refine bkk ?_;intro h))))
  refine QS.then ?_
  refine CS.seq ?_
  refine CS.region ?_
  refine WL.defer rfl ?_
  repeat' (first|refine bk ?_|refine bkc ?_|refine bks ?_|refine bkd ?_|refine bkq (fun q => ?_)|(refine bk2 ?_ ?_<;>(first|exact bkn|(refine bkk ?_;intro h))))
  refine WL.call c93 rfl rfl rfl rfl (wire_Split s hs W0 _) ?_
  cases hsp : splitP (bs s) with
  | none =>
    rintro _ G2 ⟨rfl, hG2⟩
    rw [hG2]; clear hG2 G2
    repeat' (first|refine bk ?_|refine bkc ?_|refine bks ?_|refine bkd ?_|refine bkq (fun q => ?_)|(refine bk2 ?_ ?_<;>(first|exact bkn|(refine bkk ?_;intro h))))
    refine WL.callP c52 rfl rfl rfl rfl (j_must false W0 _) (fun _ h => h) (fun _ _ h => absurd h.1 (by simp)) ?_
    rintro _ G2 ⟨_, rfl, hG2⟩
    rw [hG2]; clear hG2 G2
    repeat' (first|refine bk ?_|refine bkc ?_|refine bks ?_|refine bkd ?_|refine bkq (fun q => ?_)|(refine bk2 ?_ ?_<;>(first|exact bkn|(refine bkk ?_;intro h))))
    exact QS.panicD Tryz.results50 rfl (read_deferred _ (.inr rfl) W0 _) (hno hsp)
  | some l =>
    rintro _ G2 ⟨A, c, rfl, hG2⟩
    rw [hG2]; clear hG2 G2
    repeat' (first|refine bk ?_|refine bkc ?_|refine bks ?_|refine bkd ?_|refine bkq (fun q => ?_)|(refine bk2 ?_ ?_<;>(first|exact bkn|(refine bkk ?_;intro h))))
    refine WL.callP c52 rfl rfl rfl rfl (j_must true W0 _) (fun _ h => h) ?_ (fun _ _ h => absurd h.1 (by simp))
    rintro _ G2 ⟨_, rfl, hG2⟩
    rw [hG2]; clear hG2 G2
    repeat' (first|refine bk ?_|refine bkc ?_|refine bks ?_|refine bkd ?_|refine bkq (fun q => ?_)|(refine bk2 ?_ ?_<;>(first|exact bkn|(refine bkk ?_;intro h))))
    refine WL.callP (fst := []) (vs := [.slice A l.length c]) (cap := cap) hK rfl rfl rfl rfl (spec l A c hsp) (hout l) (fun v G' hR => ?_) (fun ch G' hR => ?_)
    · have h := hret _ _ _ hsp hR
      repeat' (first|refine bk ?_|refine bkc ?_|refine bks ?_|refine bkd ?_|refine bkq (fun q => ?_)|(refine bk2 ?_ ?_<;>(first|exact bkn|(refine bkk ?_;intro h))))
      exact QS.retD Tryz.results50 rfl (read_deferred _ (.inl rfl) W0 G') h
    · obtain ⟨rfl, h⟩ := hpan _ _ _ hsp hR
      repeat' (first|refine bk ?_|refine bkc ?_|refine bks ?_|refine bkd ?_|refine bkq (fun q => ?_)|(refine bk2 ?_ ?_<;>(first|exact bkn|(refine bkk ?_;intro h))))
      exact QS.panicD Tryz.results50 rfl (read_deferred _ (.inr rfl) W0 G') h
end Go.Proofs.YtejdkcnbflpfaaaGreat.B
