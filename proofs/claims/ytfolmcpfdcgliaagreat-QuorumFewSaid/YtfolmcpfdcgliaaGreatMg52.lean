import Derived.Test.YtfolmcpfdcgliaaGreatMg51
import Derived.Test.YtfolmcpfdcgliaaGreatMg9
import Derived.Test.YtfolmcpfdcgliaaGreatMg18
import Derived.Test.YtfolmcpfdcgliaaGreatRows
import Derived.WalkKit
import Derived.ProofKit
import Derived.OpenShut
import Derived.JoinedCond
import Derived.Carry
import Derived.Lib.SmallJoins
import Derived.SliceStrings
import Derived.ChangeMaps5
set_option linter.unusedVariables false
set_option linter.unusedSimpArgs false
set_option maxRecDepth 8000
/-! QuorumFew: the walk. -/
namespace Go.Proofs.YtfolmcpfdcgliaaGreat.B
open Go Go.Proofs
def fewR (d n : Nat) : List Int := (List.range n).map fun i => if i < d then 1 else 0
def fewL (d n : Nat) : Nat → List Int
  | 0 => []
  | k + 1 => fewL d n k ++ fewR d n
theorem fewR_len (d n : Nat) : (fewR d n).length = n := by simp [fewR]
theorem fewL_len (d n : Nat) : ∀ k, (fewL d n k).length = k * n
  | 0 => by simp [fewL]
  | k + 1 => by rw [fewL, List.length_append, fewL_len d n k, fewR_len, Nat.succ_mul]
theorem fewR_get {d n i : Nat} (h : i < n) : (fewR d n)[i]? = some (if i < d then 1 else 0) := by simp [fewR, h]
theorem fewR_next {d n i : Nat} (h : i < n) : (fewR d n).take (i + 1) = (fewR d n).take i ++ [if i < d then 1 else 0] := by rw [List.take_add_one, fewR_get h]; rfl
theorem few_fd (d n : Nat) : FD (fewL d n 2) d n ∧ FD ((fewL d n 2).drop (min (fewL d n 2).length n)) d n := by
  have e : fewL d n 2 = fewR d n ++ fewR d n := by simp [fewL]
  have hp : ∀ b : Bool, pickM (if b = true then 1 else 0) 5 = if b = true then 1 else 0 := by decide
  have hf : ∀ i, i < n → (match (fewR d n)[i]? with | some c => pickM c 5 | none => 0) = if i < d then 1 else 0 := fun i hi => by
    rw [fewR_get hi]
    simp only
    have := hp (decide (i < d))
    simpa using this
  constructor
  · intro i hi
    unfold fateM
    rw [e, List.getElem?_append_left (by rw [fewR_len]; exact hi)]
    exact hf i hi
  · intro i hi
    have hl : (fewL d n 2).length = n + n := by rw [fewL_len]; omega
    unfold fateM
    rw [hl, Nat.min_eq_right (by omega), e, List.drop_left' (fewR_len d n)]
    exact hf i hi
attribute [local irreducible] WL CS QS WQ WH WS Fn Op1 row Sat
attribute [local irreducible] slc jA diskA mailA nodesA nodesX rjA refA rnodesA rnodesX rmailA
theorem few_i64 (d n k : Nat) : ∀ x ∈ fewL d n k, I64 x := by
  have hR : ∀ x ∈ fewR d n, I64 x := fun x hx => by
    simp only [fewR, List.mem_map] at hx
    obtain ⟨i, _, rfl⟩ := hx
    unfold I64; split <;> decide
  induction k with
  | zero => intro x hx; cases hx
  | succ k ih =>
    intro x hx
    rcases List.mem_append.1 hx with h | h
    · exact ih x h
    · exact hR x h
set_option maxHeartbeats 8000000 in
theorem law_QuorumFew (a b : Int) (ha : I64 a) (hb : I64 b) (s : ByteArray) (hs : s.size ≤ 9223372036854775807) (W0 : World) (F : List SL) :
    Fn Tryz.prog 3 [.int .i64 a, .int .i64 b, .string s] W0 F (Ret fun v G' => v = .bool true ∧ G' = F) := by
  refine Fn.enter Tryz.func3 rfl Tryz.ntmps3 rfl ?_
  repeat' (first|refine bk ?_|refine bkc ?_|refine bks ?_|refine bkd ?_|refine bkq (fun q => ?_)|(refine bk2 ?_ ?_<;>(first|exact bkn|(refine bkk ?_;intro h))))
  refine WL.call c8 rfl rfl rfl rfl (law_examples W0 _) ?_
  rintro _ G2 ⟨rfl, hG2⟩
  rw [hG2]; clear hG2 G2
  repeat' (first|refine bk ?_|refine bkc ?_|refine bks ?_|refine bkd ?_|refine bkq (fun q => ?_)|(refine bk2 ?_ ?_<;>(first|exact bkn|(refine bkk ?_;intro h))))
  refine WL.call c9 rfl rfl rfl rfl (law_pick a 5 ha (by decide) W0 _) ?_
  rintro _ G2 ⟨rfl, hG2⟩
  rw [hG2]; clear hG2 G2
  have hp := pickM_range (n := a) (m := 5) (by decide)
  obtain ⟨n, hn, hn1⟩ : ∃ n : Nat, 1 + pickM a 5 = (n : Int) ∧ 1 ≤ n ∧ n ≤ 5 := ⟨(1 + pickM a 5).toNat, by omega, by omega, by omega⟩
  obtain ⟨hn1, hn5⟩ := hn1
  repeat' (first|refine bk ?_|refine bkc ?_|refine bks ?_|refine bkd ?_|refine bkq (fun q => ?_)|(refine bk2 ?_ ?_<;>(first|exact bkn|(refine bkk ?_;intro h))))
  rw [hn]
  refine WL.call c10 rfl rfl rfl rfl (law_begun n hn5 W0 _) ?_
  rintro _ _ ⟨br, bm, bs, bn, ⟨xs, ys, Ad, cd, Aj, cj, Ax, cx, Ay, cy⟩, hN, hl, hly, rfl, rfl⟩
  simp only at hN hl hly ⊢
  refine WL.turn (G' := row br 35 (rlC Ad Aj n cd cj bm) :: jsA Aj cj bm xs [] F) (fun w hs => by rw [← hl]; exact hs.ord 10 [0, 2, 3, 4] rfl) ?_
  refine WL.fact (p := n ≤ cj) (fun w hs => by have := slc_cap (i := 1) rfl w hs; rw [List.length_map] at this; omega) (fun hcj => ?_)
  have k0 := (new0_hu hN).oks
  repeat' (first|refine bk ?_|refine bkc ?_|refine bks ?_|refine bkd ?_|refine bkq (fun q => ?_)|(refine bk2 ?_ ?_<;>(first|exact bkn|(refine bkk ?_;intro h))))
  refine WL.call c9 rfl rfl rfl rfl (law_pick b ((n : Int) + 1) hb (by omega) W0 _) ?_
  rintro _ G2 ⟨rfl, hG2⟩
  rw [hG2]; clear hG2 G2
  have hp2 := pickM_range (n := b) (m := (n : Int) + 1) (by omega)
  obtain ⟨d, hd, hd1⟩ : ∃ d : Nat, pickM b ((n : Int) + 1) = (d : Int) ∧ d ≤ n := ⟨(pickM b ((n : Int) + 1)).toNat, by omega, by omega⟩
  rw [hd]
  repeat' (first|refine bk ?_|refine bkc ?_|refine bks ?_|refine bkd ?_|refine bkq (fun q => ?_)|(refine bk2 ?_ ?_<;>(first|exact bkn|(refine bkk ?_;intro h))))
  refine CS.loop (X := Nat × Option Addr × Nat) (fun y => [(1, .int .i64 (d : Int)), (2, .string s), (7, .bool true), (8, .int .i64 (n : Int)), (9, .pointer (some ⟨br, 0, none⟩)), (12, .slice y.2.1 (fewL d n y.1).length y.2.2), (13, .int .i64 (y.1 : Int))])
    (fun y => slc intE 3 y.2.1 y.2.2 (fewL d n y.1) :: row br 35 (rlC Ad Aj n cd cj bm) :: jsA Aj cj bm xs [] F) (fun y => y.1 ≤ 2) (fun y => 2 - y.1) (0, none, 0) ⟨rfl, rfl, rfl, rfl, rfl, rfl, rfl, trivial⟩ (fun w hs => hs.slcNil intE 3) (Nat.zero_le _) ?_
  rintro ⟨k, A, c⟩ hk
  simp only at hk ⊢
  by_cases hk2 : k < 2
  · repeat' (first|refine bk ?_|refine bkc ?_|refine bks ?_|refine bkd ?_|refine bkq (fun q => ?_)|(refine bk2 ?_ ?_<;>(first|exact bkn|(refine bkk ?_;intro h))))
    refine CS.loop (X := Nat × Option Addr × Nat) (fun y => [(1, .int .i64 (d : Int)), (2, .string s), (7, .bool true), (8, .int .i64 (n : Int)), (9, .pointer (some ⟨br, 0, none⟩)), (12, .slice y.2.1 (fewL d n k ++ (fewR d n).take y.1).length y.2.2), (13, .int .i64 (k : Int)), (14, .int .i64 (y.1 : Int))])
      (fun y => slc intE 3 y.2.1 y.2.2 (fewL d n k ++ (fewR d n).take y.1) :: row br 35 (rlC Ad Aj n cd cj bm) :: jsA Aj cj bm xs [] F) (fun y => y.1 ≤ n) (fun y => n - y.1) (0, A, c) ⟨rfl, rfl, rfl, rfl, rfl, by rw [List.take_zero, List.append_nil]; rfl, rfl, rfl, trivial⟩ (fun w hs => by rw [List.take_zero, List.append_nil]; exact hs) (Nat.zero_le _) ?_
    rintro ⟨i, A2, c2⟩ hi
    simp only at hi ⊢
    have hlen : (fewL d n k ++ (fewR d n).take i).length ≤ 20 := by
      rw [List.length_append, fewL_len, List.length_take, fewR_len]
      have : k * n ≤ 1 * 5 := Nat.mul_le_mul (by omega) hn5
      omega
    by_cases hin : i < n
    · have hnx := fewR_next (d := d) hin
      by_cases hid : i < d
      · rw [if_pos hid] at hnx
        repeat' (first|refine bk ?_|refine bkc ?_|refine bks ?_|refine bkd ?_|refine bkq (fun q => ?_)|(refine bk2 ?_ ?_<;>(first|exact bkn|(refine bkk ?_;intro h))))
        refine WL.buildSlice TT rfl rfl rfl rfl rfl rfl rfl rfl (fun q2 => ?_)
        refine WL.append TT 1 (E := intE) (xs := fewL d n k ++ (fewR d n).take i) (ys := [1]) rfl rfl rfl rfl rfl (Rd.row (i := 0) rfl rfl) rfl rfl rfl rfl rfl (by decide) (by simp only [List.length_cons, List.length_nil]; omega) (fun _ _ => rfl) rfl (fun A5 c5 => ?_)
        rw [List.append_assoc, ← hnx]
        repeat' (first|refine bk ?_|refine bkc ?_|refine bks ?_|refine bkd ?_|refine bkq (fun q => ?_)|(refine bk2 ?_ ?_<;>(first|exact bkn|(refine bkk ?_;intro h))))
        refine QS.again (i + 1, A5, c5) hin (by show n - (i + 1) < n - i; omega) ⟨rfl, rfl, rfl, rfl, rfl, rfl, rfl, rfl, trivial⟩ (fun w hs => hs.drop)
      · rw [if_neg hid] at hnx
        repeat' (first|refine bk ?_|refine bkc ?_|refine bks ?_|refine bkd ?_|refine bkq (fun q => ?_)|(refine bk2 ?_ ?_<;>(first|exact bkn|(refine bkk ?_;intro h))))
        refine WL.buildSlice TT rfl rfl rfl rfl rfl rfl rfl rfl (fun q2 => ?_)
        refine WL.append TT 1 (E := intE) (xs := fewL d n k ++ (fewR d n).take i) (ys := [0]) rfl rfl rfl rfl rfl (Rd.row (i := 0) rfl rfl) rfl rfl rfl rfl rfl (by decide) (by simp only [List.length_cons, List.length_nil]; omega) (fun _ _ => rfl) rfl (fun A5 c5 => ?_)
        rw [List.append_assoc, ← hnx]
        repeat' (first|refine bk ?_|refine bkc ?_|refine bks ?_|refine bkd ?_|refine bkq (fun q => ?_)|(refine bk2 ?_ ?_<;>(first|exact bkn|(refine bkk ?_;intro h))))
        refine QS.again (i + 1, A5, c5) hin (by show n - (i + 1) < n - i; omega) ⟨rfl, rfl, rfl, rfl, rfl, rfl, rfl, rfl, trivial⟩ (fun w hs => hs.drop)
    · obtain rfl : i = n := by omega
      have e : fewL d i k ++ (fewR d i).take i = fewL d i (k + 1) := by rw [fewL, List.take_of_length_le (by rw [fewR_len]; omega)]
      rw [e]
      repeat' (first|refine bk ?_|refine bkc ?_|refine bks ?_|refine bkd ?_|refine bkq (fun q => ?_)|(refine bk2 ?_ ?_<;>(first|exact bkn|(refine bkk ?_;intro h))))
      refine QS.again (k + 1, A2, c2) hk2 (by show 2 - (k + 1) < 2 - k; omega) ⟨rfl, rfl, rfl, rfl, rfl, rfl, rfl, trivial⟩ (fun w hs => hs)
  · obtain rfl : k = 2 := by omega
    obtain ⟨fd1, fd2⟩ := few_fd d n
    have hI := few_i64 d n 2
    have hfl : (fewL d n 2).length = n + n := by rw [fewL_len]; omega
    refine CS.fact (p := (fewL d n 2).length ≤ c) (slc_cap (i := 0) rfl) (fun hc => ?_)
    generalize fewL d n 2 = fs at fd1 fd2 hI hfl hc ⊢
    repeat' (first|refine bk ?_|refine bkc ?_|refine bks ?_|refine bkd ?_|refine bkq (fun q => ?_)|(refine bk2 ?_ ?_<;>(first|exact bkn|(refine bkk ?_;intro h))))
    rw [show (if (600 : Int) < (s.size : Int) then (600 : Int) else (s.size : Int)) = ((min s.size 600 : Nat) : Int) from by split <;> omega]
    refine WL.s (op1_slice TT (l := 0) (r := ((min s.size 600 : Nat) : Int)) (s := s) rfl rfl rfl rfl ⟨by omega, by omega, by omega⟩) rfl ?_
    rw [show (0 : Int).toNat = 0 from rfl, Int.toNat_natCast]
    obtain ⟨z, hz⟩ : ∃ z, z = s.extract 0 (min s.size 600) := ⟨_, rfl⟩
    have hzs : z.size ≤ 600 := by rw [hz, ByteArray.size_extract]; omega
    rw [← hz]
    clear hz
    repeat' (first|refine bk ?_|refine bkc ?_|refine bks ?_|refine bkq (fun q => ?_)|(refine bk2 ?_ ?_<;>(first|exact bkn|(refine bkk ?_;intro h))))
    refine CS.drawT 8 mixed (by kernel_rfl) rfl ?_
    repeat' (first|refine bk ?_|refine bkc ?_|refine bks ?_|refine bkd ?_|refine bkh ?_|refine bkq (fun q => ?_)|((first|refine bk2 ?_ ?_|refine bk2h ?_ ?_)<;>(first|exact bkn|(refine bkk ?_;intro h))))
    refine WL.call c11 rfl rfl rfl rfl (q_New Aj n cj bm hn5 hcj W0 _) ?_
    rintro _ _ ⟨bq, rfl, rfl⟩
    repeat' (first|refine bk ?_|refine bkc ?_|refine bks ?_|refine bkd ?_|refine bkq (fun q => ?_)|(refine bk2 ?_ ?_<;>(first|exact bkn|(refine bkk ?_;intro h))))
    have hu := new0_hu hN
    have hu2 : Hu J00 d xs := fun i x hx => ⟨(hu i x hx).1, fun _ => (hu i x hx).2 (Nat.zero_le _)⟩
    rw [← hl] at fd1 fd2
    have hn2 : (n : Int).tdiv 2 = (n : Int) / 2 := Int.tdiv_eq_ediv_of_nonneg (by omega)
    have hw2 : IntKind.i64.wrap (IntKind.i64.wrap ((n : Int).tdiv 2) + 1) = (n : Int) / 2 + 1 := by
      have h1 : IntKind.i64.wrap ((n : Int) / 2) = (n : Int) / 2 := w64 (by omega)
      have h2 : IntKind.i64.wrap ((n : Int) / 2 + 1) = (n : Int) / 2 + 1 := w64 (by omega)
      rw [hn2, h1, h2]
    by_cases hmaj : n / 2 + 1 ≤ n - d
    · obtain ⟨x1, m1, p1, h1, l1⟩ := begin_ok hu2 fd1 fd2 (ep := 1) (by decide) (by decide) (by decide) [] (by omega) (by omega)
      have k1 := begin_ok2 (w := ⟨0, 0, false⟩) k0 (m := []) (by decide) 1 fs
      rw [p1] at k1
      rw [hl] at l1
      obtain ⟨x2, m2, p2, h2, l2⟩ := write_ok h1 (fs := fs) (by rw [l1, ← hl]; exact fd1) (ep := 1) rfl rfl (by decide) hzs (by decide) m1 (by omega) (by omega)
      refine WL.call c12 rfl rfl rfl rfl ((q_Begin2 (bq := bq) (Aj := Aj) (cj := cj) (bm := bm) (n := n) p1 hl k0 hn5 (by decide) (by unfold I64; decide) (A := A) (k := fs.length) (c := c) rfl hc (by omega) hI W0 (slc intE 3 A c fs :: F) (Rd.slc (i := 0) rfl)).pre (fun w hs => hs.ord 6 [0, 3, 4, 5, 1] rfl)) ?_
      rintro _ _ ⟨Al, cl, rfl, rfl⟩
      repeat' (first|refine bk ?_|refine bkc ?_|refine bks ?_|refine bkd ?_|refine bkq (fun q => ?_)|(refine bk2 ?_ ?_<;>(first|exact bkn|(refine bkk ?_;intro h))))
      refine WL.call c13 rfl rfl rfl rfl ((q_Write2 (bq := bq) (Aj := Aj) (cj := cj) (bm := bm) (n := n) p2 l1 k1.1 hn5 k1.2.2.2.1 (by decide) (by unfold I64; decide) (by omega) (A := A) (k := fs.length) (c := c) rfl hI W0 (slc intE 3 A c fs :: F) (Rd.slc (i := 0) rfl)).pre (fun w hs => hs.drop)) ?_
      rintro _ _ ⟨rfl, rfl⟩
      repeat' (first|refine bk ?_|refine bkc ?_|refine bks ?_|refine bkd ?_|refine bkq (fun q => ?_)|(refine bk2 ?_ ?_<;>(first|exact bkn|(refine bkk ?_;intro h))))
      refine WL.call c14 rfl rfl rfl rfl (q_Many bq Aj n cj bm ⟨1, 1, false⟩ W0 _) ?_
      rintro _ _ ⟨rfl, rfl⟩
      repeat' (first|refine bk ?_|refine bkc ?_|refine bks ?_|refine bkd ?_|refine bkq (fun q => ?_)|(refine bk2 ?_ ?_<;>(first|exact bkn|(refine bkk ?_;intro h))))
      refine WL.call c15 rfl rfl rfl rfl (q_Epoch bq Aj n cj bm ⟨1, 1, false⟩ W0 _) ?_
      rintro _ _ ⟨rfl, rfl⟩
      repeat' (first|refine bk ?_|refine bkc ?_|refine bks ?_|refine bkd ?_|refine bkq (fun q => ?_)|(refine bk2 ?_ ?_<;>(first|exact bkn|(refine bkk ?_;intro h))))
      exact QS.turn (G' := F) (fun w hs => hs.ord 5 [] rfl) (QS.retV Tryz.results3 rfl ⟨rfl, rfl⟩)
    · obtain ⟨x1, m1, p1⟩ := begin_few hu2 fd1 (ep := 1) (by decide) (by decide) (by decide) [] (by omega) (by omega)
      have k1 := begin_ok2 (w := ⟨0, 0, false⟩) k0 (m := []) (by decide) 1 fs
      rw [p1] at k1
      have p2 : writeM ⟨0, 0, true⟩ x1 m1 z [] = ⟨[], 14, ⟨0, 0, true⟩, x1, m1⟩ := by unfold writeM; rw [if_pos (.inl rfl)]
      refine WL.call c12 rfl rfl rfl rfl ((q_Begin2 (bq := bq) (Aj := Aj) (cj := cj) (bm := bm) (n := n) p1 hl k0 hn5 (by decide) (by unfold I64; decide) (A := A) (k := fs.length) (c := c) rfl hc (by omega) hI W0 (slc intE 3 A c fs :: F) (Rd.slc (i := 0) rfl)).pre (fun w hs => hs.ord 6 [0, 3, 4, 5, 1] rfl)) ?_
      rintro _ _ ⟨Al, cl, rfl, rfl⟩
      repeat' (first|refine bk ?_|refine bkc ?_|refine bks ?_|refine bkd ?_|refine bkq (fun q => ?_)|(refine bk2 ?_ ?_<;>(first|exact bkn|(refine bkk ?_;intro h))))
      refine WL.call c13 rfl rfl rfl rfl ((q_Write2 (bq := bq) (Aj := Aj) (cj := cj) (bm := bm) (n := n) p2 (k1.2.1.trans hl) k1.1 hn5 k1.2.2.2.1 (by decide) (by unfold I64; decide) (by omega) (A := none) (k := 0) (c := 0) rfl (fun x hx => by cases hx) W0 F Rd.nil).pre (fun w hs => hs.ord 6 [1, 2, 3, 4] rfl)) ?_
      rintro _ _ ⟨rfl, rfl⟩
      repeat' (first|refine bk ?_|refine bkc ?_|refine bks ?_|refine bkd ?_|refine bkq (fun q => ?_)|(refine bk2 ?_ ?_<;>(first|exact bkn|(refine bkk ?_;intro h))))
      exact QS.turn (G' := F) (fun w hs => hs.ord 4 [] rfl) (QS.retV Tryz.results3 rfl ⟨rfl, rfl⟩)
end Go.Proofs.YtfolmcpfdcgliaaGreat.B

set_option linter.unusedVariables false
set_option linter.unusedSimpArgs false
set_option maxRecDepth 8000
/-! The rows' opening and closing. -/
namespace Go.Proofs.YtfolmcpfdcgliaaGreat.B
open Go Go.Proofs Go.ChangeShapes Go.WideShapes Go.ChangeAt Go.RowKit

section
variable {H : Type} {enc : TypeId × Value → H} {P : Program} {W W' : World}
theorem trodAll_below (hl : laidOutB P = true) (hb : Below W.heap.size W W') : ∀ {ts : List TypeId} {vs : List Value} {ds : List (DataW H)} {ps : List MemPlace}, (∀ t ∈ ts, P.readableRec t = true ∧ t < P.types.size) →
    DataW.TrodAll enc P W 0 (fun _ => true) true ts vs ds ps → (∀ x ∈ ps, x.block < W.heap.size) → DataW.TrodAll enc P W' 0 (fun b => decide (b < W.heap.size)) true ts vs ds ps
  | [], [], [], _, _, h, _ => h
  | _ :: _, _ :: _, _ :: _, _, ht, ⟨p, q, h1, h2, e⟩, hlt => by
    subst e
    have h3 := ht _ (List.mem_cons_self ..)
    exact ⟨p, q, Below.trod hl h3.1 h3.2 h1 hb (fun x hx => hlt x (List.mem_append_left _ hx)), trodAll_below hl hb (fun t h => ht t (List.mem_cons_of_mem _ h)) h2 (fun x hx => hlt x (List.mem_append_right _ hx)), rfl⟩
/-- A law's post, of a walk that leaves the old blocks alone. -/
theorem law_post {f : Func} {s : ChangeSpec} {fresh handsOn : Bool} {args : Array Value} {ds gs : List (DataW H)} {before : List MemPlace} {v : Value}
    (hl : laidOutB P = true) (hvars : s.vars = []) (ht : f.params.toList.all (fun t => P.readableRec t && decide (t < P.types.size)) = true)
    (hW : DataW.Whole enc P f.params.toList s.vars false W args.toList ds gs before) (hb : Below W.heap.size W W')
    (hres : DataW.TrodAll enc P W' (match fresh with | true => W.heap.size | false => 0) (fun _ => false) handsOn f.resultTypes.toList (v.resultList f.resultTypes.size) (s.fn H ds).results [])
    (hargs : (s.fn H ds).args = ds) (hv2 : (s.fn H ds).vars = []) : s.post enc P f false fresh handsOn false W args v W' := by
  have hlt := hW.lt
  have hW' := hW
  obtain ⟨p, q, hA, hV, rfl, hfz, hnd⟩ := hW
  rw [hvars] at hV
  obtain ⟨rfl, rfl⟩ := trodVars_none hV
  refine ⟨ds, [], p ++ [], [], p, [], hW', ?_, ?_, ?_, ?_, fun h => (by cases h)⟩
  · rw [List.append_nil]; exact hres
  · rw [List.append_nil, hargs]
    refine trodAll_below hl hb (fun t h => ?_) hA (fun x hx => hlt x (List.mem_append_left _ hx))
    have := List.all_eq_true.1 ht t h
    simpa using this
  · rw [List.append_nil, hvars, hv2]; rfl
  · exact hb.frame _
end
theorem spot_none {w : World} {a : Addr} {v : Value} (h : w.cell? a = some v) : a.spot = none := by
  unfold World.cell? at h
  split at h
  · cases hs : a.spot with
    | none => rfl
    | some x => rw [hs] at h; simp at h
  · cases h
theorem wf_i64 {n : Int} (h : (Lit.int .i64 n).wf = true) : I64 n := by
  unfold I64
  simp only [Lit.wf, Bool.and_eq_true, decide_eq_true_eq] at h
  exact h
theorem Rd.old {α : Type} {E : EncK α} {W : World} {A : Option Addr} {xs : List α} (h : RdC W A (flat E xs)) : Rd W [B.old W W.heap.size] E A xs := fun w hs => by
  have hb := hs.oldBelow rfl
  rcases h with h | ⟨b, o, rfl, hc⟩
  · exact .inl h
  · refine .inr ⟨b, o, rfl, fun j u hj => ?_⟩
    have h1 := hc j u hj
    have hlt := World.block_lt_of_cell? W ⟨b, o + j, none⟩ (u := u) h1
    rw [World.cell?_of_block (w := W) (hb.block b hlt)]
    exact h1
/-- A walk from the beginning, for a row. -/
theorem Fn.row {P : Program} {K : Nat} {vs : List Value} {W : World} {u : Value} (h : Fn P K vs W [B.old W W.heap.size] (Ret fun v G' => v = u ∧ G' = [B.old W W.heap.size])) :
    Calls P K vs.toArray W fun e w' => e = .returned u ∧ Below W.heap.size W w' := by
  refine (h W (Sat.start W)).mono ?_
  rintro e w' ⟨G', hR, hs⟩
  cases e with
  | returned v => obtain ⟨rfl, rfl⟩ := hR; exact ⟨rfl, hs.oldBelow rfl⟩
  | panicked ch => exact hR.elim
  | outgrown => exact hR.elim

theorem prog_own : ownKnob Tryz.prog.godebug = none := by kernel_rfl
theorem prog_laid : laidOutB Tryz.prog = true := by kernel_rfl
end Go.Proofs.YtfolmcpfdcgliaaGreat.B
