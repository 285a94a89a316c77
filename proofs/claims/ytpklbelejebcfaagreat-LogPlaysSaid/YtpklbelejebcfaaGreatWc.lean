import Derived.Test.YtpklbelejebcfaaGreatAu
import Derived.Test.YtpklbelejebcfaaGreatTi
import Derived.Test.YtpklbelejebcfaaGreatWn
set_option linter.unusedVariables false
set_option linter.unusedSimpArgs false
/-! Numbers and texts of the wire. -/
namespace Go.Proofs.YtpklbelejebcfaaGreat.B
open Go Go.Proofs
attribute [local irreducible] WL CS QS WQ WH WS Fn Op1 row Sat

theorem wrap_u (k : IntKind) (hk : k.signed = false) (n : Int) : ∃ m : Nat, k.wrap n = (m : Int) ∧ m < 2 ^ k.bits ∧ (m : Int) = n % 2 ^ k.bits := by
  simp only [IntKind.wrap, hk, Bool.false_and, Bool.false_eq_true, if_false]
  have h0 : (0 : Int) < 2 ^ k.bits := Int.pow_pos (by decide)
  have h1 := Int.emod_nonneg n (Int.ne_of_gt h0)
  have h2 := Int.emod_lt_of_pos n h0
  exact ⟨(n % 2 ^ k.bits).toNat, by omega, by exact_mod_cast (show ((n % 2 ^ k.bits).toNat : Int) < 2 ^ k.bits by omega), by omega⟩
theorem zig_code {n : Int} (h : I64 n) : bitop .xor .u64 (IntKind.u64.wrap (IntKind.u64.wrap n * 2 ^ 1)) (IntKind.u64.wrap (n.fdiv (2 ^ 63))) = (zig n : Int) := by
  obtain ⟨a, ha, ha1, ha2⟩ := wrap_u .u64 rfl (IntKind.u64.wrap n * 2 ^ 1)
  obtain ⟨c, hc, hc1, hc2⟩ := wrap_u .u64 rfl n
  rw [ha]
  rw [hc] at ha2
  simp only [show IntKind.u64.bits = 64 from rfl] at *
  unfold I64 at h
  have hf : n.fdiv (2 ^ 63) = if 0 ≤ n then 0 else -1 := by
    rw [Int.fdiv_eq_ediv_of_nonneg _ (by decide)]
    split <;> omega
  rw [hf]
  by_cases h0 : 0 ≤ n
  · rw [if_pos h0, show IntKind.u64.wrap 0 = ((0 : Nat) : Int) from rfl, bit_xor rfl ha1 (by decide), Nat.xor_zero, zig, if_pos h0]
    omega
  · rw [if_neg h0, show IntKind.u64.wrap (-1) = ((2 ^ 64 - 1 : Nat) : Int) from rfl, bit_xor rfl ha1 (by decide), xor_ones 64 _ ha1, zig, if_neg h0]
    omega

theorem leb_big {z : Nat} (h : 128 ≤ z) : leb z = UInt8.ofNat (z % 128 + 128) :: leb (z / 128) := by rw [leb, if_neg (by omega)]
theorem leb_small {z : Nat} (h : z < 128) : leb z = [UInt8.ofNat z] := by rw [leb, if_pos h]
theorem flat_byte (c : UInt8) (n : Nat) (h : n = c.toNat) : flat byteE [c] = [.int .u8 (n : Int)] := by subst h; rfl
theorem low7 (z : Nat) : bitop .or .u8 (IntKind.u8.wrap (z : Int)) 128 = ((z % 128 + 128 : Nat) : Int) := by
  obtain ⟨a, ha, ha1, ha2⟩ := wrap_u .u8 rfl (z : Int)
  simp only [show IntKind.u8.bits = 8 from rfl] at *
  rw [ha, show (128 : Int) = ((128 : Nat) : Int) from rfl, bit_or rfl ha1 (by decide), or_128 _ (by omega)]
  omega
theorem toNat_ofNat {n : Nat} (h : n < 256) : (UInt8.ofNat n).toNat = n := by rw [UInt8.toNat_ofNat']; omega

set_option maxHeartbeats 1000000 in
theorem wire_Num {n : Int} (hn : I64 n) (W0 : World) (G : List SL) :
    Fn Tryz.prog 57 [.int .i64 n] W0 G (Ret fun v G' => v = .string (mk (numB n)) ∧ G' = G) := by
  refine Fn.enter Tryz.func57 rfl Tryz.ntmps57 rfl ?_
  repeat' (first|refine bk ?_|refine bkc ?_|refine bks ?_|refine bkd ?_|refine bkq (fun q => ?_)|(refine bk2 ?_ ?_<;>(first|exact bkn|(refine bkk ?_;intro h))))
  refine CS.loop (X := Nat × List UInt8 × Option Addr × Nat) (fun x => [(3, .slice x.2.2.1 x.2.1.length x.2.2.2), (4, .int .u64 (x.1 : Int))]) (fun x => slc byteE 5 x.2.2.1 x.2.2.2 x.2.1 :: G)
    (fun x => x.1 < 2 ^ 64 ∧ x.2.1 ++ leb x.1 = numB n) (fun x => x.1) (zig n, [], none, 0) ⟨rfl, by rw [← zig_code hn]; rfl, trivial⟩ (fun w hs => hs.slcNil _ _) ⟨zig_lt hn, rfl⟩ ?_
  rintro ⟨z, l, A, c⟩ ⟨hz, hl⟩
  simp only at *
  have hlen := congrArg List.length hl
  rw [List.length_append] at hlen
  have hnl := num_len hn
  repeat' (first|refine bk ?_|refine bkc ?_|refine bks ?_|refine bkd ?_|refine bkq (fun q => ?_)|(refine bk2 ?_ ?_<;>(first|exact bkn|(refine bkk ?_;intro h))))
  · refine WL.buildSlice TT rfl rfl rfl rfl rfl rfl rfl rfl (fun q => ?_)
    refine WL.append TT (E := byteE) (xs := l) (ys := [UInt8.ofNat (z % 128 + 128)]) 1 rfl rfl rfl rfl rfl (Rd.row (i := 0) rfl (by rw [low7]; exact flat_byte _ _ (toNat_ofNat (by omega)).symm)) rfl rfl rfl rfl rfl (by decide) (by simp; omega) (fun _ _ => rfl) rfl (fun A' c' => ?_)
    repeat' (first|refine bk ?_|refine bkc ?_|refine bks ?_|refine bkd ?_|refine bkq (fun q => ?_)|(refine bk2 ?_ ?_<;>(first|exact bkn|(refine bkk ?_;intro h))))
    have e7 : (z : Int).fdiv (2 ^ 7) = ((z / 128 : Nat) : Int) := by rw [Int.fdiv_eq_ediv_of_nonneg _ (by decide)]; omega
    refine QS.again (z / 128, l ++ [UInt8.ofNat (z % 128 + 128)], A', c') ⟨by simp only; omega, ?_⟩ (by simp only; omega) ⟨rfl, ?_, trivial⟩ (fun w hs => hs.drop)
    · rw [← hl, leb_big (z := z) (by omega), List.append_assoc]; rfl
    · rw [← e7]; rfl
  · have hs1 : leb z = [UInt8.ofNat z] := leb_small (by omega)
    have hw : IntKind.u8.wrap (z : Int) = (z : Int) := by
      obtain ⟨a, ha, ha1, ha2⟩ := wrap_u .u8 rfl (z : Int)
      simp only [show IntKind.u8.bits = 8 from rfl] at *
      rw [ha]; omega
    repeat' (first|refine bk ?_|refine bkc ?_|refine bks ?_|refine bkd ?_|refine bkq (fun q => ?_)|(refine bk2 ?_ ?_<;>(first|exact bkn|(refine bkk ?_;intro h))))
    refine WL.buildSlice TT rfl rfl rfl rfl rfl rfl rfl rfl (fun q => ?_)
    refine WL.append TT (E := byteE) (xs := l) (ys := [UInt8.ofNat z]) 1 rfl rfl rfl rfl rfl (Rd.row (i := 0) rfl (by first | rw [hw]; exact flat_byte (UInt8.ofNat z) z (toNat_ofNat (by omega)).symm | exact flat_byte (UInt8.ofNat z) z (toNat_ofNat (by omega)).symm)) rfl rfl rfl rfl rfl (by decide) (by simp; omega) (fun _ _ => rfl) rfl (fun A' c' => ?_)
    refine WL.s (op1_b2s TT (Rd.slc (i := 1) rfl) rfl rfl rfl rfl rfl) rfl ?_
    repeat' (first|refine bk ?_|refine bkc ?_|refine bks ?_|refine bkd ?_|refine bkq (fun q => ?_)|(refine bk2 ?_ ?_<;>(first|exact bkn|(refine bkk ?_;intro h))))
    refine QS.turn (G' := G) (fun w hs => hs.drop.drop) (QS.retV Tryz.results57 rfl ⟨?_, rfl⟩)
    rw [← hl, hs1]; rfl

theorem op1_is {P : Program} {n : Nat} {ds : List Deferred} {L : TL} {W0 : World} {G : List SL} {ty : TypeId} {op : Op} {v v' : Value} (h : Op1 P n ds L W0 G op ty v) (e : v = v') : Op1 P n ds L W0 G op ty v' := e ▸ h
section
variable {P : Program} (T : Tab P) {n : Nat} {ds : List Deferred} {L : TL} {W0 : World} {G : List SL} {ty : TypeId}
include T in
theorem op1_shl {x y : Operand} {t t2 : Nat} {k k' : IntKind} {a b : Int} (hx : evL L x = some (.int k a)) (hy : evL L y = some (.int k' b)) (h : 0 ≤ b) :
    Op1 P n ds L W0 G (.binOp .shl t x y t2) ty (.int k (k.wrap (a * 2 ^ (min b.toNat k.bits)))) := by
  refine op1_pure T ?_
  simp only [pureOp, hx, hy, binV, shiftBin, decide_eq_false (show ¬ b < 0 by omega)]
include T in
theorem op1_idxB {t : Nat} {x y : Operand} {s : ByteArray} {k : IntKind} {i : Int} {c : UInt8} {z b c1 : _} (hl : lk T.tab t = some ⟨.string, z, b, c1⟩) (hx : evL L x = some (.string s)) (hy : evL L y = some (.int k i))
    (h0 : 0 ≤ i) (hc : (bs s)[i.toNat]? = some c) : Op1 P n ds L W0 G (.index t x y) ty (.int .u8 (c.toNat : Int)) := by
  have h1 : i.toNat < s.size := by rw [← bs_len]; exact (List.getElem?_eq_some_iff.1 hc).1
  have h2 := bs_get s i.toNat h1
  rw [hc] at h2
  injection h2 with h2
  subst h2
  exact op1_index T hl hx hy h0 (by omega)
end

theorem takeNum_eq {l : List UInt8} {o : Option (Int × List UInt8)} (h : TN l o) : takeNum l = o := (takeNum_TN l).unique h
theorem part7 {z i : Nat} {c : UInt8} (hz : z < 128 ^ i) (hi : i ≤ 9) (hc : i = 9 → c.toNat ≤ 1) :
    bitop .or .u64 (z : Int) (IntKind.u64.wrap (IntKind.u64.wrap (bitop .and .u8 (c.toNat : Int) 127) * 2 ^ min ((7 * i : Nat) : Int).toNat IntKind.u64.bits)) = ((z + c.toNat % 128 * 128 ^ i : Nat) : Int) ∧ z + c.toNat % 128 * 128 ^ i < 2 ^ 64 := by
  have hc2 := c.toNat_lt
  have e0 : (128 : Nat) ^ i = 2 ^ (7 * i) := by rw [Nat.pow_mul]
  have e1 : bitop .and .u8 (c.toNat : Int) 127 = ((c.toNat % 128 : Nat) : Int) := by
    rw [show (127 : Int) = ((127 : Nat) : Int) from rfl, bit_and rfl (by exact hc2) (by decide), and_127 _ (by omega)]
  have e2 : min ((7 * i : Nat) : Int).toNat IntKind.u64.bits = 7 * i := by
    rw [Int.toNat_natCast]; show min (7 * i) 64 = 7 * i; omega
  have hb : c.toNat % 128 * 128 ^ i < 2 ^ 64 ∧ z + c.toNat % 128 * 128 ^ i < 2 ^ 64 := by
    rcases Nat.lt_or_ge i 9 with h9 | h9
    · have h1 : 128 ^ i ≤ 128 ^ 8 := Nat.pow_le_pow_right (by decide) (by omega)
      have h2 : c.toNat % 128 * 128 ^ i ≤ 127 * 128 ^ 8 := Nat.mul_le_mul (by omega) h1
      omega
    · have : i = 9 := by omega
      subst this
      have := hc rfl
      omega
  have e3 : IntKind.u64.wrap ((c.toNat % 128 : Nat) : Int) = ((c.toNat % 128 : Nat) : Int) := wrapU rfl (by show _ < 2 ^ 64; omega)
  have e4 : IntKind.u64.wrap (((c.toNat % 128 : Nat) : Int) * 2 ^ (7 * i)) = ((c.toNat % 128 * 128 ^ i : Nat) : Int) := by
    rw [show ((c.toNat % 128 : Nat) : Int) * 2 ^ (7 * i) = ((c.toNat % 128 * 128 ^ i : Nat) : Int) from by rw [e0]; push_cast; rfl]
    exact wrapU rfl (by show _ < 2 ^ 64; omega)
  rw [e1, e3, e2, e4]
  refine ⟨?_, hb.2⟩
  have hz' : z < 2 ^ 64 := by omega
  rw [bit_or rfl (by exact hz') (by exact hb.1), e0, or_add (by rw [← e0]; exact hz)]

theorem zag_code {z : Nat} (h : z < 2 ^ 64) : bitop .xor .i64 (IntKind.i64.wrap ((z : Int).fdiv (2 ^ 1))) (IntKind.i64.wrap (0 - IntKind.i64.wrap (bitop .and .u64 (z : Int) 1))) = zag z := by
  have e1 : bitop .and .u64 (z : Int) 1 = ((z % 2 : Nat) : Int) := by
    rw [show (1 : Int) = ((1 : Nat) : Int) from rfl, bit_and rfl (by exact h) (by decide), Nat.and_one_is_mod]
  have e2 : (z : Int).fdiv (2 ^ 1) = ((z / 2 : Nat) : Int) := by rw [Int.fdiv_eq_ediv_of_nonneg _ (by decide)]; omega
  have e3 : IntKind.i64.wrap ((z / 2 : Nat) : Int) = ((z / 2 : Nat) : Int) := w64 (by omega)
  have e4 : IntKind.i64.wrap ((z % 2 : Nat) : Int) = ((z % 2 : Nat) : Int) := w64 (by omega)
  have e5 : IntKind.i64.wrap (0 - ((z % 2 : Nat) : Int)) = 0 - ((z % 2 : Nat) : Int) := w64 (by omega)
  rw [e1, e2, e3, e4, e5, Int.zero_sub, xor_i64 (by omega) (by omega), zag]
  split <;> split <;> omega
theorem take_rest {s : ByteArray} (h : (bs s).length = s.size) (i : Nat) : ((bs s).drop i).take (s.size - i) = (bs s).drop i := List.take_of_length_le (by rw [List.length_drop]; omega)

set_option maxRecDepth 8000 in
theorem wire_TakeNum (s : ByteArray) (hs : s.size ≤ 9223372036854775807) (W0 : World) (G : List SL) :
    Fn Tryz.prog 67 [.string s] W0 G (Ret fun v G' => v = (match takeNum (bs s) with | some (n, r) => .tuple #[.int .i64 n, .string (mk r), .int .i64 0] | none => .tuple #[.int .i64 0, .string ⟨#[]⟩, .int .i64 2]) ∧ G' = G) := by
  refine Fn.enter Tryz.func67 rfl Tryz.ntmps67 rfl ?_
  repeat' (first|refine bk ?_|refine bkc ?_|refine bks ?_|refine bkd ?_|refine bkq (fun q => ?_)|(refine bk2 ?_ ?_<;>(first|exact bkn|(refine bkk ?_;intro h))))
  obtain ⟨K, hK, hKe⟩ : ∃ K : Nat, (if (10 : Int) < (s.size : Int) then (10 : Int) else (s.size : Int)) = (K : Int) ∧ K = min 10 s.size := ⟨min 10 s.size, by split <;> omega, rfl⟩
  have hlen := bs_len s
  refine CS.loop (X := Nat × Nat) (fun x => [(0, .string s), (5, .int .u64 (x.2 : Int)), (6, .int .i64 ((7 * x.1 : Nat) : Int)), (11, .int .i64 (K : Int)), (12, .int .i64 (x.1 : Int))]) (fun x => G)
    (fun x => x.1 ≤ K ∧ Cont (bs s) x.1 ∧ x.2 = val ((bs s).take x.1)) (fun x => K - x.1) (0, 0) ⟨rfl, rfl, rfl, by rw [← hK]; rfl, rfl, trivial⟩ (fun w hs => hs) ⟨Nat.zero_le _, Cont.zero _, by simp [val]⟩ ?_
  rintro ⟨i, z⟩ ⟨hi, hct, hz⟩
  simp only at *
  have hzl : z < 128 ^ i := hz ▸ val_take_lt _ _
  repeat' (first|refine bk ?_|refine bkc ?_|refine bks ?_|refine bkd ?_|refine bkq (fun q => ?_)|(refine bk2 ?_ ?_<;>(first|exact bkn|(refine bkk ?_;intro h))))
  · have hi2 : i < K := by omega
    obtain ⟨c, hc⟩ : ∃ c, (bs s)[i]? = some c := ⟨(bs s)[i]'(by omega), List.getElem?_eq_getElem (by omega)⟩
    refine WL.s (op1_idxB TT (c := c) rfl rfl rfl (by omega) (by rw [Int.toNat_natCast]; exact hc)) rfl ?_
    have hc256 := c.toNat_lt
    have hp := part7 (c := c) hzl (by omega)
    generalize hk : c.toNat = k at *
    repeat' (first|refine bk ?_|refine bkc ?_|refine bks ?_|refine bkd ?_|refine bkq (fun q => ?_)|(refine bk2 ?_ ?_<;>(first|exact bkn|(refine bkk ?_;intro h))))
    all_goals try (refine QS.retV Tryz.results67 rfl ⟨?_, rfl⟩; rw [takeNum_eq (o := none)]; · rfl)
    · have : i = 9 := by omega
      subst this; exact tn_big hct hc (by omega)
    · exact tn_zero hct (by omega) hc (by omega)
    · have hp := hp (by omega)
      refine WQ.s (op1_slice (l := (i : Int) + 1) (r := s.size) TT rfl rfl rfl rfl (by omega)) rfl ?_
      repeat' (first|refine bk ?_|refine bkc ?_|refine bks ?_|refine bkd ?_|refine bkq (fun q => ?_)|(refine bk2 ?_ ?_<;>(first|exact bkn|(refine bkk ?_;intro h))))
      refine QS.retV Tryz.results67 rfl ⟨?_, rfl⟩
      have hvl : val ((bs s).take (i + 1)) < 2 ^ 64 := by rw [val_next hc, ← hz, hk]; exact hp.2
      have hZ : z + k % 128 * 128 ^ i = val ((bs s).take (i + 1)) := by rw [val_next hc, ← hz, hk]
      rw [takeNum_eq (tn_some hct hc (by omega) (by omega) hvl), hp.1, hZ, ext_mk]
      have e1 : ((i : Int) + 1).toNat = i + 1 := by omega
      simp only [e1, Int.toNat_natCast, take_rest hlen]
      rw [← zag_code hvl]
      rfl
    · exact tn_zero hct (by omega) hc (by omega)
    · have hp := hp (by omega)
      refine WQ.s (op1_slice (l := (i : Int) + 1) (r := s.size) TT rfl rfl rfl rfl (by omega)) rfl ?_
      repeat' (first|refine bk ?_|refine bkc ?_|refine bks ?_|refine bkd ?_|refine bkq (fun q => ?_)|(refine bk2 ?_ ?_<;>(first|exact bkn|(refine bkk ?_;intro h))))
      refine QS.retV Tryz.results67 rfl ⟨?_, rfl⟩
      have hvl : val ((bs s).take (i + 1)) < 2 ^ 64 := by rw [val_next hc, ← hz, hk]; exact hp.2
      have hZ : z + k % 128 * 128 ^ i = val ((bs s).take (i + 1)) := by rw [val_next hc, ← hz, hk]
      rw [takeNum_eq (tn_some hct hc (by omega) (by omega) hvl), hp.1, hZ, ext_mk]
      have e1 : ((i : Int) + 1).toNat = i + 1 := by omega
      simp only [e1, Int.toNat_natCast, take_rest hlen]
      rw [← zag_code hvl]
      rfl
    · have hp := hp (by omega)
      refine WQ.s (op1_slice (l := (i : Int) + 1) (r := s.size) TT rfl rfl rfl rfl (by omega)) rfl ?_
      repeat' (first|refine bk ?_|refine bkc ?_|refine bks ?_|refine bkd ?_|refine bkq (fun q => ?_)|(refine bk2 ?_ ?_<;>(first|exact bkn|(refine bkk ?_;intro h))))
      refine QS.retV Tryz.results67 rfl ⟨?_, rfl⟩
      have hvl : val ((bs s).take (i + 1)) < 2 ^ 64 := by rw [val_next hc, ← hz, hk]; exact hp.2
      have hZ : z + k % 128 * 128 ^ i = val ((bs s).take (i + 1)) := by rw [val_next hc, ← hz, hk]
      rw [takeNum_eq (tn_some hct hc (by omega) (by omega) hvl), hp.1, hZ, ext_mk]
      have e1 : ((i : Int) + 1).toNat = i + 1 := by omega
      simp only [e1, Int.toNat_natCast, take_rest hlen]
      rw [← zag_code hvl]
      rfl
    · refine QS.again (i + 1, val ((bs s).take (i + 1))) ⟨by simp only; omega, hct.succ hc (by omega), rfl⟩ (by simp only; omega) ⟨rfl, ?_, ?_, rfl, ?_, trivial⟩ (fun w hs => hs)
      · rw [val_next hc, ← hz, hk, ← (hp (fun h => absurd h (by omega))).1]; rfl
      · show _ = some (Value.int .i64 ((7 * (i + 1) : Nat) : Int))
        rw [show ((7 * (i + 1) : Nat) : Int) = ((7 * i : Nat) : Int) + 7 from by omega]; rfl
      · show _ = some (Value.int .i64 ((i + 1 : Nat) : Int))
        rw [show ((i + 1 : Nat) : Int) = (i : Int) + 1 from by omega]; rfl
  · refine QS.retV Tryz.results67 rfl ⟨?_, rfl⟩
    rw [takeNum_eq (o := none)]
    · rfl
    · exact tn_end hct (by omega)
end Go.Proofs.YtpklbelejebcfaaGreat.B
