import Derived.Test.YtfolmcpfdcgliaaGreatMg14
set_option linter.unusedVariables false
set_option linter.unusedSimpArgs false
set_option maxRecDepth 8000
namespace Go.Proofs.YtfolmcpfdcgliaaGreat.B
open Go Go.Proofs
attribute [local irreducible] WL CS QS WQ WH WS Fn Op1 row Sat
theorem mk_cat2 (l : List UInt8) (s : ByteArray) : mk l ++ s = mk (l ++ bs s) := by rw [← mk_bs s, mk_cat]
theorem wire_Text (s : ByteArray) (hs : s.size ≤ 9223372036854775807) (W0 : World) (G : List SL) :
    Fn Tryz.prog 162 [.string s] W0 G (Ret fun v G' => v = (if 4000 < s.size then .tuple #[.string ⟨#[]⟩, .int .i64 4] else .tuple #[.string (mk (textB (bs s))), .int .i64 0]) ∧ G' = G) := by
  refine Fn.enter Tryz.func162 rfl Tryz.ntmps162 rfl ?_
  repeat' (first|refine bA ?_|refine bkq fun q=>?_|(refine bk2 ?_ ?_<;>(first|exact bkn|(refine bkk ?_;intro h))))
  · refine QS.retV Tryz.results162 rfl ⟨?_, rfl⟩
    rw [if_pos (by omega)]; rfl
  · refine WL.call c75 rfl rfl rfl rfl (wire_Num (n := s.size) (by unfold I64; omega) W0 G) ?_
    rintro _ _ ⟨rfl, rfl⟩
    have hm := mk_size (numB (s.size : Int))
    have hm2 := num_len (n := s.size) (by unfold I64; omega)
    repeat' (first|refine bA ?_|refine bkq fun q=>?_|(refine bk2 ?_ ?_<;>(first|exact bkn|(refine bkk ?_;intro h))))
    refine QS.retV Tryz.results162 rfl ⟨?_, rfl⟩
    rw [if_neg (by omega), textB, bs_len, ← mk_cat2]; rfl
def takeTextV (o : Option (List UInt8 × List UInt8)) (good bad : Value) : Value :=
  match o with
  | none => .tuple #[.string ⟨#[]⟩, .string ⟨#[]⟩, bad]
  | some (x, r) => .tuple #[.string (mk x), .string (mk r), good]
set_option maxHeartbeats 1000000 in
theorem wire_TakeText (s : ByteArray) (hs : s.size ≤ 9223372036854775807) (W0 : World) (G : List SL) :
    Fn Tryz.prog 103 [.string s] W0 G (Ret fun v G' => v = takeTextV (takeText (bs s)) (.int .i64 0) (.int .i64 2) ∧ G' = G) := by
  refine Fn.enter Tryz.func103 rfl Tryz.ntmps103 rfl ?_
  repeat' (first|refine bA ?_|refine bkq fun q=>?_|(refine bk2 ?_ ?_<;>(first|exact bkn|(refine bkk ?_;intro h))))
  refine WL.call c64 rfl rfl rfl rfl (wire_TakeNum s hs W0 G) ?_
  rintro _ _ ⟨rfl, rfl⟩
  unfold takeText
  cases hT : takeNum (bs s) with
  | none =>
    simp only
    repeat' (first|refine bA ?_|refine bkq fun q=>?_|(refine bk2 ?_ ?_<;>(first|exact bkn|(refine bkk ?_;intro h))))
    exact QS.retV Tryz.results103 rfl ⟨rfl, rfl⟩
  | some p =>
    obtain ⟨n, r⟩ := p
    simp only
    obtain ⟨hn, hr⟩ := takeNum_some hT
    have hms := mk_size r
    have hlr : r.length ≤ s.size := by have := congrArg List.length hr; rw [List.length_append, bs_len] at this; omega
    unfold I64 at hn
    repeat' (first|refine bA ?_|refine bkq fun q=>?_|(refine bk2 ?_ ?_<;>(first|exact bkn|(refine bkk ?_;intro h))))
    · refine QS.retV Tryz.results103 rfl ⟨?_, rfl⟩
      rw [if_pos (by omega)]; rfl
    · refine QS.retV Tryz.results103 rfl ⟨?_, rfl⟩
      rw [if_pos (by split at h <;> omega)]; rfl
    · have hb : n ≤ 4000 ∧ n ≤ r.length := by split at h <;> omega
      refine WQ.s (op1_slice (l := 0) (r := n) TT rfl rfl rfl rfl (by omega)) rfl ?_
      repeat' (first|refine bA ?_|refine bkq fun q=>?_|(refine bk2 ?_ ?_<;>(first|exact bkn|(refine bkk ?_;intro h))))
      refine WQ.s (op1_slice (l := n) (r := (mk r).size) TT rfl rfl rfl rfl (by omega)) rfl ?_
      repeat' (first|refine bA ?_|refine bkq fun q=>?_|(refine bk2 ?_ ?_<;>(first|exact bkn|(refine bkk ?_;intro h))))
      refine QS.retV Tryz.results103 rfl ⟨?_, rfl⟩
      rw [if_neg (by omega), ext_mk, ext_mk, bs_mk, Int.toNat_natCast, hms, List.take_of_length_le (l := r.drop n.toNat) (by rw [List.length_drop]; omega)]
      rfl
set_option maxHeartbeats 1000000 in
theorem sum_Sum (s : ByteArray) (hs : s.size ≤ 9223372036854775807) (W0 : World) (G : List SL) :
    Fn Tryz.prog 105 [.string s] W0 G (Ret fun v G' => v = .int .u32 (crc (bs s) : Int) ∧ G' = G) := by
  refine Fn.enter Tryz.func105 rfl Tryz.ntmps105 rfl ?_
  repeat' (first|refine bA ?_|refine bkq fun q=>?_|(refine bk2 ?_ ?_<;>(first|exact bkn|(refine bkk ?_;intro h))))
  refine WL.s2b TT rfl rfl rfl rfl rfl (fun b cp => ?_)
  repeat' (first|refine bA ?_|refine bkq fun q=>?_|(refine bk2 ?_ ?_<;>(first|exact bkn|(refine bkk ?_;intro h))))
  have hlen := bs_len s
  refine CS.loop (X := Nat × Nat) (fun x => [(3, .int .u32 (x.2 : Int)), (7, .slice (some ⟨b, 0, none⟩) s.size cp), (8, .int .i64 (s.size : Int)), (9, .int .i64 (x.1 : Int))]) (fun x => rdb byteE b (bs s) :: G)
    (fun x => x.1 ≤ s.size ∧ x.2 = ((bs s).take x.1).foldl crcByte 4294967295) (fun x => s.size - x.1) (0, 4294967295) ⟨rfl, rfl, rfl, rfl, trivial⟩ (fun w hs => hs) ⟨Nat.zero_le _, by simp⟩ ?_
  rintro ⟨i, x⟩ ⟨hi, hx⟩
  simp only at *
  have hx32 : x < 2 ^ 32 := hx ▸ foldl_lt _ (by decide)
  repeat' (first|refine bA ?_|refine bkq fun q=>?_|(refine bk2 ?_ ?_<;>(first|exact bkn|(refine bkk ?_;intro h))))
  · have hi2 : i < s.size := by omega
    obtain ⟨c, hc⟩ : ∃ c, (bs s)[i]? = some c := ⟨(bs s)[i]'(by omega), List.getElem?_eq_getElem (by omega)⟩
    refine WL.idx TT (Rd.rdb (i := 0) rfl) rfl rfl hlen.symm (by omega) (by rw [Int.toNat_natCast]; exact hc) rfl rfl rfl rfl (fun b2 o hA => ?_)
    refine WL.s (op1_at TT hA rfl rfl rfl rfl) rfl ?_
    repeat' (first|refine bA ?_|refine bkq fun q=>?_|(refine bk2 ?_ ?_<;>(first|exact bkn|(refine bkk ?_;intro h))))
    have hf := first_code hx32 c
    refine CS.loop (X := Nat × Nat) (fun x => [(3, .int .u32 (x.2 : Int)), (7, .slice (some ⟨b, 0, none⟩) s.size cp), (8, .int .i64 (s.size : Int)), (9, .int .i64 (i : Int)), (17, .int .i64 (x.1 : Int))]) (fun x => rdb byteE b (bs s) :: G)
      (fun y => y.1 ≤ 8 ∧ y.2 = crcBits y.1 (x ^^^ c.toNat)) (fun y => 8 - y.1) (0, x ^^^ c.toNat) ⟨by rw [← hf]; rfl, rfl, rfl, rfl, rfl, trivial⟩ (fun w hs => hs) ⟨Nat.zero_le _, rfl⟩ ?_
    rintro ⟨j, y⟩ ⟨hj, hy⟩
    simp only at *
    have hy32 : y < 2 ^ 32 := hy ▸ crcBits_lt _ (Nat.xor_lt_two_pow hx32 (Nat.lt_trans c.toNat_lt (by decide)))
    repeat' (first|refine bA ?_|refine bkq fun q=>?_|(refine bk2 ?_ ?_<;>(first|exact bkn|(refine bkk ?_;intro h))))
    · have hb := bit_code hy32
      refine QS.again (j + 1, crcBit y) ⟨by simp only; omega, by simp only; rw [hy, crcBits_succ]⟩ (by simp only; omega) ⟨?_, rfl, rfl, rfl, ?_, trivial⟩ (fun w hs => hs)
      · rw [← hb]; rfl
      · rw [show ((j + 1 : Nat) : Int) = (j : Int) + 1 from by omega]; rfl
    · have hj8 : j = 8 := by omega
      subst hj8
      refine QS.again (i + 1, y) ⟨by simp only; omega, ?_⟩ (by simp only; omega) ⟨rfl, rfl, rfl, ?_, trivial⟩ (fun w hs => hs)
      · simp only
        rw [fold_next hc, ← hx, hy]; rfl
      · rw [show ((i + 1 : Nat) : Int) = (i : Int) + 1 from by omega]; rfl
  · refine QS.turn (G' := G) (fun w hs => hs.drop) (QS.retV Tryz.results105 rfl ⟨?_, rfl⟩)
    have hi2 : i = s.size := by omega
    rw [List.take_of_length_le (by omega)] at hx
    rw [crc, ← hx, Nat.xor_comm, ← bit_xor (k := .u32) rfl (by decide) (by exact hx32)]
    rfl
theorem byte_code {x : Nat} (k : Nat) (h : x < 2 ^ 32) : IntKind.u8.wrap ((x : Int).fdiv (2 ^ k)) = ((UInt8.ofNat (x / 2 ^ k)).toNat : Int) := by
  have e2 : (x : Int).fdiv (2 ^ k) = ((x / 2 ^ k : Nat) : Int) := by rw [Int.fdiv_eq_ediv_of_nonneg _ (Int.le_of_lt (Int.pow_pos (by decide)))]; push_cast; rfl
  obtain ⟨a, ha, ha1, ha2⟩ := wrap_u .u8 rfl ((x / 2 ^ k : Nat) : Int)
  simp only [show IntKind.u8.bits = 8 from rfl] at *
  rw [e2, ha, UInt8.toNat_ofNat']
  omega
theorem byte_code0 {x : Nat} (h : x < 2 ^ 32) : IntKind.u8.wrap (x : Int) = ((UInt8.ofNat x).toNat : Int) := by
  obtain ⟨a, ha, ha1, ha2⟩ := wrap_u .u8 rfl (x : Int)
  simp only [show IntKind.u8.bits = 8 from rfl] at *
  rw [ha, UInt8.toNat_ofNat']
  omega
theorem flat_four {x : Nat} (h : x < 2 ^ 32) : flat byteE (four x) = [.int .u8 (IntKind.u8.wrap ((x : Int).fdiv (2 ^ 24))), .int .u8 (IntKind.u8.wrap ((x : Int).fdiv (2 ^ 16))), .int .u8 (IntKind.u8.wrap ((x : Int).fdiv (2 ^ 8))), .int .u8 (IntKind.u8.wrap (x : Int))] := by
  rw [byte_code 24 h, byte_code 16 h, byte_code 8 h, byte_code0 h]; rfl
theorem sum_four (x : Nat) (h : x < 2 ^ 32) (W0 : World) (G : List SL) :
    Fn Tryz.prog 104 [.int .u32 (x : Int)] W0 G (Ret fun v G' => v = .string (mk (four x)) ∧ G' = G) := by
  refine Fn.enter Tryz.func104 rfl Tryz.ntmps104 rfl ?_
  repeat' (first|refine bA ?_|refine bkq fun q=>?_|(refine bk2 ?_ ?_<;>(first|exact bkn|(refine bkk ?_;intro h))))
  refine WL.s (op1_sliceArr TT rfl rfl rfl) rfl ?_
  refine WL.s (op1_b2s TT (Rd.row (i := 0) rfl (flat_four h)) rfl rfl rfl rfl rfl) rfl ?_
  repeat' (first|refine bA ?_|refine bkq fun q=>?_|(refine bk2 ?_ ?_<;>(first|exact bkn|(refine bkk ?_;intro h))))
  exact QS.turn (G' := G) (fun w hs => hs.drop) (QS.retV Tryz.results104 rfl ⟨rfl, rfl⟩)
theorem sum_Seal (s : ByteArray) (hs : s.size ≤ 9223372036854775807) (W0 : World) (G : List SL) :
    Fn Tryz.prog 134 [.string s] W0 G (Ret fun v G' => v = (if 4000 < s.size then .tuple #[.string ⟨#[]⟩, .int .i64 4] else .tuple #[.string (mk (sealB (bs s))), .int .i64 0]) ∧ G' = G) := by
  refine Fn.enter Tryz.func134 rfl Tryz.ntmps134 rfl ?_
  repeat' (first|refine bA ?_|refine bkq fun q=>?_|(refine bk2 ?_ ?_<;>(first|exact bkn|(refine bkk ?_;intro h))))
  refine WL.call c162 rfl rfl rfl rfl (wire_Text s hs W0 G) ?_
  rintro _ _ ⟨rfl, rfl⟩
  by_cases h4 : 4000 < s.size
  · simp only [if_pos h4]
    repeat' (first|refine bA ?_|refine bkq fun q=>?_|(refine bk2 ?_ ?_<;>(first|exact bkn|(refine bkk ?_;intro h))))
    exact QS.retV Tryz.results134 rfl ⟨rfl, rfl⟩
  · simp only [if_neg h4]
    repeat' (first|refine bA ?_|refine bkq fun q=>?_|(refine bk2 ?_ ?_<;>(first|exact bkn|(refine bkk ?_;intro h))))
    refine WL.call c105 rfl rfl rfl rfl (sum_Sum s hs W0 _) ?_
    rintro _ _ ⟨rfl, rfl⟩
    refine WL.call c104 rfl rfl rfl rfl (sum_four _ (crc_lt _) W0 _) ?_
    rintro _ _ ⟨rfl, rfl⟩
    have hm := mk_size (textB (bs s))
    have hm2 := mk_size (four (crc (bs s)))
    have hm3 := num_len (n := (bs s).length) (by unfold I64; rw [bs_len]; omega)
    have hm4 : (textB (bs s)).length = (numB (bs s).length).length + s.size := by rw [textB, List.length_append, bs_len]
    have hm5 := four_len (crc (bs s))
    repeat' (first|refine bA ?_|refine bkq fun q=>?_|(refine bk2 ?_ ?_<;>(first|exact bkn|(refine bkk ?_;intro h))))
    refine QS.retV Tryz.results134 rfl ⟨?_, rfl⟩
    rw [sealB, ← mk_cat]; rfl
def openV (o : Int × List UInt8 × List UInt8) : Value := .tuple #[.string (mk o.2.1), .string (mk o.2.2), .int .i64 o.1]
set_option maxHeartbeats 1000000 in
theorem sum_Open (s : ByteArray) (hs : s.size ≤ 9223372036854775807) (W0 : World) (G : List SL) :
    Fn Tryz.prog 63 [.string s] W0 G (Ret fun v G' => v = openV (openB (bs s)) ∧ G' = G) := by
  refine Fn.enter Tryz.func63 rfl Tryz.ntmps63 rfl ?_
  repeat' (first|refine bA ?_|refine bkq fun q=>?_|(refine bk2 ?_ ?_<;>(first|exact bkn|(refine bkk ?_;intro h))))
  refine WL.call c103 rfl rfl rfl rfl (wire_TakeText s hs W0 G) ?_
  rintro _ _ ⟨rfl, rfl⟩
  rw [openB]
  cases hT : takeText (bs s) with
  | none =>
    simp only [takeTextV, openT]
    repeat' (first|refine bA ?_|refine bkq fun q=>?_|(refine bk2 ?_ ?_<;>(first|exact bkn|(refine bkk ?_;intro h))))
    exact QS.retV Tryz.results63 rfl ⟨rfl, rfl⟩
  | some p =>
    obtain ⟨x, r⟩ := p
    simp only [takeTextV]
    obtain ⟨hr, hx⟩ := takeText_some hT
    have hms := mk_size r
    have hmx := mk_size x
    have hlr : r.length ≤ s.size := by have := congrArg List.length hr; rw [List.length_append, bs_len] at this; omega
    repeat' (first|refine bA ?_|refine bkq fun q=>?_|(refine bk2 ?_ ?_<;>(first|exact bkn|(refine bkk ?_;intro h))))
    · refine QS.retV Tryz.results63 rfl ⟨?_, rfl⟩
      simp only [openT]
      rw [if_pos (by omega)]; rfl
    · refine WQ.s (op1_slice (l := 0) (r := 4) TT rfl rfl rfl rfl (by omega)) rfl ?_
      repeat' (first|refine bA ?_|refine bkq fun q=>?_|(refine bk2 ?_ ?_<;>(first|exact bkn|(refine bkk ?_;intro h))))
      refine WQ.call c105 rfl rfl rfl rfl (sum_Sum (mk x) (by omega) W0 _) ?_
      refine WQ.call c104 rfl rfl rfl rfl (sum_four _ (crc_lt _) W0 _) ?_
      have he : (mk r).extract 0 4 = mk (r.take 4) := by rw [ext_mk]; rfl
      repeat' (first|refine bA ?_|refine bkq fun q=>?_|(refine bk2 ?_ ?_<;>(first|exact bkn|(refine bkk ?_;intro h))))
      · refine QS.retV Tryz.results63 rfl ⟨?_, rfl⟩
        have h2 : ¬ r.take 4 = four (crc x) := fun e => h (he.trans (by rw [e]))
        simp only [openT]
        rw [if_neg (by omega), if_neg h2]; rfl
      · refine WQ.s (op1_slice (l := 4) (r := (mk r).size) TT rfl rfl rfl rfl (by omega)) rfl ?_
        repeat' (first|refine bA ?_|refine bkq fun q=>?_|(refine bk2 ?_ ?_<;>(first|exact bkn|(refine bkk ?_;intro h))))
        refine QS.retV Tryz.results63 rfl ⟨?_, rfl⟩
        have h2 : r.take 4 = four (crc x) := by
          have h3 : mk (r.take 4) = mk (four (crc x)) := he.symm.trans h
          exact congrArg bs h3
        simp only [openT]
        rw [if_neg (by omega), if_pos h2, ext_mk, bs_mk, Int.toNat_natCast, hms, List.take_of_length_le (by rw [List.length_drop]; exact Nat.le_refl _)]
        rfl
end Go.Proofs.YtfolmcpfdcgliaaGreat.B
