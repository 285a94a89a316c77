import Derived.Test.YtfolmcpfdcgliaaGreatMg15
set_option linter.unusedVariables false
set_option linter.unusedSimpArgs false
set_option maxRecDepth 8000
namespace Go.Proofs.YtfolmcpfdcgliaaGreat.B
open Go Go.Proofs
attribute [local irreducible] WL CS QS WQ WH WS Fn Op1 row Sat
theorem zigr_code {n : Int} (h : I64 n) : (0 ≤ n → IntKind.u64.wrap (IntKind.u64.wrap n * 2) = (zig n : Int)) ∧ (n < 0 → bitop .xor .u64 (match IntKind.u64.signed with | true => -1 | false => IntKind.u64.max) (IntKind.u64.wrap (IntKind.u64.wrap n * 2)) = (zig n : Int)) := by
  obtain ⟨a, ha, ha1, ha2⟩ := wrap_u .u64 rfl (IntKind.u64.wrap n * 2)
  obtain ⟨c, hc, hc1, hc2⟩ := wrap_u .u64 rfl n
  rw [ha]
  rw [hc] at ha2
  simp only [show IntKind.u64.bits = 64 from rfl] at *
  unfold I64 at h
  refine ⟨fun h0 => ?_, fun h0 => ?_⟩
  · rw [zig, if_pos h0]; omega
  · rw [zig, if_neg (by omega), show (match IntKind.u64.signed with | true => -1 | false => IntKind.u64.max) = ((2 ^ 64 - 1 : Nat) : Int) from rfl, bit_xor rfl (by decide) ha1, Nat.xor_comm, xor_ones 64 _ ha1]
    omega
set_option maxHeartbeats 1000000 in
theorem ref_Num {n : Int} (hn : I64 n) (W0 : World) (G : List SL) :
    Fn Tryz.prog 152 [.int .i64 n] W0 G (Ret fun v G' => v = .string (mk (numB n)) ∧ G' = G) := by
  refine Fn.enter Tryz.func152 rfl Tryz.ntmps152 rfl ?_
  refine CS.seq ?_
  repeat' (first|refine bA ?_|refine bkq fun q=>?_|(refine bk2 ?_ ?_<;>(first|exact bkn|(refine bkk ?_;intro h))))
  all_goals
    refine CS.loop (X := Nat × List UInt8 × Option Addr × Nat) (fun x => [(4, .slice x.2.2.1 x.2.1.length x.2.2.2), (3, .int .u64 (x.1 : Int))]) (fun x => slc byteE 5 x.2.2.1 x.2.2.2 x.2.1 :: G)
      (fun x => x.1 < 2 ^ 64 ∧ x.2.1 ++ leb x.1 = numB n) (fun x => x.1) (zig n, [], none, 0) ⟨rfl, by first | (rw [← (zigr_code hn).1 (by omega)]; rfl) | (rw [← (zigr_code hn).2 (by omega)]; rfl), trivial⟩ (fun w hs => hs.slcNil _ _) ⟨zig_lt hn, rfl⟩ ?_
    rintro ⟨z, l, A, c⟩ ⟨hz, hl⟩
    simp only at *
    have hlen := congrArg List.length hl
    rw [List.length_append] at hlen
    have hnl := num_len hn
    have e1 : (z : Int).tmod 128 = ((z % 128 : Nat) : Int) := by rw [Int.tmod_eq_emod_of_nonneg (by omega)]; omega
    have e2 : (z : Int).tdiv 128 = ((z / 128 : Nat) : Int) := by rw [Int.tdiv_eq_ediv_of_nonneg (by omega)]; omega
    have e3 : IntKind.u64.wrap ((z / 128 : Nat) : Int) = ((z / 128 : Nat) : Int) := wrapU rfl (by show _ < 2 ^ 64; omega)
    have e4 : IntKind.u64.wrap (((z % 128 : Nat) : Int) + 128) = ((z % 128 + 128 : Nat) : Int) := wrapU (n := z % 128 + 128) rfl (by show _ < 2 ^ 64; omega)
    have e5 : IntKind.u8.wrap ((z % 128 + 128 : Nat) : Int) = ((z % 128 + 128 : Nat) : Int) := wrapU rfl (by show _ < 2 ^ 8; omega)
    repeat' (first|refine bA ?_|refine bkq fun q=>?_|(refine bk2 ?_ ?_<;>(first|exact bkn|(refine bkk ?_;intro h))))
    · refine WL.buildSlice TT rfl rfl rfl rfl rfl rfl rfl rfl (fun q => ?_)
      refine WL.append TT (E := byteE) (xs := l) (ys := [UInt8.ofNat (z % 128 + 128)]) 1 rfl rfl rfl rfl rfl (Rd.row (i := 0) rfl (by rw [e1, e4, e5]; exact flat_byte _ _ (toNat_ofNat (by omega)).symm)) rfl rfl rfl rfl rfl (by decide) (by simp; omega) (fun _ _ => rfl) rfl (fun A' c' => ?_)
      repeat' (first|refine bA ?_|refine bkq fun q=>?_|(refine bk2 ?_ ?_<;>(first|exact bkn|(refine bkk ?_;intro h))))
      refine QS.again (z / 128, l ++ [UInt8.ofNat (z % 128 + 128)], A', c') ⟨by simp only; omega, ?_⟩ (by simp only; omega) ⟨rfl, ?_, trivial⟩ (fun w hs => hs.drop)
      · rw [← hl, leb_big (z := z) (by omega), List.append_assoc]; rfl
      · rw [← e3, ← e2]; rfl
    · have hs1 : leb z = [UInt8.ofNat z] := leb_small (by omega)
      have hw : IntKind.u8.wrap (z : Int) = (z : Int) := wrapU rfl (by show _ < 2 ^ 8; omega)
      repeat' (first|refine bA ?_|refine bkq fun q=>?_|(refine bk2 ?_ ?_<;>(first|exact bkn|(refine bkk ?_;intro h))))
      refine WL.buildSlice TT rfl rfl rfl rfl rfl rfl rfl rfl (fun q => ?_)
      refine WL.append TT (E := byteE) (xs := l) (ys := [UInt8.ofNat z]) 1 rfl rfl rfl rfl rfl (Rd.row (i := 0) rfl (by first | rw [hw]; exact flat_byte (UInt8.ofNat z) z (toNat_ofNat (by omega)).symm | exact flat_byte (UInt8.ofNat z) z (toNat_ofNat (by omega)).symm)) rfl rfl rfl rfl rfl (by decide) (by simp; omega) (fun _ _ => rfl) rfl (fun A' c' => ?_)
      refine WL.s (op1_b2s TT (Rd.slc (i := 1) rfl) rfl rfl rfl rfl rfl) rfl ?_
      repeat' (first|refine bA ?_|refine bkq fun q=>?_|(refine bk2 ?_ ?_<;>(first|exact bkn|(refine bkk ?_;intro h))))
      refine QS.turn (G' := G) (fun w hs => hs.drop.drop) (QS.retV Tryz.results152 rfl ⟨?_, rfl⟩)
      rw [← hl, hs1]; rfl
theorem zagr_code {z : Nat} (h : z < 2 ^ 64) : ((z : Int).tmod 2 = 1 → IntKind.i64.wrap (IntKind.i64.wrap (0 - IntKind.i64.wrap (IntKind.u64.wrap ((z : Int).tdiv 2))) - 1) = zag z) ∧ (¬ (z : Int).tmod 2 = 1 → IntKind.i64.wrap (IntKind.u64.wrap ((z : Int).tdiv 2)) = zag z) := by
  have e1 : (z : Int).tmod 2 = ((z % 2 : Nat) : Int) := by rw [Int.tmod_eq_emod_of_nonneg (by omega)]; omega
  have e2 : (z : Int).tdiv 2 = ((z / 2 : Nat) : Int) := by rw [Int.tdiv_eq_ediv_of_nonneg (by omega)]; omega
  have e3 : IntKind.u64.wrap ((z / 2 : Nat) : Int) = ((z / 2 : Nat) : Int) := wrapU rfl (by show _ < 2 ^ 64; omega)
  have e4 : IntKind.i64.wrap ((z / 2 : Nat) : Int) = ((z / 2 : Nat) : Int) := w64 (by omega)
  have e5 : IntKind.i64.wrap (0 - ((z / 2 : Nat) : Int)) = 0 - ((z / 2 : Nat) : Int) := w64 (by omega)
  have e6 : IntKind.i64.wrap (0 - ((z / 2 : Nat) : Int) - 1) = 0 - ((z / 2 : Nat) : Int) - 1 := w64 (by omega)
  rw [e1, e2, e3, e4, e5, e6, zag]
  refine ⟨fun h0 => ?_, fun h0 => ?_⟩
  · rw [if_neg (by omega)]; omega
  · rw [if_pos (by omega)]
theorem step_code {z : Nat} {c : UInt8} (h : z < 2 ^ 64) : IntKind.u64.wrap (IntKind.u64.wrap ((z : Int) * 128) + IntKind.u64.wrap ((c.toNat : Int).tmod 128)) = (((c.toNat % 128 + 128 * z) % 2 ^ 64 : Nat) : Int) := by
  have hc := c.toNat_lt
  have e1 : (c.toNat : Int).tmod 128 = ((c.toNat % 128 : Nat) : Int) := by rw [Int.tmod_eq_emod_of_nonneg (by omega)]; omega
  have e2 : IntKind.u64.wrap ((c.toNat % 128 : Nat) : Int) = ((c.toNat % 128 : Nat) : Int) := wrapU rfl (by show _ < 2 ^ 64; omega)
  obtain ⟨a, ha, ha1, ha2⟩ := wrap_u .u64 rfl ((z : Int) * 128)
  rw [e1, e2, ha]
  obtain ⟨b, hb, hb1, hb2⟩ := wrap_u .u64 rfl ((a : Int) + ((c.toNat % 128 : Nat) : Int))
  rw [hb]
  simp only [show IntKind.u64.bits = 64 from rfl] at *
  omega
theorem val_drop {l : List UInt8} {j : Nat} {c : UInt8} (h : l[j]? = some c) : val (l.drop j) = c.toNat % 128 + 128 * val (l.drop (j + 1)) := by
  obtain ⟨hj, e⟩ := List.getElem?_eq_some_iff.1 h
  rw [List.drop_eq_getElem_cons hj, e]; rfl
def takeNumV (o : Option (Int × List UInt8)) : Value := match o with | some (n, r) => .tuple #[.int .i64 n, .string (mk r), .bool true] | none => .tuple #[.int .i64 0, .string ⟨#[]⟩, .bool false]
set_option maxHeartbeats 2000000 in
theorem ref_TakeNum (s : ByteArray) (hs : s.size ≤ 9223372036854775807) (W0 : World) (G : List SL) :
    Fn Tryz.prog 115 [.string s] W0 G (Ret fun v G' => v = takeNumV (takeNum (bs s)) ∧ G' = G) := by
  refine Fn.enter Tryz.func115 rfl Tryz.ntmps115 rfl ?_
  repeat' (first|refine bA ?_|refine bkq fun q=>?_|(refine bk2 ?_ ?_<;>(first|exact bkn|(refine bkk ?_;intro h))))
  have hlen := bs_len s
  refine CS.loop (X := Nat) (fun x => [(0, .string s), (5, .int .i64 ((x + 1 : Nat) : Int))]) (fun x => G)
    (fun x => x ≤ 10 ∧ x ≤ s.size ∧ Cont (bs s) x) (fun x => 10 - x) 0 ⟨rfl, rfl, trivial⟩ (fun w hs => hs) ⟨Nat.zero_le _, Nat.zero_le _, Cont.zero _⟩ ?_
  rintro i ⟨hi, hi2, hct⟩
  repeat' (first|refine bA ?_|refine bkq fun q=>?_|(refine bk2 ?_ ?_<;>(first|exact bkn|(refine bkk ?_;intro h))))
  · have hi9 : i < s.size ∧ i ≤ 9 := by omega
    obtain ⟨c, hc⟩ : ∃ c, (bs s)[i]? = some c := ⟨(bs s)[i]'(by omega), List.getElem?_eq_getElem (by omega)⟩
    refine WL.s (op1_idxB TT (c := c) rfl rfl rfl (by omega) (by rw [show (((i + 1 : Nat) : Int) - 1).toNat = i from by omega]; exact hc)) rfl ?_
    have hc256 := c.toNat_lt
    generalize hk : c.toNat = k at *
    repeat' (first|refine bA ?_|refine bkq fun q=>?_|(refine bk2 ?_ ?_<;>(first|exact bkn|(refine bkk ?_;intro h))))
    · refine QS.again (i + 1) ⟨by omega, by omega, hct.succ hc (by omega)⟩ (by omega) ⟨rfl, ?_, trivial⟩ (fun w hs => hs)
      rw [show ((i + 1 + 1 : Nat) : Int) = ((i + 1 : Nat) : Int) + 1 from by omega]; rfl
    · refine CS.loop (X := Nat × Nat) (fun x => [(0, .string s), (5, .int .i64 ((i + 1 : Nat) : Int)), (6, .int .u64 (x.2 : Int)), (7, .int .i64 ((x.1 : Int) - 1))]) (fun x => G)
        (fun x => x.1 ≤ i + 1 ∧ x.2 = val (((bs s).take (i + 1)).drop x.1) % 2 ^ 64) (fun x => x.1) (i + 1, 0) ⟨rfl, rfl, rfl, rfl, trivial⟩ (fun w hs => hs) ⟨Nat.le_refl _, ?_⟩ ?_
      · simp only
        rw [List.drop_eq_nil_of_le (by rw [List.length_take]; omega)]; rfl
      rintro ⟨j, z⟩ ⟨hj, hz⟩
      simp only at *
      have hz64 : z < 2 ^ 64 := by rw [hz]; exact Nat.mod_lt _ (by decide)
      repeat' (first|refine bA ?_|refine bkq fun q=>?_|(refine bk2 ?_ ?_<;>(first|exact bkn|(refine bkk ?_;intro h))))
      · obtain ⟨j, rfl⟩ : ∃ m, j = m + 1 := ⟨j - 1, by omega⟩
        obtain ⟨d, hd⟩ : ∃ d, (bs s)[j]? = some d := ⟨(bs s)[j]'(by omega), List.getElem?_eq_getElem (by omega)⟩
        refine WL.s (op1_idxB TT (c := d) rfl rfl rfl (by omega) (by rw [show (((j + 1 : Nat) : Int) - 1).toNat = j from by omega]; exact hd)) rfl ?_
        repeat' (first|refine bA ?_|refine bkq fun q=>?_|(refine bk2 ?_ ?_<;>(first|exact bkn|(refine bkk ?_;intro h))))
        have hst := step_code (c := d) hz64
        have hdt : ((bs s).take (i + 1))[j]? = some d := by rw [List.getElem?_take, if_pos (by omega), hd]
        refine QS.again (j, (d.toNat % 128 + 128 * z) % 2 ^ 64) ⟨by simp only; omega, ?_⟩ (by simp only; omega) ⟨rfl, rfl, ?_, ?_, trivial⟩ (fun w hs => hs)
        · simp only
          rw [val_drop hdt, hz]; omega
        · rw [← hst]; rfl
        · simp only
          rw [show ((j : Nat) : Int) - 1 = ((j + 1 : Nat) : Int) - 1 - 1 from by omega]; rfl
      all_goals
        have hj0 : j = 0 := by omega
        subst hj0
        rw [List.drop_zero] at hz
        have hn := tn_ref hct hc (by omega) (by omega)
        rw [← hz] at hn
        have hzc := zagr_code hz64
        first
          | rw [hzc.1 ‹(z : Int).tmod 2 = 1›]
          | rw [hzc.2 ‹¬ (z : Int).tmod 2 = 1›]
        have hI := zag_i64 hz64
        refine WQ.call c152 rfl rfl rfl rfl (ref_Num hI W0 _) ?_
        repeat' (first|refine bA ?_|refine bkq fun q=>?_|(refine bk2 ?_ ?_<;>(first|exact bkn|(refine bkk ?_;intro h))))
        refine WQ.s (op1_slice (l := 0) (r := ((i + 1 : Nat) : Int)) TT rfl rfl rfl rfl (by omega)) rfl ?_
        have he : s.extract (Int.toNat 0) ((i + 1 : Nat) : Int).toNat = mk ((bs s).take (i + 1)) := by rw [ext_mk]; simp
        repeat' (first|refine bA ?_|refine bkq fun q=>?_|(refine bk2 ?_ ?_<;>(first|exact bkn|(refine bkk ?_;intro h))))
        · refine QS.retV Tryz.results115 rfl ⟨?_, rfl⟩
          have h2 : ¬ numB (zag z) = (bs s).take (i + 1) := fun e => ‹¬ mk _ = _› (by rw [he, e])
          rw [if_neg h2] at hn
          rw [takeNum_eq hn]; rfl
        · refine WQ.s (op1_slice (l := ((i + 1 : Nat) : Int)) (r := s.size) TT rfl rfl rfl rfl (by omega)) rfl ?_
          repeat' (first|refine bA ?_|refine bkq fun q=>?_|(refine bk2 ?_ ?_<;>(first|exact bkn|(refine bkk ?_;intro h))))
          refine QS.retV Tryz.results115 rfl ⟨?_, rfl⟩
          have h2 : numB (zag z) = (bs s).take (i + 1) := congrArg bs (Eq.trans ‹mk _ = _› he)
          rw [if_pos h2] at hn
          rw [takeNum_eq hn, ext_mk]
          simp only [Int.toNat_natCast, take_rest hlen]
          rfl
  all_goals
    refine QS.retV Tryz.results115 rfl ⟨?_, rfl⟩
    rw [takeNum_eq (o := none) (tn_end hct (by omega))]; rfl
theorem ref_Text (s : ByteArray) (hs : s.size ≤ 9223372036854775807) (W0 : World) (G : List SL) :
    Fn Tryz.prog 180 [.string s] W0 G (Ret fun v G' => v = (if 4000 < s.size then .tuple #[.string ⟨#[]⟩, .bool false] else .tuple #[.string (mk (textB (bs s))), .bool true]) ∧ G' = G) := by
  refine Fn.enter Tryz.func180 rfl Tryz.ntmps180 rfl ?_
  repeat' (first|refine bA ?_|refine bkq fun q=>?_|(refine bk2 ?_ ?_<;>(first|exact bkn|(refine bkk ?_;intro h))))
  · refine QS.retV Tryz.results180 rfl ⟨?_, rfl⟩
    rw [if_pos (by omega)]; rfl
  · refine WL.call c152 rfl rfl rfl rfl (ref_Num (n := s.size) (by unfold I64; omega) W0 G) ?_
    rintro _ _ ⟨rfl, rfl⟩
    have hm := mk_size (numB (s.size : Int))
    have hm2 := num_len (n := s.size) (by unfold I64; omega)
    repeat' (first|refine bA ?_|refine bkq fun q=>?_|(refine bk2 ?_ ?_<;>(first|exact bkn|(refine bkk ?_;intro h))))
    refine QS.retV Tryz.results180 rfl ⟨?_, rfl⟩
    rw [if_neg (by omega), textB, bs_len, ← mk_cat2]; rfl
set_option maxHeartbeats 1000000 in
theorem ref_TakeText (s : ByteArray) (hs : s.size ≤ 9223372036854775807) (W0 : World) (G : List SL) :
    Fn Tryz.prog 112 [.string s] W0 G (Ret fun v G' => v = takeTextV (takeText (bs s)) (.bool true) (.bool false) ∧ G' = G) := by
  refine Fn.enter Tryz.func112 rfl Tryz.ntmps112 rfl ?_
  repeat' (first|refine bA ?_|refine bkq fun q=>?_|(refine bk2 ?_ ?_<;>(first|exact bkn|(refine bkk ?_;intro h))))
  refine WL.call c115 rfl rfl rfl rfl (ref_TakeNum s hs W0 G) ?_
  rintro _ _ ⟨rfl, rfl⟩
  unfold takeText
  cases hT : takeNum (bs s) with
  | none =>
    simp only [takeNumV]
    repeat' (first|refine bA ?_|refine bkq fun q=>?_|(refine bk2 ?_ ?_<;>(first|exact bkn|(refine bkk ?_;intro h))))
    exact QS.retV Tryz.results112 rfl ⟨rfl, rfl⟩
  | some p =>
    obtain ⟨n, r⟩ := p
    simp only [takeNumV]
    obtain ⟨hn, hr⟩ := takeNum_some hT
    have hms := mk_size r
    have hlr : r.length ≤ s.size := by have := congrArg List.length hr; rw [List.length_append, bs_len] at this; omega
    unfold I64 at hn
    repeat' (first|refine bA ?_|refine bkq fun q=>?_|(refine bk2 ?_ ?_<;>(first|exact bkn|(refine bkk ?_;intro h))))
    · refine QS.retV Tryz.results112 rfl ⟨?_, rfl⟩
      rw [if_pos (by omega)]; rfl
    · refine QS.retV Tryz.results112 rfl ⟨?_, rfl⟩
      rw [if_pos (by omega)]; rfl
    · refine QS.retV Tryz.results112 rfl ⟨?_, rfl⟩
      rw [if_pos (by omega)]; rfl
    · refine WQ.s (op1_slice (l := 0) (r := n) TT rfl rfl rfl rfl (by omega)) rfl ?_
      repeat' (first|refine bA ?_|refine bkq fun q=>?_|(refine bk2 ?_ ?_<;>(first|exact bkn|(refine bkk ?_;intro h))))
      refine WQ.s (op1_slice (l := n) (r := (mk r).size) TT rfl rfl rfl rfl (by omega)) rfl ?_
      repeat' (first|refine bA ?_|refine bkq fun q=>?_|(refine bk2 ?_ ?_<;>(first|exact bkn|(refine bkk ?_;intro h))))
      refine QS.retV Tryz.results112 rfl ⟨?_, rfl⟩
      rw [if_neg (by omega), ext_mk, ext_mk, bs_mk, Int.toNat_natCast, hms, List.take_of_length_le (l := r.drop n.toNat) (by rw [List.length_drop]; omega)]
      rfl
theorem bitr_code {x : Nat} (h : x < 2 ^ 32) : ((x : Int).tmod 2 = 1 → bitop .xor .u32 (IntKind.u32.wrap ((x : Int).tdiv 2)) 3988292384 = (crcBit x : Int)) ∧ (¬ (x : Int).tmod 2 = 1 → IntKind.u32.wrap ((x : Int).tdiv 2) = (crcBit x : Int)) := by
  have e1 : (x : Int).tmod 2 = ((x % 2 : Nat) : Int) := by rw [Int.tmod_eq_emod_of_nonneg (by omega)]; omega
  have e2 : (x : Int).tdiv 2 = ((x / 2 : Nat) : Int) := by rw [Int.tdiv_eq_ediv_of_nonneg (by omega)]; omega
  have e3 : IntKind.u32.wrap ((x / 2 : Nat) : Int) = ((x / 2 : Nat) : Int) := wrapU rfl (by show _ < 2 ^ 32; omega)
  rw [e1, e2, e3, crcBit]
  refine ⟨fun h0 => ?_, fun h0 => ?_⟩
  · rw [if_pos (by omega), show (3988292384 : Int) = ((3988292384 : Nat) : Int) from rfl, bit_xor rfl (by show _ < 2 ^ 32; omega) (by decide)]
  · rw [if_neg (by omega)]
set_option maxHeartbeats 1000000 in
theorem ref_Sum (s : ByteArray) (hs : s.size ≤ 9223372036854775807) (W0 : World) (G : List SL) :
    Fn Tryz.prog 114 [.string s] W0 G (Ret fun v G' => v = .int .u32 (crc (bs s) : Int) ∧ G' = G) := by
  refine Fn.enter Tryz.func114 rfl Tryz.ntmps114 rfl ?_
  repeat' (first|refine bA ?_|refine bkq fun q=>?_|(refine bk2 ?_ ?_<;>(first|exact bkn|(refine bkk ?_;intro h))))
  have hlen := bs_len s
  refine CS.loop (X := Nat × Nat) (fun x => [(0, .string s), (3, .int .u32 (x.2 : Int)), (4, .int .i64 (x.1 : Int))]) (fun x => G)
    (fun x => x.1 ≤ s.size ∧ x.2 = ((bs s).take x.1).foldl crcByte 4294967295) (fun x => s.size - x.1) (0, 4294967295) ⟨rfl, rfl, rfl, trivial⟩ (fun w hs => hs) ⟨Nat.zero_le _, by simp⟩ ?_
  rintro ⟨i, x⟩ ⟨hi, hx⟩
  simp only at *
  have hx32 : x < 2 ^ 32 := hx ▸ foldl_lt _ (by decide)
  repeat' (first|refine bA ?_|refine bkq fun q=>?_|(refine bk2 ?_ ?_<;>(first|exact bkn|(refine bkk ?_;intro h))))
  · have hi2 : i < s.size := by omega
    obtain ⟨c, hc⟩ : ∃ c, (bs s)[i]? = some c := ⟨(bs s)[i]'(by omega), List.getElem?_eq_getElem (by omega)⟩
    refine WL.s (op1_idxB TT (c := c) rfl rfl rfl (by omega) (by rw [Int.toNat_natCast]; exact hc)) rfl ?_
    repeat' (first|refine bA ?_|refine bkq fun q=>?_|(refine bk2 ?_ ?_<;>(first|exact bkn|(refine bkk ?_;intro h))))
    have hf := first_code hx32 c
    refine CS.loop (X := Nat × Nat) (fun x => [(0, .string s), (3, .int .u32 (x.2 : Int)), (4, .int .i64 (i : Int)), (5, .int .i64 (x.1 : Int))]) (fun x => G)
      (fun y => y.1 ≤ 8 ∧ y.2 = crcBits y.1 (x ^^^ c.toNat)) (fun y => 8 - y.1) (0, x ^^^ c.toNat) ⟨rfl, by rw [← hf]; rfl, rfl, rfl, trivial⟩ (fun w hs => hs) ⟨Nat.zero_le _, rfl⟩ ?_
    rintro ⟨j, y⟩ ⟨hj, hy⟩
    simp only at *
    have hy32 : y < 2 ^ 32 := hy ▸ crcBits_lt _ (Nat.xor_lt_two_pow hx32 (Nat.lt_trans c.toNat_lt (by decide)))
    have hb := bitr_code hy32
    repeat' (first|refine bA ?_|refine bkq fun q=>?_|(refine bk2 ?_ ?_<;>(first|exact bkn|(refine bkk ?_;intro h))))
    · refine QS.again (j + 1, crcBit y) ⟨by simp only; omega, by simp only; rw [hy, crcBits_succ]⟩ (by simp only; omega) ⟨rfl, ?_, rfl, ?_, trivial⟩ (fun w hs => hs)
      · rw [← hb.1 ‹(y : Int).tmod 2 = 1›]; rfl
      · rw [show ((j + 1 : Nat) : Int) = (j : Int) + 1 from by omega]; rfl
    · refine QS.again (j + 1, crcBit y) ⟨by simp only; omega, by simp only; rw [hy, crcBits_succ]⟩ (by simp only; omega) ⟨rfl, ?_, rfl, ?_, trivial⟩ (fun w hs => hs)
      · rw [← hb.2 ‹¬ (y : Int).tmod 2 = 1›]; rfl
      · rw [show ((j + 1 : Nat) : Int) = (j : Int) + 1 from by omega]; rfl
    · have hj8 : j = 8 := by omega
      subst hj8
      refine QS.again (i + 1, y) ⟨by simp only; omega, ?_⟩ (by simp only; omega) ⟨rfl, rfl, ?_, trivial⟩ (fun w hs => hs)
      · simp only
        rw [fold_next hc, ← hx, hy]; rfl
      · rw [show ((i + 1 : Nat) : Int) = (i : Int) + 1 from by omega]; rfl
  · refine QS.retV Tryz.results114 rfl ⟨?_, rfl⟩
    rw [List.take_of_length_le (by omega)] at hx
    rw [crc, ← hx, Nat.xor_comm, ← bit_xor (k := .u32) rfl (by decide) (by exact hx32)]
    rfl
theorem ref_Four (x : Nat) (h : x < 2 ^ 32) (W0 : World) (G : List SL) :
    Fn Tryz.prog 113 [.int .u32 (x : Int)] W0 G (Ret fun v G' => v = .string (mk (four x)) ∧ G' = G) := by
  refine Fn.enter Tryz.func113 rfl Tryz.ntmps113 rfl ?_
  repeat' (first|refine bA ?_|refine bkq fun q=>?_|(refine bk2 ?_ ?_<;>(first|exact bkn|(refine bkk ?_;intro h))))
  refine WL.buildSlice TT rfl rfl rfl rfl rfl rfl rfl rfl (fun q => ?_)
  repeat' (first|refine bA ?_|refine bkq fun q=>?_|(refine bk2 ?_ ?_<;>(first|exact bkn|(refine bkk ?_;intro h))))
  refine WL.s (op1_b2s TT (Rd.row (i := 0) rfl (flat_four h)) rfl rfl rfl rfl rfl) rfl ?_
  repeat' (first|refine bA ?_|refine bkq fun q=>?_|(refine bk2 ?_ ?_<;>(first|exact bkn|(refine bkk ?_;intro h))))
  exact QS.turn (G' := G) (fun w hs => hs.drop) (QS.retV Tryz.results113 rfl ⟨rfl, rfl⟩)
theorem ref_Seal (s : ByteArray) (hs : s.size ≤ 9223372036854775807) (W0 : World) (G : List SL) :
    Fn Tryz.prog 153 [.string s] W0 G (Ret fun v G' => v = (if 4000 < s.size then .tuple #[.string ⟨#[]⟩, .bool false] else .tuple #[.string (mk (sealB (bs s))), .bool true]) ∧ G' = G) := by
  refine Fn.enter Tryz.func153 rfl Tryz.ntmps153 rfl ?_
  repeat' (first|refine bA ?_|refine bkq fun q=>?_|(refine bk2 ?_ ?_<;>(first|exact bkn|(refine bkk ?_;intro h))))
  refine WL.call c180 rfl rfl rfl rfl (ref_Text s hs W0 G) ?_
  rintro _ _ ⟨rfl, rfl⟩
  by_cases h4 : 4000 < s.size
  · simp only [if_pos h4]
    repeat' (first|refine bA ?_|refine bkq fun q=>?_|(refine bk2 ?_ ?_<;>(first|exact bkn|(refine bkk ?_;intro h))))
    exact QS.retV Tryz.results153 rfl ⟨rfl, rfl⟩
  · simp only [if_neg h4]
    repeat' (first|refine bA ?_|refine bkq fun q=>?_|(refine bk2 ?_ ?_<;>(first|exact bkn|(refine bkk ?_;intro h))))
    refine WL.call c114 rfl rfl rfl rfl (ref_Sum s hs W0 _) ?_
    rintro _ _ ⟨rfl, rfl⟩
    refine WL.call c113 rfl rfl rfl rfl (ref_Four _ (crc_lt _) W0 _) ?_
    rintro _ _ ⟨rfl, rfl⟩
    have hm := mk_size (textB (bs s))
    have hm2 := mk_size (four (crc (bs s)))
    have hm3 := num_len (n := (bs s).length) (by unfold I64; rw [bs_len]; omega)
    have hm4 : (textB (bs s)).length = (numB (bs s).length).length + s.size := by rw [textB, List.length_append, bs_len]
    have hm5 := four_len (crc (bs s))
    repeat' (first|refine bA ?_|refine bkq fun q=>?_|(refine bk2 ?_ ?_<;>(first|exact bkn|(refine bkk ?_;intro h))))
    refine QS.retV Tryz.results153 rfl ⟨?_, rfl⟩
    rw [sealB, ← mk_cat]; rfl
set_option maxHeartbeats 1000000 in
theorem ref_Open (s : ByteArray) (hs : s.size ≤ 9223372036854775807) (W0 : World) (G : List SL) :
    Fn Tryz.prog 68 [.string s] W0 G (Ret fun v G' => v = openV (openB (bs s)) ∧ G' = G) := by
  refine Fn.enter Tryz.func68 rfl Tryz.ntmps68 rfl ?_
  repeat' (first|refine bA ?_|refine bkq fun q=>?_|(refine bk2 ?_ ?_<;>(first|exact bkn|(refine bkk ?_;intro h))))
  refine WL.call c112 rfl rfl rfl rfl (ref_TakeText s hs W0 G) ?_
  rintro _ _ ⟨rfl, rfl⟩
  rw [openB]
  cases hT : takeText (bs s) with
  | none =>
    simp only [takeTextV, openT]
    repeat' (first|refine bA ?_|refine bkq fun q=>?_|(refine bk2 ?_ ?_<;>(first|exact bkn|(refine bkk ?_;intro h))))
    exact QS.retV Tryz.results68 rfl ⟨rfl, rfl⟩
  | some p =>
    obtain ⟨x, r⟩ := p
    simp only [takeTextV]
    obtain ⟨hr, hx⟩ := takeText_some hT
    have hms := mk_size r
    have hmx := mk_size x
    have hlr : r.length ≤ s.size := by have := congrArg List.length hr; rw [List.length_append, bs_len] at this; omega
    repeat' (first|refine bA ?_|refine bkq fun q=>?_|(refine bk2 ?_ ?_<;>(first|exact bkn|(refine bkk ?_;intro h))))
    · refine QS.retV Tryz.results68 rfl ⟨?_, rfl⟩
      simp only [openT]
      rw [if_pos (by omega)]; rfl
    · refine WQ.s (op1_slice (l := 0) (r := 4) TT rfl rfl rfl rfl (by omega)) rfl ?_
      repeat' (first|refine bA ?_|refine bkq fun q=>?_|(refine bk2 ?_ ?_<;>(first|exact bkn|(refine bkk ?_;intro h))))
      refine WQ.call c114 rfl rfl rfl rfl (ref_Sum (mk x) (by omega) W0 _) ?_
      refine WQ.call c113 rfl rfl rfl rfl (ref_Four _ (crc_lt _) W0 _) ?_
      have he : (mk r).extract 0 4 = mk (r.take 4) := by rw [ext_mk]; rfl
      repeat' (first|refine bA ?_|refine bkq fun q=>?_|(refine bk2 ?_ ?_<;>(first|exact bkn|(refine bkk ?_;intro h))))
      · refine QS.retV Tryz.results68 rfl ⟨?_, rfl⟩
        have h2 : ¬ r.take 4 = four (crc x) := fun e => h (he.trans (by rw [e]))
        simp only [openT]
        rw [if_neg (by omega), if_neg h2]; rfl
      · refine WQ.s (op1_slice (l := 4) (r := (mk r).size) TT rfl rfl rfl rfl (by omega)) rfl ?_
        repeat' (first|refine bA ?_|refine bkq fun q=>?_|(refine bk2 ?_ ?_<;>(first|exact bkn|(refine bkk ?_;intro h))))
        refine QS.retV Tryz.results68 rfl ⟨?_, rfl⟩
        have h2 : r.take 4 = four (crc x) := by
          have h3 : mk (r.take 4) = mk (four (crc x)) := he.symm.trans h
          exact congrArg bs h3
        simp only [openT]
        rw [if_neg (by omega), if_pos h2, ext_mk, bs_mk, Int.toNat_natCast, hms, List.take_of_length_le (by rw [List.length_drop]; exact Nat.le_refl _)]
        rfl
end Go.Proofs.YtfolmcpfdcgliaaGreat.B
