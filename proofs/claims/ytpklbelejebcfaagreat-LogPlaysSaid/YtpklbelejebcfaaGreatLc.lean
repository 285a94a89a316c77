import Derived.Test.YtpklbelejebcfaaGreatWb
import Derived.Test.YtpklbelejebcfaaGreatWr
import Derived.Test.YtpklbelejebcfaaGreatLp
import Derived.Test.YtpklbelejebcfaaGreatTk
set_option linter.unusedVariables false
set_option linter.unusedSimpArgs false
set_option maxRecDepth 8000
/-! Logs: what is right, and its bytes. -/
namespace Go.Proofs.YtpklbelejebcfaaGreat.B
open Go Go.Proofs
attribute [local irreducible] WL CS QS WQ WH WS Fn Op1 row Sat

abbrev logV (e : Int) (A : Option Addr) (k c : Nat) : Value := .agg #[.int .i64 e, .slice A k c]
theorem logOk_false {e : Int} {xs : List Ent} (h : ¬ (0 ≤ e ∧ e ≤ 9007199254740991 ∧ xs.length ≤ 300)) : logOk e xs = false := by simp [logOk, h]
theorem logOk_true {e : Int} {xs : List Ent} (h : 0 ≤ e ∧ e ≤ 9007199254740991 ∧ xs.length ≤ 300) : logOk e xs = entsOk 0 xs := by simp [logOk, h]

set_option maxHeartbeats 1000000 in
theorem log_Right (e : Int) (A : Option Addr) (k c : Nat) (xs : List Ent) (hk : k = xs.length) (W0 : World) (G : List SL) (hR : Rd W0 G entE A xs) :
    Fn Tryz.prog 20 [logV e A k c] W0 G (Ret fun v G' => v = .bool (logOk e xs) ∧ G' = G) := by
  refine Fn.enter Tryz.func20 rfl Tryz.ntmps20 rfl ?_
  repeat' (first|refine bk ?_|refine bkc ?_|refine bks ?_|refine bkd ?_|refine bkq (fun q => ?_)|(refine bk2 ?_ ?_<;>(first|exact bkn|(refine bkk ?_;intro h))))
  all_goals try (refine QS.turn (G' := G) (fun w hs => hs.drop) (QS.retV Tryz.results20 rfl ⟨?_, rfl⟩); rw [logOk_false (by omega)]; rfl)
  have hok := logOk_true (e := e) (xs := xs) (by omega)
  refine CS.loop (X := Nat) (fun i => [(1, .pointer (some ⟨q, 0, none⟩)), (20, .slice A k c), (21, .int .i64 (k : Int)), (22, .int .i64 (i : Int))]) (fun i => row q 30 [.int .i64 e, .slice A k c] :: G)
    (fun i => i ≤ k ∧ entsOk 0 xs = entsOk i (xs.drop i)) (fun i => k - i) 0 ⟨rfl, rfl, rfl, rfl, trivial⟩ (fun w hs => hs) ⟨Nat.zero_le _, rfl⟩ ?_
  rintro i ⟨hi, he⟩
  repeat' (first|refine bk ?_|refine bkc ?_|refine bks ?_|refine bkd ?_|refine bkq (fun q => ?_)|(refine bk2 ?_ ?_<;>(first|exact bkn|(refine bkk ?_;intro h))))
  · obtain ⟨x, hx⟩ : ∃ x, xs[i]? = some x := ⟨xs[i]'(by omega), List.getElem?_eq_getElem (by omega)⟩
    have hd := entsOk_drop (k := i) hx
    refine WL.idx TT hR.cons rfl rfl hk (by omega) (by rw [Int.toNat_natCast]; exact hx) rfl rfl rfl rfl (fun b2 o hA => ?_)
    refine WL.s (op1_at TT hA rfl rfl rfl rfl) rfl ?_
    repeat' (first|refine bk ?_|refine bkc ?_|refine bks ?_|refine bkd ?_|refine bkq (fun q => ?_)|(refine bk2 ?_ ?_<;>(first|exact bkn|(refine bkk ?_;intro h))))
    · refine QS.turn (G' := G) (fun w hs => hs.drop.drop) (QS.retV Tryz.results20 rfl ⟨?_, rfl⟩)
      rw [hok, he, hd, decide_eq_false (by omega)]; rfl
    · refine QS.turn (G' := G) (fun w hs => hs.drop.drop) (QS.retV Tryz.results20 rfl ⟨?_, rfl⟩)
      rw [hok, he, hd, decide_eq_false (by omega)]; rfl
    · refine QS.again (i + 1) ⟨by omega, ?_⟩ (by omega) ⟨rfl, rfl, rfl, ?_, trivial⟩ (fun w hs => hs.drop)
      · rw [he, hd, decide_eq_true (by omega)]; rfl
      · rw [show ((i + 1 : Nat) : Int) = (i : Int) + 1 from by omega]; rfl
  · refine QS.turn (G' := G) (fun w hs => hs.drop) (QS.retV Tryz.results20 rfl ⟨?_, rfl⟩)
    rw [hok, he, List.drop_eq_nil_of_le (by omega)]; rfl

set_option maxHeartbeats 1000000 in
theorem ref_Right (e : Int) (A : Option Addr) (k c : Nat) (xs : List Ent) (hk : k = xs.length) (W0 : World) (G : List SL) (hR : Rd W0 G entE A xs) :
    Fn Tryz.prog 50 [logV e A k c] W0 G (Ret fun v G' => v = .bool (logOk e xs) ∧ G' = G) := by
  refine Fn.enter Tryz.func50 rfl Tryz.ntmps50 rfl ?_
  repeat' (first|refine bk ?_|refine bkc ?_|refine bks ?_|refine bkd ?_|refine bkq (fun q => ?_)|(refine bk2 ?_ ?_<;>(first|exact bkn|(refine bkk ?_;intro h))))
  all_goals try (refine QS.turn (G' := G) (fun w hs => hs.drop) (QS.retV Tryz.results50 rfl ⟨?_, rfl⟩); rw [logOk_false (by omega)]; rfl)
  have hok := logOk_true (e := e) (xs := xs) (by omega)
  refine CS.loop (X := Nat) (fun i => [(1, .pointer (some ⟨q, 0, none⟩)), (3, .int .i64 (i : Int))]) (fun i => row q 30 [.int .i64 e, .slice A k c] :: G)
    (fun i => i ≤ k ∧ entsOk 0 xs = entsOk i (xs.drop i)) (fun i => k - i) 0 ⟨rfl, rfl, trivial⟩ (fun w hs => hs) ⟨Nat.zero_le _, rfl⟩ ?_
  rintro i ⟨hi, he⟩
  repeat' (first|refine bk ?_|refine bkc ?_|refine bks ?_|refine bkd ?_|refine bkq (fun q => ?_)|(refine bk2 ?_ ?_<;>(first|exact bkn|(refine bkk ?_;intro h))))
  · obtain ⟨x, hx⟩ : ∃ x, xs[i]? = some x := ⟨xs[i]'(by omega), List.getElem?_eq_getElem (by omega)⟩
    have hd := entsOk_drop (k := i) hx
    refine WL.idx TT hR.cons rfl rfl hk (by omega) (by rw [Int.toNat_natCast]; exact hx) rfl rfl rfl rfl (fun b2 o hA => ?_)
    repeat' (first|refine bk ?_|refine bkc ?_|refine bks ?_|refine bkd ?_|refine bkq (fun q => ?_)|(refine bk2 ?_ ?_<;>(first|exact bkn|(refine bkk ?_;intro h))))
    refine WL.s (op1_atF TT 0 hA rfl rfl rfl rfl rfl) rfl ?_
    repeat' (first|refine bk ?_|refine bkc ?_|refine bks ?_|refine bkd ?_|refine bkq (fun q => ?_)|(refine bk2 ?_ ?_<;>(first|exact bkn|(refine bkk ?_;intro h))))
    · refine QS.turn (G' := G) (fun w hs => hs.drop) (QS.retV Tryz.results50 rfl ⟨?_, rfl⟩)
      rw [hok, he, hd, decide_eq_false (by omega)]; rfl
    · refine WL.idx TT hR.cons rfl rfl hk (by omega) (by rw [Int.toNat_natCast]; exact hx) rfl rfl rfl rfl (fun b3 o3 hA3 => ?_)
      repeat' (first|refine bk ?_|refine bkc ?_|refine bks ?_|refine bkd ?_|refine bkq (fun q => ?_)|(refine bk2 ?_ ?_<;>(first|exact bkn|(refine bkk ?_;intro h))))
      refine WL.s (op1_atF TT 1 hA3 rfl rfl rfl rfl rfl) rfl ?_
      repeat' (first|refine bk ?_|refine bkc ?_|refine bks ?_|refine bkd ?_|refine bkq (fun q => ?_)|(refine bk2 ?_ ?_<;>(first|exact bkn|(refine bkk ?_;intro h))))
      · refine QS.turn (G' := G) (fun w hs => hs.drop) (QS.retV Tryz.results50 rfl ⟨?_, rfl⟩)
        rw [hok, he, hd, decide_eq_false (by omega)]; rfl
      · refine QS.again (i + 1) ⟨by omega, ?_⟩ (by omega) ⟨rfl, ?_, trivial⟩ (fun w hs => hs)
        · rw [he, hd, decide_eq_true (by omega)]; rfl
        · rw [show ((i + 1 : Nat) : Int) = (i : Int) + 1 from by omega]; rfl
  · refine QS.turn (G' := G) (fun w hs => hs.drop) (QS.retV Tryz.results50 rfl ⟨?_, rfl⟩)
    rw [hok, he, List.drop_eq_nil_of_le (by omega)]; rfl

theorem partB_eq {n : Int} {s : ByteArray} : (if 4000 < (mk (numB n) ++ s).size then Value.tuple #[.string ⟨#[]⟩, .int .i64 4] else .tuple #[.string (mk (sealB (bs (mk (numB n) ++ s)))), .int .i64 0]) =
    .tuple #[.string (mk (partB n (bs s))), .int .i64 (if 4000 < (numB n ++ bs s).length then 4 else 0)] := by
  have h : (mk (numB n) ++ s).size = (numB n ++ bs s).length := by rw [ByteArray.size_append, mk_size, List.length_append, bs_len]
  rw [h, partB, bs_cat]
  split <;> rfl
theorem partB_eq2 {n : Int} {s : ByteArray} : (if 4000 < (mk (numB n) ++ s).size then Value.tuple #[.string ⟨#[]⟩, .bool false] else .tuple #[.string (mk (sealB (bs (mk (numB n) ++ s)))), .bool true]) =
    .tuple #[.string (mk (partB n (bs s))), .bool (decide (¬ 4000 < (numB n ++ bs s).length))] := by
  have h : (mk (numB n) ++ s).size = (numB n ++ bs s).length := by rw [ByteArray.size_append, mk_size, List.length_append, bs_len]
  rw [h, partB, bs_cat]
  by_cases h4 : 4000 < (numB n ++ bs s).length
  · rw [if_pos h4, if_pos h4, decide_eq_false (fun e => e h4)]
  · rw [if_neg h4, if_neg h4, decide_eq_true h4]
theorem log_part (n : Int) (hn : I64 n) (s : ByteArray) (hs : s.size ≤ 140737488355328) (W0 : World) (G : List SL) :
    Fn Tryz.prog 27 [.int .i64 n, .string s] W0 G (Ret fun v G' => v = .string (mk (partB n (bs s))) ∧ G' = G) := by
  refine Fn.enter Tryz.func27 rfl Tryz.ntmps27 rfl ?_
  have h1 := mk_size (numB n)
  have h2 := num_len hn
  have h3 : (mk (numB n) ++ s).size = (mk (numB n)).size + s.size := ByteArray.size_append
  repeat' (first|refine bk ?_|refine bkc ?_|refine bks ?_|refine bkd ?_|refine bkq (fun q => ?_)|(refine bk2 ?_ ?_<;>(first|exact bkn|(refine bkk ?_;intro h))))
  refine WL.call c57 rfl rfl rfl rfl (wire_Num hn W0 G) ?_
  rintro _ _ ⟨rfl, rfl⟩
  repeat' (first|refine bk ?_|refine bkc ?_|refine bks ?_|refine bkd ?_|refine bkq (fun q => ?_)|(refine bk2 ?_ ?_<;>(first|exact bkn|(refine bkk ?_;intro h))))
  refine WL.call c56 rfl rfl rfl rfl (sum_Seal (mk (numB n) ++ s) (by omega) W0 _) ?_
  rintro _ _ ⟨rfl, rfl⟩
  rw [partB_eq]
  repeat' (first|refine bk ?_|refine bkc ?_|refine bks ?_|refine bkd ?_|refine bkq (fun q => ?_)|(refine bk2 ?_ ?_<;>(first|exact bkn|(refine bkk ?_;intro h))))
  exact QS.retV Tryz.results27 rfl ⟨rfl, rfl⟩
theorem ref_one (n : Int) (hn : I64 n) (s : ByteArray) (hs : s.size ≤ 140737488355328) (W0 : World) (G : List SL) :
    Fn Tryz.prog 31 [.agg #[.int .i64 n, .string s]] W0 G (Ret fun v G' => v = .string (mk (partB n (bs s))) ∧ G' = G) := by
  refine Fn.enter Tryz.func31 rfl Tryz.ntmps31 rfl ?_
  have h1 := mk_size (numB n)
  have h2 := num_len hn
  have h3 : (mk (numB n) ++ s).size = (mk (numB n)).size + s.size := ByteArray.size_append
  repeat' (first|refine bk ?_|refine bkc ?_|refine bks ?_|refine bkd ?_|refine bkq (fun q => ?_)|(refine bk2 ?_ ?_<;>(first|exact bkn|(refine bkk ?_;intro h))))
  refine WQ.call c52 rfl rfl rfl rfl (ref_Num hn W0 _) ?_
  repeat' (first|refine bk ?_|refine bkc ?_|refine bks ?_|refine bkd ?_|refine bkq (fun q => ?_)|(refine bk2 ?_ ?_<;>(first|exact bkn|(refine bkk ?_;intro h))))
  refine WQ.call c51 rfl rfl rfl rfl (ref_Seal (mk (numB n) ++ s) (by omega) W0 _) ?_
  rw [partB_eq2]
  repeat' (first|refine bk ?_|refine bkc ?_|refine bks ?_|refine bkd ?_|refine bkq (fun q => ?_)|(refine bk2 ?_ ?_<;>(first|exact bkn|(refine bkk ?_;intro h))))
  exact QS.turn (G' := G) (fun w hs => hs.drop) (QS.retV Tryz.results31 rfl ⟨rfl, rfl⟩)

theorem bldA_new {W0 : World} {F : List SL} {b : Nat} : ∀ w, Sat W0 (row b 91 [.pointer none, .slice none 0 0] :: F) w → Sat W0 (bldA b [] :: F) w := fun w hs =>
  bldA_shut (.inl rfl) w ((hs.slcNil byteE 5).perm (List.Perm.swap ..))
attribute [local irreducible] bldA
theorem logB_at {xs : List Ent} (e : Int) {i : Nat} {x : Ent} (hx : xs[i]? = some x) : partB e [] ++ entB (xs.take (i + 1)) = partB e [] ++ entB (xs.take i) ++ partB x.n (bs x.s) := by rw [entB_next hx, List.append_assoc]
theorem partB_ne {n : Int} {s : List UInt8} (h : (numB n ++ s).length ≤ 4000) (r : List UInt8) : partB n s ++ r ≠ [] := by
  have := sealB_len h
  rw [partB, if_neg (by omega)]
  intro e
  have h2 := congrArg List.length e
  rw [List.length_append] at h2
  simp only [List.length_nil] at h2
  omega
set_option maxHeartbeats 2000000 in
theorem log_Bytes (e : Int) (A : Option Addr) (k c : Nat) (xs : List Ent) (hk : k = xs.length) (W0 : World) (G : List SL) (hR : Rd W0 G entE A xs) :
    Fn Tryz.prog 21 [logV e A k c] W0 G (Ret fun v G' => v = (if logOk e xs then .tuple #[.string (mk (logB e xs)), .int .i64 0] else .tuple #[.string ⟨#[]⟩, .int .i64 1]) ∧ G' = G) := by
  refine Fn.enter Tryz.func21 rfl Tryz.ntmps21 rfl ?_
  repeat' (first|refine bk ?_|refine bkc ?_|refine bks ?_|refine bkd ?_|refine bkq (fun q => ?_)|(refine bk2 ?_ ?_<;>(first|exact bkn|(refine bkk ?_;intro h))))
  refine WL.call c20 rfl rfl rfl rfl (log_Right e A k c xs hk W0 _ hR.cons) ?_
  rintro _ _ ⟨rfl, rfl⟩
  cases hok : logOk e xs with
  | false =>
    repeat' (first|refine bk ?_|refine bkc ?_|refine bks ?_|refine bkd ?_|refine bkq (fun q => ?_)|(refine bk2 ?_ ?_<;>(first|exact bkn|(refine bkk ?_;intro h))))
    exact QS.turn (G' := G) (fun w hs => hs.drop) (QS.retV Tryz.results21 rfl ⟨rfl, rfl⟩)
  | true =>
    obtain ⟨⟨h1, h2, h3⟩, h4⟩ := logOk_iff.1 hok
    have he : I64 e := by unfold I64; constructor <;> omega
    have hen := num_len he
    repeat' (first|refine bk ?_|refine bkc ?_|refine bks ?_|refine bkd ?_|refine bkq (fun q => ?_)|(refine bk2 ?_ ?_<;>(first|exact bkn|(refine bkk ?_;intro h))))
    refine WL.turn bldA_new ?_
    refine WL.call c27 rfl rfl rfl rfl (log_part e he ⟨#[]⟩ (by decide) W0 _) ?_
    rintro _ _ ⟨rfl, rfl⟩
    have hp0 := partB_len e he []
    have hm0 := mk_size (partB e [])
    refine WL.call c44 rfl rfl rfl rfl (bld_WriteString q [] (mk (partB e [])) (by rw [mk_size]; simp only [List.length_nil]; omega) W0 _) ?_
    rintro _ _ ⟨rfl, rfl⟩
    repeat' (first|refine bk ?_|refine bkc ?_|refine bks ?_|refine bkd ?_|refine bkq (fun q => ?_)|(refine bk2 ?_ ?_<;>(first|exact bkn|(refine bkk ?_;intro h))))
    rename_i q1
    refine CS.loop (X := Nat) (fun i => [(4, .pointer (some ⟨q, 0, none⟩)), (15, .slice A k c), (16, .int .i64 (k : Int)), (17, .int .i64 (i : Int))]) (fun i => bldA q (partB e [] ++ entB (xs.take i)) :: row q1 30 [.int .i64 e, .slice A k c] :: G)
      (fun i => i ≤ k) (fun i => k - i) 0 ⟨rfl, rfl, rfl, rfl, trivial⟩ (fun w hs => ?_) (Nat.zero_le _) ?_
    · rw [show partB e [] ++ entB (xs.take 0) = [] ++ bs (mk (partB e [])) from by simp [entB]]; exact hs
    intro i hi
    have hel := entB_len2 h4 h3 i (by omega)
    repeat' (first|refine bk ?_|refine bkc ?_|refine bks ?_|refine bkd ?_|refine bkq (fun q => ?_)|(refine bk2 ?_ ?_<;>(first|exact bkn|(refine bkk ?_;intro h))))
    · obtain ⟨x, hx⟩ : ∃ x, xs[i]? = some x := ⟨xs[i]'(by omega), List.getElem?_eq_getElem (by omega)⟩
      have hx1 := entsOk_get h4 hx
      have hxn : I64 x.n := by unfold I64; have := hx1.1; constructor <;> omega
      have hpx := partB_len x.n hxn (bs x.s)
      refine WL.idx TT hR.cons.cons rfl rfl hk (by omega) (by rw [Int.toNat_natCast]; exact hx) rfl rfl rfl rfl (fun b2 o hA => ?_)
      refine WL.s (op1_at TT hA rfl rfl rfl rfl) rfl ?_
      repeat' (first|refine bk ?_|refine bkc ?_|refine bks ?_|refine bkd ?_|refine bkq (fun q => ?_)|(refine bk2 ?_ ?_<;>(first|exact bkn|(refine bkk ?_;intro h))))
      rename_i qb
      refine WL.call c27 rfl rfl rfl rfl (log_part x.n hxn x.s (by omega) W0 _) ?_
      rintro _ _ ⟨rfl, rfl⟩
      refine WL.call c44 rfl rfl rfl rfl ((bld_WriteString qb _ (mk (partB x.n (bs x.s))) ?_ W0 _).pre (fun w hs => hs.front (i := 1) rfl)) ?_
      · rw [mk_size, List.length_append]; generalize (entB (xs.take i)).length = m at *; omega
      rintro _ _ ⟨rfl, rfl⟩
      repeat' (first|refine bk ?_|refine bkc ?_|refine bks ?_|refine bkd ?_|refine bkq (fun q => ?_)|(refine bk2 ?_ ?_<;>(first|exact bkn|(refine bkk ?_;intro h))))
      refine QS.again (i + 1) (by omega) (by omega) ⟨rfl, rfl, rfl, ?_, trivial⟩ (fun w hs => ?_)
      · rw [show ((i + 1 : Nat) : Int) = (i : Int) + 1 from by omega]; rfl
      · rw [logB_at e hx]; exact hs.kick (i := 1) rfl
    · have hie : i = k := by omega
      refine WL.call c45 rfl rfl rfl rfl (bld_String q _ (partB_ne (by simp; omega) _) W0 _) ?_
      rintro _ _ ⟨rfl, rfl⟩
      repeat' (first|refine bk ?_|refine bkc ?_|refine bks ?_|refine bkd ?_|refine bkq (fun q => ?_)|(refine bk2 ?_ ?_<;>(first|exact bkn|(refine bkk ?_;intro h))))
      refine QS.turn (G' := G) (fun w hs => hs.drop) (QS.retV Tryz.results21 rfl ⟨?_, rfl⟩)
      rw [hie, hk, List.take_length]; rfl

theorem partB_eq3 {n : Int} (hn : I64 n) : (if 4000 < (mk (numB n)).size then Value.tuple #[.string ⟨#[]⟩, .bool false] else .tuple #[.string (mk (sealB (bs (mk (numB n))))), .bool true]) = .tuple #[.string (mk (partB n [])), .bool true] := by
  have h1 := num_len hn
  rw [if_neg (by rw [mk_size]; omega), partB, if_neg (by simp; omega), List.append_nil]
set_option maxHeartbeats 2000000 in
theorem ref_Bytes (e : Int) (A : Option Addr) (k c : Nat) (xs : List Ent) (hk : k = xs.length) (W0 : World) (G : List SL) (hR : Rd W0 G entE A xs) :
    Fn Tryz.prog 23 [logV e A k c] W0 G (Ret fun v G' => v = (if logOk e xs then .tuple #[.string (mk (logB e xs)), .bool true] else .tuple #[.string ⟨#[]⟩, .bool false]) ∧ G' = G) := by
  refine Fn.enter Tryz.func23 rfl Tryz.ntmps23 rfl ?_
  repeat' (first|refine bk ?_|refine bkc ?_|refine bks ?_|refine bkd ?_|refine bkq (fun q => ?_)|(refine bk2 ?_ ?_<;>(first|exact bkn|(refine bkk ?_;intro h))))
  refine WL.call c50 rfl rfl rfl rfl (ref_Right e A k c xs hk W0 _ hR.cons) ?_
  rintro _ _ ⟨rfl, rfl⟩
  cases hok : logOk e xs with
  | false =>
    repeat' (first|refine bk ?_|refine bkc ?_|refine bks ?_|refine bkd ?_|refine bkq (fun q => ?_)|(refine bk2 ?_ ?_<;>(first|exact bkn|(refine bkk ?_;intro h))))
    exact QS.turn (G' := G) (fun w hs => hs.drop) (QS.retV Tryz.results23 rfl ⟨rfl, rfl⟩)
  | true =>
    obtain ⟨⟨h1, h2, h3⟩, h4⟩ := logOk_iff.1 hok
    have he : I64 e := by unfold I64; constructor <;> omega
    have hen := num_len he
    have hm0 := mk_size (numB e)
    repeat' (first|refine bk ?_|refine bkc ?_|refine bks ?_|refine bkd ?_|refine bkq (fun q => ?_)|(refine bk2 ?_ ?_<;>(first|exact bkn|(refine bkk ?_;intro h))))
    refine WL.call c52 rfl rfl rfl rfl (ref_Num he W0 _) ?_
    rintro _ _ ⟨rfl, rfl⟩
    refine WL.call c51 rfl rfl rfl rfl (ref_Seal (mk (numB e)) (by omega) W0 _) ?_
    rintro _ _ ⟨rfl, rfl⟩
    rw [partB_eq3 he]
    repeat' (first|refine bk ?_|refine bkc ?_|refine bks ?_|refine bkd ?_|refine bkq (fun q => ?_)|(refine bk2 ?_ ?_<;>(first|exact bkn|(refine bkk ?_;intro h))))
    refine CS.loop (X := Nat) (fun i => [(1, .pointer (some ⟨q, 0, none⟩)), (5, .string (mk (partB e [] ++ entB (xs.take i)))), (7, .int .i64 (i : Int))]) (fun i => row q 30 [.int .i64 e, .slice A k c] :: G)
      (fun i => i ≤ k) (fun i => k - i) 0 ⟨rfl, by rw [show partB e [] ++ entB (xs.take 0) = partB e [] from by simp [entB]]; rfl, rfl, trivial⟩ (fun w hs => hs) (Nat.zero_le _) ?_
    intro i hi
    have hel := entB_len2 h4 h3 i (by omega)
    have hp0 := partB_len e he []
    have hms := mk_size (partB e [] ++ entB (xs.take i))
    rw [List.length_append] at hms
    repeat' (first|refine bk ?_|refine bkc ?_|refine bks ?_|refine bkd ?_|refine bkq (fun q => ?_)|(refine bk2 ?_ ?_<;>(first|exact bkn|(refine bkk ?_;intro h))))
    · obtain ⟨x, hx⟩ : ∃ x, xs[i]? = some x := ⟨xs[i]'(by omega), List.getElem?_eq_getElem (by omega)⟩
      have hx1 := entsOk_get h4 hx
      have hxn : I64 x.n := by unfold I64; have := hx1.1; constructor <;> omega
      have hpx := partB_len x.n hxn (bs x.s)
      have hmx := mk_size (partB x.n (bs x.s))
      refine WL.idx TT hR.cons rfl rfl hk (by omega) (by rw [Int.toNat_natCast]; exact hx) rfl rfl rfl rfl (fun b2 o hA => ?_)
      refine WL.s (op1_at TT hA rfl rfl rfl rfl) rfl ?_
      repeat' (first|refine bk ?_|refine bkc ?_|refine bks ?_|refine bkd ?_|refine bkq (fun q => ?_)|(refine bk2 ?_ ?_<;>(first|exact bkn|(refine bkk ?_;intro h))))
      refine WL.call c31 rfl rfl rfl rfl (ref_one x.n hxn x.s (by omega) W0 _) ?_
      rintro _ _ ⟨rfl, rfl⟩
      repeat' (first|refine bk ?_|refine bkc ?_|refine bks ?_|refine bkd ?_|refine bkq (fun q => ?_)|(refine bk2 ?_ ?_<;>(first|exact bkn|(refine bkk ?_;intro h))))
      refine QS.again (i + 1) (by omega) (by omega) ⟨rfl, ?_, ?_, trivial⟩ (fun w hs => hs)
      · rw [logB_at e hx, ← mk_cat]; rfl
      · rw [show ((i + 1 : Nat) : Int) = (i : Int) + 1 from by omega]; rfl
    · have hie : i = k := by omega
      refine QS.turn (G' := G) (fun w hs => hs.drop) (QS.retV Tryz.results23 rfl ⟨?_, rfl⟩)
      rw [hie, hk, List.take_length]; rfl
end Go.Proofs.YtpklbelejebcfaaGreat.B
