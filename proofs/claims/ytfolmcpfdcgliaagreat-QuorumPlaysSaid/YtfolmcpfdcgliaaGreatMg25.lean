import Derived.Test.YtfolmcpfdcgliaaGreatMg24
set_option linter.unusedVariables false
set_option linter.unusedSimpArgs false
set_option maxRecDepth 8000
namespace Go.Proofs.YtfolmcpfdcgliaaGreat.B
open Go Go.Proofs
attribute [local irreducible] WL CS QS WQ WH WS Fn Op1 row Sat
attribute [local irreducible] slc
def hand1R (br : Nat) (l : List ByteArray) (F : List SL) : Ending → List SL → Prop
  | .returned _, G' => ∃ q A c, readL l = some q ∧ G' = row br 122 [.string q.kind, .int .i64 q.epoch, .slice A q.xs.length c] :: slc entE 49 A c q.xs :: F
  | .panicked ch, G' => readL l = none ∧ ch = tornJ ∧ ∃ cs, G' = row br 122 cs :: F
  | .outgrown, _ => False
set_option maxHeartbeats 8000000 in
theorem hand1 (br : Nat) (l : List ByteArray) (hl1 : l.length ≤ 1000) (hl2 : ∀ s ∈ l, s.size ≤ 4000) (A : Option Addr) (c : Nat) (W0 : World) (F : List SL) :
    Fn Tryz.prog 54 [.slice A l.length c, .pointer (some ⟨br, 0, none⟩)] W0
      (slc strE 9 A c l :: row br 122 [.string ⟨#[]⟩, .int .i64 0, .slice none 0 0] :: F) (hand1R br l F) := by
  refine Fn.fact (slc_cap (i := 0) rfl) fun hcap => ?_
  refine Fn.enter Tryz.func54 rfl Tryz.ntmps54 rfl ?_
  by_cases hlen : 2 ≤ l.length
  rotate_left 1
  · have hT : readL l = none := by
      match l, hlen with
      | [], _ => rfl
      | [_], _ => rfl
      | _ :: _ :: _, h => simp at h
    repeat' (first|refine bN ?_|refine bkq fun q=>?_|(refine bk2 ?_ ?_<;>(first|exact bkn|(refine bkk ?_;intro h))))
    refine WL.callP c55 rfl rfl rfl rfl (j_must (decide ((2 : Int) ≤ (l.length : Int))) W0 _) (fun _ h => h) (fun _ _ h => absurd (of_decide_eq_true h.1) (by omega)) ?_
    rintro _ _ ⟨_, rfl, rfl⟩
    repeat' (first|refine bA ?_|refine bkq fun q=>?_|(refine bk2 ?_ ?_<;>(first|exact bkn|(refine bkk ?_;intro h))))
    exact QS.turn (G' := row br 122 [.string ⟨#[]⟩, .int .i64 0, .slice none 0 0] :: F) (fun w hs => hs.drop) (QS.panicV ⟨hT, rfl, _, rfl⟩)
  obtain ⟨k, e, r, rfl⟩ : ∃ k e r, l = k :: e :: r := by
    match l, hlen with
    | k :: e :: r, _ => exact ⟨k, e, r, rfl⟩
  have he := hl2 e (by simp)
  have hln : (k :: e :: r).length = r.length + 2 := rfl
  repeat' (first|refine bN ?_|refine bkq fun q=>?_|(refine bk2 ?_ ?_<;>(first|exact bkn|(refine bkk ?_;intro h))))
  refine WL.callP c55 rfl rfl rfl rfl (j_must (decide ((2 : Int) ≤ ((k :: e :: r).length : Nat))) W0 _) (fun _ h => h) ?_ (fun _ _ h => absurd (of_decide_eq_false h.1) (by omega))
  rintro _ _ ⟨_, rfl, rfl⟩
  repeat' (first|refine bN ?_|refine bkq fun q=>?_|(refine bk2 ?_ ?_<;>(first|exact bkn|(refine bkk ?_;intro h))))
  refine CS.world fun hw => ?_
  have hwq : ∃ w, Sat W0 (slc strE 9 A c (k :: e :: r) :: F) w := hw.elim fun w hs => ⟨w, hs.kick (i := 1) rfl⟩
  refine CS.drawA (slc strE 9 A c (k :: e :: r) :: F) (fun w hs => hs.kick (i := 1) rfl) mixed (by kernel_rfl) rfl ?_
  repeat' (first|refine bka ?_|(refine bk2a ?_ ?_<;>(first|exact bkn|(refine bkk ?_;intro h))))
  refine WA.idx TT hwq (Rd.slc (i := 0) rfl) rfl rfl (by kernel_rfl) rfl rfl rfl rfl (by omega) (x := k) rfl rfl rfl rfl rfl (fun bb o hA => ?_)
  refine WA.s rfl rfl (by kernel_rfl) rfl (op1_at TT hA rfl rfl rfl rfl) rfl ?_
  repeat' (first|refine bka ?_|(refine bk2a ?_ ?_<;>(first|exact bkn|(refine bkk ?_;intro h))))
  refine WA.idx TT hwq (Rd.slc (i := 0) rfl) rfl rfl (by kernel_rfl) rfl rfl rfl rfl (by omega) (x := e) rfl rfl rfl rfl rfl (fun bb2 o2 hA2 => ?_)
  refine WA.s rfl rfl (by kernel_rfl) rfl (op1_at TT hA2 rfl rfl rfl rfl) rfl ?_
  refine WA.callP 6 (by kernel_rfl) (by kernel_rfl) rfl rfl c56 rfl rfl rfl rfl (j_number e (by omega) W0 _) (fun _ h => h) ?_ ?_
  rotate_left 1
  · rintro _ _ ⟨hn, rfl, rfl⟩
    have hT : readL (k :: e :: r) = none := by rw [readL, hn]
    repeat' (first|refine bA ?_|refine bkq fun q=>?_|(refine bk2 ?_ ?_<;>(first|exact bkn|(refine bkk ?_;intro h))))
    exact QS.turn (G' := row br 122 [.string ⟨#[]⟩, .int .i64 0, .slice none 0 0] :: F) (fun w hs => hs.drop) (QS.panicV ⟨hT, rfl, _, rfl⟩)
  rintro _ _ ⟨⟨ep, hn, rfl⟩, rfl⟩
  refine ⟨fun w hs => hs.kick (i := 1) rfl, ?_⟩
  repeat' (first|refine bka ?_|(refine bk2a ?_ ?_<;>(first|exact bkn|(refine bkk ?_;intro h))))
  refine WA.e1 8 (by kernel_rfl) (by kernel_rfl) rfl rfl (EffC.store TT 1 rfl rfl rfl rfl rfl rfl rfl rfl rfl) rfl ?_
  rintro _ _ ⟨rfl, rfl⟩
  refine ⟨fun w hs => hs.kick (i := 1) rfl, ?_⟩
  repeat' (first|refine bka ?_|(refine bk2a ?_ ?_<;>(first|exact bkn|(refine bkk ?_;intro h))))
  refine WA.e1 10 (by kernel_rfl) (by kernel_rfl) rfl rfl (EffC.store TT 1 rfl rfl rfl rfl rfl rfl rfl rfl rfl) rfl ?_
  rintro _ _ ⟨rfl, rfl⟩
  refine ⟨fun w hs => hs.kick (i := 1) rfl, WA.fin rfl ?_⟩
  by_cases hep : 1 ≤ ep ∧ ep ≤ 9007199254740991
  rotate_left 1
  · have hT : readL (k :: e :: r) = none := by rw [readL, hn]; simp only; rw [if_neg hep]
    repeat' (first|refine bA ?_|refine bkq fun q=>?_|(refine bk2 ?_ ?_<;>(first|exact bkn|(refine bkk ?_;intro h))))
    · refine WL.callP c55 rfl rfl rfl rfl (j_must (decide (ep ≤ 9007199254740991)) W0 _) (fun _ h => h) (fun _ _ h => absurd (of_decide_eq_true h.1) (by omega)) ?_
      rintro _ _ ⟨_, rfl, rfl⟩
      repeat' (first|refine bA ?_|refine bkq fun q=>?_|(refine bk2 ?_ ?_<;>(first|exact bkn|(refine bkk ?_;intro h))))
      exact QS.turn (G' := row br 122 [.string k, .int .i64 ep, .slice none 0 0] :: F) (fun w hs => hs.drop) (QS.panicV ⟨hT, rfl, _, rfl⟩)
    · refine WL.callP c55 rfl rfl rfl rfl (j_must false W0 _) (fun _ h => h) (fun _ _ h => absurd h.1 (by simp)) ?_
      rintro _ _ ⟨_, rfl, rfl⟩
      repeat' (first|refine bA ?_|refine bkq fun q=>?_|(refine bk2 ?_ ?_<;>(first|exact bkn|(refine bkk ?_;intro h))))
      exact QS.turn (G' := row br 122 [.string k, .int .i64 ep, .slice none 0 0] :: F) (fun w hs => hs.drop) (QS.panicV ⟨hT, rfl, _, rfl⟩)
  have hT0 : readL (k :: e :: r) = readK k ep r := by rw [readL, hn]; simp only; rw [if_pos hep]
  have hI : I64 ep := by unfold I64; omega
  repeat' (first|refine bA ?_|refine bkq fun q=>?_|(refine bk2 ?_ ?_<;>(first|exact bkn|(refine bkk ?_;intro h))))
  refine WL.callP c55 rfl rfl rfl rfl (j_must (decide (ep ≤ 9007199254740991)) W0 _) (fun _ h => h) ?_ (fun _ _ h => absurd (of_decide_eq_false h.1) (by omega))
  rintro _ _ ⟨_, rfl, rfl⟩
  repeat' (first|refine bA ?_|refine bkq fun q=>?_|(refine bk2 ?_ ?_<;>(first|exact bkn|(refine bkk ?_;intro h))))
  · have hk : k = kP := by assumption
    have hT1 : readK k ep r = if r = [] then some ⟨kP, ep, []⟩ else none := by rw [readK, if_pos hk]
    by_cases hr : r = []
    · subst hr
      rw [if_pos rfl] at hT1
      refine WL.callP c55 rfl rfl rfl rfl (j_must true W0 _) (fun _ h => h) ?_ (fun _ _ h => absurd h.1 (by simp))
      rintro _ _ ⟨_, rfl, rfl⟩
      repeat' (first|refine bA ?_|refine bkq fun q=>?_|(refine bk2 ?_ ?_<;>(first|exact bkn|(refine bkk ?_;intro h))))
      exact QS.turn (G' := row br 122 [.string kP, .int .i64 ep, .slice none 0 0] :: slc entE 49 none 0 ([] : List Ent) :: F) (fun w hs => ((hk ▸ hs.drop).slcNil _ _).front (i := 1) rfl) (QS.endV Tryz.results54 rfl ⟨⟨kP, ep, []⟩, none, 0, by rw [hT0, hT1], rfl⟩)
    · rw [if_neg hr] at hT1
      have hrl := List.length_pos_iff.2 hr
      refine WL.callP c55 rfl rfl rfl rfl (j_must (decide ((((k :: e :: r).length : Nat) : Int) = 2)) W0 _) (fun _ h => h) (fun _ _ h => absurd (of_decide_eq_true h.1) (by omega)) ?_
      rintro _ _ ⟨_, rfl, rfl⟩
      repeat' (first|refine bA ?_|refine bkq fun q=>?_|(refine bk2 ?_ ?_<;>(first|exact bkn|(refine bkk ?_;intro h))))
      exact QS.turn (G' := row br 122 [.string k, .int .i64 ep, .slice none 0 0] :: F) (fun w hs => hs.drop) (QS.panicV ⟨by rw [hT0, hT1], rfl, _, rfl⟩)
  · have hkp : ¬ k = kP := by assumption
    have hk : k = kA := by assumption
    have hT1 : readK k ep r = if logOk 0 (entsF 0 r) = true then some ⟨kA, ep, entsF 0 r⟩ else none := by rw [readK, if_neg hkp, if_pos hk]
    refine WL.s (op1_sliceS TT (E := strE) (xs := k :: e :: r) (l := 2) (r := ((k :: e :: r).length : Nat)) rfl rfl rfl rfl rfl rfl rfl ⟨by omega, by omega, by omega⟩ hcap) rfl ?_
    rw [show (((k :: e :: r).length : Nat) : Int).toNat - Int.toNat 2 = r.length from by rw [Int.toNat_natCast]; rfl]
    obtain ⟨A2, hA2e⟩ : ∃ A2, A2 = (if c = Int.toNat 2 then A else A.map (·.add (Int.toNat 2 * strE.sz))) := ⟨_, rfl⟩
    rw [← hA2e]
    have hRl : ∀ (G2 : List SL) (i : Nat), G2[i]? = some (slc strE 9 A c (k :: e :: r)) → Rd W0 G2 strE A2 r := fun G2 i hG => by
      have h1 := (Rd.slc (W0 := W0) hG).part (l := 2) (r := (k :: e :: r).length) (Nat.le_refl _) hcap
      rw [List.take_length, List.drop_succ_cons, List.drop_succ_cons, List.drop_zero] at h1
      rw [hA2e]; exact h1
    repeat' (first|refine bA ?_|refine bkq fun q=>?_|(refine bk2 ?_ ?_<;>(first|exact bkn|(refine bkk ?_;intro h))))
    refine CS.loop (X := Nat × Option Addr × Nat) (fun y => [(1, .pointer (some ⟨br, 0, none⟩)), (41, .slice A2 r.length (c - Int.toNat 2)), (42, .int .i64 (r.length : Int)), (43, .int .i64 (y.1 : Int))])
      (fun y => row br 122 [.string k, .int .i64 ep, .slice y.2.1 (entsF 0 (r.take y.1)).length y.2.2] :: slc entE 49 y.2.1 y.2.2 (entsF 0 (r.take y.1)) :: slc strE 9 A c (k :: e :: r) :: F) (fun y => y.1 ≤ r.length) (fun y => r.length - y.1) (0, none, 0) ⟨rfl, rfl, rfl, rfl, trivial⟩
      (fun w hs => ((hs.slcNil entE 49).front (i := 2) rfl)) (Nat.zero_le _) ?_
    rintro ⟨i, A3, c3⟩ hi
    simp only at hi ⊢
    have hfl : (entsF 0 (r.take i)).length = i := by rw [entsF_len, List.length_take]; omega
    repeat' (first|refine bA ?_|refine bkq fun q=>?_|(refine bk2 ?_ ?_<;>(first|exact bkn|(refine bkk ?_;intro h))))
    · obtain ⟨s, hs⟩ : ∃ x, r[i]? = some x := ⟨r[i]'(by omega), List.getElem?_eq_getElem (by omega)⟩
      refine WL.idx TT (hRl _ 2 rfl) rfl rfl rfl (by omega) (by rw [Int.toNat_natCast]; exact hs) rfl rfl rfl rfl (fun bb o hA => ?_)
      refine WL.s (op1_at TT hA rfl rfl rfl rfl) rfl ?_
      repeat' (first|refine bA ?_|refine bkq fun q=>?_|(refine bk2 ?_ ?_<;>(first|exact bkn|(refine bkk ?_;intro h))))
      refine WL.buildSlice TT rfl rfl rfl rfl rfl rfl rfl rfl (fun qs => ?_)
      refine WL.append TT (E := entE) (xs := entsF 0 (r.take i)) (ys := [⟨(i : Int) + 1, s⟩]) 2 rfl rfl rfl rfl rfl (Rd.row (i := 0) rfl rfl) rfl rfl rfl rfl rfl (by decide) (by simp only [List.length_cons, List.length_nil]; omega) (fun _ _ => rfl) rfl (fun A5 c5 => ?_)
      have hsn : entsF 0 (r.take i) ++ [⟨(i : Int) + 1, s⟩] = entsF 0 (r.take (i + 1)) := by
        rw [List.take_add_one, hs, Option.toList_some, entsF_snoc, Nat.zero_add, List.length_take, Nat.min_eq_left (by omega)]
      rw [hsn]
      repeat' (first|refine bA ?_|refine bkq fun q=>?_|(refine bk2 ?_ ?_<;>(first|exact bkn|(refine bkk ?_;intro h))))
      refine QS.again (i + 1, A5, c5) (by simp only; omega) (by simp only; omega) ⟨rfl, rfl, rfl, ?_, trivial⟩ (fun w hs => hs.drop)
      rw [show ((i + 1 : Nat) : Int) = (i : Int) + 1 from by omega]; rfl
    · have hix : i = r.length := by omega
      subst hix
      rw [List.take_length] at *
      refine WL.call c57 rfl rfl rfl rfl (log_Right 0 A3 _ c3 (entsF 0 r) rfl W0 _ (Rd.slc (i := 1) rfl)) ?_
      rintro _ _ ⟨rfl, rfl⟩
      refine WL.callP c55 rfl rfl rfl rfl (j_must (logOk 0 (entsF 0 r)) W0 _) (fun _ h => h) ?_ ?_
      · rintro _ _ ⟨hb, rfl, rfl⟩
        rw [if_pos hb] at hT1
        repeat' (first|refine bA ?_|refine bkq fun q=>?_|(refine bk2 ?_ ?_<;>(first|exact bkn|(refine bkk ?_;intro h))))
        exact QS.turn (G' := row br 122 [.string kA, .int .i64 ep, .slice A3 (entsF 0 r).length c3] :: slc entE 49 A3 c3 (entsF 0 r) :: F) (fun w hs => hk ▸ hs.kick (i := 2) rfl) (QS.endV Tryz.results54 rfl ⟨⟨kA, ep, entsF 0 r⟩, A3, c3, by rw [hT0, hT1], rfl⟩)
      · rintro _ _ ⟨hb, rfl, rfl⟩
        rw [if_neg (by rw [hb]; decide)] at hT1
        repeat' (first|refine bA ?_|refine bkq fun q=>?_|(refine bk2 ?_ ?_<;>(first|exact bkn|(refine bkk ?_;intro h))))
        exact QS.turn (G' := row br 122 [.string k, .int .i64 ep, .slice A3 (entsF 0 r).length c3] :: F) (fun w hs => (hs.kick (i := 1) rfl).kick (i := 1) rfl) (QS.panicV ⟨by rw [hT0, hT1], rfl, _, rfl⟩)
  · have hkp : ¬ k = kP := by assumption
    have hka : ¬ k = kA := by assumption
    have hk : k = kW := by assumption
    have hT1 : readK k ep r = readW ep r := by rw [readK, if_neg hkp, if_neg hka, if_pos hk]
    by_cases hr : r.length = 2
    rotate_left 1
    · have hT2 : readW ep r = none := by
        match r, hr with
        | [], _ => rfl
        | [_], _ => rfl
        | [_, _], h => simp at h
        | _ :: _ :: _ :: _, _ => rfl
      refine WL.callP c55 rfl rfl rfl rfl (j_must (decide ((((k :: e :: r).length : Nat) : Int) = 4)) W0 _) (fun _ h => h) (fun _ _ h => absurd (of_decide_eq_true h.1) (by omega)) ?_
      rintro _ _ ⟨_, rfl, rfl⟩
      repeat' (first|refine bA ?_|refine bkq fun q=>?_|(refine bk2 ?_ ?_<;>(first|exact bkn|(refine bkk ?_;intro h))))
      exact QS.turn (G' := row br 122 [.string k, .int .i64 ep, .slice none 0 0] :: F) (fun w hs => hs.drop) (QS.panicV ⟨by rw [hT0, hT1, hT2], rfl, _, rfl⟩)
    obtain ⟨t, d, rfl⟩ : ∃ t d, r = [t, d] := by
      match r, hr with
      | [t, d], _ => exact ⟨t, d, rfl⟩
    have ht := hl2 t (by simp)
    have hd := hl2 d (by simp)
    refine WL.callP c55 rfl rfl rfl rfl (j_must true W0 _) (fun _ h => h) ?_ (fun _ _ h => absurd h.1 (by simp))
    rintro _ _ ⟨_, rfl, rfl⟩
    repeat' (first|refine bN ?_|refine bkq fun q=>?_|(refine bk2 ?_ ?_<;>(first|exact bkn|(refine bkk ?_;intro h))))
    refine CS.world fun hw2 => ?_
    have hwq2 : ∃ w, Sat W0 (slc strE 9 A c (k :: e :: [t, d]) :: F) w := hw2.elim fun w hs => ⟨w, hs.kick (i := 1) rfl⟩
    refine CS.drawA (slc strE 9 A c (k :: e :: [t, d]) :: F) (fun w hs => hs.kick (i := 1) rfl) mixed (by kernel_rfl) rfl ?_
    repeat' (first|refine bka ?_|(refine bk2a ?_ ?_<;>(first|exact bkn|(refine bkk ?_;intro h))))
    refine WA.idx TT hwq2 (Rd.slc (i := 0) rfl) rfl rfl (by kernel_rfl) rfl rfl rfl rfl (by omega) (x := t) rfl rfl rfl rfl rfl (fun bb o hA => ?_)
    refine WA.s rfl rfl (by kernel_rfl) rfl (op1_at TT hA rfl rfl rfl rfl) rfl ?_
    refine WA.at 4 (by kernel_rfl) rfl (by kernel_rfl) rfl (op1_pure1 TT rfl) rfl ?_
    refine WA.idxAt 5 TT hwq2 (Rd.slc (i := 0) rfl) (by kernel_rfl) rfl (by kernel_rfl) rfl rfl rfl rfl (by omega) (x := d) rfl rfl rfl rfl rfl (fun bb3 o3 hA3 => ?_)
    refine WA.at 6 (by kernel_rfl) rfl (by kernel_rfl) rfl (op1_at TT hA3 rfl rfl rfl rfl) rfl ?_
    have hT2 : ∀ tx, numP t = some tx → readW ep [t, d] = if 1 ≤ tx ∧ tx ≤ 300 ∧ d.size ≤ 600 then some ⟨kW, ep, [⟨tx, d⟩]⟩ else none := fun tx hn2 => by rw [readW, hn2]
    refine WA.e2P 3 8 (by kernel_rfl) (by kernel_rfl) rfl rfl rfl rfl c56 rfl rfl rfl rfl (j_number t (by omega) W0 _) (fun _ h => h) (EffC.alloc TT rfl rfl) rfl ?_ ?_ ?_
    · rintro _ _ ⟨⟨tx, hn2, rfl⟩, rfl⟩
      refine ⟨fun w hs => hs.kick (i := 1) rfl, ?_⟩
      repeat' (first|refine bka ?_|(refine bk2a ?_ ?_<;>(first|exact bkn|(refine bkk ?_;intro h))))
      refine WA.e1 8 (by kernel_rfl) (by kernel_rfl) rfl rfl (EffC.alloc TT rfl rfl) rfl ?_
      rintro _ _ ⟨q3, rfl, rfl⟩
      refine ⟨fun w hs => hs.drop.kick (i := 1) rfl, ?_⟩
      refine WA.e1 9 (by kernel_rfl) (by kernel_rfl) rfl rfl (EffC.store TT 0 rfl rfl rfl rfl rfl rfl rfl rfl rfl) rfl ?_
      rintro _ _ ⟨rfl, rfl⟩
      refine ⟨fun w hs => hs.drop.kick (i := 1) rfl, WA.fin rfl ?_⟩
      repeat' (first|refine bA ?_|refine bkq fun q=>?_|(refine bk2 ?_ ?_<;>(first|exact bkn|(refine bkk ?_;intro h))))
      refine WL.call c58 rfl rfl rfl rfl (j_fits tx d W0 _) ?_
      rintro _ _ ⟨rfl, rfl⟩
      refine WL.callP c55 rfl rfl rfl rfl (j_must (fitsB tx d) W0 _) (fun _ h => h) ?_ ?_
      · rintro _ _ ⟨hb, rfl, rfl⟩
        have hb2 := of_decide_eq_true hb
        have hT3 := hT2 tx hn2
        rw [if_pos hb2] at hT3
        repeat' (first|refine bA ?_|refine bkq fun q=>?_|(refine bk2 ?_ ?_<;>(first|exact bkn|(refine bkk ?_;intro h))))
        refine WL.buildSlice TT rfl rfl rfl rfl rfl rfl rfl rfl (fun qs => ?_)
        repeat' (first|refine bA ?_|refine bkq fun q=>?_|(refine bk2 ?_ ?_<;>(first|exact bkn|(refine bkk ?_;intro h))))
        exact QS.turn (G' := row br 122 [.string kW, .int .i64 ep, .slice (some ⟨qs, 0, none⟩) 1 1] :: slc entE 49 (some ⟨qs, 0, none⟩) 1 [⟨tx, d⟩] :: F) (fun w hs => by
          have h1 := row_own (α := Ent) entE [⟨tx, d⟩] rfl (by simp [maxLen]) hs
          exact hk ▸ (((h1.kick (i := 1) rfl).kick (i := 1) rfl).front (i := 1) rfl)) (QS.endV Tryz.results54 rfl ⟨⟨kW, ep, [⟨tx, d⟩]⟩, _, _, by rw [hT0, hT1, hT3], rfl⟩)
      · rintro _ _ ⟨hb, rfl, rfl⟩
        have hT3 := hT2 tx hn2
        rw [if_neg (of_decide_eq_false hb)] at hT3
        repeat' (first|refine bA ?_|refine bkq fun q=>?_|(refine bk2 ?_ ?_<;>(first|exact bkn|(refine bkk ?_;intro h))))
        exact QS.turn (G' := row br 122 [.string k, .int .i64 ep, .slice none 0 0] :: F) (fun w hs => hs.drop.drop) (QS.panicV ⟨by rw [hT0, hT1, hT3], rfl, _, rfl⟩)
    · rintro _ _ ⟨hn2, rfl, rfl⟩
      repeat' (first|refine bA ?_|refine bkq fun q=>?_|(refine bk2 ?_ ?_<;>(first|exact bkn|(refine bkk ?_;intro h))))
      exact QS.turn (G' := row br 122 [.string k, .int .i64 ep, .slice none 0 0] :: F) (fun w hs => hs.drop) (QS.panicV ⟨by rw [hT0, hT1, readW, hn2], rfl, _, rfl⟩)
    · rintro _ _ ⟨q3, rfl, rfl⟩
      refine ⟨fun w hs => hs.drop.kick (i := 1) rfl, ?_⟩
      refine WA.callP 3 (by kernel_rfl) (by kernel_rfl) rfl rfl c56 rfl rfl rfl rfl (j_number t (by omega) W0 _) (fun _ h => h) ?_ ?_
      · rintro _ _ ⟨⟨tx, hn2, rfl⟩, rfl⟩
        refine ⟨fun w hs => hs.drop.kick (i := 1) rfl, ?_⟩
        repeat' (first|refine bka ?_|(refine bk2a ?_ ?_<;>(first|exact bkn|(refine bkk ?_;intro h))))
        refine WA.e1 9 (by kernel_rfl) (by kernel_rfl) rfl rfl (EffC.store TT 0 rfl rfl rfl rfl rfl rfl rfl rfl rfl) rfl ?_
        rintro _ _ ⟨rfl, rfl⟩
        refine ⟨fun w hs => hs.drop.kick (i := 1) rfl, WA.fin rfl ?_⟩
        repeat' (first|refine bA ?_|refine bkq fun q=>?_|(refine bk2 ?_ ?_<;>(first|exact bkn|(refine bkk ?_;intro h))))
        refine WL.call c58 rfl rfl rfl rfl (j_fits tx d W0 _) ?_
        rintro _ _ ⟨rfl, rfl⟩
        refine WL.callP c55 rfl rfl rfl rfl (j_must (fitsB tx d) W0 _) (fun _ h => h) ?_ ?_
        · rintro _ _ ⟨hb, rfl, rfl⟩
          have hb2 := of_decide_eq_true hb
          have hT3 := hT2 tx hn2
          rw [if_pos hb2] at hT3
          repeat' (first|refine bA ?_|refine bkq fun q=>?_|(refine bk2 ?_ ?_<;>(first|exact bkn|(refine bkk ?_;intro h))))
          refine WL.buildSlice TT rfl rfl rfl rfl rfl rfl rfl rfl (fun qs => ?_)
          repeat' (first|refine bA ?_|refine bkq fun q=>?_|(refine bk2 ?_ ?_<;>(first|exact bkn|(refine bkk ?_;intro h))))
          exact QS.turn (G' := row br 122 [.string kW, .int .i64 ep, .slice (some ⟨qs, 0, none⟩) 1 1] :: slc entE 49 (some ⟨qs, 0, none⟩) 1 [⟨tx, d⟩] :: F) (fun w hs => by
            have h1 := row_own (α := Ent) entE [⟨tx, d⟩] rfl (by simp [maxLen]) hs
            exact hk ▸ (((h1.kick (i := 1) rfl).kick (i := 1) rfl).front (i := 1) rfl)) (QS.endV Tryz.results54 rfl ⟨⟨kW, ep, [⟨tx, d⟩]⟩, _, _, by rw [hT0, hT1, hT3], rfl⟩)
        · rintro _ _ ⟨hb, rfl, rfl⟩
          have hT3 := hT2 tx hn2
          rw [if_neg (of_decide_eq_false hb)] at hT3
          repeat' (first|refine bA ?_|refine bkq fun q=>?_|(refine bk2 ?_ ?_<;>(first|exact bkn|(refine bkk ?_;intro h))))
          exact QS.turn (G' := row br 122 [.string k, .int .i64 ep, .slice none 0 0] :: F) (fun w hs => hs.drop.drop) (QS.panicV ⟨by rw [hT0, hT1, hT3], rfl, _, rfl⟩)
      · rintro _ _ ⟨hn2, rfl, rfl⟩
        repeat' (first|refine bA ?_|refine bkq fun q=>?_|(refine bk2 ?_ ?_<;>(first|exact bkn|(refine bkk ?_;intro h))))
        exact QS.turn (G' := row br 122 [.string k, .int .i64 ep, .slice none 0 0] :: F) (fun w hs => hs.drop.drop) (QS.panicV ⟨by rw [hT0, hT1, readW, hn2], rfl, _, rfl⟩)
  · have hT1 : readK k ep r = none := by rw [readK, if_neg (by assumption), if_neg (by assumption), if_neg (by assumption)]
    refine WL.s (op1_iface TT rfl rfl rfl) rfl ?_
    refine WL.panic rfl ?_
    repeat' (first|refine bA ?_|refine bkq fun q=>?_|(refine bk2 ?_ ?_<;>(first|exact bkn|(refine bkk ?_;intro h))))
    exact QS.turn (G' := row br 122 [.string k, .int .i64 ep, .slice none 0 0] :: F) (fun w hs => hs.drop) (QS.panicV ⟨by rw [hT0, hT1], rfl, _, rfl⟩)
end Go.Proofs.YtfolmcpfdcgliaaGreat.B
