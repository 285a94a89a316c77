import Derived.Test.YtfolmcpfdcgliaaGreatMg45
import Derived.Test.YtfolmcpfdcgliaaGreatMg26
set_option linter.unusedVariables false
set_option linter.unusedSimpArgs false
set_option maxRecDepth 8000
/-! The document's own reading of a request. -/
namespace Go.Proofs.YtfolmcpfdcgliaaGreat.B
open Go Go.Proofs
noncomputable def readR (s : List UInt8) (F : List SL) (v : Value) (G' : List SL) : Prop := match readQ s with
  | some q => ∃ tx A c, v = .tuple #[.agg #[.string q.kind, .int .i64 q.epoch, .int .i64 tx, .slice A q.xs.length c], .bool true] ∧ (q.kind = kW → tx = (q.xs.headD ⟨0, ⟨#[]⟩⟩).n ∧ q.xs.length = 1) ∧ G' = slc entE 49 A c q.xs :: F
  | none => ∃ k e t A n c, v = .tuple #[.agg #[.string k, .int .i64 e, .int .i64 t, .slice A n c], .bool false] ∧ G' = F
theorem readR_none {s : List UInt8} {F : List SL} (h : readQ s = none) (k : ByteArray) (e t : Int) (A : Option Addr) (n c : Nat) : readR s F (.tuple #[.agg #[.string k, .int .i64 e, .int .i64 t, .slice A n c], .bool false]) F := by
  unfold readR; rw [h]; exact ⟨_, _, _, _, _, _, rfl, rfl⟩
theorem readR_some {s : List UInt8} {F : List SL} {q : Rq} (h : readQ s = some q) {tx : Int} {A : Option Addr} {c : Nat} (hw : q.kind = kW → tx = (q.xs.headD ⟨0, ⟨#[]⟩⟩).n ∧ q.xs.length = 1) : readR s F (.tuple #[.agg #[.string q.kind, .int .i64 q.epoch, .int .i64 tx, .slice A q.xs.length c], .bool true]) (slc entE 49 A c q.xs :: F) := by
  unfold readR; rw [h]; exact ⟨_, _, _, rfl, hw, rfl⟩
theorem logOk_ep {ep : Int} (h : 1 ≤ ep ∧ ep ≤ 9007199254740991) (xs : List Ent) : logOk ep xs = logOk 0 xs := by
  unfold logOk
  congr 1
  rw [decide_eq_decide]
  omega
attribute [local irreducible] WL CS QS WQ WH WS Fn Op1 row Sat
attribute [local irreducible] slc rjA refA
set_option maxHeartbeats 8000000 in
theorem r_read (s : ByteArray) (hs : s.size ≤ 9223372036854775807) (W0 : World) (F : List SL) :
    Fn Tryz.prog 90 [.string s] W0 F (Ret (readR (bs s) F)) := by
  refine Fn.enter Tryz.func90 rfl Tryz.ntmps90 rfl ?_
  repeat' (first|refine bk ?_|refine bkc ?_|refine bks ?_|refine bkd ?_|refine bkq (fun q => ?_)|(refine bk2 ?_ ?_<;>(first|exact bkn|(refine bkk ?_;intro h))))
  revert q; intro q2
  refine WL.call c131 rfl rfl rfl rfl (ref_Split s hs W0 _) ?_
  intro v G' hv
  cases hsp : splitP (bs s) with
  | none =>
    rw [hsp] at hv
    obtain ⟨rfl, rfl⟩ := hv
    have hT : readQ (bs s) = none := by unfold readQ; rw [hsp]; rfl
    repeat' (first|refine bk ?_|refine bkc ?_|refine bks ?_|refine bkd ?_|refine bkq (fun q => ?_)|(refine bk2 ?_ ?_<;>(first|exact bkn|(refine bkk ?_;intro h))))
    exact QS.turnR (G2 := F) (fun w hs => hs.drop) (QS.retC TT 0 Tryz.results90 rfl rfl rfl rfl ⟨rfl, readR_none hT _ _ _ _ _ _⟩)
  | some l =>
    rw [hsp] at hv
    obtain ⟨A, c, rfl, rfl⟩ := hv
    obtain ⟨hl1, hl2⟩ := joinOk_iff.1 (splitP_some hsp).2
    have hRQ : readQ (bs s) = readL l := by unfold readQ; rw [hsp]; rfl
    by_cases hlen : 2 ≤ l.length
    rotate_left 1
    · have hT : readQ (bs s) = none := by
        rw [hRQ]
        match l, hlen with
        | [], _ => rfl
        | [_], _ => rfl
        | _ :: _ :: _, h => simp at h
      repeat' (first|refine bk ?_|refine bkc ?_|refine bks ?_|refine bkd ?_|refine bkq (fun q => ?_)|(refine bk2 ?_ ?_<;>(first|exact bkn|(refine bkk ?_;intro h))))
      exact QS.turnR (G2 := F) (fun w hs => hs.drop.drop) (QS.retC TT 1 Tryz.results90 rfl rfl rfl rfl ⟨rfl, readR_none hT _ _ _ _ _ _⟩)
    obtain ⟨k, e, r, rfl⟩ : ∃ k e r, l = k :: e :: r := by
      match l, hlen with
      | k :: e :: r, _ => exact ⟨k, e, r, rfl⟩
    have he := hl2 e (by simp)
    have hln : (k :: e :: r).length = r.length + 2 := rfl
    repeat' (first|refine bk ?_|refine bkc ?_|refine bks ?_|refine bkd ?_|refine bkq (fun q => ?_)|(refine bk2 ?_ ?_<;>(first|exact bkn|(refine bkk ?_;intro h))))
    refine WL.idx TT (Rd.slc (i := 0) rfl) rfl rfl rfl (by omega) (x := e) rfl rfl rfl rfl rfl (fun bb o hA => ?_)
    refine WL.s (op1_at TT hA rfl rfl rfl rfl) rfl ?_
    refine WL.call c69 rfl rfl rfl rfl (r_number e (by omega) W0 _) ?_
    rintro _ _ ⟨⟨n, rfl, hnn⟩, rfl⟩
    cases hn : numP e with
    | none =>
      have hT : readQ (bs s) = none := by rw [hRQ, readL, hn]
      repeat' (first|refine bk ?_|refine bkc ?_|refine bks ?_|refine bkd ?_|refine bkq (fun q => ?_)|(refine bk2 ?_ ?_<;>(first|exact bkn|(refine bkk ?_;intro h))))
      exact QS.turnR (G2 := F) (fun w hs => hs.drop.drop) (QS.retC TT 1 Tryz.results90 rfl rfl rfl rfl ⟨rfl, readR_none hT _ _ _ _ _ _⟩)
    | some ep =>
      obtain rfl := hnn ep hn
      by_cases hep : 1 ≤ n ∧ n ≤ 9007199254740991
      rotate_left 1
      · have hT : readQ (bs s) = none := by rw [hRQ, readL, hn]; simp only; rw [if_neg hep]
        repeat' (first|refine bk ?_|refine bkc ?_|refine bks ?_|refine bkd ?_|refine bkq (fun q => ?_)|(refine bk2 ?_ ?_<;>(first|exact bkn|(refine bkk ?_;intro h))))
        all_goals exact QS.turnR (G2 := F) (fun w hs => hs.drop.drop) (QS.retC TT 1 Tryz.results90 rfl rfl rfl rfl ⟨rfl, readR_none hT _ _ _ _ _ _⟩)
      have hT0 : readQ (bs s) = readK k n r := by rw [hRQ, readL, hn]; simp only; rw [if_pos hep]
      have hI : I64 n := by unfold I64; omega
      repeat' (first|refine bk ?_|refine bkc ?_|refine bks ?_|refine bkd ?_|refine bkq (fun q => ?_)|(refine bk2 ?_ ?_<;>(first|exact bkn|(refine bkk ?_;intro h))))
      refine WL.idx TT (Rd.slc (i := 0) rfl) rfl rfl rfl (by omega) (x := k) rfl rfl rfl rfl rfl (fun bb3 o3 hA3 => ?_)
      refine WL.s (op1_at TT hA3 rfl rfl rfl rfl) rfl ?_
      repeat' (first|refine bk ?_|refine bkc ?_|refine bks ?_|refine bkd ?_|refine bkq (fun q => ?_)|(refine bk2 ?_ ?_<;>(first|exact bkn|(refine bkk ?_;intro h))))
      revert q; intro q8
      refine WL.idx TT (Rd.slc (i := 1) rfl) rfl rfl rfl (by omega) (x := k) rfl rfl rfl rfl rfl (fun bb4 o4 hA4 => ?_)
      refine WL.s (op1_at TT hA4 rfl rfl rfl rfl) rfl ?_
      repeat' (first|refine bk ?_|refine bkc ?_|refine bks ?_|refine bkd ?_|refine bkq (fun q => ?_)|(refine bk2 ?_ ?_<;>(first|exact bkn|(refine bkk ?_;intro h))))
      · have hkp : k = kP := by assumption
        have hT1 : readK k n r = if r = [] then some ⟨kP, n, []⟩ else none := by rw [readK, if_pos hkp]
        by_cases hr : r = []
        · subst hr
          rw [if_pos rfl] at hT1
          exact QS.turnR (G2 := slc entE 49 none 0 [] :: F) (fun w hs => hs.drop.drop.drop.slcNil _ _) (QS.retC TT 2 Tryz.results90 rfl rfl rfl rfl ⟨rfl, by
            have := readR_some (s := bs s) (F := F) (q := ⟨kP, n, []⟩) (by rw [hT0, hT1]) (tx := 0) (A := none) (c := 0) (fun h => absurd h (by show ¬ kP = kW; decide))
            simp only [← hkp] at this
            exact this⟩)
        · rw [if_neg hr] at hT1
          have hrl := List.length_pos_iff.2 hr
          have hd : decide (((k :: e :: r).length : Int) = 2) = false := decide_eq_false (by omega)
          rw [hd]
          exact QS.turnR (G2 := F) (fun w hs => hs.drop.drop.drop) (QS.retC TT 2 Tryz.results90 rfl rfl rfl rfl ⟨rfl, readR_none (by rw [hT0, hT1]) _ _ _ _ _ _⟩)
      · have hkp : ¬ k = kP := by assumption
        have hka : k = kA := by assumption
        have hT1 : readK k n r = if logOk 0 (entsF 0 r) = true then some ⟨kA, n, entsF 0 r⟩ else none := by rw [readK, if_neg hkp, if_pos hka]
        refine CS.loop (X := Nat × Option Addr × Nat) (fun y => [(2, .pointer (some ⟨q2, 0, none⟩)), (4, .slice A (k :: e :: r).length c), (6, .int .i64 n), (8, .pointer (some ⟨q8, 0, none⟩)), (9, .int .i64 ((y.1 : Int) + 2))])
          (fun y => row q8 171 [.string k, .int .i64 n, .int .i64 0, .slice y.2.1 (entsF 0 (r.take y.1)).length y.2.2] :: slc entE 49 y.2.1 y.2.2 (entsF 0 (r.take y.1)) :: slc strE 9 A c (k :: e :: r) :: row q2 171 [.string ⟨#[]⟩, .int .i64 0, .int .i64 0, .slice none 0 0] :: F) (fun y => y.1 ≤ r.length) (fun y => r.length - y.1) (0, none, 0) ⟨rfl, rfl, rfl, rfl, rfl, trivial⟩
          (fun w hs => (hs.slcNil entE 49).front (i := 1) rfl) (Nat.zero_le _) ?_
        rintro ⟨i, A5, c5⟩ hi
        simp only at hi ⊢
        have hfl : (entsF 0 (r.take i)).length = i := by rw [entsF_len, List.length_take]; omega
        by_cases hir : i < r.length
        · obtain ⟨d, hd⟩ : ∃ x, r[i]? = some x := ⟨r[i]'(by omega), List.getElem?_eq_getElem (by omega)⟩
          have hd2 : (k :: e :: r)[((i : Int) + 2).toNat]? = some d := by rw [show ((i : Int) + 2).toNat = i + 2 from by omega]; simpa using hd
          have hsn : entsF 0 (r.take i) ++ [⟨(i : Int) + 1, d⟩] = entsF 0 (r.take (i + 1)) := by
            rw [List.take_add_one, hd, Option.toList_some, entsF_snoc, Nat.zero_add, List.length_take, Nat.min_eq_left (by omega)]
          generalize entsF 0 (r.take i) = X at hfl hsn ⊢
          have hsn2 : X ++ [⟨(i : Int) + 2 - 1, d⟩] = entsF 0 (r.take (i + 1)) := by rw [show (i : Int) + 2 - 1 = (i : Int) + 1 from by omega]; exact hsn
          repeat' (first|refine bk ?_|refine bkc ?_|refine bks ?_|refine bkq (fun q => ?_)|(refine bk2 ?_ ?_<;>(first|exact bkn|(refine bkk ?_;intro h))))
          refine CS.world fun hw => ?_
          have hG : ∀ w, Sat W0 (row q8 171 [.string k, .int .i64 n, .int .i64 0, .slice A5 X.length c5] :: slc entE 49 A5 c5 X :: slc strE 9 A c (k :: e :: r) :: row q2 171 [.string ⟨#[]⟩, .int .i64 0, .int .i64 0, .slice none 0 0] :: F) w → Sat W0 (row q8 171 [.string k, .int .i64 n, .int .i64 0, .slice A5 X.length c5] :: slc strE 9 A c (k :: e :: r) :: F) w := fun w hs => (hs.kick (i := 1) rfl).kick (i := 2) rfl
          have hwq : ∃ w, Sat W0 (row q8 171 [.string k, .int .i64 n, .int .i64 0, .slice A5 X.length c5] :: slc strE 9 A c (k :: e :: r) :: F) w := hw.elim fun w h => ⟨w, hG w h⟩
          refine CS.drawE _ 12 hG mixed (by kernel_rfl) rfl ?_
          repeat' (first|refine bka ?_|(refine bk2a ?_ ?_<;>(first|exact bkn|(refine bkk ?_;intro h))))
          refine WA.idx TT hwq (Rd.slc (i := 1) rfl) rfl rfl (by kernel_rfl) rfl rfl rfl rfl (by omega) hd2 rfl rfl rfl rfl (fun b3 o3 hA3 => ?_)
          refine WA.at 7 (by kernel_rfl) rfl (by kernel_rfl) rfl (op1_at TT hA3 rfl rfl rfl rfl) rfl ?_
          repeat' (first|refine bka ?_|(refine bk2a ?_ ?_<;>(first|exact bkn|(refine bkk ?_;intro h))))
          refine WA.e1 9 (by kernel_rfl) (by kernel_rfl) rfl rfl (EffC.of (Eff.buildSlice TT rfl rfl rfl rfl rfl rfl rfl)) rfl ?_
          rintro _ _ ⟨q9, rfl, rfl⟩
          refine ⟨fun w hs => hG w hs.drop, ?_⟩
          refine WA.e1 10 (by kernel_rfl) (by kernel_rfl) rfl rfl (EffC.of (Eff.append TT (E := entE) (xs := X) (ys := [⟨(i : Int) + 2 - 1, d⟩]) 2 rfl rfl rfl rfl rfl (Rd.row (i := 0) rfl rfl) rfl rfl rfl rfl rfl (by decide) (by simp only [List.length_cons, List.length_nil]; omega) (fun _ _ => rfl))) rfl ?_
          rintro _ _ ⟨A6, c6, rfl, rfl⟩
          rw [hsn2]
          refine ⟨fun w hs => ((hs.drop.kick (i := 1) rfl).kick (i := 2) rfl), ?_⟩
          refine WA.at 11 (by kernel_rfl) rfl (by kernel_rfl) rfl (op1_pure1 TT rfl) rfl ?_
          refine WA.last (by kernel_rfl) (by kernel_rfl) (by kernel_rfl) rfl rfl (EffC.store TT 1 rfl rfl rfl rfl rfl rfl rfl rfl rfl) rfl ?_
          rintro _ _ ⟨rfl, rfl⟩
          repeat' (first|refine bk ?_|refine bkc ?_|refine bks ?_|refine bkq (fun q => ?_)|(refine bk2 ?_ ?_<;>(first|exact bkn|(refine bkk ?_;intro h))))
          exact QS.again (i + 1, A6, c6) (by show i + 1 ≤ r.length; omega) (by show r.length - (i + 1) < r.length - i; omega) ⟨rfl, rfl, rfl, rfl, by simp only; rw [show ((i + 1 : Nat) : Int) + 2 = (i : Int) + 2 + 1 from by omega]; rfl, trivial⟩ (fun w hs => hs.drop)
        · have hix : i = r.length := by omega
          subst hix
          rw [List.take_length] at *
          repeat' (first|refine bk ?_|refine bkc ?_|refine bks ?_|refine bkd ?_|refine bkq (fun q => ?_)|(refine bk2 ?_ ?_<;>(first|exact bkn|(refine bkk ?_;intro h))))
          refine WL.call c129 rfl rfl rfl rfl (ref_Right n A5 _ c5 (entsF 0 r) rfl W0 _ (Rd.slc (i := 1) rfl)) ?_
          rintro _ G2 ⟨rfl, hG2⟩
          rw [hG2, logOk_ep hep]; clear hG2 G2
          repeat' (first|refine bk ?_|refine bkc ?_|refine bks ?_|refine bkd ?_|refine bkq (fun q => ?_)|(refine bk2 ?_ ?_<;>(first|exact bkn|(refine bkk ?_;intro h))))
          cases hb : logOk 0 (entsF 0 r) with
          | true =>
            rw [hb, if_pos rfl] at hT1
            exact QS.turnR (G2 := slc entE 49 A5 c5 (entsF 0 r) :: F) (fun w hs => (hs.drop.kick (i := 1) rfl).kick (i := 1) rfl) (QS.retC TT 3 Tryz.results90 rfl rfl rfl rfl ⟨rfl, by
              have := readR_some (s := bs s) (F := F) (q := ⟨kA, n, entsF 0 r⟩) (by rw [hT0, hT1]) (tx := 0) (A := A5) (c := c5) (fun h => absurd h (by show ¬ kA = kW; decide))
              simp only [← hka] at this
              exact this⟩)
          | false =>
            rw [hb, if_neg (by decide)] at hT1
            exact QS.turnR (G2 := F) (fun w hs => hs.drop.drop.drop.drop) (QS.retC TT 3 Tryz.results90 rfl rfl rfl rfl ⟨rfl, readR_none (by rw [hT0, hT1]) _ _ _ _ _ _⟩)
      · have hkp : ¬ k = kP := by assumption
        have hka : ¬ k = kA := by assumption
        have hkw : k = kW := by assumption
        have hT1 : readK k n r = none := by
          rw [readK, if_neg hkp, if_neg hka, if_pos hkw]
          match r, hln, h with
          | [], _, _ => rfl
          | [_], _, _ => rfl
          | [_, _], _, h => exact absurd rfl h
          | _ :: _ :: _ :: _, _, _ => rfl
        exact QS.turnR (G2 := F) (fun w hs => hs.drop.drop.drop) (QS.retC TT 2 Tryz.results90 rfl rfl rfl rfl ⟨rfl, readR_none (by rw [hT0, hT1]) _ _ _ _ _ _⟩)
      · have hkp : ¬ k = kP := by assumption
        have hka : ¬ k = kA := by assumption
        have hkw : k = kW := by assumption
        obtain ⟨tb, d, rfl⟩ : ∃ t d, r = [t, d] := by
          match r, hln, h with
          | [], _, h => simp at h
          | [_], _, h => simp at h
          | [t, d], _, _ => exact ⟨t, d, rfl⟩
          | _ :: _ :: _ :: _, _, h => simp at h; omega
        have hT1 : readK k n [tb, d] = readW n [tb, d] := by rw [readK, if_neg hkp, if_neg hka, if_pos hkw]
        have ht := hl2 tb (by simp)
        have hd := hl2 d (by simp)
        refine WL.idx TT (Rd.slc (i := 1) rfl) rfl rfl rfl (by omega) (x := d) rfl rfl rfl rfl rfl (fun bb5 o5 hA5 => ?_)
        repeat' (first|refine bk ?_|refine bkc ?_|refine bks ?_|refine bkd ?_|refine bkq (fun q => ?_)|(refine bk2 ?_ ?_<;>(first|exact bkn|(refine bkk ?_;intro h))))
        refine WL.s (op1_at TT hA5 rfl rfl rfl rfl) rfl ?_
        repeat' (first|refine bk ?_|refine bkc ?_|refine bks ?_|refine bkd ?_|refine bkq (fun q => ?_)|(refine bk2 ?_ ?_<;>(first|exact bkn|(refine bkk ?_;intro h))))
        · have hT2 : readQ (bs s) = none := by
            rw [hT0, hT1, readW]
            cases numP tb with
            | none => rfl
            | some tx => simp only; rw [if_neg (by omega)]
          exact QS.turnR (G2 := F) (fun w hs => hs.drop.drop.drop) (QS.retC TT 2 Tryz.results90 rfl rfl rfl rfl ⟨rfl, readR_none hT2 _ _ _ _ _ _⟩)
        · have hds : (d.size : Int) ≤ 600 := by omega
          refine WL.idx TT (Rd.slc (i := 1) rfl) rfl rfl rfl (by omega) (x := tb) rfl rfl rfl rfl rfl (fun bb6 o6 hA6 => ?_)
          refine WL.s (op1_at TT hA6 rfl rfl rfl rfl) rfl ?_
          refine WL.call c69 rfl rfl rfl rfl (r_number tb (by omega) W0 _) ?_
          rintro _ _ ⟨⟨tx, rfl, hmm⟩, rfl⟩
          repeat' (first|refine bk ?_|refine bkc ?_|refine bks ?_|refine bkd ?_|refine bkq (fun q => ?_)|(refine bk2 ?_ ?_<;>(first|exact bkn|(refine bkk ?_;intro h))))
          refine WL.idx TT (Rd.slc (i := 1) rfl) rfl rfl rfl (by omega) (x := d) rfl rfl rfl rfl rfl (fun bb7 o7 hA7 => ?_)
          refine WL.s (op1_at TT hA7 rfl rfl rfl rfl) rfl ?_
          repeat' (first|refine bk ?_|refine bkc ?_|refine bks ?_|refine bkd ?_|refine bkq (fun q => ?_)|(refine bk2 ?_ ?_<;>(first|exact bkn|(refine bkk ?_;intro h))))
          refine WL.buildSlice TT rfl rfl rfl rfl rfl rfl rfl rfl (fun qs => ?_)
          cases hn2 : numP tb with
          | none =>
            have hT2 : readQ (bs s) = none := by rw [hT0, hT1, readW, hn2]
            repeat' (first|refine bk ?_|refine bkc ?_|refine bks ?_|refine bkd ?_|refine bkq (fun q => ?_)|(refine bk2 ?_ ?_<;>(first|exact bkn|(refine bkk ?_;intro h))))
            exact QS.turnR (G2 := F) (fun w hs => hs.drop.drop.drop.drop) (QS.retC TT 3 Tryz.results90 rfl rfl rfl rfl ⟨rfl, readR_none hT2 _ _ _ _ _ _⟩)
          | some m =>
            obtain rfl := hmm m hn2
            have hT2 : readQ (bs s) = if 1 ≤ tx ∧ tx ≤ 300 ∧ d.size ≤ 600 then some ⟨kW, n, [⟨tx, d⟩]⟩ else none := by rw [hT0, hT1, readW, hn2]
            by_cases htx : 1 ≤ tx ∧ tx ≤ 300
            · rw [if_pos ⟨htx.1, htx.2, by omega⟩] at hT2
              have h1 := htx.1
              have h2 := htx.2
              repeat' (first|refine bk ?_|refine bkc ?_|refine bks ?_|refine bkd ?_|refine bkq (fun q => ?_)|(refine bk2 ?_ ?_<;>(first|exact bkn|(refine bkk ?_;intro h))))
              rw [decide_eq_true h2]
              exact QS.turnR (G2 := slc entE 49 (some ⟨qs, 0, none⟩) 1 [⟨tx, d⟩] :: F) (fun w hs => by
                have h3 := row_own (α := Ent) entE [⟨tx, d⟩] rfl (by simp [maxLen]) hs
                exact ((h3.kick (i := 1) rfl).kick (i := 1) rfl).kick (i := 1) rfl) (QS.retC TT 3 Tryz.results90 rfl rfl rfl rfl ⟨rfl, by
                have := readR_some (s := bs s) (F := F) (q := ⟨kW, n, [⟨tx, d⟩]⟩) hT2 (tx := tx) (A := some ⟨qs, 0, none⟩) (c := 1) (fun _ => ⟨rfl, rfl⟩)
                simp only [← hkw] at this
                exact this⟩)
            · rw [if_neg (fun h => htx ⟨h.1, h.2.1⟩)] at hT2
              repeat' (first|refine bk ?_|refine bkc ?_|refine bks ?_|refine bkd ?_|refine bkq (fun q => ?_)|(refine bk2 ?_ ?_<;>(first|exact bkn|(refine bkk ?_;intro h))))
              · rw [decide_eq_false (show ¬ tx ≤ 300 by omega)]
                exact QS.turnR (G2 := F) (fun w hs => hs.drop.drop.drop.drop) (QS.retC TT 3 Tryz.results90 rfl rfl rfl rfl ⟨rfl, readR_none hT2 _ _ _ _ _ _⟩)
              · exact QS.turnR (G2 := F) (fun w hs => hs.drop.drop.drop.drop) (QS.retC TT 3 Tryz.results90 rfl rfl rfl rfl ⟨rfl, readR_none hT2 _ _ _ _ _ _⟩)
      · have hkp : ¬ k = kP := by assumption
        have hka : ¬ k = kA := by assumption
        have hkw : ¬ k = kW := by assumption
        have hT1 : readK k n r = none := by rw [readK, if_neg hkp, if_neg hka, if_neg hkw]
        exact QS.turnR (G2 := F) (fun w hs => hs.drop.drop.drop) (QS.retC TT 2 Tryz.results90 rfl rfl rfl rfl ⟨rfl, readR_none (by rw [hT0, hT1]) _ _ _ _ _ _⟩)
end Go.Proofs.YtfolmcpfdcgliaaGreat.B
