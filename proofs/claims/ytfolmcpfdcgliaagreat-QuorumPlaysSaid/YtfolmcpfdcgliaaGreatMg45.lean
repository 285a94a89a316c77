import Derived.Test.YtfolmcpfdcgliaaGreatMg44
import Derived.Test.YtfolmcpfdcgliaaGreatMg25
import Derived.Test.YtfolmcpfdcgliaaGreatMg26
import Derived.Test.YtfolmcpfdcgliaaGreatMg40
import Derived.Test.YtfolmcpfdcgliaaGreatMg27
import Derived.Test.YtfolmcpfdcgliaaGreatMg41
set_option linter.unusedVariables false
set_option linter.unusedSimpArgs false
set_option maxRecDepth 8000
namespace Go.Proofs.YtfolmcpfdcgliaaGreat.B
open Go Go.Proofs
noncomputable def readR (s : List UInt8) (F : List SL) (v : Value) (G' : List SL) : Prop := match readQ s with
  | some q => ∃ tx A c, v = .tuple #[.agg #[.string q.kind, .int .i64 q.epoch, .int .i64 tx, .slice A q.xs.length c], .bool true] ∧ (q.kind = kW → tx = (q.xs.headD ⟨0, ⟨#[]⟩⟩).n ∧ q.xs.length = 1) ∧ G' = slc entE 49 A c q.xs :: F
  | none => ∃ k e t A n c, v = .tuple #[.agg #[.string k, .int .i64 e, .int .i64 t, .slice A n c], .bool false] ∧ G' = F
theorem readR_none {s : List UInt8} {F : List SL} (h : readQ s = none) (k : ByteArray) (e t : Int) (A : Option Addr) (n c : Nat) : readR s F (.tuple #[.agg #[.string k, .int .i64 e, .int .i64 t, .slice A n c], .bool false]) F := by
  unfold readR; rw [h]; exact ⟨_, _, _, _, _, _, rfl, rfl⟩
theorem readR_some {s : List UInt8} {F : List SL} {q : Rq} (h : readQ s = some q) {tx : Int} {A : Option Addr} {c : Nat} (hw : q.kind = kW → tx = (q.xs.headD ⟨0, ⟨#[]⟩⟩).n ∧ q.xs.length = 1) : readR s F (.tuple #[.agg #[.string q.kind, .int .i64 q.epoch, .int .i64 tx, .slice A q.xs.length c], .bool true]) (slc entE 49 A c q.xs :: F) := by
  unfold readR; rw [h]; exact ⟨_, _, _, rfl, hw, rfl⟩
theorem logOk_ep {ep : Int} (h : 1 ≤ ep ∧ ep ≤ 9007199254740991) (xs : List Ent) : logOk ep xs = logOk 0 xs := by
  unfold logOk
  congr 1
  rw [decide_eq_decide]
  omega
attribute [local irreducible] WL CS QS WQ WH WS Fn Op1 row Sat
attribute [local irreducible] slc rjA refA
set_option maxHeartbeats 8000000 in
theorem r_read (s : ByteArray) (hs : s.size ≤ 9223372036854775807) (W0 : World) (F : List SL) :
    Fn Tryz.prog 90 [.string s] W0 F (Ret (readR (bs s) F)) := by
  refine Fn.enter Tryz.func90 rfl Tryz.ntmps90 rfl ?_
  repeat' (first|refine bA ?_|refine bkq fun q=>?_|(refine bk2 ?_ ?_<;>(first|exact bkn|(refine bkk ?_;intro h))))
  revert q; intro q2
  refine WL.call c131 rfl rfl rfl rfl (ref_Split s hs W0 _) ?_
  intro v G' hv
  cases hsp : splitP (bs s) with
  | none =>
    rw [hsp] at hv
    obtain ⟨rfl, rfl⟩ := hv
    have hT : readQ (bs s) = none := by unfold readQ; rw [hsp]; rfl
    repeat' (first|refine bA ?_|refine bkq fun q=>?_|(refine bk2 ?_ ?_<;>(first|exact bkn|(refine bkk ?_;intro h))))
    exact QS.turnR (G2 := F) (fun w hs => hs.drop) (QS.retC TT 0 Tryz.results90 rfl rfl rfl rfl ⟨rfl, readR_none hT _ _ _ _ _ _⟩)
  | some l =>
    rw [hsp] at hv
    obtain ⟨A, c, rfl, rfl⟩ := hv
    obtain ⟨hl1, hl2⟩ := joinOk_iff.1 (splitP_some hsp).2
    have hRQ : readQ (bs s) = readL l := by unfold readQ; rw [hsp]; rfl
    by_cases hlen : 2 ≤ l.length
    rotate_left 1
    · have hT : readQ (bs s) = none := by
        rw [hRQ]
        match l, hlen with
        | [], _ => rfl
        | [_], _ => rfl
        | _ :: _ :: _, h => simp at h
      repeat' (first|refine bA ?_|refine bkq fun q=>?_|(refine bk2 ?_ ?_<;>(first|exact bkn|(refine bkk ?_;intro h))))
      exact QS.turnR (G2 := F) (fun w hs => hs.drop.drop) (QS.retC TT 1 Tryz.results90 rfl rfl rfl rfl ⟨rfl, readR_none hT _ _ _ _ _ _⟩)
    obtain ⟨k, e, r, rfl⟩ : ∃ k e r, l = k :: e :: r := by
      match l, hlen with
      | k :: e :: r, _ => exact ⟨k, e, r, rfl⟩
    have he := hl2 e (by simp)
    have hln : (k :: e :: r).length = r.length + 2 := rfl
    repeat' (first|refine bA ?_|refine bkq fun q=>?_|(refine bk2 ?_ ?_<;>(first|exact bkn|(refine bkk ?_;intro h))))
    refine WL.idx TT (Rd.slc (i := 0) rfl) rfl rfl rfl (by omega) (x := e) rfl rfl rfl rfl rfl (fun bb o hA => ?_)
    refine WL.s (op1_at TT hA rfl rfl rfl rfl) rfl ?_
    refine WL.call c69 rfl rfl rfl rfl (r_number e (by omega) W0 _) ?_
    rintro _ _ ⟨⟨n, rfl, hnn⟩, rfl⟩
    cases hn : numP e with
    | none =>
      have hT : readQ (bs s) = none := by rw [hRQ, readL, hn]
      repeat' (first|refine bA ?_|refine bkq fun q=>?_|(refine bk2 ?_ ?_<;>(first|exact bkn|(refine bkk ?_;intro h))))
      exact QS.turnR (G2 := F) (fun w hs => hs.drop.drop) (QS.retC TT 1 Tryz.results90 rfl rfl rfl rfl ⟨rfl, readR_none hT _ _ _ _ _ _⟩)
    | some ep =>
      obtain rfl := hnn ep hn
      by_cases hep : 1 ≤ n ∧ n ≤ 9007199254740991
      rotate_left 1
      · have hT : readQ (bs s) = none := by rw [hRQ, readL, hn]; simp only; rw [if_neg hep]
        repeat' (first|refine bA ?_|refine bkq fun q=>?_|(refine bk2 ?_ ?_<;>(first|exact bkn|(refine bkk ?_;intro h))))
        all_goals exact QS.turnR (G2 := F) (fun w hs => hs.drop.drop) (QS.retC TT 1 Tryz.results90 rfl rfl rfl rfl ⟨rfl, readR_none hT _ _ _ _ _ _⟩)
      have hT0 : readQ (bs s) = readK k n r := by rw [hRQ, readL, hn]; simp only; rw [if_pos hep]
      have hI : I64 n := by unfold I64; omega
      repeat' (first|refine bA ?_|refine bkq fun q=>?_|(refine bk2 ?_ ?_<;>(first|exact bkn|(refine bkk ?_;intro h))))
      refine WL.idx TT (Rd.slc (i := 0) rfl) rfl rfl rfl (by omega) (x := k) rfl rfl rfl rfl rfl (fun bb3 o3 hA3 => ?_)
      refine WL.s (op1_at TT hA3 rfl rfl rfl rfl) rfl ?_
      repeat' (first|refine bA ?_|refine bkq fun q=>?_|(refine bk2 ?_ ?_<;>(first|exact bkn|(refine bkk ?_;intro h))))
      revert q; intro q8
      refine WL.idx TT (Rd.slc (i := 1) rfl) rfl rfl rfl (by omega) (x := k) rfl rfl rfl rfl rfl (fun bb4 o4 hA4 => ?_)
      refine WL.s (op1_at TT hA4 rfl rfl rfl rfl) rfl ?_
      repeat' (first|refine bA ?_|refine bkq fun q=>?_|(refine bk2 ?_ ?_<;>(first|exact bkn|(refine bkk ?_;intro h))))
      · have hkp : k = kP := by assumption
        have hT1 : readK k n r = if r = [] then some ⟨kP, n, []⟩ else none := by rw [readK, if_pos hkp]
        by_cases hr : r = []
        · subst hr
          rw [if_pos rfl] at hT1
          exact QS.turnR (G2 := slc entE 49 none 0 [] :: F) (fun w hs => hs.drop.drop.drop.slcNil _ _) (QS.retC TT 2 Tryz.results90 rfl rfl rfl rfl ⟨rfl, by
            have := readR_some (s := bs s) (F := F) (q := ⟨kP, n, []⟩) (by rw [hT0, hT1]) (tx := 0) (A := none) (c := 0) (fun h => absurd h (by show ¬ kP = kW; decide))
            simp only [← hkp] at this
            exact this⟩)
        · rw [if_neg hr] at hT1
          have hrl := List.length_pos_iff.2 hr
          have hd : decide (((k :: e :: r).length : Int) = 2) = false := decide_eq_false (by omega)
          rw [hd]
          exact QS.turnR (G2 := F) (fun w hs => hs.drop.drop.drop) (QS.retC TT 2 Tryz.results90 rfl rfl rfl rfl ⟨rfl, readR_none (by rw [hT0, hT1]) _ _ _ _ _ _⟩)
      · have hkp : ¬ k = kP := by assumption
        have hka : k = kA := by assumption
        have hT1 : readK k n r = if logOk 0 (entsF 0 r) = true then some ⟨kA, n, entsF 0 r⟩ else none := by rw [readK, if_neg hkp, if_pos hka]
        refine CS.loop (X := Nat × Option Addr × Nat) (fun y => [(2, .pointer (some ⟨q2, 0, none⟩)), (4, .slice A (k :: e :: r).length c), (6, .int .i64 n), (8, .pointer (some ⟨q8, 0, none⟩)), (9, .int .i64 ((y.1 : Int) + 2))])
          (fun y => row q8 171 [.string k, .int .i64 n, .int .i64 0, .slice y.2.1 (entsF 0 (r.take y.1)).length y.2.2] :: slc entE 49 y.2.1 y.2.2 (entsF 0 (r.take y.1)) :: slc strE 9 A c (k :: e :: r) :: row q2 171 [.string ⟨#[]⟩, .int .i64 0, .int .i64 0, .slice none 0 0] :: F) (fun y => y.1 ≤ r.length) (fun y => r.length - y.1) (0, none, 0) ⟨rfl, rfl, rfl, rfl, rfl, trivial⟩
          (fun w hs => (hs.slcNil entE 49).front (i := 1) rfl) (Nat.zero_le _) ?_
        rintro ⟨i, A5, c5⟩ hi
        simp only at hi ⊢
        have hfl : (entsF 0 (r.take i)).length = i := by rw [entsF_len, List.length_take]; omega
        by_cases hir : i < r.length
        · obtain ⟨d, hd⟩ : ∃ x, r[i]? = some x := ⟨r[i]'(by omega), List.getElem?_eq_getElem (by omega)⟩
          have hd2 : (k :: e :: r)[((i : Int) + 2).toNat]? = some d := by rw [show ((i : Int) + 2).toNat = i + 2 from by omega]; simpa using hd
          have hsn : entsF 0 (r.take i) ++ [⟨(i : Int) + 1, d⟩] = entsF 0 (r.take (i + 1)) := by
            rw [List.take_add_one, hd, Option.toList_some, entsF_snoc, Nat.zero_add, List.length_take, Nat.min_eq_left (by omega)]
          generalize entsF 0 (r.take i) = X at hfl hsn ⊢
          have hsn2 : X ++ [⟨(i : Int) + 2 - 1, d⟩] = entsF 0 (r.take (i + 1)) := by rw [show (i : Int) + 2 - 1 = (i : Int) + 1 from by omega]; exact hsn
          repeat' (first|refine bN ?_|refine bkq fun q=>?_|(refine bk2 ?_ ?_<;>(first|exact bkn|(refine bkk ?_;intro h))))
          refine CS.world fun hw => ?_
          have hG : ∀ w, Sat W0 (row q8 171 [.string k, .int .i64 n, .int .i64 0, .slice A5 X.length c5] :: slc entE 49 A5 c5 X :: slc strE 9 A c (k :: e :: r) :: row q2 171 [.string ⟨#[]⟩, .int .i64 0, .int .i64 0, .slice none 0 0] :: F) w → Sat W0 (row q8 171 [.string k, .int .i64 n, .int .i64 0, .slice A5 X.length c5] :: slc strE 9 A c (k :: e :: r) :: F) w := fun w hs => (hs.kick (i := 1) rfl).kick (i := 2) rfl
          have hwq : ∃ w, Sat W0 (row q8 171 [.string k, .int .i64 n, .int .i64 0, .slice A5 X.length c5] :: slc strE 9 A c (k :: e :: r) :: F) w := hw.elim fun w h => ⟨w, hG w h⟩
          refine CS.drawE _ 12 hG mixed (by kernel_rfl) rfl ?_
          repeat' (first|refine bka ?_|(refine bk2a ?_ ?_<;>(first|exact bkn|(refine bkk ?_;intro h))))
          refine WA.idx TT hwq (Rd.slc (i := 1) rfl) rfl rfl (by kernel_rfl) rfl rfl rfl rfl (by omega) hd2 rfl rfl rfl rfl (fun b3 o3 hA3 => ?_)
          refine WA.at 7 (by kernel_rfl) rfl (by kernel_rfl) rfl (op1_at TT hA3 rfl rfl rfl rfl) rfl ?_
          repeat' (first|refine bka ?_|(refine bk2a ?_ ?_<;>(first|exact bkn|(refine bkk ?_;intro h))))
          refine WA.e1 9 (by kernel_rfl) (by kernel_rfl) rfl rfl (EffC.of (Eff.buildSlice TT rfl rfl rfl rfl rfl rfl rfl)) rfl ?_
          rintro _ _ ⟨q9, rfl, rfl⟩
          refine ⟨fun w hs => hG w hs.drop, ?_⟩
          refine WA.e1 10 (by kernel_rfl) (by kernel_rfl) rfl rfl (EffC.of (Eff.append TT (E := entE) (xs := X) (ys := [⟨(i : Int) + 2 - 1, d⟩]) 2 rfl rfl rfl rfl rfl (Rd.row (i := 0) rfl rfl) rfl rfl rfl rfl rfl (by decide) (by simp only [List.length_cons, List.length_nil]; omega) (fun _ _ => rfl))) rfl ?_
          rintro _ _ ⟨A6, c6, rfl, rfl⟩
          rw [hsn2]
          refine ⟨fun w hs => ((hs.drop.kick (i := 1) rfl).kick (i := 2) rfl), ?_⟩
          refine WA.at 11 (by kernel_rfl) rfl (by kernel_rfl) rfl (op1_pure1 TT rfl) rfl ?_
          refine WA.last (by kernel_rfl) (by kernel_rfl) (by kernel_rfl) rfl rfl (EffC.store TT 1 rfl rfl rfl rfl rfl rfl rfl rfl rfl) rfl ?_
          rintro _ _ ⟨rfl, rfl⟩
          repeat' (first|refine bN ?_|refine bkq fun q=>?_|(refine bk2 ?_ ?_<;>(first|exact bkn|(refine bkk ?_;intro h))))
          exact QS.again (i + 1, A6, c6) (by show i + 1 ≤ r.length; omega) (by show r.length - (i + 1) < r.length - i; omega) ⟨rfl, rfl, rfl, rfl, by simp only; rw [show ((i + 1 : Nat) : Int) + 2 = (i : Int) + 2 + 1 from by omega]; rfl, trivial⟩ (fun w hs => hs.drop)
        · have hix : i = r.length := by omega
          subst hix
          rw [List.take_length] at *
          repeat' (first|refine bA ?_|refine bkq fun q=>?_|(refine bk2 ?_ ?_<;>(first|exact bkn|(refine bkk ?_;intro h))))
          refine WL.call c129 rfl rfl rfl rfl (ref_Right n A5 _ c5 (entsF 0 r) rfl W0 _ (Rd.slc (i := 1) rfl)) ?_
          rintro _ G2 ⟨rfl, hG2⟩
          rw [hG2, logOk_ep hep]; clear hG2 G2
          repeat' (first|refine bA ?_|refine bkq fun q=>?_|(refine bk2 ?_ ?_<;>(first|exact bkn|(refine bkk ?_;intro h))))
          cases hb : logOk 0 (entsF 0 r) with
          | true =>
            rw [hb, if_pos rfl] at hT1
            exact QS.turnR (G2 := slc entE 49 A5 c5 (entsF 0 r) :: F) (fun w hs => (hs.drop.kick (i := 1) rfl).kick (i := 1) rfl) (QS.retC TT 3 Tryz.results90 rfl rfl rfl rfl ⟨rfl, by
              have := readR_some (s := bs s) (F := F) (q := ⟨kA, n, entsF 0 r⟩) (by rw [hT0, hT1]) (tx := 0) (A := A5) (c := c5) (fun h => absurd h (by show ¬ kA = kW; decide))
              simp only [← hka] at this
              exact this⟩)
          | false =>
            rw [hb, if_neg (by decide)] at hT1
            exact QS.turnR (G2 := F) (fun w hs => hs.drop.drop.drop.drop) (QS.retC TT 3 Tryz.results90 rfl rfl rfl rfl ⟨rfl, readR_none (by rw [hT0, hT1]) _ _ _ _ _ _⟩)
      · have hkp : ¬ k = kP := by assumption
        have hka : ¬ k = kA := by assumption
        have hkw : k = kW := by assumption
        have hT1 : readK k n r = none := by
          rw [readK, if_neg hkp, if_neg hka, if_pos hkw]
          match r, hln, h with
          | [], _, _ => rfl
          | [_], _, _ => rfl
          | [_, _], _, h => exact absurd rfl h
          | _ :: _ :: _ :: _, _, _ => rfl
        exact QS.turnR (G2 := F) (fun w hs => hs.drop.drop.drop) (QS.retC TT 2 Tryz.results90 rfl rfl rfl rfl ⟨rfl, readR_none (by rw [hT0, hT1]) _ _ _ _ _ _⟩)
      · have hkp : ¬ k = kP := by assumption
        have hka : ¬ k = kA := by assumption
        have hkw : k = kW := by assumption
        obtain ⟨tb, d, rfl⟩ : ∃ t d, r = [t, d] := by
          match r, hln, h with
          | [], _, h => simp at h
          | [_], _, h => simp at h
          | [t, d], _, _ => exact ⟨t, d, rfl⟩
          | _ :: _ :: _ :: _, _, h => simp at h; omega
        have hT1 : readK k n [tb, d] = readW n [tb, d] := by rw [readK, if_neg hkp, if_neg hka, if_pos hkw]
        have ht := hl2 tb (by simp)
        have hd := hl2 d (by simp)
        refine WL.idx TT (Rd.slc (i := 1) rfl) rfl rfl rfl (by omega) (x := d) rfl rfl rfl rfl rfl (fun bb5 o5 hA5 => ?_)
        repeat' (first|refine bA ?_|refine bkq fun q=>?_|(refine bk2 ?_ ?_<;>(first|exact bkn|(refine bkk ?_;intro h))))
        refine WL.s (op1_at TT hA5 rfl rfl rfl rfl) rfl ?_
        repeat' (first|refine bA ?_|refine bkq fun q=>?_|(refine bk2 ?_ ?_<;>(first|exact bkn|(refine bkk ?_;intro h))))
        · have hT2 : readQ (bs s) = none := by
            rw [hT0, hT1, readW]
            cases numP tb with
            | none => rfl
            | some tx => simp only; rw [if_neg (by omega)]
          exact QS.turnR (G2 := F) (fun w hs => hs.drop.drop.drop) (QS.retC TT 2 Tryz.results90 rfl rfl rfl rfl ⟨rfl, readR_none hT2 _ _ _ _ _ _⟩)
        · have hds : (d.size : Int) ≤ 600 := by omega
          refine WL.idx TT (Rd.slc (i := 1) rfl) rfl rfl rfl (by omega) (x := tb) rfl rfl rfl rfl rfl (fun bb6 o6 hA6 => ?_)
          refine WL.s (op1_at TT hA6 rfl rfl rfl rfl) rfl ?_
          refine WL.call c69 rfl rfl rfl rfl (r_number tb (by omega) W0 _) ?_
          rintro _ _ ⟨⟨tx, rfl, hmm⟩, rfl⟩
          repeat' (first|refine bA ?_|refine bkq fun q=>?_|(refine bk2 ?_ ?_<;>(first|exact bkn|(refine bkk ?_;intro h))))
          refine WL.idx TT (Rd.slc (i := 1) rfl) rfl rfl rfl (by omega) (x := d) rfl rfl rfl rfl rfl (fun bb7 o7 hA7 => ?_)
          refine WL.s (op1_at TT hA7 rfl rfl rfl rfl) rfl ?_
          repeat' (first|refine bA ?_|refine bkq fun q=>?_|(refine bk2 ?_ ?_<;>(first|exact bkn|(refine bkk ?_;intro h))))
          refine WL.buildSlice TT rfl rfl rfl rfl rfl rfl rfl rfl (fun qs => ?_)
          cases hn2 : numP tb with
          | none =>
            have hT2 : readQ (bs s) = none := by rw [hT0, hT1, readW, hn2]
            repeat' (first|refine bA ?_|refine bkq fun q=>?_|(refine bk2 ?_ ?_<;>(first|exact bkn|(refine bkk ?_;intro h))))
            exact QS.turnR (G2 := F) (fun w hs => hs.drop.drop.drop.drop) (QS.retC TT 3 Tryz.results90 rfl rfl rfl rfl ⟨rfl, readR_none hT2 _ _ _ _ _ _⟩)
          | some m =>
            obtain rfl := hmm m hn2
            have hT2 : readQ (bs s) = if 1 ≤ tx ∧ tx ≤ 300 ∧ d.size ≤ 600 then some ⟨kW, n, [⟨tx, d⟩]⟩ else none := by rw [hT0, hT1, readW, hn2]
            by_cases htx : 1 ≤ tx ∧ tx ≤ 300
            · rw [if_pos ⟨htx.1, htx.2, by omega⟩] at hT2
              have h1 := htx.1
              have h2 := htx.2
              repeat' (first|refine bA ?_|refine bkq fun q=>?_|(refine bk2 ?_ ?_<;>(first|exact bkn|(refine bkk ?_;intro h))))
              rw [decide_eq_true h2]
              exact QS.turnR (G2 := slc entE 49 (some ⟨qs, 0, none⟩) 1 [⟨tx, d⟩] :: F) (fun w hs => by
                have h3 := row_own (α := Ent) entE [⟨tx, d⟩] rfl (by simp [maxLen]) hs
                exact ((h3.kick (i := 1) rfl).kick (i := 1) rfl).kick (i := 1) rfl) (QS.retC TT 3 Tryz.results90 rfl rfl rfl rfl ⟨rfl, by
                have := readR_some (s := bs s) (F := F) (q := ⟨kW, n, [⟨tx, d⟩]⟩) hT2 (tx := tx) (A := some ⟨qs, 0, none⟩) (c := 1) (fun _ => ⟨rfl, rfl⟩)
                simp only [← hkw] at this
                exact this⟩)
            · rw [if_neg (fun h => htx ⟨h.1, h.2.1⟩)] at hT2
              repeat' (first|refine bA ?_|refine bkq fun q=>?_|(refine bk2 ?_ ?_<;>(first|exact bkn|(refine bkk ?_;intro h))))
              · rw [decide_eq_false (show ¬ tx ≤ 300 by omega)]
                exact QS.turnR (G2 := F) (fun w hs => hs.drop.drop.drop.drop) (QS.retC TT 3 Tryz.results90 rfl rfl rfl rfl ⟨rfl, readR_none hT2 _ _ _ _ _ _⟩)
              · exact QS.turnR (G2 := F) (fun w hs => hs.drop.drop.drop.drop) (QS.retC TT 3 Tryz.results90 rfl rfl rfl rfl ⟨rfl, readR_none hT2 _ _ _ _ _ _⟩)
      · have hkp : ¬ k = kP := by assumption
        have hka : ¬ k = kA := by assumption
        have hkw : ¬ k = kW := by assumption
        have hT1 : readK k n r = none := by rw [readK, if_neg hkp, if_neg hka, if_neg hkw]
        exact QS.turnR (G2 := F) (fun w hs => hs.drop.drop.drop) (QS.retC TT 2 Tryz.results90 rfl rfl rfl rfl ⟨rfl, readR_none (by rw [hT0, hT1]) _ _ _ _ _ _⟩)
end Go.Proofs.YtfolmcpfdcgliaaGreat.B

namespace Go.Proofs.YtfolmcpfdcgliaaGreat.B
open Go Go.Proofs
attribute [local irreducible] WL CS QS WQ WH WS Fn Op1 row Sat
attribute [local irreducible] slc rjA refA
theorem begB_take {xs ys : List Ent} (h : xs.length ≤ ys.length) : begB xs ys = decide (xs = ys.take xs.length) := by
  unfold begB
  rw [decide_eq_decide]
  exact ⟨fun h2 => h2.2.symm, fun h2 => ⟨h, h2.symm⟩⟩
set_option maxHeartbeats 16000000 in
theorem r_does (b bx : Nat) (J : Jn) (hJ : JnOk J) (D : Disk) (hD : DiskOk D) (q : Rq) (hq : RqOk q) (tx : Int) (htx : q.kind = kW → tx = (q.xs.headD ⟨0, ⟨#[]⟩⟩).n ∧ q.xs.length = 1) (A : Option Addr) (c : Nat) (W0 : World) (F : List SL) :
    Fn Tryz.prog 91 [.pointer (some ⟨b, 0, none⟩), .agg #[.string q.kind, .int .i64 q.epoch, .int .i64 tx, .slice A q.xs.length c]] W0 (slc entE 49 A c q.xs :: rjA b bx J :: refA bx (toR D) :: F)
      (Ret fun v G' => v = .int .i64 (doJ J D q).1 ∧ G' = rjA b bx (doJ J D q).2.1 :: refA bx (toR (doJ J D q).2.2) :: F) := by
  have hjl := hJ.len
  have hql := hq.len
  have hje := hJ.e0
  have hI : I64 q.epoch := by have := hq.e0; have := hq.e1; unfold I64; omega
  obtain ⟨kind, ep, xs⟩ := q
  obtain ⟨he0, he1, hkind⟩ := hq
  simp only at hql hI he0 he1 hkind htx ⊢
  refine Fn.ex (A := fun x : Option Addr × Nat => row b 112 (rjC bx x.1 x.2 J) :: slc entE 49 x.1 x.2 J.xs :: slc entE 49 A c xs :: refA bx (toR D) :: F) (fun w hs => rjA_open w (hs.front (i := 1) rfl)) ?_
  rintro ⟨A1, c1⟩
  refine Fn.fact (slc_cap (i := 1) rfl) fun hcap => ?_
  have shutJ : ∀ (q0 : Nat) (cs : List Value) w, Sat W0 (row q0 171 cs :: row b 112 (rjC bx A1 c1 J) :: slc entE 49 A1 c1 J.xs :: slc entE 49 A c xs :: refA bx (toR D) :: F) w → Sat W0 (rjA b bx J :: row q0 171 cs :: slc entE 49 A c xs :: refA bx (toR D) :: F) w := fun q0 cs w hs =>
    rjA_shut (A := A1) (c := c1) w ((hs.front (i := 2) rfl).front (i := 2) rfl)
  refine Fn.enter Tryz.func91 rfl Tryz.ntmps91 rfl ?_
  simp only [rjC] at shutJ ⊢
  rcases hkind with ⟨rfl, rfl⟩ | ⟨rfl, hlog⟩ | ⟨rfl, x, rfl, hx1, hx2, hx3⟩
  · by_cases hp : ep ≤ J.p
    · have hdo : doJ J D ⟨kP, ep, []⟩ = (10, J, D) := by rw [doJ, if_pos rfl, if_pos hp]
      repeat' (first|refine bA ?_|refine bkq fun q=>?_|(refine bk2 ?_ ?_<;>(first|exact bkn|(refine bkk ?_;intro h))))
      refine QS.turn (G' := rjA b bx J :: refA bx (toR D) :: F) (fun w hs => ((shutJ _ _ w hs).kick (i := 1) rfl).kick (i := 1) rfl) (QS.retV Tryz.results91 rfl ⟨?_, ?_⟩) <;> rw [hdo] <;> rfl
    · have hdo : doJ J D ⟨kP, ep, []⟩ = promJ J D ep := by rw [doJ, if_pos rfl, if_neg hp]
      repeat' (first|refine bA ?_|refine bkq fun q=>?_|(refine bk2 ?_ ?_<;>(first|exact bkn|(refine bkk ?_;intro h))))
      refine WL.call c132 rfl rfl rfl rfl ((r_promise b bx J D hD ep hI W0 _).pre (fun w hs => ((shutJ _ _ w hs).front (i := 3) rfl).front (i := 1) rfl)) ?_
      rintro _ _ ⟨rfl, rfl⟩
      repeat' (first|refine bA ?_|refine bkq fun q=>?_|(refine bk2 ?_ ?_<;>(first|exact bkn|(refine bkk ?_;intro h))))
      refine QS.turn (G' := rjA b bx (promJ J D ep).2.1 :: refA bx (toR (promJ J D ep).2.2) :: F) (fun w hs => (hs.kick (i := 2) rfl).kick (i := 2) rfl) (QS.retV Tryz.results91 rfl ⟨?_, ?_⟩) <;> rw [hdo] <;> rfl
  · have hAok := hlog
    by_cases hp : ep < J.p
    · have hdo : doJ J D ⟨kA, ep, xs⟩ = (10, J, D) := by rw [doJ, if_neg kAP, if_pos (.inl hp)]
      repeat' (first|refine bA ?_|refine bkq fun q=>?_|(refine bk2 ?_ ?_<;>(first|exact bkn|(refine bkk ?_;intro h))))
      refine QS.turn (G' := rjA b bx J :: refA bx (toR D) :: F) (fun w hs => ((shutJ _ _ w hs).kick (i := 1) rfl).kick (i := 1) rfl) (QS.retV Tryz.results91 rfl ⟨?_, ?_⟩) <;> rw [hdo] <;> rfl
    have hdo0 : doJ J D ⟨kA, ep, xs⟩ = if ep = J.e then (if begB xs J.xs = true then (0, J, D) else (11, J, D)) else accJ J D ⟨kA, ep, xs⟩ := by
      rw [doJ, if_neg kAP, if_neg (by rintro (h | h); exact hp h; exact kAW h.1), if_neg kAW]
    by_cases he : ep = J.e
    · rw [if_pos he] at hdo0
      by_cases hlx : J.xs.length < xs.length
      · have hb : begB xs J.xs = false := by rw [begB, decide_eq_false (by omega)]
        rw [hb, if_neg (by decide)] at hdo0
        repeat' (first|refine bA ?_|refine bkq fun q=>?_|(refine bk2 ?_ ?_<;>(first|exact bkn|(refine bkk ?_;intro h))))
        refine QS.turn (G' := rjA b bx J :: refA bx (toR D) :: F) (fun w hs => ((shutJ _ _ w hs).kick (i := 1) rfl).kick (i := 1) rfl) (QS.retV Tryz.results91 rfl ⟨?_, ?_⟩) <;> rw [hdo0] <;> rfl
      · repeat' (first|refine bA ?_|refine bkq fun q=>?_|(refine bk2 ?_ ?_<;>(first|exact bkn|(refine bkk ?_;intro h))))
        refine WQ.s (op1_sliceS TT (E := entE) (xs := J.xs) (l := 0) (r := (xs.length : Int)) rfl rfl rfl rfl rfl rfl rfl ⟨by omega, by omega, by omega⟩ hcap) rfl ?_
        rw [Int.toNat_natCast, Int.toNat_zero, Nat.sub_zero, Nat.sub_zero]
        repeat' (first|refine bA ?_|refine bkq fun q=>?_|(refine bk2 ?_ ?_<;>(first|exact bkn|(refine bkk ?_;intro h))))
        have hR1 := fun (G2 : List SL) (i : Nat) (hG : G2[i]? = some (slc entE 49 A1 c1 J.xs)) => (Rd.slc (W0 := W0) hG).part (l := 0) (r := xs.length) (by omega) hcap
        simp only [List.drop_zero] at hR1
        refine WQ.call c93 rfl rfl rfl rfl (r_Entries A _ _ c xs.length _ xs (J.xs.take xs.length) rfl (by rw [List.length_take]; omega) (by omega) W0 _ (Rd.slc (i := 3) rfl) (hR1 _ 2 rfl)) ?_
        rw [← begB_take (by omega)]
        cases hb : begB xs J.xs with
        | true =>
          rw [hb, if_pos rfl] at hdo0
          repeat' (first|refine bA ?_|refine bkq fun q=>?_|(refine bk2 ?_ ?_<;>(first|exact bkn|(refine bkk ?_;intro h))))
          refine QS.turn (G' := rjA b bx J :: refA bx (toR D) :: F) (fun w hs => ((shutJ _ _ w hs).kick (i := 1) rfl).kick (i := 1) rfl) (QS.retV Tryz.results91 rfl ⟨?_, ?_⟩) <;> rw [hdo0] <;> rfl
        | false =>
          rw [hb, if_neg (by decide)] at hdo0
          repeat' (first|refine bA ?_|refine bkq fun q=>?_|(refine bk2 ?_ ?_<;>(first|exact bkn|(refine bkk ?_;intro h))))
          refine QS.turn (G' := rjA b bx J :: refA bx (toR D) :: F) (fun w hs => ((shutJ _ _ w hs).kick (i := 1) rfl).kick (i := 1) rfl) (QS.retV Tryz.results91 rfl ⟨?_, ?_⟩) <;> rw [hdo0] <;> rfl
    · rw [if_neg he] at hdo0
      by_cases hgt : J.p < ep
      · have hacc : accJ J D ⟨kA, ep, xs⟩ = if (promJ J D ep).1 = 0 then storeJ (promJ J D ep).2.1 (promJ J D ep).2.2 ep xs else promJ J D ep := by rw [accJ, if_pos hgt]
        rw [hacc] at hdo0
        repeat' (first|refine bN ?_|refine bkq fun q=>?_|(refine bk2 ?_ ?_<;>(first|exact bkn|(refine bkk ?_;intro h))))
        refine CS.drawQ rfl mixed (by kernel_rfl) ?_
        repeat' (first|refine bN ?_|refine bkq fun q=>?_|(refine bk2 ?_ ?_<;>(first|exact bkn|(refine bkk ?_;intro h))))
        refine CS.drawQ rfl mixed (by kernel_rfl) ?_
        repeat' (first|refine bN ?_|refine bkq fun q=>?_|(refine bk2 ?_ ?_<;>(first|exact bkn|(refine bkk ?_;intro h))))
        refine CS.drawQ rfl mixed (by kernel_rfl) ?_
        repeat' (first|refine bN ?_|refine bkq fun q=>?_|(refine bk2 ?_ ?_<;>(first|exact bkn|(refine bkk ?_;intro h))))
        refine WL.call c132 rfl rfl rfl rfl ((r_promise b bx J D hD ep hI W0 _).pre (fun w hs => ((shutJ _ _ w hs).front (i := 3) rfl).front (i := 1) rfl)) ?_
        rintro _ _ ⟨rfl, rfl⟩
        have okP : DiskOk (promJ J D ep).2.2 := place1_ok hD _ _ _
        generalize promJ J D ep = PJ at okP hdo0 ⊢
        obtain ⟨er, J1, D1⟩ := PJ
        simp only at okP hdo0 ⊢
        by_cases her : er = 0
        · subst her
          rw [if_pos rfl] at hdo0
          refine WL.ex (fun w hs => rjA_open w hs) ?_
          rintro ⟨A2, c2⟩
          simp only [rjC]
          repeat' (first|refine bN ?_|refine bkq fun q=>?_|(refine bk2 ?_ ?_<;>(first|exact bkn|(refine bkk ?_;intro h))))
          refine CS.drawT 5 mixed (by kernel_rfl) rfl ?_
          repeat' (first|refine bk ?_|refine bkc ?_|refine bks ?_|refine bkd ?_|refine bkh ?_|refine bkq (fun q => ?_)|((first|refine bk2 ?_ ?_|refine bk2h ?_ ?_)<;>(first|exact bkn|(refine bkk ?_;intro h))))
          refine WL.call c71 rfl rfl rfl rfl ((ref_Store bx D1 okP jLog ep A xs.length c xs rfl W0 _ (Rd.slc (i := 5) rfl)).pre (fun w hs => hs.front (i := 3) rfl)) ?_
          rintro _ _ ⟨rfl, rfl⟩
          by_cases h0 : (storeM D1 ep xs jLog).1 = 0
          · rw [storeJ, if_pos h0] at hdo0
            rw [h0] at hdo0 ⊢
            repeat' (first|refine bA ?_|refine bkq fun q=>?_|(refine bk2 ?_ ?_<;>(first|exact bkn|(refine bkk ?_;intro h))))
            refine QS.turn (G' := rjA b bx { J1 with e := ep, xs := xs } :: refA bx (toR (storeM D1 ep xs jLog).2) :: F) (fun w hs => rjA_shut (A := A) (c := c) w (((((((hs.kick (i := 1) rfl).kick (i := 2) rfl).kick (i := 2) rfl).front (i := 1) rfl).front (i := 2) rfl).front (i := 1) rfl))) (QS.retV Tryz.results91 rfl ⟨?_, ?_⟩) <;> rw [hdo0] <;> rfl
          · rw [storeJ, if_neg h0] at hdo0
            repeat' (first|refine bA ?_|refine bkq fun q=>?_|(refine bk2 ?_ ?_<;>(first|exact bkn|(refine bkk ?_;intro h))))
            refine QS.turn (G' := rjA b bx J1 :: refA bx (toR (storeM D1 ep xs jLog).2) :: F) (fun w hs => rjA_shut (A := A2) (c := c2) w ((((((hs.kick (i := 1) rfl).kick (i := 3) rfl).kick (i := 3) rfl).front (i := 2) rfl).front (i := 2) rfl))) (QS.retV Tryz.results91 rfl ⟨?_, ?_⟩) <;> rw [hdo0] <;> rfl
        · rw [if_neg her] at hdo0
          repeat' (first|refine bN ?_|refine bkq fun q=>?_|(refine bk2 ?_ ?_<;>(first|exact bkn|(refine bkk ?_;intro h))))
          refine QS.turn (G' := rjA b bx J1 :: refA bx (toR D1) :: F) (fun w hs => (hs.kick (i := 2) rfl).kick (i := 2) rfl) (QS.retV Tryz.results91 rfl ⟨?_, ?_⟩) <;> rw [hdo0] <;> rfl
      · have hacc : accJ J D ⟨kA, ep, xs⟩ = storeJ J D ep xs := by rw [accJ, if_neg hgt]
        rw [hacc] at hdo0
        repeat' (first|refine bN ?_|refine bkq fun q=>?_|(refine bk2 ?_ ?_<;>(first|exact bkn|(refine bkk ?_;intro h))))
        refine CS.drawQ rfl mixed (by kernel_rfl) ?_
        repeat' (first|refine bN ?_|refine bkq fun q=>?_|(refine bk2 ?_ ?_<;>(first|exact bkn|(refine bkk ?_;intro h))))
        refine CS.drawQ rfl mixed (by kernel_rfl) ?_
        repeat' (first|refine bN ?_|refine bkq fun q=>?_|(refine bk2 ?_ ?_<;>(first|exact bkn|(refine bkk ?_;intro h))))
        refine CS.drawQ rfl mixed (by kernel_rfl) ?_
        repeat' (first|refine bN ?_|refine bkq fun q=>?_|(refine bk2 ?_ ?_<;>(first|exact bkn|(refine bkk ?_;intro h))))
        refine CS.drawT 5 mixed (by kernel_rfl) rfl ?_
        repeat' (first|refine bk ?_|refine bkc ?_|refine bks ?_|refine bkd ?_|refine bkh ?_|refine bkq (fun q => ?_)|((first|refine bk2 ?_ ?_|refine bk2h ?_ ?_)<;>(first|exact bkn|(refine bkk ?_;intro h))))
        refine WL.call c71 rfl rfl rfl rfl ((ref_Store bx D hD jLog ep A xs.length c xs rfl W0 _ (Rd.slc (i := 5) rfl)).pre (fun w hs => hs.front (i := 5) rfl)) ?_
        rintro _ _ ⟨rfl, rfl⟩
        by_cases h0 : (storeM D ep xs jLog).1 = 0
        · rw [storeJ, if_pos h0] at hdo0
          rw [h0] at hdo0 ⊢
          repeat' (first|refine bA ?_|refine bkq fun q=>?_|(refine bk2 ?_ ?_<;>(first|exact bkn|(refine bkk ?_;intro h))))
          refine QS.turn (G' := rjA b bx { J with e := ep, xs := xs } :: refA bx (toR (storeM D ep xs jLog).2) :: F) (fun w hs => rjA_shut (A := A) (c := c) w (((((((hs.kick (i := 1) rfl).kick (i := 1) rfl).kick (i := 2) rfl).front (i := 1) rfl).front (i := 2) rfl).front (i := 1) rfl))) (QS.retV Tryz.results91 rfl ⟨?_, ?_⟩) <;> rw [hdo0] <;> rfl
        · rw [storeJ, if_neg h0] at hdo0
          repeat' (first|refine bA ?_|refine bkq fun q=>?_|(refine bk2 ?_ ?_<;>(first|exact bkn|(refine bkk ?_;intro h))))
          refine QS.turn (G' := rjA b bx J :: refA bx (toR (storeM D ep xs jLog).2) :: F) (fun w hs => rjA_shut (A := A1) (c := c1) w ((((((hs.kick (i := 1) rfl).kick (i := 1) rfl).kick (i := 3) rfl).front (i := 2) rfl).front (i := 2) rfl))) (QS.retV Tryz.results91 rfl ⟨?_, ?_⟩) <;> rw [hdo0] <;> rfl
  · have htx2 := (htx rfl).1
    simp only [List.headD_cons] at htx2
    subst htx2
    by_cases hp : ep < J.p ∨ ep ≠ J.p ∨ ep ≠ J.e
    · have hdo : doJ J D ⟨kW, ep, [x]⟩ = (10, J, D) := by
        rw [doJ, if_neg kWP, if_pos (by rcases hp with h | h; exact .inl h; exact .inr ⟨rfl, h⟩)]
      repeat' (first|refine bA ?_|refine bkq fun q=>?_|(refine bk2 ?_ ?_<;>(first|exact bkn|(refine bkk ?_;intro h))))
      all_goals
        refine QS.turn (G' := rjA b bx J :: refA bx (toR D) :: F) (fun w hs => ((shutJ _ _ w hs).kick (i := 1) rfl).kick (i := 1) rfl) (QS.retV Tryz.results91 rfl ⟨?_, ?_⟩) <;> rw [hdo] <;> rfl
    · have hdo : doJ J D ⟨kW, ep, [x]⟩ = addJ J D x := by
        rw [doJ, if_neg kWP, if_neg (by rintro (h | h); exact hp (.inl h); exact hp (.inr h.2)), if_pos rfl]; rfl
      simp only [not_or, Decidable.not_not, ne_eq] at hp
      obtain ⟨hp1, hp2, hp3⟩ := hp
      by_cases h1 : (J.xs.length : Int) + 1 < x.n
      · have ha : addJ J D x = (11, J, D) := by rw [addJ, if_pos (.inl h1)]
        rw [ha] at hdo
        repeat' (first|refine bA ?_|refine bkq fun q=>?_|(refine bk2 ?_ ?_<;>(first|exact bkn|(refine bkk ?_;intro h))))
        all_goals
          refine QS.turn (G' := rjA b bx J :: refA bx (toR D) :: F) (fun w hs => ((shutJ _ _ w hs).kick (i := 1) rfl).kick (i := 1) rfl) (QS.retV Tryz.results91 rfl ⟨?_, ?_⟩) <;> rw [hdo] <;> rfl
      by_cases h2 : x.n ≤ (J.xs.length : Int)
      · obtain ⟨y, hy⟩ : ∃ y, J.xs[(x.n - 1).toNat]? = some y := ⟨J.xs[(x.n - 1).toNat]'(by omega), List.getElem?_eq_getElem (by omega)⟩
        repeat' (first|refine bN ?_|refine bkq fun q=>?_|(refine bk2 ?_ ?_<;>(first|exact bkn|(refine bkk ?_;intro h))))
        refine CS.drawQ rfl mixed (by kernel_rfl) ?_
        repeat' (first|refine bN ?_|refine bkq fun q=>?_|(refine bk2 ?_ ?_<;>(first|exact bkn|(refine bkk ?_;intro h))))
        refine CS.world fun hw => ?_
        refine CS.drawQ rfl mixed (by kernel_rfl) ?_
        repeat' (first|refine bN ?_|refine bkq fun q=>?_|(refine bk2 ?_ ?_<;>(first|exact bkn|(refine bkk ?_;intro h))))
        refine WQ.idx TT (Rd.slc (i := 2) rfl) rfl rfl rfl (by omega) hy rfl rfl rfl rfl hw (fun b2 o hA => ?_)
        repeat' (first|refine bN ?_|refine bkq fun q=>?_|(refine bk2 ?_ ?_<;>(first|exact bkn|(refine bkk ?_;intro h))))
        refine WQ.s (op1_at TT hA rfl rfl rfl rfl) rfl ?_
        repeat' (first|refine bN ?_|refine bkq fun q=>?_|(refine bk2 ?_ ?_<;>(first|exact bkn|(refine bkk ?_;intro h))))
        refine WQ.idx TT (Rd.slc (i := 3) rfl) rfl rfl rfl (by omega) (x := x) rfl rfl rfl rfl rfl hw (fun b3 o3 hA3 => ?_)
        repeat' (first|refine bN ?_|refine bkq fun q=>?_|(refine bk2 ?_ ?_<;>(first|exact bkn|(refine bkk ?_;intro h))))
        refine WQ.s (op1_at TT hA3 rfl rfl rfl rfl) rfl ?_
        refine WQ.s (op1_neS TT cmp49 rfl rfl rfl rfl rfl) rfl ?_
        rw [show (!(decide (y.n = x.n) && (decide (y.s = x.s) && true))) = !decide (y = x) from by
          obtain ⟨n1, s1⟩ := x; obtain ⟨n2, s2⟩ := y; simp]
        by_cases hyx : y = x
        · rw [decide_eq_true hyx]
          have ha : addJ J D x = (0, J, D) := by
            rw [addJ, if_neg (by rw [hy, hyx]; simp only [ne_eq, not_true_eq_false, and_false, or_false]; exact h1), if_pos h2]
          rw [ha] at hdo
          repeat' (first|refine bN ?_|refine bkq fun q=>?_|(refine bk2 ?_ ?_<;>(first|exact bkn|(refine bkk ?_;intro h))))
          refine QS.turn (G' := rjA b bx J :: refA bx (toR D) :: F) (fun w hs => ((shutJ _ _ w hs).kick (i := 1) rfl).kick (i := 1) rfl) (QS.retV Tryz.results91 rfl ⟨?_, ?_⟩) <;> rw [hdo] <;> rfl
        · rw [decide_eq_false hyx]
          have ha : addJ J D x = (11, J, D) := by
            rw [addJ, if_pos (.inr ⟨h2, by rw [hy]; exact fun e => hyx (Option.some.inj e)⟩)]
          rw [ha] at hdo
          repeat' (first|refine bN ?_|refine bkq fun q=>?_|(refine bk2 ?_ ?_<;>(first|exact bkn|(refine bkk ?_;intro h))))
          refine QS.turn (G' := rjA b bx J :: refA bx (toR D) :: F) (fun w hs => ((shutJ _ _ w hs).kick (i := 1) rfl).kick (i := 1) rfl) (QS.retV Tryz.results91 rfl ⟨?_, ?_⟩) <;> rw [hdo] <;> rfl
      · have ha : addJ J D x = ((addM D x.n x.s jLog).1, if (addM D x.n x.s jLog).1 = 0 then { J with xs := J.xs ++ [x] } else J, (addM D x.n x.s jLog).2) := by
          rw [addJ, if_neg (fun e => by rcases e with e | e; exact h1 e; exact h2 e.1), if_neg h2]
        rw [ha] at hdo
        repeat' (first|refine bN ?_|refine bkq fun q=>?_|(refine bk2 ?_ ?_<;>(first|exact bkn|(refine bkk ?_;intro h))))
        refine CS.drawQ rfl mixed (by kernel_rfl) ?_
        repeat' (first|refine bN ?_|refine bkq fun q=>?_|(refine bk2 ?_ ?_<;>(first|exact bkn|(refine bkk ?_;intro h))))
        refine CS.world fun hw => ?_
        refine CS.drawT 8 mixed (by kernel_rfl) rfl ?_
        repeat' (first|refine bk ?_|refine bkc ?_|refine bks ?_|refine bkd ?_|refine bkh ?_|refine bkq (fun q => ?_)|((first|refine bk2 ?_ ?_|refine bk2h ?_ ?_)<;>(first|exact bkn|(refine bkk ?_;intro h))))
        refine WH.idx TT (Rd.slc (i := 3) rfl) rfl rfl rfl (by omega) (x := x) rfl rfl rfl rfl rfl hw (fun b3 o3 hA3 => ?_)
        refine WH.s (op1_at TT hA3 rfl rfl rfl rfl) rfl ?_
        repeat' (first|refine bk ?_|refine bkc ?_|refine bks ?_|refine bkd ?_|refine bkh ?_|refine bkq (fun q => ?_)|((first|refine bk2 ?_ ?_|refine bk2h ?_ ?_)<;>(first|exact bkn|(refine bkk ?_;intro h))))
        refine WL.call c133 rfl rfl rfl rfl ((ref_Add bx D hD jLog x.n x.s W0 _).pre (fun w hs => hs.front (i := 4) rfl)) ?_
        rintro _ _ ⟨rfl, rfl⟩
        by_cases h0 : (addM D x.n x.s jLog).1 = 0
        · rw [h0] at hdo ⊢
          rw [if_pos rfl] at hdo
          repeat' (first|refine bA ?_|refine bkq fun q=>?_|(refine bk2 ?_ ?_<;>(first|exact bkn|(refine bkk ?_;intro h))))
          refine WL.turn (fun w hs => hs.slcNil entE 49) ?_
          refine WL.append TT 0 (E := entE) (xs := []) (ys := J.xs) rfl rfl rfl rfl rfl (Rd.slc (i := 4) rfl) rfl rfl rfl rfl rfl (by decide) (by simp only [List.length_nil]; omega) (fun _ _ => rfl) rfl (fun A5 c5 => ?_)
          rw [List.nil_append]
          repeat' (first|refine bA ?_|refine bkq fun q=>?_|(refine bk2 ?_ ?_<;>(first|exact bkn|(refine bkk ?_;intro h))))
          refine WL.idx TT (Rd.slc (i := 5) rfl) rfl rfl rfl (by omega) (x := x) rfl rfl rfl rfl rfl (fun bb o hA => ?_)
          refine WL.s (op1_at TT hA rfl rfl rfl rfl) rfl ?_
          refine WL.buildSlice TT rfl rfl rfl rfl rfl rfl rfl rfl (fun q => ?_)
          refine WL.append TT 1 (E := entE) (xs := J.xs) (ys := [x]) rfl rfl rfl rfl rfl (Rd.row (i := 0) rfl rfl) rfl rfl rfl rfl rfl (by decide) (by simp only [List.length_cons, List.length_nil]; omega) (fun _ _ => rfl) rfl (fun A6 c6 => ?_)
          repeat' (first|refine bA ?_|refine bkq fun q=>?_|(refine bk2 ?_ ?_<;>(first|exact bkn|(refine bkk ?_;intro h))))
          refine QS.turn (G' := rjA b bx { J with xs := J.xs ++ [x] } :: refA bx (toR (addM D x.n x.s jLog).2) :: F) (fun w hs => rjA_shut (A := A6) (c := c6) w ((((hs.drop.kick (i := 2) rfl).kick (i := 3) rfl).kick (i := 3) rfl).front (i := 2) rfl)) (QS.retV Tryz.results91 rfl ⟨?_, ?_⟩) <;> rw [hdo] <;> rfl
        · rw [if_neg h0] at hdo
          repeat' (first|refine bA ?_|refine bkq fun q=>?_|(refine bk2 ?_ ?_<;>(first|exact bkn|(refine bkk ?_;intro h))))
          refine QS.turn (G' := rjA b bx J :: refA bx (toR (addM D x.n x.s jLog).2) :: F) (fun w hs => rjA_shut (A := A1) (c := c1) w (((((hs.kick (i := 1) rfl).kick (i := 3) rfl).front (i := 2) rfl).front (i := 2) rfl))) (QS.retV Tryz.results91 rfl ⟨?_, ?_⟩) <;> rw [hdo] <;> rfl
end Go.Proofs.YtfolmcpfdcgliaaGreat.B

namespace Go.Proofs.YtfolmcpfdcgliaaGreat.B
open Go Go.Proofs
attribute [local irreducible] WL CS QS WQ WH WS Fn Op1 row Sat
attribute [local irreducible] slc rjA refA
set_option maxHeartbeats 4000000 in
theorem r_Handle (b bx : Nat) (J : Jn) (hJ : JnOk J) (D : Disk) (hD : DiskOk D) (s : ByteArray) (hs : s.size ≤ 9223372036854775807) (W0 : World) (F : List SL) :
    Fn Tryz.prog 46 [.pointer (some ⟨b, 0, none⟩), .string s] W0 (rjA b bx J :: refA bx (toR D) :: F)
      (Ret fun v G' => v = .string (mk (handJ J D (bs s)).1) ∧ G' = rjA b bx (handJ J D (bs s)).2.1 :: refA bx (toR (handJ J D (bs s)).2.2) :: F) := by
  have i12 : I64 12 := by unfold I64; decide
  refine Fn.ex (fun w hs => rjA_open w hs) ?_
  rintro ⟨A1, c1⟩
  refine Fn.enter Tryz.func46 rfl Tryz.ntmps46 rfl ?_
  simp only [rjC]
  cases hd : J.dead with
  | true =>
    have hh : handJ J D (bs s) = (saidB 12, J, D) := by rw [handJ, if_pos hd]
    repeat' (first|refine bA ?_|refine bkq fun q=>?_|(refine bk2 ?_ ?_<;>(first|exact bkn|(refine bkk ?_;intro h))))
    refine WL.call c89 rfl rfl rfl rfl (r_answer 12 i12 W0 _) ?_
    rintro _ G2 ⟨rfl, hG2⟩
    rw [hG2]; clear hG2 G2
    repeat' (first|refine bA ?_|refine bkq fun q=>?_|(refine bk2 ?_ ?_<;>(first|exact bkn|(refine bkk ?_;intro h))))
    refine QS.turn (G' := rjA b bx J :: refA bx (toR D) :: F) (fun w hs => rjA_shut (A := A1) (c := c1) w (by rw [rjC, hd]; exact hs)) (QS.retV Tryz.results46 rfl ⟨?_, ?_⟩) <;> rw [hh] <;> rfl
  | false =>
    repeat' (first|refine bA ?_|refine bkq fun q=>?_|(refine bk2 ?_ ?_<;>(first|exact bkn|(refine bkk ?_;intro h))))
    refine WL.turn (G' := rjA b bx J :: refA bx (toR D) :: F) (fun w hs => (rjA_shut (A := A1) (c := c1) w (by rw [rjC, hd]; exact hs))) ?_
    refine WL.call c90 rfl rfl rfl rfl (r_read s hs W0 _) ?_
    intro v G2 hv
    unfold readR at hv
    cases hq : readQ (bs s) with
    | none =>
      rw [hq] at hv
      obtain ⟨k, e, t, A, n, c, rfl, hG2⟩ := hv
      rw [hG2]; clear hG2 G2
      have hh : handJ J D (bs s) = (saidB 2, J, D) := by rw [handJ, if_neg (by rw [hd]; decide), hq]
      repeat' (first|refine bA ?_|refine bkq fun q=>?_|(refine bk2 ?_ ?_<;>(first|exact bkn|(refine bkk ?_;intro h))))
      refine WL.call c89 rfl rfl rfl rfl (r_answer 2 (by unfold I64; decide) W0 _) ?_
      rintro _ G2 ⟨rfl, hG2⟩
      rw [hG2]; clear hG2 G2
      repeat' (first|refine bA ?_|refine bkq fun q=>?_|(refine bk2 ?_ ?_<;>(first|exact bkn|(refine bkk ?_;intro h))))
      refine QS.turn (G' := rjA b bx J :: refA bx (toR D) :: F) (fun w hs => hs.drop) (QS.retV Tryz.results46 rfl ⟨?_, ?_⟩) <;> rw [hh] <;> rfl
    | some r0 =>
      rw [hq] at hv
      obtain ⟨tx, A, c, rfl, htx, hG2⟩ := hv
      rw [hG2]; clear hG2 G2
      have hqo : RqOk r0 := by
        rw [readQ] at hq
        obtain ⟨l, _, h2⟩ := Option.bind_eq_some_iff.1 hq
        exact readL_ok h2
      have hh : handJ J D (bs s) = ansJ r0 (doJ J D r0) := by rw [handJ, if_neg (by rw [hd]; decide), hq]
      repeat' (first|refine bA ?_|refine bkq fun q=>?_|(refine bk2 ?_ ?_<;>(first|exact bkn|(refine bkk ?_;intro h))))
      refine WL.call c91 rfl rfl rfl rfl ((r_does b bx J hJ D hD r0 hqo tx htx A c W0 (row q 171 [.string r0.kind, .int .i64 r0.epoch, .int .i64 tx, .slice A r0.xs.length c] :: F)).pre (fun w hs => (((hs.front (i := 0) rfl).front (i := 3) rfl).front (i := 3) rfl).front (i := 3) rfl)) ?_
      rintro _ _ ⟨rfl, rfl⟩
      clear hq
      generalize doJ J D r0 = r at hh ⊢
      obtain ⟨er, J1, D1⟩ := r
      rw [ansJ] at hh
      simp only at hh ⊢
      by_cases h10 : er = 10 ∨ er = 11
      · rw [if_pos h10] at hh
        rcases h10 with rfl | rfl
        all_goals
          repeat' (first|refine bA ?_|refine bkq fun q=>?_|(refine bk2 ?_ ?_<;>(first|exact bkn|(refine bkk ?_;intro h))))
          refine WL.call c89 rfl rfl rfl rfl (r_answer _ (by unfold I64; decide) W0 _) ?_
          rintro _ G2 ⟨rfl, hG2⟩
          rw [hG2]; clear hG2 G2
          repeat' (first|refine bA ?_|refine bkq fun q=>?_|(refine bk2 ?_ ?_<;>(first|exact bkn|(refine bkk ?_;intro h))))
          refine QS.turn (G' := rjA b bx J1 :: refA bx (toR D1) :: F) (fun w hs => hs.kick (i := 2) rfl) (QS.retV Tryz.results46 rfl ⟨?_, ?_⟩) <;> rw [hh] <;> rfl
      rw [if_neg h10] at hh
      simp only [not_or] at h10
      obtain ⟨h10, h11⟩ := h10
      by_cases h0 : er = 0
      rotate_left 1
      · rw [if_pos h0] at hh
        refine WL.ex (fun w hs => rjA_open w hs) ?_
        rintro ⟨A2, c2⟩
        simp only [rjC]
        repeat' (first|refine bA ?_|refine bkq fun q=>?_|(refine bk2 ?_ ?_<;>(first|exact bkn|(refine bkk ?_;intro h))))
        refine WL.call c89 rfl rfl rfl rfl (r_answer 12 i12 W0 _) ?_
        rintro _ G2 ⟨rfl, hG2⟩
        rw [hG2]; clear hG2 G2
        repeat' (first|refine bA ?_|refine bkq fun q=>?_|(refine bk2 ?_ ?_<;>(first|exact bkn|(refine bkk ?_;intro h))))
        refine QS.turn (G' := rjA b bx { J1 with dead := true } :: refA bx (toR D1) :: F) (fun w hs => rjA_shut (A := A2) (c := c2) w (hs.kick (i := 3) rfl)) (QS.retV Tryz.results46 rfl ⟨?_, ?_⟩) <;> rw [hh] <;> rfl
      subst h0
      rw [if_neg (by decide)] at hh
      obtain ⟨kind, ep, xs⟩ := r0
      obtain ⟨_, _, hkind⟩ := hqo
      simp only at hkind hh ⊢
      rcases hkind with ⟨rfl, _⟩ | ⟨rfl, _⟩ | ⟨rfl, _⟩
      · rw [if_pos rfl] at hh
        refine WL.ex (fun w hs => rjA_open w hs) ?_
        rintro ⟨A2, c2⟩
        simp only [rjC]
        repeat' (first|refine bA ?_|refine bkq fun q=>?_|(refine bk2 ?_ ?_<;>(first|exact bkn|(refine bkk ?_;intro h))))
        refine WL.call c92 rfl rfl rfl rfl (r_told J1.e A2 _ c2 J1.xs rfl W0 _ (Rd.slc (i := 1) rfl)) ?_
        rintro _ G2 ⟨rfl, hG2⟩
        rw [hG2]; clear hG2 G2
        repeat' (first|refine bA ?_|refine bkq fun q=>?_|(refine bk2 ?_ ?_<;>(first|exact bkn|(refine bkk ?_;intro h))))
        refine QS.turn (G' := rjA b bx J1 :: refA bx (toR D1) :: F) (fun w hs => rjA_shut (A := A2) (c := c2) w (hs.kick (i := 3) rfl)) (QS.retV Tryz.results46 rfl ⟨?_, ?_⟩) <;> rw [hh] <;> rfl
      · rw [if_neg kAP] at hh
        repeat' (first|refine bA ?_|refine bkq fun q=>?_|(refine bk2 ?_ ?_<;>(first|exact bkn|(refine bkk ?_;intro h))))
        refine WL.call c89 rfl rfl rfl rfl (r_answer 0 (by unfold I64; decide) W0 _) ?_
        rintro _ G2 ⟨rfl, hG2⟩
        rw [hG2]; clear hG2 G2
        repeat' (first|refine bA ?_|refine bkq fun q=>?_|(refine bk2 ?_ ?_<;>(first|exact bkn|(refine bkk ?_;intro h))))
        refine QS.turn (G' := rjA b bx J1 :: refA bx (toR D1) :: F) (fun w hs => hs.kick (i := 2) rfl) (QS.retV Tryz.results46 rfl ⟨?_, ?_⟩) <;> rw [hh] <;> rfl
      · rw [if_neg kWP] at hh
        repeat' (first|refine bA ?_|refine bkq fun q=>?_|(refine bk2 ?_ ?_<;>(first|exact bkn|(refine bkk ?_;intro h))))
        refine WL.call c89 rfl rfl rfl rfl (r_answer 0 (by unfold I64; decide) W0 _) ?_
        rintro _ G2 ⟨rfl, hG2⟩
        rw [hG2]; clear hG2 G2
        repeat' (first|refine bA ?_|refine bkq fun q=>?_|(refine bk2 ?_ ?_<;>(first|exact bkn|(refine bkk ?_;intro h))))
        refine QS.turn (G' := rjA b bx J1 :: refA bx (toR D1) :: F) (fun w hs => hs.kick (i := 2) rfl) (QS.retV Tryz.results46 rfl ⟨?_, ?_⟩) <;> rw [hh] <;> rfl
end Go.Proofs.YtfolmcpfdcgliaaGreat.B

namespace Go.Proofs.YtfolmcpfdcgliaaGreat.B
open Go Go.Proofs
attribute [local irreducible] WL CS QS WQ WH WS Fn Op1 row Sat
attribute [local irreducible] slc rjA refA
def openS (bx : Nat) (r : Int × Jn × Disk) (F : List SL) (v : Value) (G' : List SL) : Prop :=
  if r.1 = 0 then ∃ b, v = .tuple #[.pointer (some ⟨b, 0, none⟩), .int .i64 0] ∧ G' = rjA b bx r.2.1 :: refA bx (toR r.2.2) :: F
  else v = .tuple #[.pointer none, .int .i64 r.1] ∧ G' = refA bx (toR r.2.2) :: F
theorem openS_ok {bx b : Nat} {J : Jn} {D : Disk} {F : List SL} : openS bx (0, J, D) F (.tuple #[.pointer (some ⟨b, 0, none⟩), .int .i64 0]) (rjA b bx J :: refA bx (toR D) :: F) := by
  unfold openS; rw [if_pos rfl]; exact ⟨b, rfl, rfl⟩
theorem openS_bad {bx : Nat} {er : Int} {J : Jn} {D : Disk} {F : List SL} (h : er ≠ 0) : openS bx (er, J, D) F (.tuple #[.pointer none, .int .i64 er]) (refA bx (toR D) :: F) := by
  unfold openS; rw [if_neg h]; exact ⟨rfl, rfl⟩
theorem load_five (t : List UInt8) (er : Int) : (loadM t er).2.2.2 = 5 → (loadM t er).1 = 0 ∧ (loadM t er).2.1 = [] := by
  by_cases h : er = 0
  · rw [load_parse h]
    split
    · intro h2; simp at h2
    · intro _; exact ⟨rfl, rfl⟩
  · rw [loadM, if_neg h]; intro _; exact ⟨rfl, rfl⟩
set_option maxHeartbeats 16000000 in
theorem r_Open (bx : Nat) (D : Disk) (hD : DiskOk D) (W0 : World) (F : List SL) :
    Fn Tryz.prog 30 [.pointer (some ⟨bx, 0, none⟩)] W0 (refA bx (toR D) :: F)
      (Ret (openS bx (openJ D) F)) := by
  refine Fn.enter Tryz.func30 rfl Tryz.ntmps30 rfl ?_
  refine CS.seq ?_
  repeat' (first|refine bk ?_|refine bkc ?_|refine bkd ?_|refine bkq (fun q => ?_)|(refine bk2 ?_ ?_<;>(first|exact bkn|(refine bkk ?_;intro h))))
  refine CS.seq ?_
  repeat' (first|refine bk ?_|refine bkc ?_|refine bkd ?_|refine bkq (fun q => ?_)|(refine bk2 ?_ ?_<;>(first|exact bkn|(refine bkk ?_;intro h))))
  revert q; intro b
  repeat' (first|refine bA ?_|refine bkq fun q=>?_|(refine bk2 ?_ ?_<;>(first|exact bkn|(refine bkk ?_;intro h))))
  refine WL.turn (fun w hs => hs.front (i := 1) rfl) ?_
  refine WL.call c67 rfl rfl rfl rfl (rdisk_Read bx (toR D) (toR_len hD) jProm W0 _) ?_
  rw [toR_read hD]
  rintro _ G2 ⟨rfl, hG2⟩
  rw [hG2]; clear hG2 G2
  refine WL.turn (fun w hs => hs.front (i := 1) rfl) ?_
  have hts := read_small hD jProm
  have hJ0 : openJ D = if (D.read jProm).2 = 5 then open2 0 D
      else if (D.read jProm).2 = 0 then (match promP (D.read jProm).1 with | some n => open2 n D | none => (2, ⟨0, 0, [], false⟩, D))
      else ((D.read jProm).2, ⟨0, 0, [], false⟩, D) := rfl
  have hErr := read_errs D jProm
  generalize D.read jProm = te at hts hJ0 hErr ⊢
  obtain ⟨t, er⟩ := te
  simp only at hts hJ0 hErr ⊢
  rcases hErr with rfl | rfl | rfl
  · rw [if_neg (by decide), if_neg (by decide)] at hJ0
    repeat' (first|refine bA ?_|refine bkq fun q=>?_|(refine bk2 ?_ ?_<;>(first|exact bkn|(refine bkk ?_;intro h))))
    refine QS.turn (G' := refA bx (toR D) :: F) (fun w hs => hs.drop) (QS.retV Tryz.results30 rfl ?_)
    rw [hJ0]
    exact openS_bad (by decide)
  · rw [if_neg (by decide), if_pos rfl] at hJ0
    have hP : promP t = match openB (bs t) with
      | (e, x, r) => if e = 0 ∧ r = [] then (match numP (mk x) with | some n => if 1 ≤ n ∧ n ≤ 9007199254740991 then some n else none | none => none) else none := rfl
    repeat' (first|refine bA ?_|refine bkq fun q=>?_|(refine bk2 ?_ ?_<;>(first|exact bkn|(refine bkk ?_;intro h))))
    refine WL.call c68 rfl rfl rfl rfl (ref_Open t (by omega) W0 _) ?_
    rintro _ G2 ⟨rfl, hG2⟩
    rw [hG2]; clear hG2 G2
    have hol : (openB (bs t)).2.1.length ≤ 4000 := by
      cases hO : openB (bs t) with
      | mk e p =>
        obtain ⟨x, r⟩ := p
        rw [openB] at hO
        cases ht : takeText (bs t) with
        | none => rw [ht] at hO; simp only [openT, Prod.mk.injEq] at hO; simp [← hO.2.1]
        | some q =>
          obtain ⟨y, r2⟩ := q
          have := (takeText_some ht).2
          rw [ht] at hO
          simp only [openT] at hO
          split at hO
          · simp only [Prod.mk.injEq] at hO; simp [← hO.2.1]
          · split at hO
            · simp only [Prod.mk.injEq] at hO; rw [← hO.2.1]; exact this
            · simp only [Prod.mk.injEq] at hO; simp [← hO.2.1]
    generalize openB (bs t) = oB at hP hol ⊢
    obtain ⟨e0, x, r⟩ := oB
    simp only [openV] at hP hol ⊢
    have hmx := mk_size x
    repeat' (first|refine bA ?_|refine bkq fun q=>?_|(refine bk2 ?_ ?_<;>(first|exact bkn|(refine bkk ?_;intro h))))
    refine WL.call c69 rfl rfl rfl rfl (r_number (mk x) (by omega) W0 _) ?_
    rintro _ G2 ⟨⟨n, rfl, hnn⟩, hG2⟩
    rw [hG2]; clear hG2 G2
    by_cases hgood : e0 = 0 ∧ r = [] ∧ numP (mk x) = some n ∧ 1 ≤ n ∧ n ≤ 9007199254740991
    · obtain ⟨rfl, rfl, hN, hn1, hn2⟩ := hgood
      have hp : openJ D = open2 n D := by
        rw [hJ0, hP, if_pos ⟨rfl, rfl⟩, hN]
        simp only
        rw [if_pos ⟨hn1, hn2⟩]
      rw [hN]
      clear hJ0 hP hnn
      revert hp hn1 hn2
      generalize n = p
      intro hn1 hn2 hp
      simp only [Option.isSome_some]
      repeat' (first|refine bA ?_|refine bkq fun q=>?_|(refine bk2 ?_ ?_<;>(first|exact bkn|(refine bkk ?_;intro h))))
      refine WL.turn (fun w hs => hs.front (i := 1) rfl) ?_
      refine WL.call c70 rfl rfl rfl rfl (ref_Load bx (toR D) (toR_len hD) jLog (by rw [toR_read hD]; have := read_small hD jLog; omega) W0 _) ?_
      rw [toR_read hD]
      have hO : open2 p D = match loadM (bs (D.read jLog).1) (D.read jLog).2 with
        | (e, xs, w, er) => if er = 5 then (0, ⟨p, 0, [], false⟩, D) else if er ≠ 0 then (er, ⟨p, 0, [], false⟩, D)
          else if w = true then (0, ⟨p, e, xs, false⟩, D) else ((storeM D e xs jLog).1, ⟨p, e, xs, false⟩, (storeM D e xs jLog).2) := rfl
      have h5f := load_five (bs (D.read jLog).1) (D.read jLog).2
      generalize loadM (bs (D.read jLog).1) (D.read jLog).2 = M at hO h5f ⊢
      obtain ⟨e, xs, wh, er⟩ := M
      simp only at hO h5f
      rintro _ _ ⟨A, c, rfl, rfl⟩
      simp only
      by_cases h5 : er = 5
      · obtain ⟨rfl, rfl⟩ := h5f h5
        subst h5
        rw [if_pos rfl] at hO
        rw [hO] at hp
        repeat' (first|refine bA ?_|refine bkq fun q=>?_|(refine bk2 ?_ ?_<;>(first|exact bkn|(refine bkk ?_;intro h))))
        refine QS.turn (G' := rjA b bx ⟨p, 0, [], false⟩ :: refA bx (toR D) :: F) (fun w hs => rjA_shut (A := A) (c := c) w (hs.drop.front (i := 2) rfl)) (QS.retV Tryz.results30 rfl ?_)
        rw [hp]
        exact openS_ok
      rw [if_neg h5] at hO
      by_cases h0 : er = 0
      rotate_left 1
      · rw [if_pos h0] at hO
        rw [hO] at hp
        repeat' (first|refine bA ?_|refine bkq fun q=>?_|(refine bk2 ?_ ?_<;>(first|exact bkn|(refine bkk ?_;intro h))))
        refine QS.turn (G' := refA bx (toR D) :: F) (fun w hs => hs.drop.drop.kick (i := 1) rfl) (QS.retV Tryz.results30 rfl ?_)
        rw [hp]
        exact openS_bad h0
      subst h0
      rw [if_neg (by decide)] at hO
      cases wh with
      | true =>
        rw [if_pos rfl] at hO
        rw [hO] at hp
        repeat' (first|refine bA ?_|refine bkq fun q=>?_|(refine bk2 ?_ ?_<;>(first|exact bkn|(refine bkk ?_;intro h))))
        refine QS.turn (G' := rjA b bx ⟨p, e, xs, false⟩ :: refA bx (toR D) :: F) (fun w hs => rjA_shut (A := A) (c := c) w (hs.drop.front (i := 2) rfl)) (QS.retV Tryz.results30 rfl ?_)
        rw [hp]
        exact openS_ok
      | false =>
        rw [if_neg (by decide)] at hO
        rw [hO] at hp
        repeat' (first|refine bA ?_|refine bkq fun q=>?_|(refine bk2 ?_ ?_<;>(first|exact bkn|(refine bkk ?_;intro h))))
        refine WL.call c71 rfl rfl rfl rfl ((ref_Store bx D hD jLog e A _ c xs rfl W0 _ (Rd.slc (i := 2) rfl)).pre (fun w hs => hs.front (i := 2) rfl)) ?_
        rintro _ _ ⟨rfl, rfl⟩
        by_cases hs0 : (storeM D e xs jLog).1 = 0
        · rw [hs0] at hp ⊢
          repeat' (first|refine bA ?_|refine bkq fun q=>?_|(refine bk2 ?_ ?_<;>(first|exact bkn|(refine bkk ?_;intro h))))
          refine QS.turn (G' := rjA b bx ⟨p, e, xs, false⟩ :: refA bx (toR (storeM D e xs jLog).2) :: F) (fun w hs => rjA_shut (A := A) (c := c) w (((hs.kick (i := 1) rfl).front (i := 1) rfl).front (i := 2) rfl)) (QS.retV Tryz.results30 rfl ?_)
          rw [hp]
          exact openS_ok
        · repeat' (first|refine bA ?_|refine bkq fun q=>?_|(refine bk2 ?_ ?_<;>(first|exact bkn|(refine bkk ?_;intro h))))
          refine QS.turn (G' := refA bx (toR (storeM D e xs jLog).2) :: F) (fun w hs => ((hs.kick (i := 1) rfl).kick (i := 1) rfl).kick (i := 1) rfl) (QS.retV Tryz.results30 rfl ?_)
          rw [hp]
          exact openS_bad hs0
    · have hP2 : promP t = none := by
        rw [hP]
        by_cases h1 : e0 = 0 ∧ r = []
        · rw [if_pos h1]
          cases hN : numP (mk x) with
          | none => rfl
          | some m =>
            simp only
            rw [if_neg (fun h3 => hgood ⟨h1.1, h1.2, by rw [hN, hnn m hN], by rw [hnn m hN]; exact h3.1, by rw [hnn m hN]; exact h3.2⟩)]
        · rw [if_neg h1]
      rw [hP2] at hJ0
      have hbad : numP (mk x) = none ∨ numP (mk x) = some n := by
        cases hN : numP (mk x) with
        | none => exact .inl rfl
        | some m => exact .inr (by rw [hnn m hN])
      rcases hbad with hN | hN
      all_goals
        rw [hN]
        simp only [Option.isSome_none, Option.isSome_some]
        repeat' (first|refine bA ?_|refine bkq fun q=>?_|(refine bk2 ?_ ?_<;>(first|exact bkn|(refine bkk ?_;intro h))))
      all_goals first
        | (exfalso; exact hgood ⟨by omega, congrArg bs ‹mk r = _›, hN, by omega, by omega⟩)
        | (refine QS.turn (G' := refA bx (toR D) :: F) (fun w hs => hs.drop) (QS.retV Tryz.results30 rfl ?_)
           rw [hJ0]
           exact openS_bad (by decide))
  · rw [if_pos rfl] at hJ0
    have hp : openJ D = open2 0 D := hJ0
    clear hJ0
    repeat' (first|refine bA ?_|refine bkq fun q=>?_|(refine bk2 ?_ ?_<;>(first|exact bkn|(refine bkk ?_;intro h))))
    refine WL.turn (fun w hs => hs.front (i := 1) rfl) ?_
    refine WL.call c70 rfl rfl rfl rfl (ref_Load bx (toR D) (toR_len hD) jLog (by rw [toR_read hD]; have := read_small hD jLog; omega) W0 _) ?_
    rw [toR_read hD]
    have hO : open2 0 D = match loadM (bs (D.read jLog).1) (D.read jLog).2 with
      | (e, xs, w, er) => if er = 5 then (0, ⟨0, 0, [], false⟩, D) else if er ≠ 0 then (er, ⟨0, 0, [], false⟩, D)
        else if w = true then (0, ⟨0, e, xs, false⟩, D) else ((storeM D e xs jLog).1, ⟨0, e, xs, false⟩, (storeM D e xs jLog).2) := rfl
    have h5f := load_five (bs (D.read jLog).1) (D.read jLog).2
    generalize loadM (bs (D.read jLog).1) (D.read jLog).2 = M at hO h5f ⊢
    obtain ⟨e, xs, wh, er⟩ := M
    simp only at hO h5f
    rintro _ _ ⟨A, c, rfl, rfl⟩
    simp only
    by_cases h5 : er = 5
    · obtain ⟨rfl, rfl⟩ := h5f h5
      subst h5
      rw [if_pos rfl] at hO
      rw [hO] at hp
      repeat' (first|refine bA ?_|refine bkq fun q=>?_|(refine bk2 ?_ ?_<;>(first|exact bkn|(refine bkk ?_;intro h))))
      refine QS.turn (G' := rjA b bx ⟨0, 0, [], false⟩ :: refA bx (toR D) :: F) (fun w hs => rjA_shut (A := A) (c := c) w (hs.drop.front (i := 2) rfl)) (QS.retV Tryz.results30 rfl ?_)
      rw [hp]
      exact openS_ok
    rw [if_neg h5] at hO
    by_cases h0 : er = 0
    rotate_left 1
    · rw [if_pos h0] at hO
      rw [hO] at hp
      repeat' (first|refine bA ?_|refine bkq fun q=>?_|(refine bk2 ?_ ?_<;>(first|exact bkn|(refine bkk ?_;intro h))))
      refine QS.turn (G' := refA bx (toR D) :: F) (fun w hs => hs.drop.drop.kick (i := 1) rfl) (QS.retV Tryz.results30 rfl ?_)
      rw [hp]
      exact openS_bad h0
    subst h0
    rw [if_neg (by decide)] at hO
    cases wh with
    | true =>
      rw [if_pos rfl] at hO
      rw [hO] at hp
      repeat' (first|refine bA ?_|refine bkq fun q=>?_|(refine bk2 ?_ ?_<;>(first|exact bkn|(refine bkk ?_;intro h))))
      refine QS.turn (G' := rjA b bx ⟨0, e, xs, false⟩ :: refA bx (toR D) :: F) (fun w hs => rjA_shut (A := A) (c := c) w (hs.drop.front (i := 2) rfl)) (QS.retV Tryz.results30 rfl ?_)
      rw [hp]
      exact openS_ok
    | false =>
      rw [if_neg (by decide)] at hO
      rw [hO] at hp
      repeat' (first|refine bA ?_|refine bkq fun q=>?_|(refine bk2 ?_ ?_<;>(first|exact bkn|(refine bkk ?_;intro h))))
      refine WL.call c71 rfl rfl rfl rfl ((ref_Store bx D hD jLog e A _ c xs rfl W0 _ (Rd.slc (i := 2) rfl)).pre (fun w hs => hs.front (i := 2) rfl)) ?_
      rintro _ _ ⟨rfl, rfl⟩
      by_cases hs0 : (storeM D e xs jLog).1 = 0
      · rw [hs0] at hp ⊢
        repeat' (first|refine bA ?_|refine bkq fun q=>?_|(refine bk2 ?_ ?_<;>(first|exact bkn|(refine bkk ?_;intro h))))
        refine QS.turn (G' := rjA b bx ⟨0, e, xs, false⟩ :: refA bx (toR (storeM D e xs jLog).2) :: F) (fun w hs => rjA_shut (A := A) (c := c) w (((hs.kick (i := 1) rfl).front (i := 1) rfl).front (i := 2) rfl)) (QS.retV Tryz.results30 rfl ?_)
        rw [hp]
        exact openS_ok
      · repeat' (first|refine bA ?_|refine bkq fun q=>?_|(refine bk2 ?_ ?_<;>(first|exact bkn|(refine bkk ?_;intro h))))
        refine QS.turn (G' := refA bx (toR (storeM D e xs jLog).2) :: F) (fun w hs => ((hs.kick (i := 1) rfl).kick (i := 1) rfl).kick (i := 1) rfl) (QS.retV Tryz.results30 rfl ?_)
        rw [hp]
        exact openS_bad hs0
end Go.Proofs.YtfolmcpfdcgliaaGreat.B
