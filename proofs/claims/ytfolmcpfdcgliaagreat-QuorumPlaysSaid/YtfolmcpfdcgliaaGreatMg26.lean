import Derived.Test.YtfolmcpfdcgliaaGreatMg24
import Derived.Test.YtfolmcpfdcgliaaGreatMg25
set_option linter.unusedVariables false
set_option linter.unusedSimpArgs false
set_option maxRecDepth 8000
namespace Go.Proofs.YtfolmcpfdcgliaaGreat.B
open Go Go.Proofs
attribute [local irreducible] WL CS QS WQ WH WS Fn Op1 row Sat
attribute [local irreducible] slc diskA jA
structure RqOk (q : Rq) : Prop where
  e0 : 1 ≤ q.epoch
  e1 : q.epoch ≤ 9007199254740991
  kind : (q.kind = kP ∧ q.xs = []) ∨ (q.kind = kA ∧ logOk 0 q.xs = true) ∨ (q.kind = kW ∧ ∃ x : Ent, q.xs = [x] ∧ 1 ≤ x.n ∧ x.n ≤ 300 ∧ x.s.size ≤ 600)
theorem kAP : ¬ kA = kP := by decide
theorem kAW : ¬ kA = kW := by decide
theorem kWP : ¬ kW = kP := by decide
theorem readL_ok {l : List ByteArray} {q : Rq} (h : readL l = some q) : RqOk q := by
  match l, h with
  | k :: e :: r, h =>
    rw [readL] at h
    split at h
    · rename_i ep hn
      split at h
      · rename_i hep
        unfold readK at h
        split at h
        · split at h
          · cases h; exact ⟨hep.1, hep.2, .inl ⟨rfl, rfl⟩⟩
          · cases h
        · split at h
          · split at h
            · cases h; exact ⟨hep.1, hep.2, .inr (.inl ⟨rfl, by assumption⟩)⟩
            · cases h
          · split at h
            · match r, h with
              | [t, d], h =>
                rw [readW] at h
                split at h
                · split at h
                  · rename_i hc
                    cases h; exact ⟨hep.1, hep.2, .inr (.inr ⟨rfl, _, rfl, hc⟩)⟩
                  · cases h
                · cases h
            · cases h
      · cases h
    · cases h
theorem RqOk.len {q : Rq} (h : RqOk q) : q.xs.length ≤ 300 := by
  rcases h.kind with ⟨_, h⟩ | ⟨_, h⟩ | ⟨_, x, h, _⟩
  · rw [h]; exact Nat.zero_le _
  · exact (logOk_iff.1 h).1.2.2
  · rw [h]; simp
theorem JnOk.len {J : Jn} (h : JnOk J) : J.xs.length ≤ 300 := (logOk_iff.1 h.log).1.2.2
theorem JnOk.e0 {J : Jn} (h : JnOk J) : 0 ≤ J.e ∧ J.e ≤ 9007199254740991 := ⟨(logOk_iff.1 h.log).1.1, (logOk_iff.1 h.log).1.2.1⟩
theorem j_begins (b bd : Nat) (J : Jn) (hJ : JnOk J) (A : Option Addr) (k c : Nat) (xs : List Ent) (hk : k = xs.length) (hl : xs.length ≤ 1000) (W0 : World) (F : List SL) (hR : Rd W0 F entE A xs) :
    Fn Tryz.prog 99 [.pointer (some ⟨b, 0, none⟩), .slice A k c] W0 (jA b bd J :: F) (Ret fun v G' => v = .bool (begB xs J.xs) ∧ G' = jA b bd J :: F) := by
  subst hk
  have hjl := hJ.len
  refine Fn.ex (fun w hs => jA_open w hs) ?_
  rintro ⟨A1, c1⟩
  refine Fn.fact (slc_cap (i := 1) rfl) fun hcap => ?_
  refine Fn.enter Tryz.func99 rfl Tryz.ntmps99 rfl ?_
  simp only [jCells]
  repeat' (first|refine bA ?_|refine bkq fun q=>?_|(refine bk2 ?_ ?_<;>(first|exact bkn|(refine bkk ?_;intro h))))
  · refine WL.s (op1_sliceS TT (E := entE) (xs := J.xs) (l := 0) (r := (xs.length : Int)) rfl rfl rfl rfl rfl rfl rfl ⟨by omega, by omega, by omega⟩ hcap) rfl ?_
    rw [Int.toNat_natCast, Int.toNat_zero, Nat.sub_zero, Nat.sub_zero]
    have hR1 := (Rd.slc (W0 := W0) (E := entE) (t := 49) (A := A1) (c := c1) (xs := J.xs) (G := row b 103 [.pointer (some ⟨bd, 0, none⟩), .int .i64 J.p, .int .i64 J.e, .slice A1 J.xs.length c1, .bool J.dead] :: slc entE 49 A1 c1 J.xs :: F) (i := 1) rfl).part (l := 0) (r := xs.length) (by omega) hcap
    rw [List.drop_zero] at hR1
    repeat' (first|refine bA ?_|refine bkq fun q=>?_|(refine bk2 ?_ ?_<;>(first|exact bkn|(refine bkk ?_;intro h))))
    refine WL.call c138 rfl rfl rfl rfl (ent_Equal _ _ xs.length _ xs.length _ xs (J.xs.take xs.length) rfl (by rw [List.length_take, Nat.min_eq_left (by omega)]) (by omega) (by omega) W0 _ hR.cons.cons hR1) ?_
    rintro _ G2 ⟨rfl, hG2⟩
    rw [hG2]; clear hG2 G2
    repeat' (first|refine bA ?_|refine bkq fun q=>?_|(refine bk2 ?_ ?_<;>(first|exact bkn|(refine bkk ?_;intro h))))
    refine QS.turn (G' := jA b bd J :: F) (fun w hs => jA_shut (A := A1) (c := c1) w hs) (QS.retV Tryz.results99 rfl ⟨?_, rfl⟩)
    rw [begB, show decide (xs.length ≤ J.xs.length ∧ J.xs.take xs.length = xs) = decide (xs = J.xs.take xs.length) from by
      have : xs.length ≤ J.xs.length := by omega
      simp only [this, true_and]
      exact decide_eq_decide.2 ⟨fun h => h.symm, fun h => h.symm⟩]
    rfl
  · refine QS.turn (G' := jA b bd J :: F) (fun w hs => jA_shut (A := A1) (c := c1) w hs) (QS.retV Tryz.results99 rfl ⟨?_, rfl⟩)
    rw [begB, decide_eq_false (by omega)]; rfl
set_option maxHeartbeats 4000000 in
theorem j_add (b bd : Nat) (J : Jn) (hJ : JnOk J) (D : Disk) (hD : DiskOk D) (x : Ent) (hx : 1 ≤ x.n ∧ x.n ≤ 300) (W0 : World) (F : List SL) :
    Fn Tryz.prog 98 [.pointer (some ⟨b, 0, none⟩), .agg #[.int .i64 x.n, .string x.s]] W0 (jA b bd J :: diskA bd D :: F)
      (Ret fun v G' => v = .int .i64 (addJ J D x).1 ∧ G' = jA b bd (addJ J D x).2.1 :: diskA bd (addJ J D x).2.2 :: F) := by
  have hjl := hJ.len
  refine Fn.ex (fun w hs => jA_open w hs) ?_
  rintro ⟨A1, c1⟩
  refine Fn.fact (slc_cap (i := 1) rfl) fun hcap => ?_
  refine Fn.enter Tryz.func98 rfl Tryz.ntmps98 rfl ?_
  simp only [jCells]
  by_cases h1 : (J.xs.length : Int) + 1 < x.n
  · repeat' (first|refine bA ?_|refine bkq fun q=>?_|(refine bk2 ?_ ?_<;>(first|exact bkn|(refine bkk ?_;intro h))))
    refine QS.turn (G' := jA b bd J :: diskA bd D :: F) (fun w hs => jA_shut (A := A1) (c := c1) w hs.drop) (QS.retV Tryz.results98 rfl ⟨?_, ?_⟩) <;> rw [addJ, if_pos (.inl h1)] <;> rfl
  by_cases h2 : x.n ≤ (J.xs.length : Int)
  · obtain ⟨y, hy⟩ : ∃ y, J.xs[(x.n - 1).toNat]? = some y := ⟨J.xs[(x.n - 1).toNat]'(by omega), List.getElem?_eq_getElem (by omega)⟩
    repeat' (first|refine bN ?_|refine bkq fun q=>?_|(refine bk2 ?_ ?_<;>(first|exact bkn|(refine bkk ?_;intro h))))
    refine CS.world fun hw => ?_
    repeat' (first|refine bA ?_|refine bkq fun q=>?_|(refine bk2 ?_ ?_<;>(first|exact bkn|(refine bkk ?_;intro h))))
    refine WQ.idx TT (Rd.slc (i := 2) rfl) rfl rfl rfl (by omega) hy rfl rfl rfl rfl hw (fun b2 o hA => ?_)
    repeat' (first|refine bA ?_|refine bkq fun q=>?_|(refine bk2 ?_ ?_<;>(first|exact bkn|(refine bkk ?_;intro h))))
    refine WQ.s (op1_at TT hA rfl rfl rfl rfl) rfl ?_
    repeat' (first|refine bA ?_|refine bkq fun q=>?_|(refine bk2 ?_ ?_<;>(first|exact bkn|(refine bkk ?_;intro h))))
    refine WQ.s (op1_neS TT cmp49 rfl rfl rfl rfl rfl) rfl ?_
    rw [show (!(decide (y.n = x.n) && (decide (y.s = x.s) && true))) = !decide (y = x) from by
      obtain ⟨n1, s1⟩ := x; obtain ⟨n2, s2⟩ := y; simp]
    by_cases hyx : y = x
    · rw [decide_eq_true hyx]
      have ha : addJ J D x = (0, J, D) := by
        rw [addJ, if_neg (by rw [hy, hyx]; simp only [ne_eq, not_true_eq_false, and_false, or_false]; exact h1), if_pos h2]
      repeat' (first|refine bA ?_|refine bkq fun q=>?_|(refine bk2 ?_ ?_<;>(first|exact bkn|(refine bkk ?_;intro h))))
      refine QS.turn (G' := jA b bd J :: diskA bd D :: F) (fun w hs => jA_shut (A := A1) (c := c1) w hs.drop) (QS.retV Tryz.results98 rfl ⟨?_, ?_⟩) <;> rw [ha] <;> rfl
    · rw [decide_eq_false hyx]
      have ha : addJ J D x = (11, J, D) := by
        rw [addJ, if_pos (.inr ⟨h2, by rw [hy]; exact fun e => hyx (Option.some.inj e)⟩)]
      repeat' (first|refine bA ?_|refine bkq fun q=>?_|(refine bk2 ?_ ?_<;>(first|exact bkn|(refine bkk ?_;intro h))))
      refine QS.turn (G' := jA b bd J :: diskA bd D :: F) (fun w hs => jA_shut (A := A1) (c := c1) w hs.drop) (QS.retV Tryz.results98 rfl ⟨?_, ?_⟩) <;> rw [ha] <;> rfl
  · have ha : addJ J D x = ((addM D x.n x.s jLog).1, if (addM D x.n x.s jLog).1 = 0 then { J with xs := J.xs ++ [x] } else J, (addM D x.n x.s jLog).2) := by
      rw [addJ, if_neg (fun e => by rcases e with e | e; exact h1 e; exact h2 e.1), if_neg h2]
    repeat' (first|refine bN ?_|refine bkq fun q=>?_|(refine bk2 ?_ ?_<;>(first|exact bkn|(refine bkk ?_;intro h))))
    refine CS.drawQ rfl mixed (by kernel_rfl) ?_
    repeat' (first|refine bN ?_|refine bkq fun q=>?_|(refine bk2 ?_ ?_<;>(first|exact bkn|(refine bkk ?_;intro h))))
    refine CS.drawT 5 mixed (by kernel_rfl) rfl ?_
    repeat' (first|refine bk ?_|refine bkc ?_|refine bks ?_|refine bkd ?_|refine bkh ?_|refine bkq (fun q => ?_)|((first|refine bk2 ?_ ?_|refine bk2h ?_ ?_)<;>(first|exact bkn|(refine bkk ?_;intro h))))
    refine WL.call c136 rfl rfl rfl rfl ((log_Add bd D hD jLog x.n x.s W0 _).pre (fun w hs => hs.front (i := 3) rfl)) ?_
    rintro _ _ ⟨rfl, rfl⟩
    by_cases h0 : (addM D x.n x.s jLog).1 = 0
    · rw [h0] at ha ⊢
      rw [if_pos rfl] at ha
      repeat' (first|refine bN ?_|refine bkq fun q=>?_|(refine bk2 ?_ ?_<;>(first|exact bkn|(refine bkk ?_;intro h))))
      refine CS.drawE _ 13 (fun w hs => hs) mixed (by kernel_rfl) rfl ?_
      repeat' (first|refine bka ?_|(refine bk2a ?_ ?_<;>(first|exact bkn|(refine bkk ?_;intro h))))
      refine WA.call rfl rfl (by kernel_rfl) rfl c137 rfl rfl rfl rfl (fun G' _ => ent_Clip A1 _ c1 hcap (by omega) W0 G') ?_
      repeat' (first|refine bka ?_|(refine bk2a ?_ ?_<;>(first|exact bkn|(refine bkk ?_;intro h))))
      refine WA.e1 8 (by kernel_rfl) (by kernel_rfl) rfl rfl (EffC.of (Eff.buildSlice TT rfl rfl rfl rfl rfl rfl rfl)) rfl ?_
      rintro _ _ ⟨q2, rfl, rfl⟩
      refine ⟨fun w hs => hs.drop, ?_⟩
      refine WA.e1 9 (by kernel_rfl) (by kernel_rfl) rfl rfl (EffC.of (Eff.appendFull TT (E := entE) (xs := J.xs) (ys := [x]) rfl rfl rfl rfl (by simp) (Rd.slc (i := 4) rfl) (Rd.row (i := 0) rfl rfl) rfl rfl rfl rfl rfl (by decide) (by simp only [List.length_cons, List.length_nil]; omega))) rfl ?_
      rintro _ _ ⟨A5, c5, rfl, rfl⟩
      refine ⟨fun w hs => hs.drop.drop, ?_⟩
      repeat' (first|refine bka ?_|(refine bk2a ?_ ?_<;>(first|exact bkn|(refine bkk ?_;intro h))))
      refine WA.last (by kernel_rfl) (by kernel_rfl) (by kernel_rfl) rfl rfl (EffC.store TT 4 rfl rfl rfl rfl rfl rfl rfl rfl rfl) rfl ?_
      rintro _ _ ⟨rfl, rfl⟩
      repeat' (first|refine bA ?_|refine bkq fun q=>?_|(refine bk2 ?_ ?_<;>(first|exact bkn|(refine bkk ?_;intro h))))
      refine QS.turn (G' := jA b bd { J with xs := J.xs ++ [x] } :: diskA bd (addM D x.n x.s jLog).2 :: F) (fun w hs => jA_shut (A := A5) (c := c5) w ((((hs.kick (i := 1) rfl).kick (i := 2) rfl).kick (i := 3) rfl).front (i := 2) rfl)) (QS.retV Tryz.results98 rfl ⟨?_, ?_⟩) <;> rw [ha] <;> rfl
    · rw [if_neg h0] at ha
      repeat' (first|refine bA ?_|refine bkq fun q=>?_|(refine bk2 ?_ ?_<;>(first|exact bkn|(refine bkk ?_;intro h))))
      refine QS.turn (G' := jA b bd J :: diskA bd (addM D x.n x.s jLog).2 :: F) (fun w hs => jA_shut (A := A1) (c := c1) w (((hs.kick (i := 1) rfl).front (i := 2) rfl).front (i := 2) rfl)) (QS.retV Tryz.results98 rfl ⟨?_, ?_⟩) <;> rw [ha] <;> rfl
set_option maxHeartbeats 8000000 in
theorem j_do (b bd : Nat) (J : Jn) (hJ : JnOk J) (D : Disk) (hD : DiskOk D) (q : Rq) (hq : RqOk q) (A : Option Addr) (c : Nat) (W0 : World) (F : List SL) :
    Fn Tryz.prog 59 [.pointer (some ⟨b, 0, none⟩), .agg #[.string q.kind, .int .i64 q.epoch, .slice A q.xs.length c]] W0 (slc entE 49 A c q.xs :: jA b bd J :: diskA bd D :: F)
      (Ret fun v G' => v = .int .i64 (doJ J D q).1 ∧ G' = jA b bd (doJ J D q).2.1 :: diskA bd (doJ J D q).2.2 :: F) := by
  have hjl := hJ.len
  have hql := hq.len
  have hje := hJ.e0
  have hI : I64 q.epoch := by have := hq.e0; have := hq.e1; unfold I64; omega
  obtain ⟨kind, ep, xs⟩ := q
  obtain ⟨he0, he1, hkind⟩ := hq
  simp only at hql hI he0 he1 hkind ⊢
  refine Fn.ex (A := fun x : Option Addr × Nat => row b 103 (jCells bd x.1 x.2 J) :: slc entE 49 x.1 x.2 J.xs :: slc entE 49 A c xs :: diskA bd D :: F) (fun w hs => jA_open w (hs.front (i := 1) rfl)) ?_
  rintro ⟨A1, c1⟩
  have shutJ : ∀ (q0 : Nat) (cs : List Value) w, Sat W0 (row q0 122 cs :: row b 103 (jCells bd A1 c1 J) :: slc entE 49 A1 c1 J.xs :: slc entE 49 A c xs :: diskA bd D :: F) w → Sat W0 (jA b bd J :: row q0 122 cs :: slc entE 49 A c xs :: diskA bd D :: F) w := fun q0 cs w hs =>
    jA_shut (A := A1) (c := c1) w ((hs.front (i := 2) rfl).front (i := 2) rfl)
  refine Fn.enter Tryz.func59 rfl Tryz.ntmps59 rfl ?_
  simp only [jCells] at shutJ ⊢
  refine CS.seq ?_
  repeat' (first|refine bk ?_|refine bkc ?_|refine bkd ?_|refine bkq (fun q => ?_)|(refine bk2 ?_ ?_<;>(first|exact bkn|(refine bkk ?_;intro h))))
  revert q; intro q0
  refine CS.seq ?_
  refine CS.cut (X := Jn × Disk × Option Addr × Nat) (fun _ => [(0, .pointer (some ⟨b, 0, none⟩)), (3, .pointer (some ⟨q0, 0, none⟩))])
    (fun y => row q0 122 [.string kind, .int .i64 ep, .slice A xs.length c] :: row b 103 [.pointer (some ⟨bd, 0, none⟩), .int .i64 y.1.p, .int .i64 y.1.e, .slice y.2.2.1 y.1.xs.length y.2.2.2, .bool y.1.dead] :: slc entE 49 y.2.2.1 y.2.2.2 y.1.xs :: slc entE 49 A c xs :: diskA bd y.2.1 :: F)
    (fun y => DiskOk y.2.1 ∧ doJ J D ⟨kind, ep, xs⟩ = storeJ y.1 y.2.1 ep xs) ?_ ?_
  · rcases hkind with ⟨rfl, rfl⟩ | ⟨rfl, hlog⟩ | ⟨rfl, x, rfl, hx1, hx2, hx3⟩
    · by_cases hp : ep ≤ J.p
      · have hdo : doJ J D ⟨kP, ep, []⟩ = (10, J, D) := by rw [doJ, if_pos rfl, if_pos hp]
        repeat' (first|refine bA ?_|refine bkq fun q=>?_|(refine bk2 ?_ ?_<;>(first|exact bkn|(refine bkk ?_;intro h))))
        refine QS.turn (G' := jA b bd J :: diskA bd D :: F) (fun w hs => ((shutJ _ _ w hs).kick (i := 1) rfl).kick (i := 1) rfl) (QS.retV Tryz.results59 rfl ⟨?_, ?_⟩) <;> rw [hdo] <;> rfl
      · have hdo : doJ J D ⟨kP, ep, []⟩ = promJ J D ep := by rw [doJ, if_pos rfl, if_neg hp]
        repeat' (first|refine bA ?_|refine bkq fun q=>?_|(refine bk2 ?_ ?_<;>(first|exact bkn|(refine bkk ?_;intro h))))
        refine WL.call c97 rfl rfl rfl rfl ((j_promise b bd J D hD ep hI W0 _).pre (fun w hs => ((shutJ _ _ w hs).front (i := 3) rfl).front (i := 1) rfl)) ?_
        rintro _ _ ⟨rfl, rfl⟩
        repeat' (first|refine bA ?_|refine bkq fun q=>?_|(refine bk2 ?_ ?_<;>(first|exact bkn|(refine bkk ?_;intro h))))
        refine QS.turn (G' := jA b bd (promJ J D ep).2.1 :: diskA bd (promJ J D ep).2.2 :: F) (fun w hs => (hs.kick (i := 2) rfl).kick (i := 2) rfl) (QS.retV Tryz.results59 rfl ⟨?_, ?_⟩) <;> rw [hdo] <;> rfl
    · by_cases hp : ep < J.p
      · have hdo : doJ J D ⟨kA, ep, xs⟩ = (10, J, D) := by rw [doJ, if_neg kAP, if_pos (.inl hp)]
        repeat' (first|refine bA ?_|refine bkq fun q=>?_|(refine bk2 ?_ ?_<;>(first|exact bkn|(refine bkk ?_;intro h))))
        refine QS.turn (G' := jA b bd J :: diskA bd D :: F) (fun w hs => ((shutJ _ _ w hs).kick (i := 1) rfl).kick (i := 1) rfl) (QS.retV Tryz.results59 rfl ⟨?_, ?_⟩) <;> rw [hdo] <;> rfl
      · have hdo0 : doJ J D ⟨kA, ep, xs⟩ = if ep = J.e then (if begB xs J.xs = true then (0, J, D) else (11, J, D)) else accJ J D ⟨kA, ep, xs⟩ := by
          rw [doJ, if_neg kAP, if_neg (by rintro (h | h); exact hp h; exact kAW h.1), if_neg kAW]
        by_cases he : ep = J.e
        · rw [if_pos he] at hdo0
          repeat' (first|refine bA ?_|refine bkq fun q=>?_|(refine bk2 ?_ ?_<;>(first|exact bkn|(refine bkk ?_;intro h))))
          refine WL.call c99 rfl rfl rfl rfl ((j_begins b bd J hJ A _ c xs rfl (by omega) W0 _ (Rd.slc (i := 1) rfl)).pre (fun w hs => shutJ _ _ w hs)) ?_
          rintro _ G2 ⟨rfl, hG2⟩
          rw [hG2]; clear hG2 G2
          cases hb : begB xs J.xs with
          | true =>
            rw [hb, if_pos rfl] at hdo0
            repeat' (first|refine bA ?_|refine bkq fun q=>?_|(refine bk2 ?_ ?_<;>(first|exact bkn|(refine bkk ?_;intro h))))
            refine QS.turn (G' := jA b bd J :: diskA bd D :: F) (fun w hs => (hs.kick (i := 1) rfl).kick (i := 1) rfl) (QS.retV Tryz.results59 rfl ⟨?_, ?_⟩) <;> rw [hdo0] <;> rfl
          | false =>
            rw [hb, if_neg (by decide)] at hdo0
            repeat' (first|refine bA ?_|refine bkq fun q=>?_|(refine bk2 ?_ ?_<;>(first|exact bkn|(refine bkk ?_;intro h))))
            refine QS.turn (G' := jA b bd J :: diskA bd D :: F) (fun w hs => (hs.kick (i := 1) rfl).kick (i := 1) rfl) (QS.retV Tryz.results59 rfl ⟨?_, ?_⟩) <;> rw [hdo0] <;> rfl
        · rw [if_neg he] at hdo0
          by_cases hgt : J.p < ep
          · have hacc : accJ J D ⟨kA, ep, xs⟩ = if (promJ J D ep).1 = 0 then storeJ (promJ J D ep).2.1 (promJ J D ep).2.2 ep xs else promJ J D ep := by rw [accJ, if_pos hgt]
            rw [hacc] at hdo0
            repeat' (first|refine bA ?_|refine bkq fun q=>?_|(refine bk2 ?_ ?_<;>(first|exact bkn|(refine bkk ?_;intro h))))
            refine WL.call c97 rfl rfl rfl rfl ((j_promise b bd J D hD ep hI W0 _).pre (fun w hs => ((shutJ _ _ w hs).front (i := 3) rfl).front (i := 1) rfl)) ?_
            rintro _ _ ⟨rfl, rfl⟩
            have okP : DiskOk (promJ J D ep).2.2 := place1_ok hD _ _ _
            generalize promJ J D ep = PJ at okP hdo0 ⊢
            obtain ⟨er, J1, D1⟩ := PJ
            simp only at okP hdo0 ⊢
            by_cases h0 : er = 0
            · subst h0
              rw [if_pos rfl] at hdo0
              repeat' (first|refine bA ?_|refine bkq fun q=>?_|(refine bk2 ?_ ?_<;>(first|exact bkn|(refine bkk ?_;intro h))))
              refine QS.ex (fun w hs => jA_open w hs) ?_
              rintro ⟨A2, c2⟩
              exact QS.met (J1, D1, A2, c2) ⟨okP, hdo0⟩ ⟨rfl, rfl, trivial⟩ (fun w hs => (((hs.front (i := 4) rfl).front (i := 2) rfl).front (i := 2) rfl).front (i := 4) rfl)
            · rw [if_neg h0] at hdo0
              repeat' (first|refine bA ?_|refine bkq fun q=>?_|(refine bk2 ?_ ?_<;>(first|exact bkn|(refine bkk ?_;intro h))))
              refine QS.turn (G' := jA b bd J1 :: diskA bd D1 :: F) (fun w hs => (hs.kick (i := 2) rfl).kick (i := 2) rfl) (QS.retV Tryz.results59 rfl ⟨?_, ?_⟩) <;> rw [hdo0] <;> rfl
          · have hacc : accJ J D ⟨kA, ep, xs⟩ = storeJ J D ep xs := by rw [accJ, if_neg hgt]
            rw [hacc] at hdo0
            repeat' (first|refine bA ?_|refine bkq fun q=>?_|(refine bk2 ?_ ?_<;>(first|exact bkn|(refine bkk ?_;intro h))))
            exact QS.met (J, D, A1, c1) ⟨hD, hdo0⟩ ⟨rfl, rfl, trivial⟩ (fun w hs => hs)
    · by_cases hp : ep < J.p ∨ ep ≠ J.p ∨ ep ≠ J.e
      · have hdo : doJ J D ⟨kW, ep, [x]⟩ = (10, J, D) := by
          rw [doJ, if_neg kWP, if_pos (by rcases hp with h | h; exact .inl h; exact .inr ⟨rfl, h⟩)]
        repeat' (first|refine bA ?_|refine bkq fun q=>?_|(refine bk2 ?_ ?_<;>(first|exact bkn|(refine bkk ?_;intro h))))
        all_goals
          refine QS.turn (G' := jA b bd J :: diskA bd D :: F) (fun w hs => ((shutJ _ _ w hs).kick (i := 1) rfl).kick (i := 1) rfl) (QS.retV Tryz.results59 rfl ⟨?_, ?_⟩) <;> rw [hdo] <;> rfl
      · have hdo : doJ J D ⟨kW, ep, [x]⟩ = addJ J D x := by
          rw [doJ, if_neg kWP, if_neg (by rintro (h | h); exact hp (.inl h); exact hp (.inr h.2)), if_pos rfl]; rfl
        simp only [not_or, Decidable.not_not, ne_eq] at hp
        obtain ⟨hp1, hp2, hp3⟩ := hp
        repeat' (first|refine bA ?_|refine bkq fun q=>?_|(refine bk2 ?_ ?_<;>(first|exact bkn|(refine bkk ?_;intro h))))
        refine WL.idx TT (Rd.slc (i := 3) rfl) rfl rfl rfl (by omega) (x := x) rfl rfl rfl rfl rfl (fun bb o hA => ?_)
        refine WL.s (op1_at TT hA rfl rfl rfl rfl) rfl ?_
        refine WL.call c98 rfl rfl rfl rfl ((j_add b bd J hJ D hD x ⟨hx1, hx2⟩ W0 _).pre (fun w hs => ((shutJ _ _ w hs).front (i := 3) rfl).front (i := 1) rfl)) ?_
        rintro _ _ ⟨rfl, rfl⟩
        repeat' (first|refine bA ?_|refine bkq fun q=>?_|(refine bk2 ?_ ?_<;>(first|exact bkn|(refine bkk ?_;intro h))))
        refine QS.turn (G' := jA b bd (addJ J D x).2.1 :: diskA bd (addJ J D x).2.2 :: F) (fun w hs => (hs.kick (i := 2) rfl).kick (i := 2) rfl) (QS.retV Tryz.results59 rfl ⟨?_, ?_⟩) <;> rw [hdo] <;> rfl
  rintro ⟨J1, D1, A2, c2⟩ ⟨hD1, hdo⟩
  simp only at hD1 hdo ⊢
  repeat' (first|refine bN ?_|refine bkq fun q=>?_|(refine bk2 ?_ ?_<;>(first|exact bkn|(refine bkk ?_;intro h))))
  refine CS.drawT 5 mixed (by kernel_rfl) rfl ?_
  repeat' (first|refine bk ?_|refine bkc ?_|refine bks ?_|refine bkd ?_|refine bkh ?_|refine bkq (fun q => ?_)|((first|refine bk2 ?_ ?_|refine bk2h ?_ ?_)<;>(first|exact bkn|(refine bkk ?_;intro h))))
  refine WL.call c66 rfl rfl rfl rfl ((log_Store bd D1 hD1 jLog ep A xs.length c xs rfl W0 _ (Rd.slc (i := 5) rfl)).pre (fun w hs => hs.front (i := 5) rfl)) ?_
  rintro _ _ ⟨rfl, rfl⟩
  by_cases h0 : (storeM D1 ep xs jLog).1 = 0
  · rw [storeJ, if_pos h0] at hdo
    rw [h0] at hdo ⊢
    repeat' (first|refine bA ?_|refine bkq fun q=>?_|(refine bk2 ?_ ?_<;>(first|exact bkn|(refine bkk ?_;intro h))))
    refine QS.turn (G' := jA b bd { J1 with e := ep, xs := xs } :: diskA bd (storeM D1 ep xs jLog).2 :: F) (fun w hs => jA_shut (A := A) (c := c) w ((((hs.kick (i := 1) rfl).kick (i := 1) rfl).kick (i := 2) rfl).front (i := 1) rfl |>.front (i := 2) rfl |>.front (i := 1) rfl)) (QS.retV Tryz.results59 rfl ⟨?_, ?_⟩) <;> rw [hdo] <;> rfl
  · rw [storeJ, if_neg h0] at hdo
    repeat' (first|refine bA ?_|refine bkq fun q=>?_|(refine bk2 ?_ ?_<;>(first|exact bkn|(refine bkk ?_;intro h))))
    refine QS.turn (G' := jA b bd J1 :: diskA bd (storeM D1 ep xs jLog).2 :: F) (fun w hs => jA_shut (A := A2) (c := c2) w ((((hs.kick (i := 1) rfl).kick (i := 1) rfl).kick (i := 3) rfl).front (i := 2) rfl |>.front (i := 2) rfl)) (QS.retV Tryz.results59 rfl ⟨?_, ?_⟩) <;> rw [hdo] <;> rfl
end Go.Proofs.YtfolmcpfdcgliaaGreat.B
