import Derived.Test.YtfolmcpfdcgliaaGreatMg46
import Derived.Test.YtfolmcpfdcgliaaGreatMg27
import Derived.Test.YtfolmcpfdcgliaaGreatMg40
set_option linter.unusedVariables false
set_option linter.unusedSimpArgs false
set_option maxRecDepth 8000
/-! What the document's own node does with a request. -/
namespace Go.Proofs.YtfolmcpfdcgliaaGreat.B
open Go Go.Proofs
attribute [local irreducible] WL CS QS WQ WH WS Fn Op1 row Sat
attribute [local irreducible] slc rjA refA
theorem begB_take {xs ys : List Ent} (h : xs.length ≤ ys.length) : begB xs ys = decide (xs = ys.take xs.length) := by
  unfold begB
  rw [decide_eq_decide]
  exact ⟨fun h2 => h2.2.symm, fun h2 => ⟨h, h2.symm⟩⟩
set_option maxHeartbeats 16000000 in
theorem r_does (b bx : Nat) (J : Jn) (hJ : JnOk J) (D : Disk) (hD : DiskOk D) (q : Rq) (hq : RqOk q) (tx : Int) (htx : q.kind = kW → tx = (q.xs.headD ⟨0, ⟨#[]⟩⟩).n ∧ q.xs.length = 1) (A : Option Addr) (c : Nat) (W0 : World) (F : List SL) :
    Fn Tryz.prog 91 [.pointer (some ⟨b, 0, none⟩), .agg #[.string q.kind, .int .i64 q.epoch, .int .i64 tx, .slice A q.xs.length c]] W0 (slc entE 49 A c q.xs :: rjA b bx J :: refA bx (toR D) :: F)
      (Ret fun v G' => v = .int .i64 (doJ J D q).1 ∧ G' = rjA b bx (doJ J D q).2.1 :: refA bx (toR (doJ J D q).2.2) :: F) := by
  have hjl := hJ.len
  have hql := hq.len
  have hje := hJ.e0
  have hI : I64 q.epoch := by have := hq.e0; have := hq.e1; unfold I64; omega
  obtain ⟨kind, ep, xs⟩ := q
  obtain ⟨he0, he1, hkind⟩ := hq
  simp only at hql hI he0 he1 hkind htx ⊢
  refine Fn.ex (A := fun x : Option Addr × Nat => row b 112 (rjC bx x.1 x.2 J) :: slc entE 49 x.1 x.2 J.xs :: slc entE 49 A c xs :: refA bx (toR D) :: F) (fun w hs => rjA_open w (hs.front (i := 1) rfl)) ?_
  rintro ⟨A1, c1⟩
  refine Fn.fact (slc_cap (i := 1) rfl) fun hcap => ?_
  have shutJ : ∀ (q0 : Nat) (cs : List Value) w, Sat W0 (row q0 171 cs :: row b 112 (rjC bx A1 c1 J) :: slc entE 49 A1 c1 J.xs :: slc entE 49 A c xs :: refA bx (toR D) :: F) w → Sat W0 (rjA b bx J :: row q0 171 cs :: slc entE 49 A c xs :: refA bx (toR D) :: F) w := fun q0 cs w hs =>
    rjA_shut (A := A1) (c := c1) w ((hs.front (i := 2) rfl).front (i := 2) rfl)
  refine Fn.enter Tryz.func91 rfl Tryz.ntmps91 rfl ?_
  simp only [rjC] at shutJ ⊢
  rcases hkind with ⟨rfl, rfl⟩ | ⟨rfl, hlog⟩ | ⟨rfl, x, rfl, hx1, hx2, hx3⟩
  · by_cases hp : ep ≤ J.p
    · have hdo : doJ J D ⟨kP, ep, []⟩ = (10, J, D) := by rw [doJ, if_pos rfl, if_pos hp]
      repeat' (first|refine bk ?_|refine bkc ?_|refine bks ?_|refine bkd ?_|refine bkq (fun q => ?_)|(refine bk2 ?_ ?_<;>(first|exact bkn|(refine bkk ?_;intro h))))
      refine QS.turn (G' := rjA b bx J :: refA bx (toR D) :: F) (fun w hs => ((shutJ _ _ w hs).kick (i := 1) rfl).kick (i := 1) rfl) (QS.retV Tryz.results91 rfl ⟨?_, ?_⟩) <;> rw [hdo] <;> rfl
    · have hdo : doJ J D ⟨kP, ep, []⟩ = promJ J D ep := by rw [doJ, if_pos rfl, if_neg hp]
      repeat' (first|refine bk ?_|refine bkc ?_|refine bks ?_|refine bkd ?_|refine bkq (fun q => ?_)|(refine bk2 ?_ ?_<;>(first|exact bkn|(refine bkk ?_;intro h))))
      refine WL.call c132 rfl rfl rfl rfl ((r_promise b bx J D hD ep hI W0 _).pre (fun w hs => ((shutJ _ _ w hs).front (i := 3) rfl).front (i := 1) rfl)) ?_
      rintro _ _ ⟨rfl, rfl⟩
      repeat' (first|refine bk ?_|refine bkc ?_|refine bks ?_|refine bkd ?_|refine bkq (fun q => ?_)|(refine bk2 ?_ ?_<;>(first|exact bkn|(refine bkk ?_;intro h))))
      refine QS.turn (G' := rjA b bx (promJ J D ep).2.1 :: refA bx (toR (promJ J D ep).2.2) :: F) (fun w hs => (hs.kick (i := 2) rfl).kick (i := 2) rfl) (QS.retV Tryz.results91 rfl ⟨?_, ?_⟩) <;> rw [hdo] <;> rfl
  · have hAok := hlog
    by_cases hp : ep < J.p
    · have hdo : doJ J D ⟨kA, ep, xs⟩ = (10, J, D) := by rw [doJ, if_neg kAP, if_pos (.inl hp)]
      repeat' (first|refine bk ?_|refine bkc ?_|refine bks ?_|refine bkd ?_|refine bkq (fun q => ?_)|(refine bk2 ?_ ?_<;>(first|exact bkn|(refine bkk ?_;intro h))))
      refine QS.turn (G' := rjA b bx J :: refA bx (toR D) :: F) (fun w hs => ((shutJ _ _ w hs).kick (i := 1) rfl).kick (i := 1) rfl) (QS.retV Tryz.results91 rfl ⟨?_, ?_⟩) <;> rw [hdo] <;> rfl
    have hdo0 : doJ J D ⟨kA, ep, xs⟩ = if ep = J.e then (if begB xs J.xs = true then (0, J, D) else (11, J, D)) else accJ J D ⟨kA, ep, xs⟩ := by
      rw [doJ, if_neg kAP, if_neg (by rintro (h | h); exact hp h; exact kAW h.1), if_neg kAW]
    by_cases he : ep = J.e
    · rw [if_pos he] at hdo0
      by_cases hlx : J.xs.length < xs.length
      · have hb : begB xs J.xs = false := by rw [begB, decide_eq_false (by omega)]
        rw [hb, if_neg (by decide)] at hdo0
        repeat' (first|refine bk ?_|refine bkc ?_|refine bks ?_|refine bkd ?_|refine bkq (fun q => ?_)|(refine bk2 ?_ ?_<;>(first|exact bkn|(refine bkk ?_;intro h))))
        refine QS.turn (G' := rjA b bx J :: refA bx (toR D) :: F) (fun w hs => ((shutJ _ _ w hs).kick (i := 1) rfl).kick (i := 1) rfl) (QS.retV Tryz.results91 rfl ⟨?_, ?_⟩) <;> rw [hdo0] <;> rfl
      · repeat' (first|refine bk ?_|refine bkc ?_|refine bks ?_|refine bkd ?_|refine bkq (fun q => ?_)|(refine bk2 ?_ ?_<;>(first|exact bkn|(refine bkk ?_;intro h))))
        refine WQ.s (op1_sliceS TT (E := entE) (xs := J.xs) (l := 0) (r := (xs.length : Int)) rfl rfl rfl rfl rfl rfl rfl ⟨by omega, by omega, by omega⟩ hcap) rfl ?_
        rw [Int.toNat_natCast, Int.toNat_zero, Nat.sub_zero, Nat.sub_zero]
        repeat' (first|refine bk ?_|refine bkc ?_|refine bks ?_|refine bkd ?_|refine bkq (fun q => ?_)|(refine bk2 ?_ ?_<;>(first|exact bkn|(refine bkk ?_;intro h))))
        have hR1 := fun (G2 : List SL) (i : Nat) (hG : G2[i]? = some (slc entE 49 A1 c1 J.xs)) => (Rd.slc (W0 := W0) hG).part (l := 0) (r := xs.length) (by omega) hcap
        simp only [List.drop_zero] at hR1
        refine WQ.call c93 rfl rfl rfl rfl (r_Entries A _ _ c xs.length _ xs (J.xs.take xs.length) rfl (by rw [List.length_take]; omega) (by omega) W0 _ (Rd.slc (i := 3) rfl) (hR1 _ 2 rfl)) ?_
        rw [← begB_take (by omega)]
        cases hb : begB xs J.xs with
        | true =>
          rw [hb, if_pos rfl] at hdo0
          repeat' (first|refine bk ?_|refine bkc ?_|refine bks ?_|refine bkd ?_|refine bkq (fun q => ?_)|(refine bk2 ?_ ?_<;>(first|exact bkn|(refine bkk ?_;intro h))))
          refine QS.turn (G' := rjA b bx J :: refA bx (toR D) :: F) (fun w hs => ((shutJ _ _ w hs).kick (i := 1) rfl).kick (i := 1) rfl) (QS.retV Tryz.results91 rfl ⟨?_, ?_⟩) <;> rw [hdo0] <;> rfl
        | false =>
          rw [hb, if_neg (by decide)] at hdo0
          repeat' (first|refine bk ?_|refine bkc ?_|refine bks ?_|refine bkd ?_|refine bkq (fun q => ?_)|(refine bk2 ?_ ?_<;>(first|exact bkn|(refine bkk ?_;intro h))))
          refine QS.turn (G' := rjA b bx J :: refA bx (toR D) :: F) (fun w hs => ((shutJ _ _ w hs).kick (i := 1) rfl).kick (i := 1) rfl) (QS.retV Tryz.results91 rfl ⟨?_, ?_⟩) <;> rw [hdo0] <;> rfl
    · rw [if_neg he] at hdo0
      by_cases hgt : J.p < ep
      · have hacc : accJ J D ⟨kA, ep, xs⟩ = if (promJ J D ep).1 = 0 then storeJ (promJ J D ep).2.1 (promJ J D ep).2.2 ep xs else promJ J D ep := by rw [accJ, if_pos hgt]
        rw [hacc] at hdo0
        repeat' (first|refine bk ?_|refine bkc ?_|refine bks ?_|refine bkq (fun q => ?_)|(refine bk2 ?_ ?_<;>(first|exact bkn|(refine bkk ?_;intro h))))
        refine CS.drawQ rfl mixed (by kernel_rfl) ?_
        repeat' (first|refine bk ?_|refine bkc ?_|refine bks ?_|refine bkq (fun q => ?_)|(refine bk2 ?_ ?_<;>(first|exact bkn|(refine bkk ?_;intro h))))
        refine CS.drawQ rfl mixed (by kernel_rfl) ?_
        repeat' (first|refine bk ?_|refine bkc ?_|refine bks ?_|refine bkq (fun q => ?_)|(refine bk2 ?_ ?_<;>(first|exact bkn|(refine bkk ?_;intro h))))
        refine CS.drawQ rfl mixed (by kernel_rfl) ?_
        repeat' (first|refine bk ?_|refine bkc ?_|refine bks ?_|refine bkq (fun q => ?_)|(refine bk2 ?_ ?_<;>(first|exact bkn|(refine bkk ?_;intro h))))
        refine WL.call c132 rfl rfl rfl rfl ((r_promise b bx J D hD ep hI W0 _).pre (fun w hs => ((shutJ _ _ w hs).front (i := 3) rfl).front (i := 1) rfl)) ?_
        rintro _ _ ⟨rfl, rfl⟩
        have okP : DiskOk (promJ J D ep).2.2 := place1_ok hD _ _ _
        generalize promJ J D ep = PJ at okP hdo0 ⊢
        obtain ⟨er, J1, D1⟩ := PJ
        simp only at okP hdo0 ⊢
        by_cases her : er = 0
        · subst her
          rw [if_pos rfl] at hdo0
          refine WL.ex (fun w hs => rjA_open w hs) ?_
          rintro ⟨A2, c2⟩
          simp only [rjC]
          repeat' (first|refine bk ?_|refine bkc ?_|refine bks ?_|refine bkq (fun q => ?_)|(refine bk2 ?_ ?_<;>(first|exact bkn|(refine bkk ?_;intro h))))
          refine CS.drawT 5 mixed (by kernel_rfl) rfl ?_
          repeat' (first|refine bk ?_|refine bkc ?_|refine bks ?_|refine bkd ?_|refine bkh ?_|refine bkq (fun q => ?_)|((first|refine bk2 ?_ ?_|refine bk2h ?_ ?_)<;>(first|exact bkn|(refine bkk ?_;intro h))))
          refine WL.call c71 rfl rfl rfl rfl ((ref_Store bx D1 okP jLog ep A xs.length c xs rfl W0 _ (Rd.slc (i := 5) rfl)).pre (fun w hs => hs.front (i := 3) rfl)) ?_
          rintro _ _ ⟨rfl, rfl⟩
          by_cases h0 : (storeM D1 ep xs jLog).1 = 0
          · rw [storeJ, if_pos h0] at hdo0
            rw [h0] at hdo0 ⊢
            repeat' (first|refine bk ?_|refine bkc ?_|refine bks ?_|refine bkd ?_|refine bkq (fun q => ?_)|(refine bk2 ?_ ?_<;>(first|exact bkn|(refine bkk ?_;intro h))))
            refine QS.turn (G' := rjA b bx { J1 with e := ep, xs := xs } :: refA bx (toR (storeM D1 ep xs jLog).2) :: F) (fun w hs => rjA_shut (A := A) (c := c) w (((((((hs.kick (i := 1) rfl).kick (i := 2) rfl).kick (i := 2) rfl).front (i := 1) rfl).front (i := 2) rfl).front (i := 1) rfl))) (QS.retV Tryz.results91 rfl ⟨?_, ?_⟩) <;> rw [hdo0] <;> rfl
          · rw [storeJ, if_neg h0] at hdo0
            repeat' (first|refine bk ?_|refine bkc ?_|refine bks ?_|refine bkd ?_|refine bkq (fun q => ?_)|(refine bk2 ?_ ?_<;>(first|exact bkn|(refine bkk ?_;intro h))))
            refine QS.turn (G' := rjA b bx J1 :: refA bx (toR (storeM D1 ep xs jLog).2) :: F) (fun w hs => rjA_shut (A := A2) (c := c2) w ((((((hs.kick (i := 1) rfl).kick (i := 3) rfl).kick (i := 3) rfl).front (i := 2) rfl).front (i := 2) rfl))) (QS.retV Tryz.results91 rfl ⟨?_, ?_⟩) <;> rw [hdo0] <;> rfl
        · rw [if_neg her] at hdo0
          repeat' (first|refine bk ?_|refine bkc ?_|refine bks ?_|refine bkq (fun q => ?_)|(refine bk2 ?_ ?_<;>(first|exact bkn|(refine bkk ?_;intro h))))
          refine QS.turn (G' := rjA b bx J1 :: refA bx (toR D1) :: F) (fun w hs => (hs.kick (i := 2) rfl).kick (i := 2) rfl) (QS.retV Tryz.results91 rfl ⟨?_, ?_⟩) <;> rw [hdo0] <;> rfl
      · have hacc : accJ J D ⟨kA, ep, xs⟩ = storeJ J D ep xs := by rw [accJ, if_neg hgt]
        rw [hacc] at hdo0
        repeat' (first|refine bk ?_|refine bkc ?_|refine bks ?_|refine bkq (fun q => ?_)|(refine bk2 ?_ ?_<;>(first|exact bkn|(refine bkk ?_;intro h))))
        refine CS.drawQ rfl mixed (by kernel_rfl) ?_
        repeat' (first|refine bk ?_|refine bkc ?_|refine bks ?_|refine bkq (fun q => ?_)|(refine bk2 ?_ ?_<;>(first|exact bkn|(refine bkk ?_;intro h))))
        refine CS.drawQ rfl mixed (by kernel_rfl) ?_
        repeat' (first|refine bk ?_|refine bkc ?_|refine bks ?_|refine bkq (fun q => ?_)|(refine bk2 ?_ ?_<;>(first|exact bkn|(refine bkk ?_;intro h))))
        refine CS.drawQ rfl mixed (by kernel_rfl) ?_
        repeat' (first|refine bk ?_|refine bkc ?_|refine bks ?_|refine bkq (fun q => ?_)|(refine bk2 ?_ ?_<;>(first|exact bkn|(refine bkk ?_;intro h))))
        refine CS.drawT 5 mixed (by kernel_rfl) rfl ?_
        repeat' (first|refine bk ?_|refine bkc ?_|refine bks ?_|refine bkd ?_|refine bkh ?_|refine bkq (fun q => ?_)|((first|refine bk2 ?_ ?_|refine bk2h ?_ ?_)<;>(first|exact bkn|(refine bkk ?_;intro h))))
        refine WL.call c71 rfl rfl rfl rfl ((ref_Store bx D hD jLog ep A xs.length c xs rfl W0 _ (Rd.slc (i := 5) rfl)).pre (fun w hs => hs.front (i := 5) rfl)) ?_
        rintro _ _ ⟨rfl, rfl⟩
        by_cases h0 : (storeM D ep xs jLog).1 = 0
        · rw [storeJ, if_pos h0] at hdo0
          rw [h0] at hdo0 ⊢
          repeat' (first|refine bk ?_|refine bkc ?_|refine bks ?_|refine bkd ?_|refine bkq (fun q => ?_)|(refine bk2 ?_ ?_<;>(first|exact bkn|(refine bkk ?_;intro h))))
          refine QS.turn (G' := rjA b bx { J with e := ep, xs := xs } :: refA bx (toR (storeM D ep xs jLog).2) :: F) (fun w hs => rjA_shut (A := A) (c := c) w (((((((hs.kick (i := 1) rfl).kick (i := 1) rfl).kick (i := 2) rfl).front (i := 1) rfl).front (i := 2) rfl).front (i := 1) rfl))) (QS.retV Tryz.results91 rfl ⟨?_, ?_⟩) <;> rw [hdo0] <;> rfl
        · rw [storeJ, if_neg h0] at hdo0
          repeat' (first|refine bk ?_|refine bkc ?_|refine bks ?_|refine bkd ?_|refine bkq (fun q => ?_)|(refine bk2 ?_ ?_<;>(first|exact bkn|(refine bkk ?_;intro h))))
          refine QS.turn (G' := rjA b bx J :: refA bx (toR (storeM D ep xs jLog).2) :: F) (fun w hs => rjA_shut (A := A1) (c := c1) w ((((((hs.kick (i := 1) rfl).kick (i := 1) rfl).kick (i := 3) rfl).front (i := 2) rfl).front (i := 2) rfl))) (QS.retV Tryz.results91 rfl ⟨?_, ?_⟩) <;> rw [hdo0] <;> rfl
  · have htx2 := (htx rfl).1
    simp only [List.headD_cons] at htx2
    subst htx2
    by_cases hp : ep < J.p ∨ ep ≠ J.p ∨ ep ≠ J.e
    · have hdo : doJ J D ⟨kW, ep, [x]⟩ = (10, J, D) := by
        rw [doJ, if_neg kWP, if_pos (by rcases hp with h | h; exact .inl h; exact .inr ⟨rfl, h⟩)]
      repeat' (first|refine bk ?_|refine bkc ?_|refine bks ?_|refine bkd ?_|refine bkq (fun q => ?_)|(refine bk2 ?_ ?_<;>(first|exact bkn|(refine bkk ?_;intro h))))
      all_goals
        refine QS.turn (G' := rjA b bx J :: refA bx (toR D) :: F) (fun w hs => ((shutJ _ _ w hs).kick (i := 1) rfl).kick (i := 1) rfl) (QS.retV Tryz.results91 rfl ⟨?_, ?_⟩) <;> rw [hdo] <;> rfl
    · have hdo : doJ J D ⟨kW, ep, [x]⟩ = addJ J D x := by
        rw [doJ, if_neg kWP, if_neg (by rintro (h | h); exact hp (.inl h); exact hp (.inr h.2)), if_pos rfl]; rfl
      simp only [not_or, Decidable.not_not, ne_eq] at hp
      obtain ⟨hp1, hp2, hp3⟩ := hp
      by_cases h1 : (J.xs.length : Int) + 1 < x.n
      · have ha : addJ J D x = (11, J, D) := by rw [addJ, if_pos (.inl h1)]
        rw [ha] at hdo
        repeat' (first|refine bk ?_|refine bkc ?_|refine bks ?_|refine bkd ?_|refine bkq (fun q => ?_)|(refine bk2 ?_ ?_<;>(first|exact bkn|(refine bkk ?_;intro h))))
        all_goals
          refine QS.turn (G' := rjA b bx J :: refA bx (toR D) :: F) (fun w hs => ((shutJ _ _ w hs).kick (i := 1) rfl).kick (i := 1) rfl) (QS.retV Tryz.results91 rfl ⟨?_, ?_⟩) <;> rw [hdo] <;> rfl
      by_cases h2 : x.n ≤ (J.xs.length : Int)
      · obtain ⟨y, hy⟩ : ∃ y, J.xs[(x.n - 1).toNat]? = some y := ⟨J.xs[(x.n - 1).toNat]'(by omega), List.getElem?_eq_getElem (by omega)⟩
        repeat' (first|refine bk ?_|refine bkc ?_|refine bks ?_|refine bkq (fun q => ?_)|(refine bk2 ?_ ?_<;>(first|exact bkn|(refine bkk ?_;intro h))))
        refine CS.drawQ rfl mixed (by kernel_rfl) ?_
        repeat' (first|refine bk ?_|refine bkc ?_|refine bks ?_|refine bkq (fun q => ?_)|(refine bk2 ?_ ?_<;>(first|exact bkn|(refine bkk ?_;intro h))))
        refine CS.world fun hw => ?_
        refine CS.drawQ rfl mixed (by kernel_rfl) ?_
        repeat' (first|refine bk ?_|refine bkc ?_|refine bks ?_|refine bkq (fun q => ?_)|(refine bk2 ?_ ?_<;>(first|exact bkn|(refine bkk ?_;intro h))))
        refine WQ.idx TT (Rd.slc (i := 2) rfl) rfl rfl rfl (by omega) hy rfl rfl rfl rfl hw (fun b2 o hA => ?_)
        repeat' (first|refine bk ?_|refine bkc ?_|refine bks ?_|refine bkq (fun q => ?_)|(refine bk2 ?_ ?_<;>(first|exact bkn|(refine bkk ?_;intro h))))
        refine WQ.s (op1_at TT hA rfl rfl rfl rfl) rfl ?_
        repeat' (first|refine bk ?_|refine bkc ?_|refine bks ?_|refine bkq (fun q => ?_)|(refine bk2 ?_ ?_<;>(first|exact bkn|(refine bkk ?_;intro h))))
        refine WQ.idx TT (Rd.slc (i := 3) rfl) rfl rfl rfl (by omega) (x := x) rfl rfl rfl rfl rfl hw (fun b3 o3 hA3 => ?_)
        repeat' (first|refine bk ?_|refine bkc ?_|refine bks ?_|refine bkq (fun q => ?_)|(refine bk2 ?_ ?_<;>(first|exact bkn|(refine bkk ?_;intro h))))
        refine WQ.s (op1_at TT hA3 rfl rfl rfl rfl) rfl ?_
        refine WQ.s (op1_neS TT cmp49 rfl rfl rfl rfl rfl) rfl ?_
        rw [show (!(decide (y.n = x.n) && (decide (y.s = x.s) && true))) = !decide (y = x) from by
          obtain ⟨n1, s1⟩ := x; obtain ⟨n2, s2⟩ := y; simp]
        by_cases hyx : y = x
        · rw [decide_eq_true hyx]
          have ha : addJ J D x = (0, J, D) := by
            rw [addJ, if_neg (by rw [hy, hyx]; simp only [ne_eq, not_true_eq_false, and_false, or_false]; exact h1), if_pos h2]
          rw [ha] at hdo
          repeat' (first|refine bk ?_|refine bkc ?_|refine bks ?_|refine bkq (fun q => ?_)|(refine bk2 ?_ ?_<;>(first|exact bkn|(refine bkk ?_;intro h))))
          refine QS.turn (G' := rjA b bx J :: refA bx (toR D) :: F) (fun w hs => ((shutJ _ _ w hs).kick (i := 1) rfl).kick (i := 1) rfl) (QS.retV Tryz.results91 rfl ⟨?_, ?_⟩) <;> rw [hdo] <;> rfl
        · rw [decide_eq_false hyx]
          have ha : addJ J D x = (11, J, D) := by
            rw [addJ, if_pos (.inr ⟨h2, by rw [hy]; exact fun e => hyx (Option.some.inj e)⟩)]
          rw [ha] at hdo
          repeat' (first|refine bk ?_|refine bkc ?_|refine bks ?_|refine bkq (fun q => ?_)|(refine bk2 ?_ ?_<;>(first|exact bkn|(refine bkk ?_;intro h))))
          refine QS.turn (G' := rjA b bx J :: refA bx (toR D) :: F) (fun w hs => ((shutJ _ _ w hs).kick (i := 1) rfl).kick (i := 1) rfl) (QS.retV Tryz.results91 rfl ⟨?_, ?_⟩) <;> rw [hdo] <;> rfl
      · have ha : addJ J D x = ((addM D x.n x.s jLog).1, if (addM D x.n x.s jLog).1 = 0 then { J with xs := J.xs ++ [x] } else J, (addM D x.n x.s jLog).2) := by
          rw [addJ, if_neg (fun e => by rcases e with e | e; exact h1 e; exact h2 e.1), if_neg h2]
        rw [ha] at hdo
        repeat' (first|refine bk ?_|refine bkc ?_|refine bks ?_|refine bkq (fun q => ?_)|(refine bk2 ?_ ?_<;>(first|exact bkn|(refine bkk ?_;intro h))))
        refine CS.drawQ rfl mixed (by kernel_rfl) ?_
        repeat' (first|refine bk ?_|refine bkc ?_|refine bks ?_|refine bkq (fun q => ?_)|(refine bk2 ?_ ?_<;>(first|exact bkn|(refine bkk ?_;intro h))))
        refine CS.world fun hw => ?_
        refine CS.drawT 8 mixed (by kernel_rfl) rfl ?_
        repeat' (first|refine bk ?_|refine bkc ?_|refine bks ?_|refine bkd ?_|refine bkh ?_|refine bkq (fun q => ?_)|((first|refine bk2 ?_ ?_|refine bk2h ?_ ?_)<;>(first|exact bkn|(refine bkk ?_;intro h))))
        refine WH.idx TT (Rd.slc (i := 3) rfl) rfl rfl rfl (by omega) (x := x) rfl rfl rfl rfl rfl hw (fun b3 o3 hA3 => ?_)
        refine WH.s (op1_at TT hA3 rfl rfl rfl rfl) rfl ?_
        repeat' (first|refine bk ?_|refine bkc ?_|refine bks ?_|refine bkd ?_|refine bkh ?_|refine bkq (fun q => ?_)|((first|refine bk2 ?_ ?_|refine bk2h ?_ ?_)<;>(first|exact bkn|(refine bkk ?_;intro h))))
        refine WL.call c133 rfl rfl rfl rfl ((ref_Add bx D hD jLog x.n x.s W0 _).pre (fun w hs => hs.front (i := 4) rfl)) ?_
        rintro _ _ ⟨rfl, rfl⟩
        by_cases h0 : (addM D x.n x.s jLog).1 = 0
        · rw [h0] at hdo ⊢
          rw [if_pos rfl] at hdo
          repeat' (first|refine bk ?_|refine bkc ?_|refine bks ?_|refine bkd ?_|refine bkq (fun q => ?_)|(refine bk2 ?_ ?_<;>(first|exact bkn|(refine bkk ?_;intro h))))
          refine WL.turn (fun w hs => hs.slcNil entE 49) ?_
          refine WL.append TT 0 (E := entE) (xs := []) (ys := J.xs) rfl rfl rfl rfl rfl (Rd.slc (i := 4) rfl) rfl rfl rfl rfl rfl (by decide) (by simp only [List.length_nil]; omega) (fun _ _ => rfl) rfl (fun A5 c5 => ?_)
          rw [List.nil_append]
          repeat' (first|refine bk ?_|refine bkc ?_|refine bks ?_|refine bkd ?_|refine bkq (fun q => ?_)|(refine bk2 ?_ ?_<;>(first|exact bkn|(refine bkk ?_;intro h))))
          refine WL.idx TT (Rd.slc (i := 5) rfl) rfl rfl rfl (by omega) (x := x) rfl rfl rfl rfl rfl (fun bb o hA => ?_)
          refine WL.s (op1_at TT hA rfl rfl rfl rfl) rfl ?_
          refine WL.buildSlice TT rfl rfl rfl rfl rfl rfl rfl rfl (fun q => ?_)
          refine WL.append TT 1 (E := entE) (xs := J.xs) (ys := [x]) rfl rfl rfl rfl rfl (Rd.row (i := 0) rfl rfl) rfl rfl rfl rfl rfl (by decide) (by simp only [List.length_cons, List.length_nil]; omega) (fun _ _ => rfl) rfl (fun A6 c6 => ?_)
          repeat' (first|refine bk ?_|refine bkc ?_|refine bks ?_|refine bkd ?_|refine bkq (fun q => ?_)|(refine bk2 ?_ ?_<;>(first|exact bkn|(refine bkk ?_;intro h))))
          refine QS.turn (G' := rjA b bx { J with xs := J.xs ++ [x] } :: refA bx (toR (addM D x.n x.s jLog).2) :: F) (fun w hs => rjA_shut (A := A6) (c := c6) w ((((hs.drop.kick (i := 2) rfl).kick (i := 3) rfl).kick (i := 3) rfl).front (i := 2) rfl)) (QS.retV Tryz.results91 rfl ⟨?_, ?_⟩) <;> rw [hdo] <;> rfl
        · rw [if_neg h0] at hdo
          repeat' (first|refine bk ?_|refine bkc ?_|refine bks ?_|refine bkd ?_|refine bkq (fun q => ?_)|(refine bk2 ?_ ?_<;>(first|exact bkn|(refine bkk ?_;intro h))))
          refine QS.turn (G' := rjA b bx J :: refA bx (toR (addM D x.n x.s jLog).2) :: F) (fun w hs => rjA_shut (A := A1) (c := c1) w (((((hs.kick (i := 1) rfl).kick (i := 3) rfl).front (i := 2) rfl).front (i := 2) rfl))) (QS.retV Tryz.results91 rfl ⟨?_, ?_⟩) <;> rw [hdo] <;> rfl
end Go.Proofs.YtfolmcpfdcgliaaGreat.B

set_option linter.unusedVariables false
set_option linter.unusedSimpArgs false
set_option maxRecDepth 8000
/-! The document's own node handles a request. -/
namespace Go.Proofs.YtfolmcpfdcgliaaGreat.B
open Go Go.Proofs
attribute [local irreducible] WL CS QS WQ WH WS Fn Op1 row Sat
attribute [local irreducible] slc rjA refA
set_option maxHeartbeats 4000000 in
theorem r_Handle (b bx : Nat) (J : Jn) (hJ : JnOk J) (D : Disk) (hD : DiskOk D) (s : ByteArray) (hs : s.size ≤ 9223372036854775807) (W0 : World) (F : List SL) :
    Fn Tryz.prog 46 [.pointer (some ⟨b, 0, none⟩), .string s] W0 (rjA b bx J :: refA bx (toR D) :: F)
      (Ret fun v G' => v = .string (mk (handJ J D (bs s)).1) ∧ G' = rjA b bx (handJ J D (bs s)).2.1 :: refA bx (toR (handJ J D (bs s)).2.2) :: F) := by
  have i12 : I64 12 := by unfold I64; decide
  refine Fn.ex (fun w hs => rjA_open w hs) ?_
  rintro ⟨A1, c1⟩
  refine Fn.enter Tryz.func46 rfl Tryz.ntmps46 rfl ?_
  simp only [rjC]
  cases hd : J.dead with
  | true =>
    have hh : handJ J D (bs s) = (saidB 12, J, D) := by rw [handJ, if_pos hd]
    repeat' (first|refine bk ?_|refine bkc ?_|refine bks ?_|refine bkd ?_|refine bkq (fun q => ?_)|(refine bk2 ?_ ?_<;>(first|exact bkn|(refine bkk ?_;intro h))))
    refine WL.call c89 rfl rfl rfl rfl (r_answer 12 i12 W0 _) ?_
    rintro _ G2 ⟨rfl, hG2⟩
    rw [hG2]; clear hG2 G2
    repeat' (first|refine bk ?_|refine bkc ?_|refine bks ?_|refine bkd ?_|refine bkq (fun q => ?_)|(refine bk2 ?_ ?_<;>(first|exact bkn|(refine bkk ?_;intro h))))
    refine QS.turn (G' := rjA b bx J :: refA bx (toR D) :: F) (fun w hs => rjA_shut (A := A1) (c := c1) w (by rw [rjC, hd]; exact hs)) (QS.retV Tryz.results46 rfl ⟨?_, ?_⟩) <;> rw [hh] <;> rfl
  | false =>
    repeat' (first|refine bk ?_|refine bkc ?_|refine bks ?_|refine bkd ?_|refine bkq (fun q => ?_)|(refine bk2 ?_ ?_<;>(first|exact bkn|(refine bkk ?_;intro h))))
    refine WL.turn (G' := rjA b bx J :: refA bx (toR D) :: F) (fun w hs => (rjA_shut (A := A1) (c := c1) w (by rw [rjC, hd]; exact hs))) ?_
    refine WL.call c90 rfl rfl rfl rfl (r_read s hs W0 _) ?_
    intro v G2 hv
    unfold readR at hv
    cases hq : readQ (bs s) with
    | none =>
      rw [hq] at hv
      obtain ⟨k, e, t, A, n, c, rfl, hG2⟩ := hv
      rw [hG2]; clear hG2 G2
      have hh : handJ J D (bs s) = (saidB 2, J, D) := by rw [handJ, if_neg (by rw [hd]; decide), hq]
      repeat' (first|refine bk ?_|refine bkc ?_|refine bks ?_|refine bkd ?_|refine bkq (fun q => ?_)|(refine bk2 ?_ ?_<;>(first|exact bkn|(refine bkk ?_;intro h))))
      refine WL.call c89 rfl rfl rfl rfl (r_answer 2 (by unfold I64; decide) W0 _) ?_
      rintro _ G2 ⟨rfl, hG2⟩
      rw [hG2]; clear hG2 G2
      repeat' (first|refine bk ?_|refine bkc ?_|refine bks ?_|refine bkd ?_|refine bkq (fun q => ?_)|(refine bk2 ?_ ?_<;>(first|exact bkn|(refine bkk ?_;intro h))))
      refine QS.turn (G' := rjA b bx J :: refA bx (toR D) :: F) (fun w hs => hs.drop) (QS.retV Tryz.results46 rfl ⟨?_, ?_⟩) <;> rw [hh] <;> rfl
    | some r0 =>
      rw [hq] at hv
      obtain ⟨tx, A, c, rfl, htx, hG2⟩ := hv
      rw [hG2]; clear hG2 G2
      have hqo : RqOk r0 := by
        rw [readQ] at hq
        obtain ⟨l, _, h2⟩ := Option.bind_eq_some_iff.1 hq
        exact readL_ok h2
      have hh : handJ J D (bs s) = ansJ r0 (doJ J D r0) := by rw [handJ, if_neg (by rw [hd]; decide), hq]
      repeat' (first|refine bk ?_|refine bkc ?_|refine bks ?_|refine bkd ?_|refine bkq (fun q => ?_)|(refine bk2 ?_ ?_<;>(first|exact bkn|(refine bkk ?_;intro h))))
      refine WL.call c91 rfl rfl rfl rfl ((r_does b bx J hJ D hD r0 hqo tx htx A c W0 (row q 171 [.string r0.kind, .int .i64 r0.epoch, .int .i64 tx, .slice A r0.xs.length c] :: F)).pre (fun w hs => (((hs.front (i := 0) rfl).front (i := 3) rfl).front (i := 3) rfl).front (i := 3) rfl)) ?_
      rintro _ _ ⟨rfl, rfl⟩
      clear hq
      generalize doJ J D r0 = r at hh ⊢
      obtain ⟨er, J1, D1⟩ := r
      rw [ansJ] at hh
      simp only at hh ⊢
      by_cases h10 : er = 10 ∨ er = 11
      · rw [if_pos h10] at hh
        rcases h10 with rfl | rfl
        all_goals
          repeat' (first|refine bk ?_|refine bkc ?_|refine bks ?_|refine bkd ?_|refine bkq (fun q => ?_)|(refine bk2 ?_ ?_<;>(first|exact bkn|(refine bkk ?_;intro h))))
          refine WL.call c89 rfl rfl rfl rfl (r_answer _ (by unfold I64; decide) W0 _) ?_
          rintro _ G2 ⟨rfl, hG2⟩
          rw [hG2]; clear hG2 G2
          repeat' (first|refine bk ?_|refine bkc ?_|refine bks ?_|refine bkd ?_|refine bkq (fun q => ?_)|(refine bk2 ?_ ?_<;>(first|exact bkn|(refine bkk ?_;intro h))))
          refine QS.turn (G' := rjA b bx J1 :: refA bx (toR D1) :: F) (fun w hs => hs.kick (i := 2) rfl) (QS.retV Tryz.results46 rfl ⟨?_, ?_⟩) <;> rw [hh] <;> rfl
      rw [if_neg h10] at hh
      simp only [not_or] at h10
      obtain ⟨h10, h11⟩ := h10
      by_cases h0 : er = 0
      rotate_left 1
      · rw [if_pos h0] at hh
        refine WL.ex (fun w hs => rjA_open w hs) ?_
        rintro ⟨A2, c2⟩
        simp only [rjC]
        repeat' (first|refine bk ?_|refine bkc ?_|refine bks ?_|refine bkd ?_|refine bkq (fun q => ?_)|(refine bk2 ?_ ?_<;>(first|exact bkn|(refine bkk ?_;intro h))))
        refine WL.call c89 rfl rfl rfl rfl (r_answer 12 i12 W0 _) ?_
        rintro _ G2 ⟨rfl, hG2⟩
        rw [hG2]; clear hG2 G2
        repeat' (first|refine bk ?_|refine bkc ?_|refine bks ?_|refine bkd ?_|refine bkq (fun q => ?_)|(refine bk2 ?_ ?_<;>(first|exact bkn|(refine bkk ?_;intro h))))
        refine QS.turn (G' := rjA b bx { J1 with dead := true } :: refA bx (toR D1) :: F) (fun w hs => rjA_shut (A := A2) (c := c2) w (hs.kick (i := 3) rfl)) (QS.retV Tryz.results46 rfl ⟨?_, ?_⟩) <;> rw [hh] <;> rfl
      subst h0
      rw [if_neg (by decide)] at hh
      obtain ⟨kind, ep, xs⟩ := r0
      obtain ⟨_, _, hkind⟩ := hqo
      simp only at hkind hh ⊢
      rcases hkind with ⟨rfl, _⟩ | ⟨rfl, _⟩ | ⟨rfl, _⟩
      · rw [if_pos rfl] at hh
        refine WL.ex (fun w hs => rjA_open w hs) ?_
        rintro ⟨A2, c2⟩
        simp only [rjC]
        repeat' (first|refine bk ?_|refine bkc ?_|refine bks ?_|refine bkd ?_|refine bkq (fun q => ?_)|(refine bk2 ?_ ?_<;>(first|exact bkn|(refine bkk ?_;intro h))))
        refine WL.call c92 rfl rfl rfl rfl (r_told J1.e A2 _ c2 J1.xs rfl W0 _ (Rd.slc (i := 1) rfl)) ?_
        rintro _ G2 ⟨rfl, hG2⟩
        rw [hG2]; clear hG2 G2
        repeat' (first|refine bk ?_|refine bkc ?_|refine bks ?_|refine bkd ?_|refine bkq (fun q => ?_)|(refine bk2 ?_ ?_<;>(first|exact bkn|(refine bkk ?_;intro h))))
        refine QS.turn (G' := rjA b bx J1 :: refA bx (toR D1) :: F) (fun w hs => rjA_shut (A := A2) (c := c2) w (hs.kick (i := 3) rfl)) (QS.retV Tryz.results46 rfl ⟨?_, ?_⟩) <;> rw [hh] <;> rfl
      · rw [if_neg kAP] at hh
        repeat' (first|refine bk ?_|refine bkc ?_|refine bks ?_|refine bkd ?_|refine bkq (fun q => ?_)|(refine bk2 ?_ ?_<;>(first|exact bkn|(refine bkk ?_;intro h))))
        refine WL.call c89 rfl rfl rfl rfl (r_answer 0 (by unfold I64; decide) W0 _) ?_
        rintro _ G2 ⟨rfl, hG2⟩
        rw [hG2]; clear hG2 G2
        repeat' (first|refine bk ?_|refine bkc ?_|refine bks ?_|refine bkd ?_|refine bkq (fun q => ?_)|(refine bk2 ?_ ?_<;>(first|exact bkn|(refine bkk ?_;intro h))))
        refine QS.turn (G' := rjA b bx J1 :: refA bx (toR D1) :: F) (fun w hs => hs.kick (i := 2) rfl) (QS.retV Tryz.results46 rfl ⟨?_, ?_⟩) <;> rw [hh] <;> rfl
      · rw [if_neg kWP] at hh
        repeat' (first|refine bk ?_|refine bkc ?_|refine bks ?_|refine bkd ?_|refine bkq (fun q => ?_)|(refine bk2 ?_ ?_<;>(first|exact bkn|(refine bkk ?_;intro h))))
        refine WL.call c89 rfl rfl rfl rfl (r_answer 0 (by unfold I64; decide) W0 _) ?_
        rintro _ G2 ⟨rfl, hG2⟩
        rw [hG2]; clear hG2 G2
        repeat' (first|refine bk ?_|refine bkc ?_|refine bks ?_|refine bkd ?_|refine bkq (fun q => ?_)|(refine bk2 ?_ ?_<;>(first|exact bkn|(refine bkk ?_;intro h))))
        refine QS.turn (G' := rjA b bx J1 :: refA bx (toR D1) :: F) (fun w hs => hs.kick (i := 2) rfl) (QS.retV Tryz.results46 rfl ⟨?_, ?_⟩) <;> rw [hh] <;> rfl
end Go.Proofs.YtfolmcpfdcgliaaGreat.B
