import Derived.Test.YtejdkcnbflpfaaaGreatMg38
import Derived.Test.YtejdkcnbflpfaaaGreatMg39
import Derived.Test.YtejdkcnbflpfaaaGreatMg26
import Derived.Test.YtejdkcnbflpfaaaGreatMg43
import Derived.Test.YtejdkcnbflpfaaaGreatMg25
import Derived.Test.YtejdkcnbflpfaaaGreatMg28
set_option linter.unusedVariables false
set_option linter.unusedSimpArgs false
set_option maxRecDepth 8000
/-! Calls that read one block: quiet, whatever stands besides. -/
namespace Go.Proofs.YtejdkcnbflpfaaaGreat.B
open Go Go.Proofs Go.RowKit
theorem sat_but {w : World} {b : Nat} {o : Obj} (hb : w.heap[b]? = some o) : Sat w [blk b o, fun h => ∀ k, k < w.heap.size → k ≠ b → h k = w.heap[k]?] w :=
  ⟨Base.refl w, [(blk b o, fun k => if k = b then some o else none), ((fun h => ∀ k, k < w.heap.size → k ≠ b → h k = w.heap[k]?), fun k => if k = b then none else w.heap[k]?)], rfl, fun x hx => by
    simp only [List.mem_cons, List.not_mem_nil, or_false] at hx
    rcases hx with rfl | rfl
    · refine ⟨by simp [B.blk], fun k o' hk => ?_⟩
      simp only at hk
      split at hk
      · rename_i e; subst e; injection hk with hk; subst hk; exact hb
      · cases hk
    · refine ⟨fun k _ hne => by simp [hne], fun k o' hk => ?_⟩
      simp only at hk
      split at hk
      · cases hk
      · exact hk, by
    simp only [List.pairwise_cons, List.mem_cons, List.not_mem_nil, or_false, forall_eq, List.Pairwise.nil, and_true, false_implies, implies_true]
    intro k
    simp only
    by_cases e : k = b
    · simp [e]
    · simp [e]⟩
theorem below_but {w w' : World} {b : Nat} {o : Obj} (hb : w.heap[b]? = some o) (s : Sat w [blk b o, fun h => ∀ k, k < w.heap.size → k ≠ b → h k = w.heap[k]?] w') : Below w.heap.size w w' := by
  have h1 : w'.heap[b]? = some o := s.blk
  obtain ⟨hp, h, hle⟩ := s.drop.head
  have hblock : ∀ k, k < w.heap.size → w'.heap[k]? = w.heap[k]? := fun k hk => by
    by_cases e : k = b
    · subst e; rw [h1, hb]
    · have h2 := h k hk e
      have h3 : w.heap[k]? = some w.heap[k] := Array.getElem?_eq_getElem (by omega)
      rw [h3] at h2 ⊢
      exact hle k _ h2
  refine ⟨s.base.os, s.base.tape, s.base.output, ?_, hblock⟩
  have hlt : b < w.heap.size := (Array.getElem?_eq_some_iff.1 hb).1
  have := hblock (w.heap.size - 1) (by omega)
  have h2 : w.heap[w.heap.size - 1]? = some (w.heap[w.heap.size - 1]'(by omega)) := Array.getElem?_eq_getElem (by omega)
  rw [h2] at this
  have := (Array.getElem?_eq_some_iff.1 this).1
  omega
/-- A call that reads one block, at a world. -/
theorem Fn.quiet {P : Program} {K : Nat} {vs : List Value} {W0 : World} {G Gq : List SL} {v : Value} (h : ∀ w, Sat W0 Gq w → ∃ b o, w.heap[b]? = some o ∧ ∀ W F, Fn P K vs W (blk b o :: F) (Ret fun u G' => u = v ∧ G' = blk b o :: F))
    (hG : ∀ w, Sat W0 G w → Sat W0 Gq w) : Fn P K vs W0 G (Ret fun u G' => u = v ∧ G' = G) := fun w hs => by
  obtain ⟨b, o, hb, hf⟩ := h w (hG w hs)
  refine (hf w _ w (sat_but hb)).mono fun e w' ⟨G', h1, h2⟩ => ?_
  cases e with
  | returned u =>
    obtain ⟨rfl, rfl⟩ := h1
    exact ⟨G, ⟨rfl, rfl⟩, hs.below (below_but hb h2)⟩
  | panicked ch => exact h1.elim
  | outgrown => exact h1.elim
attribute [local irreducible] WL CS QS WQ WH WS Fn Op1 row Sat
theorem j_PromisedR (b bd : Nat) (A : Option Addr) (c : Nat) (J : Jn) (hd : J.dead = false) (W0 : World) (F : List SL) :
    Fn Tryz.prog 24 [.pointer (some ⟨b, 0, none⟩)] W0 (row b 76 (jCells bd A c J) :: F) (Ret fun v G' => v = .int .i64 J.p ∧ G' = row b 76 (jCells bd A c J) :: F) := by
  refine Fn.enter Tryz.func24 rfl Tryz.ntmps24 rfl ?_
  simp only [jCells, hd]
  repeat' (first|refine bk ?_|refine bkc ?_|refine bks ?_|refine bkd ?_|refine bkq (fun q => ?_)|(refine bk2 ?_ ?_<;>(first|exact bkn|(refine bkk ?_;intro h))))
  exact QS.retV Tryz.results24 rfl ⟨rfl, rfl⟩
theorem j_PromisedQ {b bd : Nat} {J : Jn} (hd : J.dead = false) {W0 : World} {F : List SL} : ∀ G', (∀ w, Sat W0 G' w → Sat W0 (jA b bd J :: F) w) →
    Fn Tryz.prog 24 [.pointer (some ⟨b, 0, none⟩)] W0 G' (Ret fun v G'' => v = .int .i64 J.p ∧ G'' = G') := fun G' hG =>
  Fn.quiet (fun w hs => by
    obtain ⟨⟨A, c⟩, hx⟩ := jA_open w hs
    exact ⟨b, _, Sat.blk (b := b) (by unfold row at hx; exact hx), fun W F => by have h := j_PromisedR b bd A c J hd W F; unfold row at h; exact h⟩) hG
end Go.Proofs.YtejdkcnbflpfaaaGreat.B

set_option linter.unusedVariables false
set_option linter.unusedSimpArgs false
set_option maxRecDepth 8000
/-! A journal node handles a request. -/
namespace Go.Proofs.YtejdkcnbflpfaaaGreat.B
open Go Go.Proofs
attribute [local irreducible] WL CS QS WQ WH WS Fn Op1 row Sat
attribute [local irreducible] slc diskA jA

set_option maxHeartbeats 4000000 in
theorem j_Handle (b bd : Nat) (J : Jn) (hJ : JnOk J) (D : Disk) (hD : DiskOk D) (s : ByteArray) (hs : s.size ≤ 9223372036854775807) (W0 : World) (F : List SL) :
    Fn Tryz.prog 13 [.pointer (some ⟨b, 0, none⟩), .string s] W0 (jA b bd J :: diskA bd D :: F)
      (Ret fun v G' => v = .string (mk (handJ J D (bs s)).1) ∧ G' = jA b bd (handJ J D (bs s)).2.1 :: diskA bd (handJ J D (bs s)).2.2 :: F) := by
  have i12 : I64 12 := by unfold I64; decide
  refine Fn.ex (fun w hs => jA_open w hs) ?_
  rintro ⟨A1, c1⟩
  refine Fn.enter Tryz.func13 rfl Tryz.ntmps13 rfl ?_
  simp only [jCells]
  cases hd : J.dead with
  | true =>
    have hh : handJ J D (bs s) = (saidB 12, J, D) := by rw [handJ, if_pos hd]
    repeat' (first|refine bk ?_|refine bkc ?_|refine bks ?_|refine bkd ?_|refine bkq (fun q => ?_)|(refine bk2 ?_ ?_<;>(first|exact bkn|(refine bkk ?_;intro h))))
    refine WL.call c49 rfl rfl rfl rfl (j_said 12 i12 W0 _) ?_
    rintro _ G2 ⟨rfl, hG2⟩
    rw [hG2]; clear hG2 G2
    repeat' (first|refine bk ?_|refine bkc ?_|refine bks ?_|refine bkd ?_|refine bkq (fun q => ?_)|(refine bk2 ?_ ?_<;>(first|exact bkn|(refine bkk ?_;intro h))))
    refine QS.turn (G' := jA b bd J :: diskA bd D :: F) (fun w hs => jA_shut (A := A1) (c := c1) w (by rw [jCells, hd]; exact hs)) (QS.retV Tryz.results13 rfl ⟨?_, ?_⟩) <;> rw [hh] <;> rfl
  | false =>
    repeat' (first|refine bk ?_|refine bkc ?_|refine bks ?_|refine bkd ?_|refine bkq (fun q => ?_)|(refine bk2 ?_ ?_<;>(first|exact bkn|(refine bkk ?_;intro h))))
    revert q; intro q0
    refine WL.turn (G' := row q0 99 [.string ⟨#[]⟩, .int .i64 0, .slice none 0 0] :: jA b bd J :: diskA bd D :: F) (fun w hs => (jA_shut (A := A1) (c := c1) w (by rw [jCells, hd]; exact (hs.front (i := 2) rfl).front (i := 2) rfl)).front (i := 1) rfl) ?_
    refine WL.call c50 rfl rfl rfl rfl (j_read (cap := [.pointer (some ⟨q0, 0, none⟩)]) c51 s hs W0 _ (fun l => hand1R q0 l (jA b bd J :: diskA bd D :: F))
      (fun v G' => (v = .bool true ∧ ∃ q A c, readQ (bs s) = some q ∧ G' = row q0 99 [.string q.kind, .int .i64 q.epoch, .slice A q.xs.length c] :: slc entE 41 A c q.xs :: jA b bd J :: diskA bd D :: F) ∨
        (v = .bool false ∧ readQ (bs s) = none ∧ ∃ cs, G' = row q0 99 cs :: jA b bd J :: diskA bd D :: F))
      (fun l A c hl => by
        obtain ⟨h1, h2⟩ := joinOk_iff.1 (splitP_some hl).2
        exact hand1 q0 l h1 h2 A c W0 _) (fun _ _ h => h)
      (fun l v G' hl h => .inl ⟨rfl, by obtain ⟨q, A, c, h1, h2⟩ := h; exact ⟨q, A, c, by rw [readQ, hl]; exact h1, h2⟩⟩)
      (fun l ch G' hl h => ⟨h.2.1, .inr ⟨rfl, by rw [readQ, hl]; exact h.1, h.2.2⟩⟩) (fun hn => .inr ⟨rfl, by rw [readQ, hn]; rfl, _, rfl⟩)) ?_
    rintro _ G2 (⟨rfl, q, A, c, hq, rfl⟩ | ⟨rfl, hq, cs, rfl⟩)
    rotate_left 1
    · have hh : handJ J D (bs s) = (saidB 2, J, D) := by rw [handJ, if_neg (by rw [hd]; decide), hq]
      repeat' (first|refine bk ?_|refine bkc ?_|refine bks ?_|refine bkd ?_|refine bkq (fun q => ?_)|(refine bk2 ?_ ?_<;>(first|exact bkn|(refine bkk ?_;intro h))))
      refine WL.call c49 rfl rfl rfl rfl (j_said 2 (by unfold I64; decide) W0 _) ?_
      rintro _ G2 ⟨rfl, hG2⟩
      rw [hG2]; clear hG2 G2
      repeat' (first|refine bk ?_|refine bkc ?_|refine bks ?_|refine bkd ?_|refine bkq (fun q => ?_)|(refine bk2 ?_ ?_<;>(first|exact bkn|(refine bkk ?_;intro h))))
      refine QS.turn (G' := jA b bd J :: diskA bd D :: F) (fun w hs => hs.drop) (QS.retV Tryz.results13 rfl ⟨?_, ?_⟩) <;> rw [hh] <;> rfl
    have hqo : RqOk q := by
      rw [readQ] at hq
      obtain ⟨l, _, h2⟩ := Option.bind_eq_some_iff.1 hq
      exact readL_ok h2
    have hh : handJ J D (bs s) = ansJ q (doJ J D q) := by rw [handJ, if_neg (by rw [hd]; decide), hq]
    repeat' (first|refine bk ?_|refine bkc ?_|refine bks ?_|refine bkd ?_|refine bkq (fun q => ?_)|(refine bk2 ?_ ?_<;>(first|exact bkn|(refine bkk ?_;intro h))))
    refine WL.call c56 rfl rfl rfl rfl ((j_do b bd J hJ D hD q hqo A c W0 (row q0 99 [.string q.kind, .int .i64 q.epoch, .slice A q.xs.length c] :: F)).pre (fun w hs => (((hs.front (i := 0) rfl).front (i := 3) rfl).front (i := 3) rfl).front (i := 3) rfl)) ?_
    rintro _ _ ⟨rfl, rfl⟩
    clear hq
    generalize doJ J D q = r at hh ⊢
    obtain ⟨er, J1, D1⟩ := r
    rw [ansJ] at hh
    simp only at hh ⊢
    by_cases h10 : er = 10 ∨ er = 11
    · rw [if_pos h10] at hh
      rcases h10 with rfl | rfl
      all_goals
        repeat' (first|refine bk ?_|refine bkc ?_|refine bks ?_|refine bkd ?_|refine bkq (fun q => ?_)|(refine bk2 ?_ ?_<;>(first|exact bkn|(refine bkk ?_;intro h))))
        refine WL.call c49 rfl rfl rfl rfl (j_said _ (by unfold I64; decide) W0 _) ?_
        rintro _ G2 ⟨rfl, hG2⟩
        rw [hG2]; clear hG2 G2
        repeat' (first|refine bk ?_|refine bkc ?_|refine bks ?_|refine bkd ?_|refine bkq (fun q => ?_)|(refine bk2 ?_ ?_<;>(first|exact bkn|(refine bkk ?_;intro h))))
        refine QS.turn (G' := jA b bd J1 :: diskA bd D1 :: F) (fun w hs => hs.kick (i := 2) rfl) (QS.retV Tryz.results13 rfl ⟨?_, ?_⟩) <;> rw [hh] <;> rfl
    rw [if_neg h10] at hh
    simp only [not_or] at h10
    obtain ⟨h10, h11⟩ := h10
    by_cases h0 : er = 0
    rotate_left 1
    · rw [if_pos h0] at hh
      refine WL.ex (fun w hs => jA_open w hs) ?_
      rintro ⟨A2, c2⟩
      simp only [jCells]
      repeat' (first|refine bk ?_|refine bkc ?_|refine bks ?_|refine bkd ?_|refine bkq (fun q => ?_)|(refine bk2 ?_ ?_<;>(first|exact bkn|(refine bkk ?_;intro h))))
      refine WL.call c49 rfl rfl rfl rfl (j_said 12 i12 W0 _) ?_
      rintro _ G2 ⟨rfl, hG2⟩
      rw [hG2]; clear hG2 G2
      repeat' (first|refine bk ?_|refine bkc ?_|refine bks ?_|refine bkd ?_|refine bkq (fun q => ?_)|(refine bk2 ?_ ?_<;>(first|exact bkn|(refine bkk ?_;intro h))))
      refine QS.turn (G' := jA b bd { J1 with dead := true } :: diskA bd D1 :: F) (fun w hs => jA_shut (A := A2) (c := c2) w (hs.kick (i := 3) rfl)) (QS.retV Tryz.results13 rfl ⟨?_, ?_⟩) <;> rw [hh] <;> rfl
    subst h0
    rw [if_neg (by decide)] at hh
    obtain ⟨kind, ep, xs⟩ := q
    obtain ⟨_, _, hkind⟩ := hqo
    simp only at hkind hh ⊢
    rcases hkind with ⟨rfl, _⟩ | ⟨rfl, _⟩ | ⟨rfl, _⟩
    · rw [if_pos rfl] at hh
      refine WL.ex (fun w hs => jA_open w hs) ?_
      rintro ⟨A2, c2⟩
      simp only [jCells]
      repeat' (first|refine bk ?_|refine bkc ?_|refine bks ?_|refine bkd ?_|refine bkq (fun q => ?_)|(refine bk2 ?_ ?_<;>(first|exact bkn|(refine bkk ?_;intro h))))
      refine WL.call c57 rfl rfl rfl rfl (j_told J1.e A2 _ c2 J1.xs rfl W0 _ (Rd.slc (i := 1) rfl)) ?_
      rintro _ G2 ⟨rfl, hG2⟩
      rw [hG2]; clear hG2 G2
      repeat' (first|refine bk ?_|refine bkc ?_|refine bks ?_|refine bkd ?_|refine bkq (fun q => ?_)|(refine bk2 ?_ ?_<;>(first|exact bkn|(refine bkk ?_;intro h))))
      refine QS.turn (G' := jA b bd J1 :: diskA bd D1 :: F) (fun w hs => jA_shut (A := A2) (c := c2) w (hs.kick (i := 3) rfl)) (QS.retV Tryz.results13 rfl ⟨?_, ?_⟩) <;> rw [hh] <;> rfl
    · rw [if_neg kAP] at hh
      repeat' (first|refine bk ?_|refine bkc ?_|refine bks ?_|refine bkd ?_|refine bkq (fun q => ?_)|(refine bk2 ?_ ?_<;>(first|exact bkn|(refine bkk ?_;intro h))))
      refine WL.call c49 rfl rfl rfl rfl (j_said 0 (by unfold I64; decide) W0 _) ?_
      rintro _ G2 ⟨rfl, hG2⟩
      rw [hG2]; clear hG2 G2
      repeat' (first|refine bk ?_|refine bkc ?_|refine bks ?_|refine bkd ?_|refine bkq (fun q => ?_)|(refine bk2 ?_ ?_<;>(first|exact bkn|(refine bkk ?_;intro h))))
      refine QS.turn (G' := jA b bd J1 :: diskA bd D1 :: F) (fun w hs => hs.kick (i := 2) rfl) (QS.retV Tryz.results13 rfl ⟨?_, ?_⟩) <;> rw [hh] <;> rfl
    · rw [if_neg kWP] at hh
      repeat' (first|refine bk ?_|refine bkc ?_|refine bks ?_|refine bkd ?_|refine bkq (fun q => ?_)|(refine bk2 ?_ ?_<;>(first|exact bkn|(refine bkk ?_;intro h))))
      refine WL.call c49 rfl rfl rfl rfl (j_said 0 (by unfold I64; decide) W0 _) ?_
      rintro _ G2 ⟨rfl, hG2⟩
      rw [hG2]; clear hG2 G2
      repeat' (first|refine bk ?_|refine bkc ?_|refine bks ?_|refine bkd ?_|refine bkq (fun q => ?_)|(refine bk2 ?_ ?_<;>(first|exact bkn|(refine bkk ?_;intro h))))
      refine QS.turn (G' := jA b bd J1 :: diskA bd D1 :: F) (fun w hs => hs.kick (i := 2) rfl) (QS.retV Tryz.results13 rfl ⟨?_, ?_⟩) <;> rw [hh] <;> rfl
end Go.Proofs.YtejdkcnbflpfaaaGreat.B

set_option linter.unusedVariables false
set_option linter.unusedSimpArgs false
set_option maxRecDepth 8000
/-! The journal's laws: what they are made of. -/
namespace Go.Proofs.YtejdkcnbflpfaaaGreat.B
open Go Go.Proofs
attribute [local irreducible] WL CS QS WQ WH WS Fn Op1 row Sat
attribute [local irreducible] slc diskA jA

theorem law_pick (n m : Int) (hn : I64 n) (hm : 0 < m) (W0 : World) (G : List SL) :
    Fn Tryz.prog 19 [.int .i64 n, .int .i64 m] W0 G (Ret fun v G' => v = .int .i64 (pickM n m) ∧ G' = G) := by
  refine Fn.enter Tryz.func19 rfl Tryz.ntmps19 rfl ?_
  unfold I64 at hn
  have hm0 : decide (m = 0) = false := decide_eq_false (by omega)
  repeat' (first|refine bk ?_|refine bkc ?_|refine bks ?_|refine bkd ?_|refine bkq (fun q => ?_)|(refine bk2 ?_ ?_<;>(first|exact bkn|(refine bkk ?_;intro h))))
  all_goals
    refine WL.s (op1_rem TT rfl rfl (by omega)) rfl ?_
    repeat' (first|refine bk ?_|refine bkc ?_|refine bks ?_|refine bkd ?_|refine bkq (fun q => ?_)|(refine bk2 ?_ ?_<;>(first|exact bkn|(refine bkk ?_;intro h))))
    refine QS.retV Tryz.results19 rfl ⟨?_, rfl⟩
    first
      | (rw [pickM, if_pos (by assumption)]; rfl)
      | (rw [pickM, if_neg (by assumption)]; rfl)
theorem law_accept (ep : Int) (h : I64 ep) (A : Option Addr) (k c : Nat) (xs : List Ent) (hk : k = xs.length) (hl : xs.length ≤ 9223372036854775807) (W0 : World) (G : List SL) (hR : Rd W0 G entE A xs) :
    Fn Tryz.prog 32 [.int .i64 ep, .slice A k c] W0 G (Ret fun v G' => v = .string (if logOk ep xs = true then mk (joinB (accL ep xs)) else ⟨#[]⟩) ∧ G' = G) := by
  subst hk
  refine Fn.enter Tryz.func32 rfl Tryz.ntmps32 rfl ?_
  repeat' (first|refine bk ?_|refine bkc ?_|refine bks ?_|refine bkd ?_|refine bkq (fun q => ?_)|(refine bk2 ?_ ?_<;>(first|exact bkn|(refine bkk ?_;intro h))))
  refine WL.call c75 rfl rfl rfl rfl (j_Accept ep h A _ c xs rfl hl W0 _ hR) ?_
  rintro _ G2 ⟨rfl, hG2⟩
  rw [hG2]; clear hG2 G2
  cases hok : logOk ep xs with
  | false =>
    repeat' (first|refine bk ?_|refine bkc ?_|refine bks ?_|refine bkd ?_|refine bkq (fun q => ?_)|(refine bk2 ?_ ?_<;>(first|exact bkn|(refine bkk ?_;intro h))))
    exact QS.retV Tryz.results32 rfl ⟨rfl, rfl⟩
  | true =>
    repeat' (first|refine bk ?_|refine bkc ?_|refine bks ?_|refine bkd ?_|refine bkq (fun q => ?_)|(refine bk2 ?_ ?_<;>(first|exact bkn|(refine bkk ?_;intro h))))
    exact QS.retV Tryz.results32 rfl ⟨rfl, rfl⟩
theorem law_said (s : ByteArray) (hs : s.size ≤ 9223372036854775807) (W0 : World) (G : List SL) :
    Fn Tryz.prog 29 [.string s] W0 G (Ret fun v G' => v = .int .i64 (toldM (bs s)).2.2 ∧ G' = G) := by
  refine Fn.enter Tryz.func29 rfl Tryz.ntmps29 rfl ?_
  repeat' (first|refine bk ?_|refine bkc ?_|refine bks ?_|refine bkd ?_|refine bkq (fun q => ?_)|(refine bk2 ?_ ?_<;>(first|exact bkn|(refine bkk ?_;intro h))))
  refine WL.call c72 rfl rfl rfl rfl (j_Told s hs W0 _) ?_
  rintro _ _ ⟨A, c, rfl, rfl⟩
  repeat' (first|refine bk ?_|refine bkc ?_|refine bks ?_|refine bkd ?_|refine bkq (fun q => ?_)|(refine bk2 ?_ ?_<;>(first|exact bkn|(refine bkk ?_;intro h))))
  exact QS.turn (G' := G) (fun w hs => hs.drop.drop) (QS.retV Tryz.results29 rfl ⟨rfl, rfl⟩)
theorem law_add (ep : Int) (h : I64 ep) (n : Int) (s : ByteArray) (W0 : World) (G : List SL) :
    Fn Tryz.prog 31 [.int .i64 ep, .int .i64 n, .string s] W0 G (Ret fun v G' => v = .string (if fitsB n s = true then mk (joinB (addL ep ⟨n, s⟩)) else ⟨#[]⟩) ∧ G' = G) := by
  refine Fn.enter Tryz.func31 rfl Tryz.ntmps31 rfl ?_
  repeat' (first|refine bk ?_|refine bkc ?_|refine bks ?_|refine bkd ?_|refine bkq (fun q => ?_)|(refine bk2 ?_ ?_<;>(first|exact bkn|(refine bkk ?_;intro h))))
  refine WL.call c74 rfl rfl rfl rfl (j_Add ep h n s W0 _) ?_
  rintro _ G2 ⟨rfl, hG2⟩
  rw [hG2]; clear hG2 G2
  cases hok : fitsB n s with
  | false =>
    repeat' (first|refine bk ?_|refine bkc ?_|refine bks ?_|refine bkd ?_|refine bkq (fun q => ?_)|(refine bk2 ?_ ?_<;>(first|exact bkn|(refine bkk ?_;intro h))))
    exact QS.retV Tryz.results31 rfl ⟨rfl, rfl⟩
  | true =>
    repeat' (first|refine bk ?_|refine bkc ?_|refine bks ?_|refine bkd ?_|refine bkq (fun q => ?_)|(refine bk2 ?_ ?_<;>(first|exact bkn|(refine bkk ?_;intro h))))
    exact QS.retV Tryz.results31 rfl ⟨rfl, rfl⟩
theorem ent_ext {x y : Ent} (h1 : x.n = y.n) (h2 : x.s = y.s) : x = y := by cases x; cases y; simp_all
set_option maxHeartbeats 2000000 in
theorem law_begins (A B : Option Addr) (k c k2 c2 : Nat) (xs ys : List Ent) (hk : k = xs.length) (hk2 : k2 = ys.length) (hkb : k ≤ 1000000) (hkc : k2 ≤ 1000000) (W0 : World) (G : List SL) (hR : Rd W0 G entE A xs) (hR2 : Rd W0 G entE B ys) :
    Fn Tryz.prog 25 [.slice A k c, .slice B k2 c2] W0 G (Ret fun v G' => v = .bool (begB ys xs) ∧ G' = G) := by
  refine Fn.enter Tryz.func25 rfl Tryz.ntmps25 rfl ?_
  repeat' (first|refine bk ?_|refine bkc ?_|refine bks ?_|refine bkd ?_|refine bkq (fun q => ?_)|(refine bk2 ?_ ?_<;>(first|exact bkn|(refine bkk ?_;intro h))))
  · refine QS.retV Tryz.results25 rfl ⟨?_, rfl⟩
    rw [begB, decide_eq_false (by omega)]; rfl
  have hkk : ys.length ≤ xs.length := by omega
  refine CS.loop (X := Nat) (fun i => [(0, .slice A k c), (1, .slice B k2 c2), (5, .int .i64 (i : Int))]) (fun i => G)
    (fun i => i ≤ k2 ∧ xs.take i = ys.take i) (fun i => k2 - i) 0 ⟨rfl, rfl, rfl, trivial⟩ (fun w hs => hs) ⟨Nat.zero_le _, rfl⟩ ?_
  rintro i ⟨hi, he⟩
  refine CS.world fun hw => ?_
  repeat' (first|refine bk ?_|refine bkc ?_|refine bks ?_|refine bkd ?_|refine bkq (fun q => ?_)|(refine bk2 ?_ ?_<;>(first|exact bkn|(refine bkk ?_;intro h))))
  · obtain ⟨x, hx⟩ : ∃ x, xs[i]? = some x := ⟨xs[i]'(by omega), List.getElem?_eq_getElem (by omega)⟩
    obtain ⟨y, hy⟩ : ∃ y, ys[i]? = some y := ⟨ys[i]'(by omega), List.getElem?_eq_getElem (by omega)⟩
    refine WQ.idx TT hR rfl rfl hk (by omega) (by rw [Int.toNat_natCast]; exact hx) rfl rfl rfl rfl hw (fun b2 o hA => ?_)
    refine WQ.s (op1_at TT hA rfl rfl rfl rfl) rfl ?_
    repeat' (first|refine bk ?_|refine bkc ?_|refine bks ?_|refine bkd ?_|refine bkq (fun q => ?_)|(refine bk2 ?_ ?_<;>(first|exact bkn|(refine bkk ?_;intro h))))
    refine WQ.idx TT hR2 rfl rfl hk2 (by omega) (by rw [Int.toNat_natCast]; exact hy) rfl rfl rfl rfl hw (fun b3 o3 hA3 => ?_)
    refine WQ.s (op1_at TT hA3 rfl rfl rfl rfl) rfl ?_
    have hcmp : eqFs TT [(3, 0), (9, 1)] [.int .i64 x.n, .string x.s] [.int .i64 y.n, .string y.s] = some (decide (x.n = y.n) && decide (x.s = y.s)) := by
      have e : (decide (x.n = y.n) && decide (x.s = y.s)) = (decide (x.n = y.n) && (decide (x.s = y.s) && true)) := by rw [Bool.and_true]
      rw [e]; rfl
    refine WQ.s (op1_neS TT cmp41 rfl rfl rfl rfl hcmp) rfl ?_
    by_cases hxy : x = y
    · subst hxy
      simp only [decide_true, Bool.and_self, Bool.not_true]
      repeat' (first|refine bk ?_|refine bkc ?_|refine bks ?_|refine bkd ?_|refine bkq (fun q => ?_)|(refine bk2 ?_ ?_<;>(first|exact bkn|(refine bkk ?_;intro h))))
      refine QS.again (i + 1) ⟨by omega, ?_⟩ (by omega) ⟨rfl, rfl, ?_, trivial⟩ (fun w hs => hs)
      · rw [List.take_add_one, List.take_add_one, hx, hy, he]
      · rw [show ((i + 1 : Nat) : Int) = (i : Int) + 1 from by omega]; rfl
    · have : (decide (x.n = y.n) && decide (x.s = y.s)) = false := by
        rw [Bool.and_eq_false_iff, decide_eq_false_iff_not, decide_eq_false_iff_not]
        by_cases h1 : x.n = y.n
        · exact .inr fun h2 => hxy (ent_ext h1 h2)
        · exact .inl h1
      simp only [this, Bool.not_false]
      repeat' (first|refine bk ?_|refine bkc ?_|refine bks ?_|refine bkd ?_|refine bkq (fun q => ?_)|(refine bk2 ?_ ?_<;>(first|exact bkn|(refine bkk ?_;intro h))))
      refine QS.retV Tryz.results25 rfl ⟨?_, rfl⟩
      rw [begB, decide_eq_false (fun h => hxy ?_)]; rfl
      have h2 := h.2
      have h3 : (xs.take ys.length)[i]? = some x := by rw [List.getElem?_take_of_lt (by omega)]; exact hx
      rw [h2, hy] at h3
      exact (Option.some.inj h3).symm
  · refine QS.retV Tryz.results25 rfl ⟨?_, rfl⟩
    have hik : i = ys.length := by omega
    subst hik
    rw [begB, decide_eq_true ⟨hkk, by rw [he, List.take_length]⟩]; rfl
def deedV (kind ep : Int) (lA : Option Addr) (lk lc : Nat) (x : Ent) (raw : ByteArray) (n : Int) (kA' : Option Addr) (kk kc : Nat) : Value :=
  .agg #[.int .i64 kind, .int .i64 ep, .slice lA lk lc, .int .i64 x.n, .string x.s, .string raw, .int .i64 n, .slice kA' kk kc]
set_option maxHeartbeats 2000000 in
theorem law_asked (kind ep : Int) (lA : Option Addr) (lk lc : Nat) (l : List Ent) (x : Ent) (raw : ByteArray) (n : Int) (kA' : Option Addr) (kk kc : Nat) (hkd : I64 kind) (hep : I64 ep) (hlk : lk = l.length) (hl : l.length ≤ 9223372036854775807) (W0 : World) (G : List SL) (hR : Rd W0 G entE lA l) :
    Fn Tryz.prog 14 [deedV kind ep lA lk lc x raw n kA' kk kc] W0 G (Ret fun v G' => v = .string (askM kind ep l x raw) ∧ G' = G) := by
  subst hlk
  refine Fn.enter Tryz.func14 rfl Tryz.ntmps14 rfl ?_
  unfold deedV
  repeat' (first|refine bk ?_|refine bkc ?_|refine bks ?_|refine bkd ?_|refine bkq (fun q => ?_)|(refine bk2 ?_ ?_<;>(first|exact bkn|(refine bkk ?_;intro h))))
  refine WL.call c19 rfl rfl rfl rfl (law_pick kind 8 hkd (by decide) W0 _) ?_
  rintro _ G2 ⟨rfl, hG2⟩
  rw [hG2]; clear hG2 G2
  have hp := pickM_range (n := kind) (m := 8) (by decide)
  have ha : askM kind ep l x raw = if pickM kind 8 = 0 then mk (joinB (promL ep))
    else if pickM kind 8 = 1 then (if logOk ep l = true then mk (joinB (accL ep l)) else ⟨#[]⟩)
    else if pickM kind 8 ≤ 4 then (if 1 ≤ x.n ∧ x.n ≤ 300 ∧ x.s.size ≤ 600 then mk (joinB (addL ep x)) else ⟨#[]⟩) else raw := rfl
  generalize pickM kind 8 = p at hp ha ⊢
  generalize askM kind ep l x raw = out at ha ⊢
  repeat' (first|refine bk ?_|refine bkc ?_|refine bks ?_|refine bkd ?_|refine bkq (fun q => ?_)|(refine bk2 ?_ ?_<;>(first|exact bkn|(refine bkk ?_;intro h))))
  · refine WL.call c58 rfl rfl rfl rfl (r_Promise ep hep W0 _) ?_
    rintro _ G2 ⟨rfl, hG2⟩
    rw [hG2]; clear hG2 G2
    repeat' (first|refine bk ?_|refine bkc ?_|refine bks ?_|refine bkd ?_|refine bkq (fun q => ?_)|(refine bk2 ?_ ?_<;>(first|exact bkn|(refine bkk ?_;intro h))))
    refine QS.turn (G' := G) (fun w hs => hs.drop) (QS.retV Tryz.results14 rfl ⟨?_, rfl⟩)
    subst h; rw [ha]; rfl
  · refine WL.call c59 rfl rfl rfl rfl (r_Accept ep hep lA _ lc l rfl hl W0 _ hR.cons) ?_
    rintro _ G2 ⟨rfl, hG2⟩
    rw [hG2]; clear hG2 G2
    cases hok : logOk ep l with
    | false =>
      repeat' (first|refine bk ?_|refine bkc ?_|refine bks ?_|refine bkd ?_|refine bkq (fun q => ?_)|(refine bk2 ?_ ?_<;>(first|exact bkn|(refine bkk ?_;intro h))))
      refine QS.turn (G' := G) (fun w hs => hs.drop) (QS.retV Tryz.results14 rfl ⟨?_, rfl⟩)
      subst h; rw [ha, hok]; rfl
    | true =>
      repeat' (first|refine bk ?_|refine bkc ?_|refine bks ?_|refine bkd ?_|refine bkq (fun q => ?_)|(refine bk2 ?_ ?_<;>(first|exact bkn|(refine bkk ?_;intro h))))
      refine QS.turn (G' := G) (fun w hs => hs.drop) (QS.retV Tryz.results14 rfl ⟨?_, rfl⟩)
      subst h; rw [ha, hok]; rfl
  iterate 3 (
    · refine WL.call c60 rfl rfl rfl rfl (r_Add ep hep x.n x.s W0 _) ?_
      rintro _ G2 ⟨rfl, hG2⟩
      rw [hG2]; clear hG2 G2
      unfold fitsR
      by_cases hx : 1 ≤ x.n ∧ x.n ≤ 300 ∧ x.s.size ≤ 600
      · rw [if_neg (by omega), if_neg (by omega), if_pos (by omega), if_pos hx] at ha
        rw [decide_eq_true hx, ha]
        repeat' (first|refine bk ?_|refine bkc ?_|refine bks ?_|refine bkd ?_|refine bkq (fun q => ?_)|(refine bk2 ?_ ?_<;>(first|exact bkn|(refine bkk ?_;intro h))))
        exact QS.turn (G' := G) (fun w hs => hs.drop) (QS.retV Tryz.results14 rfl ⟨rfl, rfl⟩)
      · rw [if_neg (by omega), if_neg (by omega), if_pos (by omega), if_neg hx] at ha
        rw [decide_eq_false hx, ha]
        repeat' (first|refine bk ?_|refine bkc ?_|refine bks ?_|refine bkd ?_|refine bkq (fun q => ?_)|(refine bk2 ?_ ?_<;>(first|exact bkn|(refine bkk ?_;intro h))))
        exact QS.turn (G' := G) (fun w hs => hs.drop) (QS.retV Tryz.results14 rfl ⟨rfl, rfl⟩))
  · rw [if_neg (by omega), if_neg (by omega), if_neg (by omega)] at ha
    rw [ha]
    exact QS.turn (G' := G) (fun w hs => hs.drop) (QS.retV Tryz.results14 rfl ⟨rfl, rfl⟩)
end Go.Proofs.YtejdkcnbflpfaaaGreat.B
