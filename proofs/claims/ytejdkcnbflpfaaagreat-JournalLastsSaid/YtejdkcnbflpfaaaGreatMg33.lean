import Derived.Test.YtejdkcnbflpfaaaGreatMg32
import Derived.Test.YtejdkcnbflpfaaaGreatMg25
import Derived.Test.YtejdkcnbflpfaaaGreatMg17
import Derived.Test.YtejdkcnbflpfaaaGreatMg23
import Derived.Test.YtejdkcnbflpfaaaGreatMg11
set_option linter.unusedVariables false
set_option linter.unusedSimpArgs false
set_option maxRecDepth 8000
/-! A journal node in plain words: behind a crash. -/
namespace Go.Proofs.YtejdkcnbflpfaaaGreat.B
open Go Go.Proofs

theorem part_cut {n : Int} (hn : I64 n) {s : List UInt8} (h : (numB n ++ s).length ≤ 4000) {m : Nat} (hm : m < (partB n s).length) : openP ((partB n s).take m) = none := by
  cases hp : openP ((partB n s).take m) with
  | none => rfl
  | some p =>
    obtain ⟨n', x, r⟩ := p
    obtain ⟨h1, h2, h3⟩ := openP_some hp
    have e := openP_part hn h []
    have e2 := openP_part h1 h3 (r ++ (partB n s).drop m)
    rw [← List.append_assoc, ← h2, List.take_append_drop, ← List.append_nil (partB n s), e] at e2
    simp only [Option.some.injEq, Prod.mk.injEq] at e2
    have := congrArg List.length e2.2.2
    simp at this
    omega
theorem load_log {e : Int} {xs : List Ent} (h : logOk e xs = true) : loadM (logB e xs) 0 = (e, xs, true, 0) := by
  rw [loadM, if_pos rfl, parse_log h]; simp
theorem load_torn {e : Int} {xs : List Ent} {x : Ent} (h : logOk e (xs ++ [x]) = true) {m : Nat} (hm : m < (partB x.n (bs x.s)).length) :
    loadM (logB e xs ++ (partB x.n (bs x.s)).take m) 0 = (e, xs, decide ((partB x.n (bs x.s)).take m = []), 0) := by
  obtain ⟨⟨h1, h2, h3⟩, h4⟩ := logOk_iff.1 h
  have h5 : entsOk 0 xs = true := by rw [entsOk_snoc, Bool.and_eq_true] at h4; exact h4.1
  have hx := entsOk_get (i := xs.length) (x := x) h4 (by simp)
  simp only [List.length_append, List.length_cons, List.length_nil] at h3
  have ok : logOk e xs = true := logOk_iff.2 ⟨⟨h1, h2, by omega⟩, h5⟩
  have hI : I64 x.n := by unfold I64; have := hx.1; constructor <;> omega
  have hn := num_len hI
  have hb := bs_len x.s
  have hl : (numB x.n ++ bs x.s).length ≤ 4000 := by rw [List.length_append]; omega
  have hc := part_cut hI hl hm
  rw [loadM, if_pos rfl, parseP_log ok _ (.inr (by rw [takeEnt, hc]))]
theorem logOk_init {e : Int} {xs : List Ent} {x : Ent} (h : logOk e (xs ++ [x]) = true) : logOk e xs = true ∧ (partB x.n (bs x.s)).length ≤ 624 := by
  obtain ⟨⟨h1, h2, h3⟩, h4⟩ := logOk_iff.1 h
  have h5 : entsOk 0 xs = true := by rw [entsOk_snoc, Bool.and_eq_true] at h4; exact h4.1
  have hx := entsOk_get (i := xs.length) (x := x) h4 (by simp)
  simp only [List.length_append, List.length_cons, List.length_nil] at h3
  exact ⟨logOk_iff.2 ⟨⟨h1, h2, by omega⟩, h5⟩, partB_short (by unfold I64; have := hx.1; constructor <;> omega) (by rw [bs_len]; exact hx.2)⟩
theorem crash_less {D : Disk} (h : DiskOk D) (keeps : List Int) {nm : ByteArray} {f : File} (hf : aget (D.crash keeps).files nm = some f) : ∃ g, aget D.files nm = some g ∧ f.data.size ≤ g.data.size := by
  cases hg : aget D.files nm with
  | none =>
    rw [crash_none h keeps (by simp [Disk.has, hg])] at hf
    cases hf
  | some g =>
    obtain ⟨c, hc, e⟩ := crash_some h keeps (nm := nm) (by simp [Disk.has, hg])
    rw [e, show D.at nm = g from by simp [Disk.at, hg]] at hf
    exact ⟨g, rfl, (crashF_some (h.fileOk _ (aget_mem hg)) hc hf).2.2.1⟩
theorem crash_gone {D : Disk} (h : DiskOk D) (keeps : List Int) {nm : ByteArray} (hg : aget D.files nm = none) : aget (D.crash keeps).files nm = none := crash_none h keeps (by simp [Disk.has, hg])
theorem seal_pos (p : Int) (hI : I64 p) : (mk (sealB (numB p))).size ≠ 0 := by
  have h1 := num_len hI
  have := (sealB_len (s := numB p) (by omega)).2
  rw [mk_size]; omega
theorem logB_size {e : Int} {xs : List Ent} (h : logOk e xs = true) : (mk (logB e xs)).size ≠ 0 := by
  rw [mk_size]; exact fun h0 => logB_pos h (List.eq_nil_of_length_eq_zero h0)
theorem crash_base {J : Jn} {D : Disk} (h : JBase J D) (keeps : List Int) : JBase J (D.crash keeps) := by
  have hI : I64 J.p := by have := h.ok.p0; have := h.ok.p1; unfold I64; omega
  refine ⟨h.ok, h.ep, h.zero, crash_ok h.disk keeps, h.room, ?_, fun k a b c d => crash_gone h.disk keeps (h.few k a b c d), fun f hf => ?_, fun f hf => ?_⟩
  · by_cases hp : J.p = 0
    · rw [if_pos hp]; exact crash_gone h.disk keeps (by rw [h.prom, if_pos hp])
    · rw [if_neg hp]
      have := crash_full h.disk keeps (nm := jProm) (d := mk (sealB (numB J.p))) (by rw [h.prom, if_neg hp]; rfl)
      rwa [if_neg (seal_pos _ hI)] at this
  · obtain ⟨g, g1, g2⟩ := crash_less h.disk keeps hf
    have := h.pn g g1; omega
  · obtain ⟨g, g1, g2⟩ := crash_less h.disk keeps hf
    have := h.ln g g1; omega
theorem crash_log {J : Jn} {D : Disk} (h : Torn J D) (keeps : List Int) : logIs J (D.crash keeps) ∨ ∃ (x : Ent) (m : Nat), J.e ≠ 0 ∧ logOk J.e (J.xs ++ [x]) = true ∧ m ≤ (partB x.n (bs x.s)).length ∧
    aget (D.crash keeps).files jLog = some ⟨mk (logB J.e J.xs ++ (partB x.n (bs x.s)).take m), (mk (logB J.e J.xs ++ (partB x.n (bs x.s)).take m)).size⟩ := by
  rcases h.log with hl | ⟨x, he, hlog, hg⟩
  · refine .inl ?_
    unfold logIs at hl ⊢
    by_cases he : J.e = 0
    · rw [if_pos he] at hl ⊢; exact crash_gone h.disk keeps hl
    · rw [if_neg he] at hl ⊢
      have := crash_full h.disk keeps (nm := jLog) (d := mk (logB J.e J.xs)) hl
      rwa [if_neg (logB_size h.ok.log)] at this
  · refine .inr ?_
    have hpos := logB_size (logOk_init hlog).1
    obtain ⟨c, hc, e⟩ := crash_some h.disk keeps (nm := jLog) (by simp [Disk.has, hg])
    rw [show D.at jLog = ⟨mk (logB J.e J.xs) ++ mk (partB x.n (bs x.s)), (mk (logB J.e J.xs)).size⟩ from by simp [Disk.at, hg]] at e
    have hfo := h.disk.fileOk _ (aget_mem hg)
    obtain ⟨c1, c2⟩ := crashN_ok hfo hc
    simp only at c1 c2
    have hsz : (mk (logB J.e J.xs) ++ mk (partB x.n (bs x.s))).size = (mk (logB J.e J.xs)).size + (mk (partB x.n (bs x.s))).size := ByteArray.size_append
    have hps := mk_size (partB x.n (bs x.s))
    generalize hN : crashN ⟨mk (logB J.e J.xs) ++ mk (partB x.n (bs x.s)), (mk (logB J.e J.xs)).size⟩ c = N at c1 c2
    obtain ⟨m, hm⟩ : ∃ m : Nat, N = ((mk (logB J.e J.xs)).size : Int) + m := ⟨(N - (mk (logB J.e J.xs)).size).toNat, by omega⟩
    have hmle : m ≤ (partB x.n (bs x.s)).length := by omega
    refine ⟨x, m, he, hlog, hmle, ?_⟩
    rw [e]
    unfold crashF
    rw [hN, if_neg (by simp only; omega)]
    have e1 : (mk (logB J.e J.xs) ++ mk (partB x.n (bs x.s))).extract 0 N.toNat = mk (logB J.e J.xs ++ (partB x.n (bs x.s)).take m) := by
      rw [hm, show (((mk (logB J.e J.xs)).size : Int) + (m : Int)).toNat = (mk (logB J.e J.xs)).size + m from by omega, app_extract, ext_mk, bs_mk, List.drop_zero, Nat.sub_zero, mk_cat]
    rw [e1]
    have e2 : N = ((mk (logB J.e J.xs ++ (partB x.n (bs x.s)).take m)).size : Int) := by
      rw [mk_size, List.length_append, List.length_take, Nat.min_eq_left hmle, hm, mk_size]; omega
    rw [← e2]
theorem prom_read {p : Int} (h : 1 ≤ p ∧ p ≤ 9007199254740991) : promP (mk (sealB (numB p))) = some p := by
  have hI : I64 p := by unfold I64; omega
  have hn := num_len hI
  have hs := openB_seal (s := numB p) (by omega) []
  rw [List.append_nil] at hs
  rw [promP, bs_mk, hs]
  simp only [and_self, if_true]
  rw [numP_num hI]
  simp only
  rw [if_pos h]
theorem open_two {J : Jn} {D : Disk} (h : JBase J D) (hd : D.down = false) : openJ D = open2 J.p D := by
  have h0 := h.ok.p0
  have h1 := h.ok.p1
  have hp := h.prom
  by_cases hz : J.p = 0
  · rw [if_pos hz] at hp
    rw [openJ, read_no hd hp, if_pos rfl, hz]
  · rw [if_neg hz] at hp
    rw [openJ, read_of hd hp]
    simp only [pFile]
    rw [if_neg (by decide), if_true, prom_read ⟨by omega, h1⟩]
theorem open2_of {p : Int} {D : Disk} {d : ByteArray} {er0 e er : Int} {xs : List Ent} {w : Bool} (h1 : D.read jLog = (d, er0)) (h2 : loadM (bs d) er0 = (e, xs, w, er)) :
    open2 p D = if er = 5 then (0, ⟨p, 0, [], false⟩, D) else if er ≠ 0 then (er, ⟨p, 0, [], false⟩, D) else if w = true then (0, ⟨p, e, xs, false⟩, D) else ((storeM D e xs jLog).1, ⟨p, e, xs, false⟩, (storeM D e xs jLog).2) := by
  simp only [open2, h1, h2]
theorem open_keep {J : Jn} {D : Disk} (h : Torn J D) (ha : J.dead = false) (keeps : List Int) :
    (openJ (D.crash keeps)).1 = 0 ∧ (openJ (D.crash keeps)).2.1.dead = false ∧ (openJ (D.crash keeps)).2.2.down = false ∧ Keep (openJ (D.crash keeps)).2.1 (openJ (D.crash keeps)).2.2 ∧ Grown J (openJ (D.crash keeps)).2.1 := by
  have hb := crash_base h.toJBase keeps
  have hl := crash_log h keeps
  have hd : (D.crash keeps).down = false := rfl
  have hf : (D.crash keeps).fuse = 0 := rfl
  generalize D.crash keeps = E at hb hl hd hf
  rw [open_two hb hd]
  have mk_ok : ∀ ys, logOk J.e ys = true → JnOk ⟨J.p, J.e, ys, false⟩ := fun ys hy => ⟨hb.ok.p0, hb.ok.p1, hy⟩
  have base : ∀ ys, J.e ≠ 0 → logOk J.e ys = true → JBase ⟨J.p, J.e, ys, false⟩ E := fun ys he hy => ⟨mk_ok ys hy, hb.ep, fun h0 => absurd h0 he, hb.disk, hb.room, hb.prom, hb.few, hb.pn, hb.ln⟩
  by_cases he : J.e = 0
  · have hg : aget E.files jLog = none := by
      rcases hl with hl | ⟨x, m, h1, _⟩
      · unfold logIs at hl; rwa [if_pos he] at hl
      · exact absurd he h1
    rw [open2_of (read_no hd hg) (show loadM (bs noStr) 5 = (0, [], false, 5) from by rw [loadM, if_neg (by decide)]), if_pos rfl]
    have hxs := hb.zero he
    refine ⟨rfl, rfl, hd, ⟨⟨⟨hb.ok.p0, hb.ok.p1, by simp only; decide⟩, hb.ok.p0, fun _ => rfl, hb.disk, hb.room, hb.prom, hb.few, hb.pn, hb.ln⟩, ?_⟩, ⟨Int.le_refl _, by simp only; omega, fun _ => by rw [hxs]; rfl⟩⟩
    unfold logIs; simp [hg]
  · have whole : ∀ ys, logOk J.e ys = true → aget E.files jLog = some (lFile J.e ys) → begB J.xs ys = true → open2 J.p E = (0, ⟨J.p, J.e, ys, false⟩, E) ∧ Keep ⟨J.p, J.e, ys, false⟩ E ∧ Grown J ⟨J.p, J.e, ys, false⟩ := fun ys hy hg hbg => by
      refine ⟨?_, ⟨base ys he hy, by unfold logIs; simp only; rw [if_neg he]; exact hg⟩, ⟨Int.le_refl _, Int.le_refl _, fun _ => hbg⟩⟩
      rw [open2_of (read_of hd hg) (show loadM (bs (lFile J.e ys).data) 0 = (J.e, ys, true, 0) from load_log hy)]
      simp
    have fin : ∀ ys, logOk J.e ys = true → aget E.files jLog = some (lFile J.e ys) → begB J.xs ys = true → (open2 J.p E).1 = 0 ∧ (open2 J.p E).2.1.dead = false ∧ (open2 J.p E).2.2.down = false ∧ Keep (open2 J.p E).2.1 (open2 J.p E).2.2 ∧ Grown J (open2 J.p E).2.1 := fun ys hy hg hbg => by
      obtain ⟨w1, w2, w3⟩ := whole ys hy hg hbg
      rw [w1]; exact ⟨rfl, rfl, hd, w2, w3⟩
    show (open2 J.p E).1 = 0 ∧ (open2 J.p E).2.1.dead = false ∧ (open2 J.p E).2.2.down = false ∧ Keep (open2 J.p E).2.1 (open2 J.p E).2.2 ∧ Grown J (open2 J.p E).2.1
    rcases hl with hl | ⟨x, m, _, hlog, hm, hg⟩
    · unfold logIs at hl
      rw [if_neg he] at hl
      exact fin J.xs hb.ok.log hl (beg_refl _)
    · obtain ⟨hx1, hx2⟩ := logOk_init hlog
      by_cases hmf : m = (partB x.n (bs x.s)).length
      · rw [hmf, List.take_length] at hg
        exact fin (J.xs ++ [x]) hlog (by rw [hg, lFile, logB_put]) (beg_snoc _ _)
      by_cases hm0 : (partB x.n (bs x.s)).take m = []
      · rw [hm0, List.append_nil] at hg
        exact fin J.xs hx1 hg (beg_refl _)
      · have hsm := logB_small hx1
        have hps : ((partB x.n (bs x.s)).take m).length ≤ 624 := by rw [List.length_take]; omega
        rw [open2_of (read_of hd hg) (show loadM (bs (mk (logB J.e J.xs ++ (partB x.n (bs x.s)).take m))) 0 = (J.e, J.xs, false, 0) from by
          rw [bs_mk, load_torn hlog (by omega), decide_eq_false hm0])]
        rw [if_neg (by decide), if_neg (by decide), if_neg (by decide)]
        have hz : (storeM E J.e J.xs jLog).1 = 0 := by
          obtain ⟨n1, n2, n3, n4, n5, n6⟩ := four_ne
          have hI : I64 J.p := by have := hb.ok.p0; have := hb.ok.p1; unfold I64; omega
          obtain ⟨t1, t2⟩ := four_names hb.disk.nodup (a := jLog ++ dotNew) (b := jProm) (c := jLog) (d := pNew) (fun k a b c d => hb.few k b c d a)
          have z1 : szOf (aget E.files jProm) ≤ 24 := by
            rw [hb.prom]; split
            · simp [szOf]
            · have := seal_num hI; simp only [szOf, pFile]; omega
          have z2 : szOf (aget E.files jLog) ≤ 187900 + 624 := by
            rw [hg]; simp only [szOf]; rw [mk_size, List.length_append]; omega
          have z3 : szOf (aget E.files pNew) ≤ 24 := by
            cases hpn : aget E.files pNew with
            | none => simp [szOf]
            | some f => have := hb.pn f hpn; simp only [szOf]; omega
          unfold storeM
          rw [if_neg (by simp only [hx1, Bool.true_eq_false, false_or, not_or]; exact ⟨name_ne (by decide), by decide⟩)]
          refine place_done hb.disk hd hf (cat_dot_ne.2.1) (by decide) (name_ne (by decide)) (by decide) n2 (by rw [mk_size]; omega) (by omega) ?_
          have hu := hb.disk.used
          rw [hb.room, mk_size, hu]
          omega
        rcases store_base (base J.xs he hx1) hd hx1 ⟨by have := hb.ok.e0; omega, hb.ep⟩ with ⟨s1, s2, s3⟩ | ⟨s1, _⟩
        · exact ⟨hz, rfl, s2, s3, ⟨Int.le_refl _, Int.le_refl _, fun _ => beg_refl _⟩⟩
        · exact absurd hz s1
end Go.Proofs.YtejdkcnbflpfaaaGreat.B

set_option linter.unusedVariables false
set_option linter.unusedSimpArgs false
set_option maxRecDepth 8000
/-! Calls that read one block: quiet, whatever stands besides. -/
namespace Go.Proofs.YtejdkcnbflpfaaaGreat.B
open Go Go.Proofs Go.RowKit
theorem sat_but {w : World} {b : Nat} {o : Obj} (hb : w.heap[b]? = some o) : Sat w [blk b o, fun h => ∀ k, k < w.heap.size → k ≠ b → h k = w.heap[k]?] w :=
  ⟨Base.refl w, [(blk b o, fun k => if k = b then some o else none), ((fun h => ∀ k, k < w.heap.size → k ≠ b → h k = w.heap[k]?), fun k => if k = b then none else w.heap[k]?)], rfl, fun x hx => by
    simp only [List.mem_cons, List.not_mem_nil, or_false] at hx
    rcases hx with rfl | rfl
    · refine ⟨by simp [B.blk], fun k o' hk => ?_⟩
      simp only at hk
      split at hk
      · rename_i e; subst e; injection hk with hk; subst hk; exact hb
      · cases hk
    · refine ⟨fun k _ hne => by simp [hne], fun k o' hk => ?_⟩
      simp only at hk
      split at hk
      · cases hk
      · exact hk, by
    simp only [List.pairwise_cons, List.mem_cons, List.not_mem_nil, or_false, forall_eq, List.Pairwise.nil, and_true, false_implies, implies_true]
    intro k
    simp only
    by_cases e : k = b
    · simp [e]
    · simp [e]⟩
theorem below_but {w w' : World} {b : Nat} {o : Obj} (hb : w.heap[b]? = some o) (s : Sat w [blk b o, fun h => ∀ k, k < w.heap.size → k ≠ b → h k = w.heap[k]?] w') : Below w.heap.size w w' := by
  have h1 : w'.heap[b]? = some o := s.blk
  obtain ⟨hp, h, hle⟩ := s.drop.head
  have hblock : ∀ k, k < w.heap.size → w'.heap[k]? = w.heap[k]? := fun k hk => by
    by_cases e : k = b
    · subst e; rw [h1, hb]
    · have h2 := h k hk e
      have h3 : w.heap[k]? = some w.heap[k] := Array.getElem?_eq_getElem (by omega)
      rw [h3] at h2 ⊢
      exact hle k _ h2
  refine ⟨s.base.os, s.base.tape, s.base.output, ?_, hblock⟩
  have hlt : b < w.heap.size := (Array.getElem?_eq_some_iff.1 hb).1
  have := hblock (w.heap.size - 1) (by omega)
  have h2 : w.heap[w.heap.size - 1]? = some (w.heap[w.heap.size - 1]'(by omega)) := Array.getElem?_eq_getElem (by omega)
  rw [h2] at this
  have := (Array.getElem?_eq_some_iff.1 this).1
  omega
/-- A call that reads one block, at a world. -/
theorem Fn.quiet {P : Program} {K : Nat} {vs : List Value} {W0 : World} {G Gq : List SL} {v : Value} (h : ∀ w, Sat W0 Gq w → ∃ b o, w.heap[b]? = some o ∧ ∀ W F, Fn P K vs W (blk b o :: F) (Ret fun u G' => u = v ∧ G' = blk b o :: F))
    (hG : ∀ w, Sat W0 G w → Sat W0 Gq w) : Fn P K vs W0 G (Ret fun u G' => u = v ∧ G' = G) := fun w hs => by
  obtain ⟨b, o, hb, hf⟩ := h w (hG w hs)
  refine (hf w _ w (sat_but hb)).mono fun e w' ⟨G', h1, h2⟩ => ?_
  cases e with
  | returned u =>
    obtain ⟨rfl, rfl⟩ := h1
    exact ⟨G, ⟨rfl, rfl⟩, hs.below (below_but hb h2)⟩
  | panicked ch => exact h1.elim
  | outgrown => exact h1.elim
attribute [local irreducible] WL CS QS WQ WH WS Fn Op1 row Sat
theorem j_PromisedR (b bd : Nat) (A : Option Addr) (c : Nat) (J : Jn) (hd : J.dead = false) (W0 : World) (F : List SL) :
    Fn Tryz.prog 24 [.pointer (some ⟨b, 0, none⟩)] W0 (row b 76 (jCells bd A c J) :: F) (Ret fun v G' => v = .int .i64 J.p ∧ G' = row b 76 (jCells bd A c J) :: F) := by
  refine Fn.enter Tryz.func24 rfl Tryz.ntmps24 rfl ?_
  simp only [jCells, hd]
  repeat' (first|refine bk ?_|refine bkc ?_|refine bks ?_|refine bkd ?_|refine bkq (fun q => ?_)|(refine bk2 ?_ ?_<;>(first|exact bkn|(refine bkk ?_;intro h))))
  exact QS.retV Tryz.results24 rfl ⟨rfl, rfl⟩
theorem j_PromisedQ {b bd : Nat} {J : Jn} (hd : J.dead = false) {W0 : World} {F : List SL} : ∀ G', (∀ w, Sat W0 G' w → Sat W0 (jA b bd J :: F) w) →
    Fn Tryz.prog 24 [.pointer (some ⟨b, 0, none⟩)] W0 G' (Ret fun v G'' => v = .int .i64 J.p ∧ G'' = G') := fun G' hG =>
  Fn.quiet (fun w hs => by
    obtain ⟨⟨A, c⟩, hx⟩ := jA_open w hs
    exact ⟨b, _, Sat.blk (b := b) (by unfold row at hx; exact hx), fun W F => by have h := j_PromisedR b bd A c J hd W F; unfold row at h; exact h⟩) hG
end Go.Proofs.YtejdkcnbflpfaaaGreat.B

set_option linter.unusedVariables false
set_option linter.unusedSimpArgs false
set_option maxRecDepth 8000
/-! Texts as one, of the document. -/
namespace Go.Proofs.YtejdkcnbflpfaaaGreat.B
open Go Go.Proofs
attribute [local irreducible] WL CS QS WQ WH WS Fn Op1 row Sat
attribute [local irreducible] slc

theorem ref_Join (A : Option Addr) (k c : Nat) (xs : List ByteArray) (hk : k = xs.length) (hx : ∀ s ∈ xs, s.size ≤ 9223372036854775807) (hl : xs.length ≤ 9223372036854775807) (W0 : World) (G : List SL) (hR : Rd W0 G strE A xs) :
    Fn Tryz.prog 129 [.slice A k c] W0 G (Ret fun v G' => v = (if joinOk xs then .tuple #[.string (mk (joinB xs)), .bool true] else .tuple #[.string ⟨#[]⟩, .bool false]) ∧ G' = G) := by
  subst hk
  refine Fn.enter Tryz.func129 rfl Tryz.ntmps129 rfl ?_
  repeat' (first|refine bk ?_|refine bkc ?_|refine bks ?_|refine bkd ?_|refine bkq (fun q => ?_)|(refine bk2 ?_ ?_<;>(first|exact bkn|(refine bkk ?_;intro h))))
  · refine QS.retV Tryz.results129 rfl ⟨?_, rfl⟩
    rw [if_neg (fun e => by have := (joinOk_iff.1 e).1; omega)]; rfl
  have hl2 : xs.length ≤ 1000 := by omega
  refine WL.call c118 rfl rfl rfl rfl (ref_Num (n := (xs.length : Int)) (by unfold I64; omega) W0 _) ?_
  rintro _ G2 ⟨rfl, hG2⟩
  rw [hG2]; clear hG2 G2
  have hnl := num_len (n := (xs.length : Int)) (by unfold I64; omega)
  repeat' (first|refine bk ?_|refine bkc ?_|refine bks ?_|refine bkd ?_|refine bkq (fun q => ?_)|(refine bk2 ?_ ?_<;>(first|exact bkn|(refine bkk ?_;intro h))))
  refine CS.loop (X := Nat) (fun i => [(0, .slice A xs.length c), (4, .string (mk (numB xs.length ++ joinT (xs.take i)))), (5, .int .i64 (i : Int))])
    (fun i => G) (fun i => i ≤ xs.length ∧ ∀ s ∈ xs.take i, s.size ≤ 4000) (fun i => xs.length - i) 0 ⟨rfl, by rw [List.take_zero, show joinT [] = [] from rfl, List.append_nil]; rfl, rfl, trivial⟩ (fun w hs => hs) ⟨Nat.zero_le _, fun s hs => by cases hs⟩ ?_
  rintro i ⟨hi, hs⟩
  have hjl := joinT_len hs
  rw [List.length_take] at hjl
  have hms := mk_size (numB xs.length ++ joinT (xs.take i))
  rw [List.length_append] at hms
  repeat' (first|refine bk ?_|refine bkc ?_|refine bks ?_|refine bkd ?_|refine bkq (fun q => ?_)|(refine bk2 ?_ ?_<;>(first|exact bkn|(refine bkk ?_;intro h))))
  · obtain ⟨s, hsx⟩ : ∃ x, xs[i]? = some x := ⟨xs[i]'(by omega), List.getElem?_eq_getElem (by omega)⟩
    refine WL.idx TT hR rfl rfl rfl (by omega) (by rw [Int.toNat_natCast]; exact hsx) rfl rfl rfl rfl (fun bb o hA => ?_)
    refine WL.s (op1_at TT hA rfl rfl rfl rfl) rfl ?_
    repeat' (first|refine bk ?_|refine bkc ?_|refine bks ?_|refine bkd ?_|refine bkq (fun q => ?_)|(refine bk2 ?_ ?_<;>(first|exact bkn|(refine bkk ?_;intro h))))
    refine WL.call c136 rfl rfl rfl rfl (ref_Text s (hx s (List.mem_of_getElem? hsx)) W0 _) ?_
    rintro _ G2 ⟨rfl, hG2⟩
    rw [hG2]; clear hG2 G2
    by_cases hb : 4000 < s.size
    · rw [if_pos hb]
      repeat' (first|refine bk ?_|refine bkc ?_|refine bks ?_|refine bkd ?_|refine bkq (fun q => ?_)|(refine bk2 ?_ ?_<;>(first|exact bkn|(refine bkk ?_;intro h))))
      refine QS.retV Tryz.results129 rfl ⟨?_, rfl⟩
      rw [if_neg (fun e => by have := (joinOk_iff.1 e).2 s (List.mem_of_getElem? hsx); omega)]; rfl
    · rw [if_neg hb]
      have htl := textB_len (s := s) (by omega)
      have hmt := mk_size (textB (bs s))
      repeat' (first|refine bk ?_|refine bkc ?_|refine bks ?_|refine bkd ?_|refine bkq (fun q => ?_)|(refine bk2 ?_ ?_<;>(first|exact bkn|(refine bkk ?_;intro h))))
      refine QS.again (i + 1) ⟨by omega, fun x hx => ?_⟩ (by omega) ⟨rfl, ?_, ?_, trivial⟩ (fun w hs => hs)
      · rw [List.take_add_one, hsx] at hx
        rcases List.mem_append.1 hx with h | h
        · exact hs x h
        · simp at h; subst h; omega
      · rw [List.take_add_one, hsx, Option.toList_some, joinT_snoc, ← List.append_assoc, ← mk_cat]; rfl
      · rw [show ((i + 1 : Nat) : Int) = (i : Int) + 1 from by omega]; rfl
  · have hix : i = xs.length := by omega
    subst hix
    rw [List.take_length] at hs ⊢
    repeat' (first|refine bk ?_|refine bkc ?_|refine bks ?_|refine bkd ?_|refine bkq (fun q => ?_)|(refine bk2 ?_ ?_<;>(first|exact bkn|(refine bkk ?_;intro h))))
    refine QS.retV Tryz.results129 rfl ⟨?_, rfl⟩
    rw [if_pos (joinOk_iff.2 ⟨hl2, hs⟩)]; rfl
set_option maxHeartbeats 1000000 in
theorem ref_Split (s : ByteArray) (hs : s.size ≤ 9223372036854775807) (W0 : World) (G : List SL) :
    Fn Tryz.prog 100 [.string s] W0 G (Ret fun v G' => match splitP (bs s) with
      | some l => ∃ A c, v = .tuple #[.slice A l.length c, .bool true] ∧ G' = slc strE 9 A c l :: G
      | none => v = .tuple #[.slice none 0 0, .bool false] ∧ G' = G) := by
  refine Fn.enter Tryz.func100 rfl Tryz.ntmps100 rfl ?_
  repeat' (first|refine bk ?_|refine bkc ?_|refine bks ?_|refine bkd ?_|refine bkq (fun q => ?_)|(refine bk2 ?_ ?_<;>(first|exact bkn|(refine bkk ?_;intro h))))
  refine WL.call c88 rfl rfl rfl rfl (ref_TakeNum s hs W0 _) ?_
  rintro _ G2 ⟨rfl, hG2⟩
  rw [hG2]; clear hG2 G2
  have hbl := bs_len s
  cases hn : takeNum (bs s) with
  | none =>
    simp only [takeNumV]
    repeat' (first|refine bk ?_|refine bkc ?_|refine bks ?_|refine bkd ?_|refine bkq (fun q => ?_)|(refine bk2 ?_ ?_<;>(first|exact bkn|(refine bkk ?_;intro h))))
    refine QS.retV Tryz.results100 rfl ?_
    rw [splitP, hn]
    exact ⟨rfl, rfl⟩
  | some p =>
    obtain ⟨n, r⟩ := p
    have hnr := takeNum_some hn
    have hI := hnr.1
    unfold I64 at hI
    have hrl : r.length ≤ s.size := by rw [← hbl, hnr.2, List.length_append]; omega
    simp only [takeNumV]
    repeat' (first|refine bk ?_|refine bkc ?_|refine bks ?_|refine bkd ?_|refine bkq (fun q => ?_)|(refine bk2 ?_ ?_<;>(first|exact bkn|(refine bkk ?_;intro h))))
    · refine QS.retV Tryz.results100 rfl ?_
      rw [splitP, hn]
      simp only
      rw [if_pos (by omega)]
      exact ⟨rfl, rfl⟩
    · refine QS.retV Tryz.results100 rfl ?_
      rw [splitP, hn]
      simp only
      rw [if_pos (by omega)]
      exact ⟨rfl, rfl⟩
    have hsp : splitP (bs s) = splitE (texts n.toNat r) := by
      rw [splitP, hn]
      simp only
      rw [if_neg (by omega)]
    refine CS.loop (X := Nat × Option Addr × Nat × List ByteArray × List UInt8) (fun y => [(2, .slice none 0 0), (3, .bool false), (4, .int .i64 n), (5, .string (mk y.2.2.2.2)), (7, .slice y.2.1 y.2.2.2.1.length y.2.2.1), (8, .int .i64 (y.1 : Int))])
      (fun y => slc strE 9 y.2.1 y.2.2.1 y.2.2.2.1 :: G) (fun y => (y.1 : Int) ≤ n ∧ y.2.2.2.1.length = y.1 ∧ y.2.2.2.2.length ≤ s.size ∧ texts n.toNat r = (texts (n.toNat - y.1) y.2.2.2.2).map fun p => (y.2.2.2.1 ++ p.1, p.2))
      (fun y => n.toNat - y.1) (0, none, 0, [], r) ⟨rfl, rfl, rfl, rfl, rfl, rfl, trivial⟩ (fun w hs => hs.slcNil _ _) ⟨by simp only; omega, rfl, hrl, by simp⟩ ?_
    rintro ⟨i, A, c, xs, r2⟩ ⟨hi, hxl, hr2, hT⟩
    simp only at hi hxl hr2 hT ⊢
    repeat' (first|refine bk ?_|refine bkc ?_|refine bks ?_|refine bkd ?_|refine bkq (fun q => ?_)|(refine bk2 ?_ ?_<;>(first|exact bkn|(refine bkk ?_;intro h))))
    · obtain ⟨m, hm⟩ : ∃ m, n.toNat - i = m + 1 := ⟨n.toNat - i - 1, by omega⟩
      rw [hm] at hT
      refine WL.call c85 rfl rfl rfl rfl (ref_TakeText (mk r2) (by rw [mk_size]; omega) W0 _) ?_
      rintro _ _ ⟨rfl, rfl⟩
      rw [bs_mk]
      cases ht : takeText r2 with
      | none =>
        simp only [takeTextV]
        repeat' (first|refine bk ?_|refine bkc ?_|refine bks ?_|refine bkd ?_|refine bkq (fun q => ?_)|(refine bk2 ?_ ?_<;>(first|exact bkn|(refine bkk ?_;intro h))))
        refine QS.turn (G' := G) (fun w hs => hs.drop) (QS.retV Tryz.results100 rfl ?_)
        rw [hsp, hT, texts_stop ht]
        simp only [Option.map_none, splitE]
        exact ⟨rfl, rfl⟩
      | some q =>
        obtain ⟨x, r3⟩ := q
        have hts := takeText_some ht
        have hr3 : r3.length ≤ r2.length := by rw [hts.1, List.length_append]; omega
        simp only [takeTextV]
        repeat' (first|refine bk ?_|refine bkc ?_|refine bks ?_|refine bkd ?_|refine bkq (fun q => ?_)|(refine bk2 ?_ ?_<;>(first|exact bkn|(refine bkk ?_;intro h))))
        refine WL.buildSlice TT rfl rfl rfl rfl rfl rfl rfl rfl (fun q => ?_)
        refine WL.append TT (E := strE) (xs := xs) (ys := [mk x]) 1 rfl rfl rfl rfl rfl (Rd.row (i := 0) rfl rfl) rfl rfl rfl rfl rfl (by decide) (by simp only [List.length_cons, List.length_nil]; omega) (fun _ _ => rfl) rfl (fun A5 c5 => ?_)
        repeat' (first|refine bk ?_|refine bkc ?_|refine bks ?_|refine bkd ?_|refine bkq (fun q => ?_)|(refine bk2 ?_ ?_<;>(first|exact bkn|(refine bkk ?_;intro h))))
        refine QS.again (i + 1, A5, c5, xs ++ [mk x], r3) ⟨by simp only; omega, by simp [hxl], by simp only; omega, ?_⟩ (by simp only; omega) ⟨rfl, rfl, rfl, rfl, rfl, ?_, trivial⟩ (fun w hs => hs.drop)
        · simp only
          rw [show n.toNat - (i + 1) = m from by omega]
          exact texts_go hT ht
        · rw [show ((i + 1 : Nat) : Int) = (i : Int) + 1 from by omega]; rfl
    all_goals
      rw [show n.toNat - i = 0 from by omega, texts] at hT
      simp only [Option.map_some, List.append_nil] at hT
      rw [hT, splitE] at hsp
    · refine QS.turn (G' := G) (fun w hs => hs.drop) (QS.retV Tryz.results100 rfl ?_)
      rw [hsp, if_neg (fun e => ‹¬ mk r2 = _› (by rw [e]))]
      exact ⟨rfl, rfl⟩
    · refine QS.retV Tryz.results100 rfl ?_
      rw [hsp, if_pos (by have := congrArg bs ‹mk r2 = _›; rw [bs_mk] at this; exact this)]
      exact ⟨A, c, rfl, rfl⟩
end Go.Proofs.YtejdkcnbflpfaaaGreat.B
