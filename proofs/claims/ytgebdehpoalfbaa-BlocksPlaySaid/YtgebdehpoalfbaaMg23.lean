import Derived.Test.YtgebdehpoalfbaaMg22
import Derived.Test.YtgebdehpoalfbaaMg16
set_option linter.unusedVariables false
set_option linter.unusedSimpArgs false
set_option maxRecDepth 8000
/-! The document's own map: Lost, Report. -/
namespace Go.Proofs.Ytgebdehpoalfbaa.B
open Go Go.Proofs
theorem updF_same {α : Type} (f : Nat → α) (n : Nat) (x : α) : updF f n x n = x := by unfold updF; rw [if_pos rfl]
theorem updF_updF {α : Type} (f : Nat → α) (n : Nat) (x y : α) : updF (updF f n x) n y = updF f n y := by
  funext k
  unfold updF
  split <;> rfl
section
variable {W0 : World} {F : List SL} {A : Nat → Option Addr} {c : Nat → Nat} {L : Nat → List Rep}
theorem slc4_put {n : Nat} (hn : n < 4) {B : Option Addr} {d : Nat} {l : List Rep} : ∀ w, Sat W0 (slc repE 30 B d l :: slc4 A c L :: F) w → Sat W0 (slc4 (updF A n B) (updF c n d) (updF L n l) :: F) w := fun w hs => by
  have h := slc4_open w (hs.front (i := 1) rfl)
  match n, hn with
  | 0, _ => exact slc4_shut w ((h.drop.front (i := 3) rfl))
  | 1, _ => exact slc4_shut w (((h.kick (i := 1) rfl).front (i := 3) rfl).front (i := 1) rfl)
  | 2, _ => exact slc4_shut w ((((h.kick (i := 2) rfl).front (i := 3) rfl).front (i := 2) rfl).front (i := 2) rfl)
  | 3, _ => exact slc4_shut w ((((h.kick (i := 3) rfl).front (i := 2) rfl).front (i := 2) rfl).front (i := 2) rfl)
theorem slc4_take {n : Nat} (hn : n < 4) : ∀ w, Sat W0 (slc4 A c L :: F) w → Sat W0 (slc repE 30 (A n) (c n) (L n) :: slc4 (updF A n none) (updF c n 0) (updF L n []) :: F) w := fun w hs => by
  have h := slc4_open w hs
  match n, hn with
  | 0, _ => exact (slc4_shut (A := updF A 0 none) (c := updF c 0 0) (L := updF L 0 []) (F := slc repE 30 (A 0) (c 0) (L 0) :: F) w ((((((h.front (i := 3) rfl).front (i := 3) rfl).front (i := 3) rfl).slcNil repE 30)))).front (i := 1) rfl
  | 1, _ => exact (slc4_shut (A := updF A 1 none) (c := updF c 1 0) (L := updF L 1 []) (F := slc repE 30 (A 1) (c 1) (L 1) :: F) w ((((((h.front (i := 3) rfl).front (i := 3) rfl).slcNil repE 30).front (i := 3) rfl)))).front (i := 1) rfl
  | 2, _ => exact (slc4_shut (A := updF A 2 none) (c := updF c 2 0) (L := updF L 2 []) (F := slc repE 30 (A 2) (c 2) (L 2) :: F) w (((((h.front (i := 3) rfl).slcNil repE 30).front (i := 3) rfl).front (i := 3) rfl))).front (i := 1) rfl
  | 3, _ => exact (slc4_shut (A := updF A 3 none) (c := updF c 3 0) (L := updF L 3 []) (F := slc repE 30 (A 3) (c 3) (L 3) :: F) w (((((h.slcNil repE 30).front (i := 3) rfl).front (i := 3) rfl).front (i := 3) rfl))).front (i := 1) rfl
end
theorem rmC_len {A : Nat → Option Addr} {c : Nat → Nat} {L : Nat → List Rep} {s : Nat → Bool} : (rmC A c L s).length = 8 := rfl
attribute [local irreducible] WL CS QS WQ WH WS Fn Op1 row Sat
attribute [local irreducible] slc mapb bmA inners slc4 rmA rmC
set_option maxHeartbeats 2000000 in
theorem r_Lost (b : Nat) {M : BM} {L : Nat → List Rep} {s : Nat → Bool} (hC : Cp M L s) (n : Int) (W0 : World) (F : List SL) :
    Fn Try.prog 20 [.pointer (some ⟨b, 0, none⟩), .int .i64 n] W0 (rmA b L s :: F)
      (Ret fun v G' => v = .tuple #[] ∧ ∃ L' s', Cp (M.lost n) L' s' ∧ G' = rmA b L' s' :: F) := by
  by_cases hn : 0 ≤ n ∧ n < 4
  · obtain ⟨k, rfl⟩ : ∃ k : Nat, n = (k : Int) := ⟨n.toNat, by omega⟩
    have hk : k < 4 := by omega
    refine Fn.ex (fun w hs => rmA_open w hs) ?_
    rintro ⟨A, c⟩
    simp only
    refine Fn.enter Try.func20 rfl Try.ntmps20 rfl ?_
    repeat' (first|refine bk ?_|refine bkc ?_|refine bks ?_|refine bkd ?_|refine bkq (fun q => ?_)|(refine bk2 ?_ ?_<;>(first|exact bkn|(refine bkk ?_;intro h))))
    refine WL.s (op1_idxP TT rfl rfl (by omega) rfl rfl rfl) rfl ?_
    refine WL.store TT 0 rfl rfl rfl rfl rfl rfl rfl (cs' := rmC A c L (updF s k false)) (by rw [setN_one (by rw [rmC_len, Int.toNat_natCast]; omega), rm_setS hk (by omega)]) rfl ?_
    repeat' (first|refine bk ?_|refine bkc ?_|refine bks ?_|refine bkd ?_|refine bkq (fun q => ?_)|(refine bk2 ?_ ?_<;>(first|exact bkn|(refine bkk ?_;intro h))))
    refine WL.s (op1_idxP TT rfl rfl (by omega) rfl rfl rfl) rfl ?_
    refine WL.store TT 0 rfl rfl rfl rfl rfl rfl rfl (cs' := rmC (updF A k none) (updF c k 0) (updF L k []) (updF s k false)) (by rw [setN_one (by rw [rmC_len, Int.toNat_natCast]; omega), rm_setL (l := []) (k := 0) hk (by omega) rfl]) rfl ?_
    repeat' (first|refine bk ?_|refine bkc ?_|refine bks ?_|refine bkd ?_|refine bkq (fun q => ?_)|(refine bk2 ?_ ?_<;>(first|exact bkn|(refine bkk ?_;intro h))))
    exact QS.turn (G' := rmA b (updF L k []) (updF s k false) :: F) (fun w hs => rmA_shut w ((slc4_take hk w (hs.front (i := 1) rfl)).drop.front (i := 1) rfl)) (QS.endV Try.results20 rfl ⟨rfl, _, _, hC.lost hk, rfl⟩)
  · rw [lost_out hC.ok hn]
    refine Fn.enter Try.func20 rfl Try.ntmps20 rfl ?_
    repeat' (first|refine bk ?_|refine bkc ?_|refine bks ?_|refine bkd ?_|refine bkq (fun q => ?_)|(refine bk2 ?_ ?_<;>(first|exact bkn|(refine bkk ?_;intro h))))
    all_goals first
      | exact QS.endV Try.results20 rfl ⟨rfl, _, _, hC, rfl⟩
      | (exfalso; omega)
set_option maxHeartbeats 4000000 in
theorem r_Report (b : Nat) {M : BM} {L : Nat → List Rep} {s : Nat → Bool} (hC : Cp M L s) (n : Int) (B : Option Addr) (d : Nat) (l : List Rep) (hl : l.length ≤ 30) (W0 : World) (F : List SL) (hR : Rd W0 F repE B l) :
    Fn Try.prog 19 [.pointer (some ⟨b, 0, none⟩), .int .i64 n, .slice B l.length d] W0 (rmA b L s :: F)
      (Ret fun v G' => v = .int .i64 (if 0 ≤ n ∧ n < 4 then 0 else 1) ∧ ∃ L' s', Cp (M.report n l) L' s' ∧ G' = rmA b L' s' :: F) := by
  by_cases hn : 0 ≤ n ∧ n < 4
  · rw [if_pos hn]
    obtain ⟨k, rfl⟩ : ∃ k : Nat, n = (k : Int) := ⟨n.toNat, by omega⟩
    have hk : k < 4 := by omega
    refine Fn.ex (fun w hs => rmA_open w hs) ?_
    rintro ⟨A, c⟩
    simp only
    refine Fn.enter Try.func19 rfl Try.ntmps19 rfl ?_
    repeat' (first|refine bk ?_|refine bkc ?_|refine bks ?_|refine bkd ?_|refine bkq (fun q => ?_)|(refine bk2 ?_ ?_<;>(first|exact bkn|(refine bkk ?_;intro h))))
    refine WL.s (op1_idxP TT rfl rfl (by omega) rfl rfl rfl) rfl ?_
    refine WL.store TT 0 rfl rfl rfl rfl rfl rfl rfl (cs' := rmC A c L (updF s k true)) (by rw [setN_one (by rw [rmC_len, Int.toNat_natCast]; omega), rm_setS hk (by omega)]) rfl ?_
    repeat' (first|refine bk ?_|refine bkc ?_|refine bks ?_|refine bkd ?_|refine bkq (fun q => ?_)|(refine bk2 ?_ ?_<;>(first|exact bkn|(refine bkk ?_;intro h))))
    refine WL.s (op1_idxP TT rfl rfl (by omega) rfl rfl rfl) rfl ?_
    refine WL.store TT 0 rfl rfl rfl rfl rfl rfl rfl (cs' := rmC (updF A k none) (updF c k 0) (updF L k []) (updF s k true)) (by rw [setN_one (by rw [rmC_len, Int.toNat_natCast]; omega), rm_setL (l := []) (k := 0) hk (by omega) rfl]) rfl ?_
    repeat' (first|refine bk ?_|refine bkc ?_|refine bks ?_|refine bkd ?_|refine bkq (fun q => ?_)|(refine bk2 ?_ ?_<;>(first|exact bkn|(refine bkk ?_;intro h))))
    refine CS.loop (X := Nat) (fun i => [(0, .pointer (some ⟨b, 0, none⟩)), (1, .int .i64 (k : Int)), (2, .slice B l.length d), (7, .int .i64 (i : Int))])
      (fun i => rmA b (updF L k (ddl (l.take i))) (updF s k true) :: F) (fun i => i ≤ l.length) (fun i => l.length - i) 0 ⟨rfl, rfl, rfl, rfl, trivial⟩ (fun w hs => rmA_shut w ((slc4_take hk w (hs.front (i := 1) rfl)).drop.front (i := 1) rfl)) (Nat.zero_le _) ?_
    intro i hi
    repeat' (first|refine bk ?_|refine bkc ?_|refine bks ?_|refine bkd ?_|refine bkq (fun q => ?_)|(refine bk2 ?_ ?_<;>(first|exact bkn|(refine bkk ?_;intro h))))
    · obtain ⟨x, hx⟩ : ∃ x, l[i]? = some x := ⟨l[i]'(by omega), List.getElem?_eq_getElem (by omega)⟩
      refine WL.idx TT hR.cons rfl rfl rfl (by omega) (by rw [Int.toNat_natCast]; exact hx) rfl rfl rfl rfl (fun bb o hA => ?_)
      repeat' (first|refine bk ?_|refine bkc ?_|refine bks ?_|refine bkd ?_|refine bkq (fun q => ?_)|(refine bk2 ?_ ?_<;>(first|exact bkn|(refine bkk ?_;intro h))))
      refine WL.s (op1_atF TT 0 hA rfl rfl rfl rfl rfl) rfl ?_
      have hdt := ddl_take hx
      have hdl : (ddl (l.take i)).length ≤ 30 := Nat.le_trans (ddl_len _) (by rw [List.length_take]; omega)
      generalize ddl (l.take i) = X at hdt hdl ⊢
      have hof := r_of b k hk (updF L k X) (updF s k true) (by rw [updF_same]; omega) x.id W0 F
      rw [updF_same] at hof
      refine WL.call c34 rfl rfl rfl rfl hof ?_
      clear hof
      rintro _ _ ⟨rfl, rfl⟩
      unfold ddR at hdt
      cases ho : (X.find? fun r => decide (r.id = x.id)).isSome with
      | true =>
        rw [ho, if_pos rfl] at hdt
        repeat' (first|refine bk ?_|refine bkc ?_|refine bks ?_|refine bkd ?_|refine bkq (fun q => ?_)|(refine bk2 ?_ ?_<;>(first|exact bkn|(refine bkk ?_;intro h))))
        exact QS.again (i + 1) (by show i + 1 ≤ l.length; omega) (by show l.length - (i + 1) < l.length - i; omega) ⟨rfl, rfl, rfl, rfl, trivial⟩ (fun w hs => by simp only [hdt]; exact hs.drop)
      | false =>
        rw [ho, if_neg (by decide)] at hdt
        repeat' (first|refine bk ?_|refine bkc ?_|refine bks ?_|refine bkq (fun q => ?_)|(refine bk2 ?_ ?_<;>(first|exact bkn|(refine bkk ?_;intro h))))
        refine CS.ex (fun w hs => rmA_open w (hs.front (i := 1) rfl)) ?_
        rintro ⟨A2, c2⟩
        simp only
        have htk : ∀ w, Sat W0 (row b 52 (rmC A2 c2 (updF L k X) (updF s k true)) :: slc4 A2 c2 (updF L k X) :: F) w → Sat W0 (slc repE 30 (A2 k) (c2 k) X :: row b 52 (rmC A2 c2 (updF L k X) (updF s k true)) :: slc4 (updF A2 k none) (updF c2 k 0) (updF L k []) :: F) w := fun w hs => by
          have h1 := slc4_take hk w (hs.front (i := 1) rfl)
          rw [updF_same, updF_updF] at h1
          exact h1.perm (List.Perm.cons _ (List.Perm.swap ..))
        refine CS.turn (fun w hs => htk w (hs.kick (i := 2) rfl)) ?_
        refine CS.world fun hw => ?_
        have hG : ∀ w, Sat W0 (slc repE 30 (A2 k) (c2 k) X :: row b 52 (rmC A2 c2 (updF L k X) (updF s k true)) :: slc4 (updF A2 k none) (updF c2 k 0) (updF L k []) :: F) w → Sat W0 (row b 52 (rmC A2 c2 (updF L k X) (updF s k true)) :: F) w := fun w hs => hs.drop.kick (i := 1) rfl
        have hwq : ∃ w, Sat W0 (row b 52 (rmC A2 c2 (updF L k X) (updF s k true)) :: F) w := hw.elim fun w h => ⟨w, hG w h⟩
        refine CS.drawE _ 17 hG mixed (by kernel_rfl) rfl ?_
        repeat' (first|refine bka ?_|(refine bk2a ?_ ?_<;>(first|exact bkn|(refine bkk ?_;intro h))))
        refine WA.at 6 (by kernel_rfl) rfl (by kernel_rfl) rfl (op1_idxP TT rfl rfl (by omega) rfl rfl rfl) rfl ?_
        refine WA.at 7 (by kernel_rfl) rfl (by kernel_rfl) rfl (op1_loadC TT 0 rfl rfl (rm_slice hk (by omega)) rfl rfl) rfl ?_
        rw [updF_same]
        repeat' (first|refine bka ?_|(refine bk2a ?_ ?_<;>(first|exact bkn|(refine bkk ?_;intro h))))
        refine WA.idx TT hwq hR.cons rfl rfl (by kernel_rfl) rfl rfl rfl rfl (by omega) (by rw [Int.toNat_natCast]; exact hx) rfl rfl rfl rfl (fun b3 o3 hA3 => ?_)
        refine WA.at 11 (by kernel_rfl) rfl (by kernel_rfl) rfl (op1_at TT hA3 rfl rfl rfl rfl) rfl ?_
        refine WA.at 14 (by kernel_rfl) rfl (by kernel_rfl) rfl (op1_pure1 TT rfl) rfl ?_
        refine WA.at 15 (by kernel_rfl) rfl (by kernel_rfl) rfl (op1_pure1 TT rfl) rfl ?_
        refine WA.e1 12 (by kernel_rfl) (by kernel_rfl) rfl rfl (EffC.of (Eff.buildSlice TT rfl rfl rfl rfl rfl rfl rfl)) rfl ?_
        rintro _ _ ⟨q9, rfl, rfl⟩
        refine ⟨fun w hs => hG w hs.drop, ?_⟩
        refine WA.e1 13 (by kernel_rfl) (by kernel_rfl) rfl rfl (EffC.of (Eff.append TT (E := repE) (xs := X) (ys := [x]) 1 rfl rfl rfl rfl rfl (Rd.row (i := 0) rfl rfl) rfl rfl rfl rfl rfl (by decide) (by simp only [List.length_cons, List.length_nil]; omega) (fun _ _ => rfl))) rfl ?_
        rintro _ _ ⟨A6, c6, rfl, rfl⟩
        refine ⟨fun w hs => (hs.drop.drop.kick (i := 1) rfl), ?_⟩
        refine WA.at 16 (by kernel_rfl) rfl (by kernel_rfl) rfl (op1_idxP TT rfl rfl (by omega) rfl rfl rfl) rfl ?_
        refine WA.last (by kernel_rfl) (by kernel_rfl) (by kernel_rfl) rfl rfl (EffC.store TT 2 rfl rfl rfl rfl rfl rfl rfl (cs' := rmC (updF A2 k A6) (updF c2 k c6) (updF L k (X ++ [x])) (updF s k true)) (by rw [setN_one (by rw [rmC_len, Int.toNat_natCast]; omega), rm_setL (l := X ++ [x]) hk (by omega) rfl, updF_updF]) rfl) rfl ?_
        rintro _ _ ⟨rfl, rfl⟩
        repeat' (first|refine bk ?_|refine bkc ?_|refine bks ?_|refine bkq (fun q => ?_)|(refine bk2 ?_ ?_<;>(first|exact bkn|(refine bkk ?_;intro h))))
        refine QS.again (i + 1) (by show i + 1 ≤ l.length; omega) (by show l.length - (i + 1) < l.length - i; omega) ⟨rfl, rfl, rfl, rfl, trivial⟩ (fun w hs => ?_)
        simp only [hdt]
        have h1 := slc4_put hk w ((hs.drop.front (i := 2) rfl).front (i := 1) rfl)
        rw [updF_updF, updF_updF, updF_updF] at h1
        exact rmA_shut w (h1.front (i := 1) rfl)
    · refine QS.retV Try.results19 rfl ⟨rfl, _, _, hC.report hk hl, ?_⟩
      rw [List.take_of_length_le (by omega)]
  · rw [if_neg hn, report_out hn]
    refine Fn.enter Try.func19 rfl Try.ntmps19 rfl ?_
    repeat' (first|refine bk ?_|refine bkc ?_|refine bks ?_|refine bkd ?_|refine bkq (fun q => ?_)|(refine bk2 ?_ ?_<;>(first|exact bkn|(refine bkk ?_;intro h))))
    all_goals first
      | exact QS.retV Try.results19 rfl ⟨rfl, _, _, hC, rfl⟩
      | (exfalso; omega)
end Go.Proofs.Ytgebdehpoalfbaa.B

set_option linter.unusedVariables false
set_option linter.unusedSimpArgs false
/-! Results, in temporaries or in cells. -/
namespace Go.Proofs.Ytgebdehpoalfbaa.B
open Go Go.Proofs
/-- Results, in temporaries or in cells. -/
inductive ResOk {P : Program} (T : Tab P) (L : TL) (G : List SL) : List ResultVar → List Value → Prop
  | nil : ResOk T L G [] []
  | tmp {t : Nat} {v : Value} {rs : List ResultVar} {vs : List Value} : lk L t = some v → ResOk T L G rs vs → ResOk T L G (.tmp t :: rs) (v :: vs)
  | cell {p t b tt : Nat} {cs : List Value} {v : Value} {rs : List ResultVar} {vs : List Value} (i : Nat) : lk L p = some (.pointer (some ⟨b, 0, none⟩)) → G[i]? = some (row b tt cs) → partV T t cs 0 = some v → ResOk T L G rs vs → ResOk T L G (.cell p t :: rs) (v :: vs)
theorem ResOk.run {P : Program} {T : Tab P} {n : Nat} {ds : List Deferred} {L : TL} {W0 : World} {G : List SL} {w : World} {a : Act} (hf : Fr n ds L a) (hs : Sat W0 G w) {rs : List ResultVar} {vs : List Value} (h : ResOk T L G rs vs) :
    (rs.mapM (resOne a.tmps)).run P w = Result.ok vs w := by
  induction h with
  | nil => rfl
  | @tmp t v rs vs h1 h2 ih =>
    have h4 : (resOne a.tmps (.tmp t)).run P w = .ok v w := by simp [resOne, hf.get _ _ h1]
    rw [List.mapM_cons, Sem.run_bind, h4, Result.andThen_ok, Sem.run_bind, ih, Result.andThen_ok, Sem.run_pure]
  | @cell p t b tt cs v rs vs i hp hG hv h2 ih =>
    have hb := hs.at hG
    have h0 : (resOne a.tmps (.cell p t)).run P w = .ok v w := by
      have hl := run_loadVar_at T (w := w) (b := b) (o := 0) (cs := cs) (fun j u hu => by rw [cell_row hb]; exact hu) hv
      have h3 := hf.get _ _ hp
      simp [resOne, h3, asAddr, hl]
    rw [List.mapM_cons, Sem.run_bind, h0, Result.andThen_ok, Sem.run_bind, ih, Result.andThen_ok, Sem.run_pure]
theorem QS.retG {P : Program} {T : Tab P} {n : Nat} {L : TL} {W0 : World} {G : List SL} {fn : Func} {vs : List Value} {R : Ending → List SL → Prop} {rs : List ResultVar} (hrs : fn.results = rs.toArray) (hv : ResOk T L G rs vs) (hR : R (.returned (resV vs)) G) :
    QS (bodyPost P fn (fun e w' => ∃ G', R e G' ∧ Sat W0 G' w')) n [] .ret L W0 G := fun a w hf hs => by
  refine ⟨hf.defers, resV vs, ?_, G, hR, hs⟩
  have h := hv.run (P := P) hf hs
  rw [results_is, hrs, Sem.run_bind, List.mapM_toArray, Sem.run_map, h, Result.andThen_ok, Result.andThen_ok, Sem.run_pure, resPack_eq]

section
variable {P : Program} {Q : Exit → Act → World → Prop} {n : Nat} {ds : List Deferred} {l : List Oper} {Gq : List SL} {z gz f : Nat} {done : List Nat} {L : TL} {W0 : World} {G : List SL} {d : Option Nat} {op : Op} {ty : TypeId} {pos : String} {af : Array Edge} {g : Option (Nat × Bool)} {i : Nat}
theorem WA.idxAt (i : Nat) (T : Tab P) {α : Type} {E : EncK α} {d t e k c : Nat} {A : Option Addr} {xs : List α} {x : α} {s ix : Operand} {kd : IntKind} {iv : Int} {zz b1 c1 : _} {te : TE} (hw : ∃ w, Sat W0 Gq w) (hR : Rd W0 Gq E A xs)
    (hi : readyB l done i = true) (ho : l[i]? = some ⟨some d, .indexAddr t s ix, ty, pos, af, g⟩) (hfr : freeB l z done i = true) (hg : wantB l L g = true) (hs : evL L s = some (.slice A k c)) (hix : evL L ix = some (.int kd iv))
    (hk : k = xs.length) (h0 : 0 ≤ iv) (hx : xs[iv.toNat]? = some x) (hl : lk T.tab t = some ⟨.slice e, zz, b1, c1⟩) (he : lk T.tab e = some te) (hsz : te.size = E.sz) (hd : Nat.blt d n = true)
    (h : ∀ b o, At W0 Gq E b o x → WA P Q n ds l Gq z gz f (i :: done) ((d, .pointer (some ⟨b, o, none⟩)) :: L) W0 G) : WA P Q n ds l Gq z gz (f + 1) done L W0 G := by
  obtain ⟨b, o, hA, hop⟩ := op1_ixE (n := n) (ds := ds) (ty := ty) T hR hs hix hk h0 hx hl he hsz hw
  exact WA.at i hi ho hfr hg hop hd (h b o hA)
/-- A call that may panic, and one that writes; either first. -/
theorem WA.e2P {fo : Operand} {args : Array Operand} {tys : Array TypeId} {K : Nat} {fst cap vs all : List Value} {R : Ending → List SL → Prop} {o2 : Oper} {R2 : Value → List SL → Prop} (i j : Nat) (hr : onlyB l done [i, j] = true) (hi : readyB l done i = true)
    (ho : l[i]? = some ⟨d, .call ⟨.value fo, args, tys⟩, ty, pos, af, g⟩) (ho2 : l[j]? = some o2) (hg : wantB l L g = true) (hg2 : wantB l L o2.guard = true)
    (hK : Callable P K) (hx : evL L fo = some (.func (.func K) fst.toArray cap.toArray)) (ha : evLs L args.toList = some vs) (hall : fst ++ vs ++ cap = all) (hd : dOk n d = true) (spec : Fn P K all W0 G R) (hout : ∀ G', ¬ R .outgrown G') (e2 : EffC P n ds L W0 G o2 R2) (hd2 : dOk n o2.dst = true)
    (h : ∀ v G', R (.returned v) G' → (∀ w, Sat W0 G' w → Sat W0 Gq w) ∧ WA P Q n ds l Gq z gz f (i :: done) (putL L d v) W0 G') (hp : ∀ ch G', R (.panicked ch) G' → QS Q n ds (.panic ch) [] W0 G')
    (h2 : ∀ v G', R2 v G' → (∀ w, Sat W0 G' w → Sat W0 Gq w) ∧ WA P Q n ds l Gq z gz f (j :: done) (putL L o2.dst v) W0 G') : WA P Q n ds l Gq z gz (f + 1) done L W0 G := fun hn a hf => by
  have hil := (List.getElem?_eq_some_iff.1 ho).1
  have hjl := (List.getElem?_eq_some_iff.1 ho2).1
  have hin := (readyB_iff hn.1).2 hi
  refine ⟨fun h0 => (by rw [h0] at hin; cases hin), fun k hk => ?_⟩
  have hkk := onlyB_spec hn.1 hr k hk
  simp only [List.mem_cons, List.not_mem_nil, or_false] at hkk
  rcases hkk with rfl | rfl
  · refine ⟨_, by simpa using ho, .inr ⟨wantB_spec hf hg, fun w hs => ?_⟩⟩
    unfold runs
    rw [run_callOp hf hK hx ha, hall]
    refine (spec w hs).mono fun e w' ⟨G', hR, hs'⟩ => ?_
    cases e with
    | returned v =>
      obtain ⟨h3, h4⟩ := h v G' hR
      exact .inl ⟨v, rfl, G', h3, hs', h4 ⟨fun k hk => (List.mem_cons.1 hk).elim (fun e => e ▸ hil) (hn.1 k), hn.2⟩ _ (hf.put hd)⟩
    | panicked ch => exact .inr ⟨ch, rfl, fun a' ha' => hp ch G' hR a' w' ⟨by rw [ha'.1, hf.size], by rw [ha'.2, hf.defers], fun i v h => by cases h⟩ hs'⟩
    | outgrown => exact (hout G' hR).elim
  · refine ⟨o2, by simpa using ho2, .inr ⟨wantB_spec hf hg2, fun w hs => runs_mono (fun _ _ h => h.elim) (fun v w' ⟨G', h3, h4⟩ => ?_) (e2 a w hf hs)⟩⟩
    obtain ⟨h5, h6⟩ := h2 v G' h3
    exact ⟨G', h5, h4, h6 ⟨fun k hk => (List.mem_cons.1 hk).elim (fun e => e ▸ hjl) (hn.1 k), hn.2⟩ _ (hf.put hd2)⟩
end
theorem QS.ex {Q : Exit → Act → World → Prop} {n : Nat} {ds : List Deferred} {L : TL} {W0 : World} {G : List SL} {e : Exit} {X : Type} {A : X → List SL} (hG : ∀ w, Sat W0 G w → ∃ x, Sat W0 (A x) w) (h : ∀ x, QS Q n ds e L W0 (A x)) : QS Q n ds e L W0 G := fun a w hf hs => by
  obtain ⟨x, hx⟩ := hG w hs
  exact h x a w hf hx
end Go.Proofs.Ytgebdehpoalfbaa.B
