import Derived.Shelf.Strings.Builder1
import Derived.Shelf.Strings.Builder2
import Derived.Shelf.Strings.OnBuilder
import Derived.Test.YtejdkcnbflpfaaaProg
import Derived.Test.YtejdkcnbflpfaaaMg9
import Derived.Test.YtejdkcnbflpfaaaMg10
import Derived.Test.YtejdkcnbflpfaaaMg14
namespace Go.Proofs.Ytejdkcnbflpfaaa.B
open Go Go.Proofs
open Go.Shelf
def sh_lays156_ren : Go.Shelf.Ren := ⟨fun | 156 => 38 | 165 => 60 | 166 => 61 | 169 => 62 | 240 => 82 | 241 => 83 | 276 => 100 | 277 => 101 | n => n, fun | 31 => 63 | 9 => 9 | 3 => 3 | 4 => 4 | 0 => 0 | 20 => 20 | 72 => 110 | 76 => 114 | 70 => 108 | 37 => 100 | 75 => 113 | 127 => 140 | 164 => 148 | 5 => 5 | 80 => 116 | n => n, fun | n => n⟩
theorem sh_lays156 : Go.Proofs.Lays.n156 Try.prog sh_lays156_ren := {
  mixed := by kernel_rfl
  f156 := Try.func38.trans (congrArg some (by kernel_rfl))
  f165 := Try.func60.trans (congrArg some (by kernel_rfl))
  f166 := Try.func61.trans (congrArg some (by kernel_rfl))
  f169 := Try.func62.trans (congrArg some (by kernel_rfl))
  f240 := Try.func82.trans (congrArg some (by kernel_rfl))
  f241 := Try.func83.trans (congrArg some (by kernel_rfl))
  f276 := Try.func100.trans (congrArg some (by kernel_rfl))
  f277 := Try.func101.trans (congrArg some (by kernel_rfl))
  t0 := Try.underlying0
  a0 := Try.isAgg0
  z0 := Try.sizeOf0
  v0 := Try.zeroValue0
  t3 := Try.underlying3
  a3 := Try.isAgg3
  z3 := Try.sizeOf3
  v3 := Try.zeroValue3
  t4 := Try.underlying4
  a4 := Try.isAgg4
  z4 := Try.sizeOf4
  v4 := Try.zeroValue4
  t9 := Try.underlying9
  a9 := Try.isAgg9
  z9 := Try.sizeOf9
  v9 := Try.zeroValue9
  t20 := Try.underlying20
  a20 := Try.isAgg20
  z20 := Try.sizeOf20
  v20 := Try.zeroValue20
  t31 := Try.underlying63
  a31 := Try.isAgg63
  z31 := Try.sizeOf63
  v31 := Try.zeroValue63
  t37 := Try.underlying100
  a37 := Try.isAgg100
  z37 := Try.sizeOf100
  v37 := Try.zeroValue100
  t70 := Try.underlying108
  a70 := Try.isAgg108
  z70 := Try.sizeOf108
  v70 := Try.zeroValue108
  t72 := Try.underlying110
  a72 := Try.isAgg110
  z72 := Try.sizeOf110
  v72 := Try.zeroValue110
  t75 := Try.underlying113
  a75 := Try.isAgg113
  z75 := Try.sizeOf113
  v75 := Try.zeroValue113
  t76 := Try.underlying114
  a76 := Try.isAgg114
  z76 := Try.sizeOf114
  v76 := Try.zeroValue114
  t127 := Try.underlying140
  a127 := Try.isAgg140
  z127 := Try.sizeOf140
  v127 := Try.zeroValue140
  t164 := Try.underlying148
  a164 := Try.isAgg148
  z164 := Try.sizeOf148
  v164 := Try.zeroValue148 }
theorem sh_Builder_Extra_156 : Builder.Extra Try.prog sh_lays156_ren := {
  sizeBuilder := by kernel_rfl
  liesBuilder := by kernel_rfl
  t5 := Try.underlying5
  a5 := Try.isAgg5
  z5 := Try.sizeOf5
  v5 := Try.zeroValue5
  infoByte := by kernel_rfl
  cellsByte := by kernel_rfl
  sizeByte := by kernel_rfl
  neB5 := by decide }
open Go.RowKit in
/-- No element: the empty string; the world is as it was. (Whatever the slice's address and capacity: a nil slice too.) (LAID: no walk: one application.) -/
theorem sh_strings_Join_none (a : Option Addr) (c : Nat) (sep : ByteArray) (w : World) :
    Calls Try.prog 38 #[.slice a 0 c, .string sep] w fun e w' => e = .returned (.string ⟨#[]⟩) ∧ w' = w := Any.strings_Join_none sh_lays156 sh_Builder_Extra_156 a c sep w
open Go.RowKit in
/-- strings.Join: "Join concatenates the elements of its first argument to create a single string. The separator string sep is placed between elements in the resulting string.": HOWEVER MANY ELEMENTS. Below the heap's end the world is as it was. (LAID: no walk: one application.) -/
theorem sh_strings_Join (bk o c : Nat) (xs : List ByteArray) (sep : ByteArray) (w : World) (hcells : ∀ (j : Nat) x, xs[j]? = some x → w.cell? ⟨bk, o + j, none⟩ = some (.string x)) (hbk : bk < w.heap.size) (hN : xs.length ≤ 140737488355328) (hcap : xs.length ≤ c) (hlen : (Lib.join (xs.map (·.data.toList)) sep.data.toList).length ≤ 140737488355328) :
    Calls Try.prog 38 #[.slice (some ⟨bk, o, none⟩) xs.length c, .string sep] w fun e w' => e = .returned (.string ⟨(Lib.join (xs.map (·.data.toList)) sep.data.toList).toArray⟩) ∧ Below w.heap.size w w' := Any.strings_Join sh_lays156 sh_Builder_Extra_156 bk o c xs sep w hcells hbk hN hcap hlen
end Go.Proofs.Ytejdkcnbflpfaaa.B

set_option linter.unusedVariables false
set_option linter.unusedSimpArgs false
set_option maxRecDepth 8000
/-! strings.Join. -/
namespace Go.Proofs.Ytejdkcnbflpfaaa.B
open Go Go.Proofs

theorem inter_nil : ∀ l : List (List UInt8), Lib.join l [] = l.flatten
  | [] => rfl
  | [x] => by simp [Lib.join, List.intercalate]
  | x :: y :: r => by
    have ih := inter_nil (y :: r)
    simp only [Lib.join, List.intercalate, List.intersperse] at ih ⊢
    simp only [List.flatten_cons, List.nil_append] at ih ⊢
    rw [ih]
theorem strings_Join (A : Option Addr) (k c : Nat) (xs : List ByteArray) (hk : k = xs.length) (hkc : k ≤ c) (hl : (xs.flatMap fun s => bs s).length ≤ 140737488355328) (hN : xs.length ≤ 140737488355328) (W0 : World) (G : List SL) (hR : Rd W0 G strE A xs) :
    Fn Try.prog 38 [.slice A k c, .string ⟨#[]⟩] W0 G (Ret fun v G' => v = .string (mk (xs.flatMap fun s => bs s)) ∧ G' = G) := fun w hs => by
  subst hk
  have hj : Lib.join (xs.map (·.data.toList)) (⟨#[]⟩ : ByteArray).data.toList = xs.flatMap fun s => bs s := by
    rw [show (⟨#[]⟩ : ByteArray).data.toList = [] from rfl, inter_nil, List.flatMap]
  cases hx : xs with
  | nil =>
    refine (sh_strings_Join_none A c ⟨#[]⟩ w).mono fun e w' h => ?_
    obtain ⟨rfl, rfl⟩ := h
    exact ⟨G, ⟨rfl, rfl⟩, hs⟩
  | cons x0 r =>
    rw [← hx]
    rcases hR w hs with h0 | ⟨b, o, rfl, hc⟩
    · exfalso
      have h1 := congrArg List.length h0
      rw [flat_len, hx] at h1
      simp [strE] at h1
    · have hfl : ∀ l : List ByteArray, flat strE l = l.map Value.string := fun l => by
        induction l with
        | nil => rfl
        | cons a l ih => simp only [flat, List.flatMap_cons, List.map_cons] at ih ⊢; rw [ih]; rfl
      have hcs : ∀ (j : Nat) x, xs[j]? = some x → w.cell? ⟨b, o + j, none⟩ = some (.string x) := fun j x hj => hc j _ (by rw [hfl, List.getElem?_map, hj]; rfl)
      have hb : b < w.heap.size := by
        have := hcs 0 x0 (by rw [hx]; rfl)
        by_cases h : b < w.heap.size
        · exact h
        · exfalso
          simp only [World.cell?] at this
          rw [Array.getElem?_eq_none (by omega)] at this
          cases this
      refine (sh_strings_Join b o c xs ⟨#[]⟩ w hcs hb hN hkc (by rw [hj]; exact hl)).mono fun e w' h => ?_
      obtain ⟨rfl, hbw⟩ := h
      exact ⟨G, ⟨by rw [hj], rfl⟩, hs.below hbw⟩
end Go.Proofs.Ytejdkcnbflpfaaa.B

set_option linter.unusedVariables false
set_option linter.unusedSimpArgs false
/-! Results, in temporaries or in cells. -/
namespace Go.Proofs.Ytejdkcnbflpfaaa.B
open Go Go.Proofs
/-- Results, in temporaries or in cells. -/
inductive ResOk {P : Program} (T : Tab P) (L : TL) (G : List SL) : List ResultVar → List Value → Prop
  | nil : ResOk T L G [] []
  | tmp {t : Nat} {v : Value} {rs : List ResultVar} {vs : List Value} : lk L t = some v → ResOk T L G rs vs → ResOk T L G (.tmp t :: rs) (v :: vs)
  | cell {p t b tt : Nat} {cs : List Value} {v : Value} {rs : List ResultVar} {vs : List Value} (i : Nat) : lk L p = some (.pointer (some ⟨b, 0, none⟩)) → G[i]? = some (row b tt cs) → partV T t cs 0 = some v → ResOk T L G rs vs → ResOk T L G (.cell p t :: rs) (v :: vs)
theorem ResOk.run {P : Program} {T : Tab P} {n : Nat} {ds : List Deferred} {L : TL} {W0 : World} {G : List SL} {w : World} {a : Act} (hf : Fr n ds L a) (hs : Sat W0 G w) {rs : List ResultVar} {vs : List Value} (h : ResOk T L G rs vs) :
    (rs.mapM (resOne a.tmps)).run P w = Result.ok vs w := by
  induction h with
  | nil => rfl
  | @tmp t v rs vs h1 h2 ih =>
    have h4 : (resOne a.tmps (.tmp t)).run P w = .ok v w := by simp [resOne, hf.get _ _ h1]
    rw [List.mapM_cons, Sem.run_bind, h4, Result.andThen_ok, Sem.run_bind, ih, Result.andThen_ok, Sem.run_pure]
  | @cell p t b tt cs v rs vs i hp hG hv h2 ih =>
    have hb := hs.at hG
    have h0 : (resOne a.tmps (.cell p t)).run P w = .ok v w := by
      have hl := run_loadVar_at T (w := w) (b := b) (o := 0) (cs := cs) (fun j u hu => by rw [cell_row hb]; exact hu) hv
      have h3 := hf.get _ _ hp
      simp [resOne, h3, asAddr, hl]
    rw [List.mapM_cons, Sem.run_bind, h0, Result.andThen_ok, Sem.run_bind, ih, Result.andThen_ok, Sem.run_pure]
theorem QS.retG {P : Program} {T : Tab P} {n : Nat} {L : TL} {W0 : World} {G : List SL} {fn : Func} {vs : List Value} {R : Ending → List SL → Prop} {rs : List ResultVar} (hrs : fn.results = rs.toArray) (hv : ResOk T L G rs vs) (hR : R (.returned (resV vs)) G) :
    QS (bodyPost P fn (fun e w' => ∃ G', R e G' ∧ Sat W0 G' w')) n [] .ret L W0 G := fun a w hf hs => by
  refine ⟨hf.defers, resV vs, ?_, G, hR, hs⟩
  have h := hv.run (P := P) hf hs
  rw [results_is, hrs, Sem.run_bind, List.mapM_toArray, Sem.run_map, h, Result.andThen_ok, Result.andThen_ok, Sem.run_pure, resPack_eq]

section
variable {P : Program} {Q : Exit → Act → World → Prop} {n : Nat} {ds : List Deferred} {l : List Oper} {Gq : List SL} {z gz f : Nat} {done : List Nat} {L : TL} {W0 : World} {G : List SL} {d : Option Nat} {op : Op} {ty : TypeId} {pos : String} {af : Array Edge} {g : Option (Nat × Bool)} {i : Nat}
theorem WA.idxAt (i : Nat) (T : Tab P) {α : Type} {E : EncK α} {d t e k c : Nat} {A : Option Addr} {xs : List α} {x : α} {s ix : Operand} {kd : IntKind} {iv : Int} {zz b1 c1 : _} {te : TE} (hw : ∃ w, Sat W0 Gq w) (hR : Rd W0 Gq E A xs)
    (hi : readyB l done i = true) (ho : l[i]? = some ⟨some d, .indexAddr t s ix, ty, pos, af, g⟩) (hfr : freeB l z done i = true) (hg : wantB l L g = true) (hs : evL L s = some (.slice A k c)) (hix : evL L ix = some (.int kd iv))
    (hk : k = xs.length) (h0 : 0 ≤ iv) (hx : xs[iv.toNat]? = some x) (hl : lk T.tab t = some ⟨.slice e, zz, b1, c1⟩) (he : lk T.tab e = some te) (hsz : te.size = E.sz) (hd : Nat.blt d n = true)
    (h : ∀ b o, At W0 Gq E b o x → WA P Q n ds l Gq z gz f (i :: done) ((d, .pointer (some ⟨b, o, none⟩)) :: L) W0 G) : WA P Q n ds l Gq z gz (f + 1) done L W0 G := by
  obtain ⟨b, o, hA, hop⟩ := op1_ixE (n := n) (ds := ds) (ty := ty) T hR hs hix hk h0 hx hl he hsz hw
  exact WA.at i hi ho hfr hg hop hd (h b o hA)
/-- A call that may panic, and one that writes; either first. -/
theorem WA.e2P {fo : Operand} {args : Array Operand} {tys : Array TypeId} {K : Nat} {fst cap vs all : List Value} {R : Ending → List SL → Prop} {o2 : Oper} {R2 : Value → List SL → Prop} (i j : Nat) (hr : onlyB l done [i, j] = true) (hi : readyB l done i = true)
    (ho : l[i]? = some ⟨d, .call ⟨.value fo, args, tys⟩, ty, pos, af, g⟩) (ho2 : l[j]? = some o2) (hg : wantB l L g = true) (hg2 : wantB l L o2.guard = true)
    (hK : Callable P K) (hx : evL L fo = some (.func (.func K) fst.toArray cap.toArray)) (ha : evLs L args.toList = some vs) (hall : fst ++ vs ++ cap = all) (hd : dOk n d = true) (spec : Fn P K all W0 G R) (hout : ∀ G', ¬ R .outgrown G') (e2 : EffC P n ds L W0 G o2 R2) (hd2 : dOk n o2.dst = true)
    (h : ∀ v G', R (.returned v) G' → (∀ w, Sat W0 G' w → Sat W0 Gq w) ∧ WA P Q n ds l Gq z gz f (i :: done) (putL L d v) W0 G') (hp : ∀ ch G', R (.panicked ch) G' → QS Q n ds (.panic ch) [] W0 G')
    (h2 : ∀ v G', R2 v G' → (∀ w, Sat W0 G' w → Sat W0 Gq w) ∧ WA P Q n ds l Gq z gz f (j :: done) (putL L o2.dst v) W0 G') : WA P Q n ds l Gq z gz (f + 1) done L W0 G := fun hn a hf => by
  have hil := (List.getElem?_eq_some_iff.1 ho).1
  have hjl := (List.getElem?_eq_some_iff.1 ho2).1
  have hin := (readyB_iff hn.1).2 hi
  refine ⟨fun h0 => (by rw [h0] at hin; cases hin), fun k hk => ?_⟩
  have hkk := onlyB_spec hn.1 hr k hk
  simp only [List.mem_cons, List.not_mem_nil, or_false] at hkk
  rcases hkk with rfl | rfl
  · refine ⟨_, by simpa using ho, .inr ⟨wantB_spec hf hg, fun w hs => ?_⟩⟩
    unfold runs
    rw [run_callOp hf hK hx ha, hall]
    refine (spec w hs).mono fun e w' ⟨G', hR, hs'⟩ => ?_
    cases e with
    | returned v =>
      obtain ⟨h3, h4⟩ := h v G' hR
      exact .inl ⟨v, rfl, G', h3, hs', h4 ⟨fun k hk => (List.mem_cons.1 hk).elim (fun e => e ▸ hil) (hn.1 k), hn.2⟩ _ (hf.put hd)⟩
    | panicked ch => exact .inr ⟨ch, rfl, fun a' ha' => hp ch G' hR a' w' ⟨by rw [ha'.1, hf.size], by rw [ha'.2, hf.defers], fun i v h => by cases h⟩ hs'⟩
    | outgrown => exact (hout G' hR).elim
  · refine ⟨o2, by simpa using ho2, .inr ⟨wantB_spec hf hg2, fun w hs => runs_mono (fun _ _ h => h.elim) (fun v w' ⟨G', h3, h4⟩ => ?_) (e2 a w hf hs)⟩⟩
    obtain ⟨h5, h6⟩ := h2 v G' h3
    exact ⟨G', h5, h4, h6 ⟨fun k hk => (List.mem_cons.1 hk).elim (fun e => e ▸ hjl) (hn.1 k), hn.2⟩ _ (hf.put hd2)⟩
end
theorem QS.ex {Q : Exit → Act → World → Prop} {n : Nat} {ds : List Deferred} {L : TL} {W0 : World} {G : List SL} {e : Exit} {X : Type} {A : X → List SL} (hG : ∀ w, Sat W0 G w → ∃ x, Sat W0 (A x) w) (h : ∀ x, QS Q n ds e L W0 (A x)) : QS Q n ds e L W0 G := fun a w hf hs => by
  obtain ⟨x, hx⟩ := hG w hs
  exact h x a w hf hx
end Go.Proofs.Ytejdkcnbflpfaaa.B
