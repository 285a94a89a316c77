import Derived.Shelf.Strings.Builder1
import Derived.Shelf.Strings.Builder2
import Derived.Shelf.Strings.OnBuilder
import Derived.Ground.SlgmProg
import Derived.Shelf.SortM.Plain
import Derived.Shelf.SortM.SortNone
import Derived.Test.YtejdkcnbflpfaaaGreatProg
import Derived.Test.YtejdkcnbflpfaaaGreatMg9
import Derived.Test.YtejdkcnbflpfaaaGreatMg10
import Derived.Test.YtejdkcnbflpfaaaGreatMg14
namespace Go.Proofs.YtejdkcnbflpfaaaGreat.B
open Go Go.Proofs
open Go.Shelf
def sh_lays156_ren : Go.Shelf.Ren := ⟨fun | 156 => 107 | 165 => 133 | 166 => 110 | 169 => 112 | 240 => 135 | 241 => 141 | 276 => 142 | 277 => 154 | n => n, fun | 31 => 101 | 9 => 9 | 3 => 3 | 4 => 4 | 0 => 0 | 20 => 20 | 72 => 167 | 76 => 170 | 70 => 165 | 37 => 119 | 75 => 169 | 127 => 180 | 164 => 184 | 5 => 5 | 80 => 173 | n => n, fun | n => n⟩
theorem sh_lays156 : Go.Proofs.Lays.n156 Tryz.prog sh_lays156_ren := {
  mixed := by kernel_rfl
  f156 := Tryz.func107.trans (congrArg some (by kernel_rfl))
  f165 := Tryz.func133.trans (congrArg some (by kernel_rfl))
  f166 := Tryz.func110.trans (congrArg some (by kernel_rfl))
  f169 := Tryz.func112.trans (congrArg some (by kernel_rfl))
  f240 := Tryz.func135.trans (congrArg some (by kernel_rfl))
  f241 := Tryz.func141.trans (congrArg some (by kernel_rfl))
  f276 := Tryz.func142.trans (congrArg some (by kernel_rfl))
  f277 := Tryz.func154.trans (congrArg some (by kernel_rfl))
  t0 := Tryz.underlying0
  a0 := Tryz.isAgg0
  z0 := Tryz.sizeOf0
  v0 := Tryz.zeroValue0
  t3 := Tryz.underlying3
  a3 := Tryz.isAgg3
  z3 := Tryz.sizeOf3
  v3 := Tryz.zeroValue3
  t4 := Tryz.underlying4
  a4 := Tryz.isAgg4
  z4 := Tryz.sizeOf4
  v4 := Tryz.zeroValue4
  t9 := Tryz.underlying9
  a9 := Tryz.isAgg9
  z9 := Tryz.sizeOf9
  v9 := Tryz.zeroValue9
  t20 := Tryz.underlying20
  a20 := Tryz.isAgg20
  z20 := Tryz.sizeOf20
  v20 := Tryz.zeroValue20
  t31 := Tryz.underlying101
  a31 := Tryz.isAgg101
  z31 := Tryz.sizeOf101
  v31 := Tryz.zeroValue101
  t37 := Tryz.underlying119
  a37 := Tryz.isAgg119
  z37 := Tryz.sizeOf119
  v37 := Tryz.zeroValue119
  t70 := Tryz.underlying165
  a70 := Tryz.isAgg165
  z70 := Tryz.sizeOf165
  v70 := Tryz.zeroValue165
  t72 := Tryz.underlying167
  a72 := Tryz.isAgg167
  z72 := Tryz.sizeOf167
  v72 := Tryz.zeroValue167
  t75 := Tryz.underlying169
  a75 := Tryz.isAgg169
  z75 := Tryz.sizeOf169
  v75 := Tryz.zeroValue169
  t76 := Tryz.underlying170
  a76 := Tryz.isAgg170
  z76 := Tryz.sizeOf170
  v76 := Tryz.zeroValue170
  t127 := Tryz.underlying180
  a127 := Tryz.isAgg180
  z127 := Tryz.sizeOf180
  v127 := Tryz.zeroValue180
  t164 := Tryz.underlying184
  a164 := Tryz.isAgg184
  z164 := Tryz.sizeOf184
  v164 := Tryz.zeroValue184 }
theorem sh_Builder_Extra_156 : Builder.Extra Tryz.prog sh_lays156_ren := {
  sizeBuilder := by kernel_rfl
  liesBuilder := by kernel_rfl
  t5 := Tryz.underlying5
  a5 := Tryz.isAgg5
  z5 := Tryz.sizeOf5
  v5 := Tryz.zeroValue5
  infoByte := by kernel_rfl
  cellsByte := by kernel_rfl
  sizeByte := by kernel_rfl
  neB5 := by decide }
open Go.RowKit in
/-- No element: the empty string; the world is as it was. (Whatever the slice's address and capacity: a nil slice too.) (LAID: no walk: one application.) -/
theorem sh_strings_Join_none (a : Option Addr) (c : Nat) (sep : ByteArray) (w : World) :
    Calls Tryz.prog 107 #[.slice a 0 c, .string sep] w fun e w' => e = .returned (.string ⟨#[]⟩) ∧ w' = w := Any.strings_Join_none sh_lays156 sh_Builder_Extra_156 a c sep w
open Go.RowKit in
/-- strings.Join: "Join concatenates the elements of its first argument to create a single string. The separator string sep is placed between elements in the resulting string.": HOWEVER MANY ELEMENTS. Below the heap's end the world is as it was. (LAID: no walk: one application.) -/
theorem sh_strings_Join (bk o c : Nat) (xs : List ByteArray) (sep : ByteArray) (w : World) (hcells : ∀ (j : Nat) x, xs[j]? = some x → w.cell? ⟨bk, o + j, none⟩ = some (.string x)) (hbk : bk < w.heap.size) (hN : xs.length ≤ 140737488355328) (hcap : xs.length ≤ c) (hlen : (Lib.join (xs.map (·.data.toList)) sep.data.toList).length ≤ 140737488355328) :
    Calls Tryz.prog 107 #[.slice (some ⟨bk, o, none⟩) xs.length c, .string sep] w fun e w' => e = .returned (.string ⟨(Lib.join (xs.map (·.data.toList)) sep.data.toList).toArray⟩) ∧ Below w.heap.size w w' := Any.strings_Join sh_lays156 sh_Builder_Extra_156 bk o c xs sep w hcells hbk hN hcap hlen
def sh_laysSlM6_f131_ren : Go.Shelf.Ren := ⟨fun | 6 => 131 | 8 => 140 | 9 => 139 | 19 => 152 | 20 => 153 | 21 => 143 | 22 => 144 | 23 => 145 | 24 => 146 | 25 => 147 | 26 => 148 | 27 => 149 | 28 => 150 | 29 => 151 | 36 => 155 | 31 => 156 | 32 => 157 | 37 => 158 | 38 => 159 | 39 => 160 | 41 => 161 | n => n, fun | 27 => 101 | 29 => 9 | 3 => 3 | 32 => 121 | 26 => 101 | 0 => 0 | 44 => 130 | 46 => 120 | 4 => 4 | 36 => 188 | 35 => 187 | 41 => 92 | 5 => 5 | 9 => 9 | 53 => 197 | 57 => 201 | 63 => 203 | 64 => 204 | n => n, fun | n => n⟩
theorem sh_laysSlM6_f131 : Go.Proofs.SlLaysM.n6 Tryz.prog sh_laysSlM6_f131_ren := {
  mixed := by kernel_rfl
  f6 := ⟨Tryz.f131.name, by decide, Tryz.func131.trans (congrArg some (by kernel_rfl))⟩
  f8 := Tryz.func140.trans (congrArg some (by kernel_rfl))
  f9 := ⟨Tryz.f139.name, by decide, Tryz.func139.trans (congrArg some (by kernel_rfl))⟩
  f19 := Tryz.func152.trans (congrArg some (by kernel_rfl))
  f20 := Tryz.func153.trans (congrArg some (by kernel_rfl))
  f21 := ⟨Tryz.f143.name, by decide, Tryz.func143.trans (congrArg some (by kernel_rfl))⟩
  f22 := ⟨Tryz.f144.name, by decide, Tryz.func144.trans (congrArg some (by kernel_rfl))⟩
  f23 := ⟨Tryz.f145.name, by decide, Tryz.func145.trans (congrArg some (by kernel_rfl))⟩
  f24 := ⟨Tryz.f146.name, by decide, Tryz.func146.trans (congrArg some (by kernel_rfl))⟩
  f25 := ⟨Tryz.f147.name, by decide, Tryz.func147.trans (congrArg some (by kernel_rfl))⟩
  f26 := ⟨Tryz.f148.name, by decide, Tryz.func148.trans (congrArg some (by kernel_rfl))⟩
  f27 := ⟨Tryz.f149.name, by decide, Tryz.func149.trans (congrArg some (by kernel_rfl))⟩
  f28 := ⟨Tryz.f150.name, by decide, Tryz.func150.trans (congrArg some (by kernel_rfl))⟩
  f29 := ⟨Tryz.f151.name, by decide, Tryz.func151.trans (congrArg some (by kernel_rfl))⟩
  f31 := Tryz.func156.trans (congrArg some (by kernel_rfl))
  f32 := Tryz.func157.trans (congrArg some (by kernel_rfl))
  f36 := ⟨Tryz.f155.name, by decide, Tryz.func155.trans (congrArg some (by kernel_rfl))⟩
  f37 := ⟨Tryz.f158.name, by decide, Tryz.func158.trans (congrArg some (by kernel_rfl))⟩
  f38 := ⟨Tryz.f159.name, by decide, Tryz.func159.trans (congrArg some (by kernel_rfl))⟩
  f39 := ⟨Tryz.f160.name, by decide, Tryz.func160.trans (congrArg some (by kernel_rfl))⟩
  f41 := ⟨Tryz.f161.name, by decide, Tryz.func161.trans (congrArg some (by kernel_rfl))⟩
  t0 := Tryz.underlying0
  a0 := Tryz.isAgg0
  z0 := Tryz.sizeOf0
  v0 := Tryz.zeroValue0
  t3 := Tryz.underlying3
  a3 := Tryz.isAgg3
  z3 := Tryz.sizeOf3
  v3 := Tryz.zeroValue3
  t4 := Tryz.underlying4
  a4 := Tryz.isAgg4
  z4 := Tryz.sizeOf4
  v4 := Tryz.zeroValue4
  t5 := Tryz.underlying5
  a5 := Tryz.isAgg5
  z5 := Tryz.sizeOf5
  v5 := Tryz.zeroValue5
  t9 := Tryz.underlying9
  a9 := Tryz.isAgg9
  z9 := Tryz.sizeOf9
  v9 := Tryz.zeroValue9
  t26 := Tryz.underlying101
  a26 := Tryz.isAgg101
  z26 := Tryz.sizeOf101
  v26 := Tryz.zeroValue101
  t27 := Tryz.underlying101
  a27 := Tryz.isAgg101
  z27 := Tryz.sizeOf101
  v27 := Tryz.zeroValue101
  t29 := Tryz.underlying9
  a29 := Tryz.isAgg9
  z29 := Tryz.sizeOf9
  v29 := Tryz.zeroValue9
  t32 := Tryz.underlying121
  a32 := Tryz.isAgg121
  z32 := Tryz.sizeOf121
  v32 := Tryz.zeroValue121
  t35 := Tryz.underlying187
  a35 := Tryz.isAgg187
  z35 := Tryz.sizeOf187
  v35 := Tryz.zeroValue187
  t36 := Tryz.underlying188
  a36 := Tryz.isAgg188
  z36 := Tryz.sizeOf188
  v36 := Tryz.zeroValue188
  t41 := Tryz.underlying92
  a41 := Tryz.isAgg92
  z41 := Tryz.sizeOf92
  v41 := Tryz.zeroValue92
  t44 := Tryz.underlying130
  a44 := Tryz.isAgg130
  z44 := Tryz.sizeOf130
  v44 := Tryz.zeroValue130
  t46 := Tryz.underlying120
  a46 := Tryz.isAgg120
  z46 := Tryz.sizeOf120
  v46 := Tryz.zeroValue120
  t53 := Tryz.underlying197
  a53 := Tryz.isAgg197
  z53 := Tryz.sizeOf197
  v53 := Tryz.zeroValue197
  t57 := Tryz.underlying201
  a57 := Tryz.isAgg201
  z57 := Tryz.sizeOf201
  v57 := Tryz.zeroValue201
  t63 := Tryz.underlying203
  a63 := Tryz.isAgg203
  z63 := Tryz.sizeOf203
  v63 := Tryz.zeroValue203
  t64 := Tryz.underlying204
  a64 := Tryz.isAgg204
  z64 := Tryz.sizeOf204
  v64 := Tryz.zeroValue204 }
open Go.Sort Go.RowKit in
theorem sh_slices_Sort_string (blk off cap : Nat) (ss : List (List UInt8)) (w : World) (hH : Holds encStr w blk off ss.toArray) (hblk : blk < w.heap.size) (hsz : ss.length < 4611686018427387904) :
    Calls Tryz.prog 131 #[.slice (some ⟨blk, off, none⟩) ss.length cap] w fun e w' =>
      e = .returned (.tuple #[]) ∧ ∃ n os, w' = grow (putRow encStr (Sort.ahead w n) blk off (ss.mergeSort fun x y => decide (x ≤ y)).toArray) os := AnyM.slices_Sort_string sh_laysSlM6_f131 blk off cap ss w hH hblk hsz
open Go.RowKit Go.Sort in
/-- .. and plain. (LAID AT THE INSTANCE 'slices.Sort[[]string,string]': no walk: one application.) -/
theorem sh_slices_Sort_string_none (p : Option Addr) (cap : Nat) (w : World) :
    Calls Tryz.prog 131 #[.slice p 0 cap] w fun e w' => e = .returned (.tuple #[]) ∧ w' = w := AnyM.slices_Sort_string_none sh_laysSlM6_f131 p cap w
end Go.Proofs.YtejdkcnbflpfaaaGreat.B

set_option linter.unusedVariables false
set_option linter.unusedSimpArgs false
set_option maxRecDepth 8000
/-! strings.Join. -/
namespace Go.Proofs.YtejdkcnbflpfaaaGreat.B
open Go Go.Proofs

theorem inter_nil : ∀ l : List (List UInt8), Lib.join l [] = l.flatten
  | [] => rfl
  | [x] => by simp [Lib.join, List.intercalate]
  | x :: y :: r => by
    have ih := inter_nil (y :: r)
    simp only [Lib.join, List.intercalate, List.intersperse] at ih ⊢
    simp only [List.flatten_cons, List.nil_append] at ih ⊢
    rw [ih]
theorem strings_Join (A : Option Addr) (k c : Nat) (xs : List ByteArray) (hk : k = xs.length) (hkc : k ≤ c) (hl : (xs.flatMap fun s => bs s).length ≤ 140737488355328) (hN : xs.length ≤ 140737488355328) (W0 : World) (G : List SL) (hR : Rd W0 G strE A xs) :
    Fn Tryz.prog 107 [.slice A k c, .string ⟨#[]⟩] W0 G (Ret fun v G' => v = .string (mk (xs.flatMap fun s => bs s)) ∧ G' = G) := fun w hs => by
  subst hk
  have hj : Lib.join (xs.map (·.data.toList)) (⟨#[]⟩ : ByteArray).data.toList = xs.flatMap fun s => bs s := by
    rw [show (⟨#[]⟩ : ByteArray).data.toList = [] from rfl, inter_nil, List.flatMap]
  cases hx : xs with
  | nil =>
    refine (sh_strings_Join_none A c ⟨#[]⟩ w).mono fun e w' h => ?_
    obtain ⟨rfl, rfl⟩ := h
    exact ⟨G, ⟨rfl, rfl⟩, hs⟩
  | cons x0 r =>
    rw [← hx]
    rcases hR w hs with h0 | ⟨b, o, rfl, hc⟩
    · exfalso
      have h1 := congrArg List.length h0
      rw [flat_len, hx] at h1
      simp [strE] at h1
    · have hfl : ∀ l : List ByteArray, flat strE l = l.map Value.string := fun l => by
        induction l with
        | nil => rfl
        | cons a l ih => simp only [flat, List.flatMap_cons, List.map_cons] at ih ⊢; rw [ih]; rfl
      have hcs : ∀ (j : Nat) x, xs[j]? = some x → w.cell? ⟨b, o + j, none⟩ = some (.string x) := fun j x hj => hc j _ (by rw [hfl, List.getElem?_map, hj]; rfl)
      have hb : b < w.heap.size := by
        have := hcs 0 x0 (by rw [hx]; rfl)
        by_cases h : b < w.heap.size
        · exact h
        · exfalso
          simp only [World.cell?] at this
          rw [Array.getElem?_eq_none (by omega)] at this
          cases this
      refine (sh_strings_Join b o c xs ⟨#[]⟩ w hcs hb hN hkc (by rw [hj]; exact hl)).mono fun e w' h => ?_
      obtain ⟨rfl, hbw⟩ := h
      exact ⟨G, ⟨by rw [hj], rfl⟩, hs.below hbw⟩
end Go.Proofs.YtejdkcnbflpfaaaGreat.B

set_option linter.unusedVariables false
set_option linter.unusedSimpArgs false
/-! Results, in temporaries or in cells. -/
namespace Go.Proofs.YtejdkcnbflpfaaaGreat.B
open Go Go.Proofs
/-- Results, in temporaries or in cells. -/
inductive ResOk {P : Program} (T : Tab P) (L : TL) (G : List SL) : List ResultVar → List Value → Prop
  | nil : ResOk T L G [] []
  | tmp {t : Nat} {v : Value} {rs : List ResultVar} {vs : List Value} : lk L t = some v → ResOk T L G rs vs → ResOk T L G (.tmp t :: rs) (v :: vs)
  | cell {p t b tt : Nat} {cs : List Value} {v : Value} {rs : List ResultVar} {vs : List Value} (i : Nat) : lk L p = some (.pointer (some ⟨b, 0, none⟩)) → G[i]? = some (row b tt cs) → partV T t cs 0 = some v → ResOk T L G rs vs → ResOk T L G (.cell p t :: rs) (v :: vs)
theorem ResOk.run {P : Program} {T : Tab P} {n : Nat} {ds : List Deferred} {L : TL} {W0 : World} {G : List SL} {w : World} {a : Act} (hf : Fr n ds L a) (hs : Sat W0 G w) {rs : List ResultVar} {vs : List Value} (h : ResOk T L G rs vs) :
    (rs.mapM (resOne a.tmps)).run P w = Result.ok vs w := by
  induction h with
  | nil => rfl
  | @tmp t v rs vs h1 h2 ih =>
    have h4 : (resOne a.tmps (.tmp t)).run P w = .ok v w := by simp [resOne, hf.get _ _ h1]
    rw [List.mapM_cons, Sem.run_bind, h4, Result.andThen_ok, Sem.run_bind, ih, Result.andThen_ok, Sem.run_pure]
  | @cell p t b tt cs v rs vs i hp hG hv h2 ih =>
    have hb := hs.at hG
    have h0 : (resOne a.tmps (.cell p t)).run P w = .ok v w := by
      have hl := run_loadVar_at T (w := w) (b := b) (o := 0) (cs := cs) (fun j u hu => by rw [cell_row hb]; exact hu) hv
      have h3 := hf.get _ _ hp
      simp [resOne, h3, asAddr, hl]
    rw [List.mapM_cons, Sem.run_bind, h0, Result.andThen_ok, Sem.run_bind, ih, Result.andThen_ok, Sem.run_pure]
theorem QS.retG {P : Program} {T : Tab P} {n : Nat} {L : TL} {W0 : World} {G : List SL} {fn : Func} {vs : List Value} {R : Ending → List SL → Prop} {rs : List ResultVar} (hrs : fn.results = rs.toArray) (hv : ResOk T L G rs vs) (hR : R (.returned (resV vs)) G) :
    QS (bodyPost P fn (fun e w' => ∃ G', R e G' ∧ Sat W0 G' w')) n [] .ret L W0 G := fun a w hf hs => by
  refine ⟨hf.defers, resV vs, ?_, G, hR, hs⟩
  have h := hv.run (P := P) hf hs
  rw [results_is, hrs, Sem.run_bind, List.mapM_toArray, Sem.run_map, h, Result.andThen_ok, Result.andThen_ok, Sem.run_pure, resPack_eq]

section
variable {P : Program} {Q : Exit → Act → World → Prop} {n : Nat} {ds : List Deferred} {l : List Oper} {Gq : List SL} {z gz f : Nat} {done : List Nat} {L : TL} {W0 : World} {G : List SL} {d : Option Nat} {op : Op} {ty : TypeId} {pos : String} {af : Array Edge} {g : Option (Nat × Bool)} {i : Nat}
theorem WA.idxAt (i : Nat) (T : Tab P) {α : Type} {E : EncK α} {d t e k c : Nat} {A : Option Addr} {xs : List α} {x : α} {s ix : Operand} {kd : IntKind} {iv : Int} {zz b1 c1 : _} {te : TE} (hw : ∃ w, Sat W0 Gq w) (hR : Rd W0 Gq E A xs)
    (hi : readyB l done i = true) (ho : l[i]? = some ⟨some d, .indexAddr t s ix, ty, pos, af, g⟩) (hfr : freeB l z done i = true) (hg : wantB l L g = true) (hs : evL L s = some (.slice A k c)) (hix : evL L ix = some (.int kd iv))
    (hk : k = xs.length) (h0 : 0 ≤ iv) (hx : xs[iv.toNat]? = some x) (hl : lk T.tab t = some ⟨.slice e, zz, b1, c1⟩) (he : lk T.tab e = some te) (hsz : te.size = E.sz) (hd : Nat.blt d n = true)
    (h : ∀ b o, At W0 Gq E b o x → WA P Q n ds l Gq z gz f (i :: done) ((d, .pointer (some ⟨b, o, none⟩)) :: L) W0 G) : WA P Q n ds l Gq z gz (f + 1) done L W0 G := by
  obtain ⟨b, o, hA, hop⟩ := op1_ixE (n := n) (ds := ds) (ty := ty) T hR hs hix hk h0 hx hl he hsz hw
  exact WA.at i hi ho hfr hg hop hd (h b o hA)
/-- A call that may panic, and one that writes; either first. -/
theorem WA.e2P {fo : Operand} {args : Array Operand} {tys : Array TypeId} {K : Nat} {fst cap vs all : List Value} {R : Ending → List SL → Prop} {o2 : Oper} {R2 : Value → List SL → Prop} (i j : Nat) (hr : onlyB l done [i, j] = true) (hi : readyB l done i = true)
    (ho : l[i]? = some ⟨d, .call ⟨.value fo, args, tys⟩, ty, pos, af, g⟩) (ho2 : l[j]? = some o2) (hg : wantB l L g = true) (hg2 : wantB l L o2.guard = true)
    (hK : Callable P K) (hx : evL L fo = some (.func (.func K) fst.toArray cap.toArray)) (ha : evLs L args.toList = some vs) (hall : fst ++ vs ++ cap = all) (hd : dOk n d = true) (spec : Fn P K all W0 G R) (hout : ∀ G', ¬ R .outgrown G') (e2 : EffC P n ds L W0 G o2 R2) (hd2 : dOk n o2.dst = true)
    (h : ∀ v G', R (.returned v) G' → (∀ w, Sat W0 G' w → Sat W0 Gq w) ∧ WA P Q n ds l Gq z gz f (i :: done) (putL L d v) W0 G') (hp : ∀ ch G', R (.panicked ch) G' → QS Q n ds (.panic ch) [] W0 G')
    (h2 : ∀ v G', R2 v G' → (∀ w, Sat W0 G' w → Sat W0 Gq w) ∧ WA P Q n ds l Gq z gz f (j :: done) (putL L o2.dst v) W0 G') : WA P Q n ds l Gq z gz (f + 1) done L W0 G := fun hn a hf => by
  have hil := (List.getElem?_eq_some_iff.1 ho).1
  have hjl := (List.getElem?_eq_some_iff.1 ho2).1
  have hin := (readyB_iff hn.1).2 hi
  refine ⟨fun h0 => (by rw [h0] at hin; cases hin), fun k hk => ?_⟩
  have hkk := onlyB_spec hn.1 hr k hk
  simp only [List.mem_cons, List.not_mem_nil, or_false] at hkk
  rcases hkk with rfl | rfl
  · refine ⟨_, by simpa using ho, .inr ⟨wantB_spec hf hg, fun w hs => ?_⟩⟩
    unfold runs
    rw [run_callOp hf hK hx ha, hall]
    refine (spec w hs).mono fun e w' ⟨G', hR, hs'⟩ => ?_
    cases e with
    | returned v =>
      obtain ⟨h3, h4⟩ := h v G' hR
      exact .inl ⟨v, rfl, G', h3, hs', h4 ⟨fun k hk => (List.mem_cons.1 hk).elim (fun e => e ▸ hil) (hn.1 k), hn.2⟩ _ (hf.put hd)⟩
    | panicked ch => exact .inr ⟨ch, rfl, fun a' ha' => hp ch G' hR a' w' ⟨by rw [ha'.1, hf.size], by rw [ha'.2, hf.defers], fun i v h => by cases h⟩ hs'⟩
    | outgrown => exact (hout G' hR).elim
  · refine ⟨o2, by simpa using ho2, .inr ⟨wantB_spec hf hg2, fun w hs => runs_mono (fun _ _ h => h.elim) (fun v w' ⟨G', h3, h4⟩ => ?_) (e2 a w hf hs)⟩⟩
    obtain ⟨h5, h6⟩ := h2 v G' h3
    exact ⟨G', h5, h4, h6 ⟨fun k hk => (List.mem_cons.1 hk).elim (fun e => e ▸ hjl) (hn.1 k), hn.2⟩ _ (hf.put hd2)⟩
end
theorem QS.ex {Q : Exit → Act → World → Prop} {n : Nat} {ds : List Deferred} {L : TL} {W0 : World} {G : List SL} {e : Exit} {X : Type} {A : X → List SL} (hG : ∀ w, Sat W0 G w → ∃ x, Sat W0 (A x) w) (h : ∀ x, QS Q n ds e L W0 (A x)) : QS Q n ds e L W0 G := fun a w hf hs => by
  obtain ⟨x, hx⟩ := hG w hs
  exact h x a w hf hx
end Go.Proofs.YtejdkcnbflpfaaaGreat.B
