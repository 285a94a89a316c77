import Derived.Shelf.Strings.Builder1
import Derived.Shelf.Strings.Builder2
import Derived.Shelf.Strings.OnBuilder
import Derived.Ground.SlgmProg
import Derived.Shelf.SortM.Plain
import Derived.Shelf.SortM.SortNone
import Derived.Test.YtfolmcpfdcgliaaGreatProg
import Derived.Test.YtfolmcpfdcgliaaGreatMg8
import Derived.Test.YtfolmcpfdcgliaaGreatMg10
import Derived.Sort.OwnSortedInts
import Derived.Test.YtfolmcpfdcgliaaGreatMg32
namespace Go.Proofs.YtfolmcpfdcgliaaGreat.B
open Go Go.Proofs
open Go.Shelf
def sh_lays156_ren : Go.Shelf.Ren := ⟨fun | 156 => 161 | 165 => 186 | 166 => 139 | 169 => 141 | 240 => 176 | 241 => 203 | 276 => 193 | 277 => 209 | n => n, fun | 31 => 43 | 9 => 9 | 3 => 3 | 4 => 4 | 0 => 0 | 20 => 20 | 72 => 230 | 76 => 233 | 70 => 228 | 37 => 215 | 75 => 232 | 127 => 260 | 164 => 271 | 5 => 5 | 80 => 236 | n => n, fun | n => n⟩
theorem sh_lays156 : Go.Proofs.Lays.n156 Tryz.prog sh_lays156_ren := {
  mixed := by kernel_rfl
  f156 := Tryz.func161.trans (congrArg some (by kernel_rfl))
  f165 := Tryz.func186.trans (congrArg some (by kernel_rfl))
  f166 := Tryz.func139.trans (congrArg some (by kernel_rfl))
  f169 := Tryz.func141.trans (congrArg some (by kernel_rfl))
  f240 := Tryz.func176.trans (congrArg some (by kernel_rfl))
  f241 := Tryz.func203.trans (congrArg some (by kernel_rfl))
  f276 := Tryz.func193.trans (congrArg some (by kernel_rfl))
  f277 := Tryz.func209.trans (congrArg some (by kernel_rfl))
  t0 := Tryz.underlying0
  a0 := Tryz.isAgg0
  z0 := Tryz.sizeOf0
  v0 := Tryz.zeroValue0
  t3 := Tryz.underlying3
  a3 := Tryz.isAgg3
  z3 := Tryz.sizeOf3
  v3 := Tryz.zeroValue3
  t4 := Tryz.underlying4
  a4 := Tryz.isAgg4
  z4 := Tryz.sizeOf4
  v4 := Tryz.zeroValue4
  t9 := Tryz.underlying9
  a9 := Tryz.isAgg9
  z9 := Tryz.sizeOf9
  v9 := Tryz.zeroValue9
  t20 := Tryz.underlying20
  a20 := Tryz.isAgg20
  z20 := Tryz.sizeOf20
  v20 := Tryz.zeroValue20
  t31 := Tryz.underlying43
  a31 := Tryz.isAgg43
  z31 := Tryz.sizeOf43
  v31 := Tryz.zeroValue43
  t37 := Tryz.underlying215
  a37 := Tryz.isAgg215
  z37 := Tryz.sizeOf215
  v37 := Tryz.zeroValue215
  t70 := Tryz.underlying228
  a70 := Tryz.isAgg228
  z70 := Tryz.sizeOf228
  v70 := Tryz.zeroValue228
  t72 := Tryz.underlying230
  a72 := Tryz.isAgg230
  z72 := Tryz.sizeOf230
  v72 := Tryz.zeroValue230
  t75 := Tryz.underlying232
  a75 := Tryz.isAgg232
  z75 := Tryz.sizeOf232
  v75 := Tryz.zeroValue232
  t76 := Tryz.underlying233
  a76 := Tryz.isAgg233
  z76 := Tryz.sizeOf233
  v76 := Tryz.zeroValue233
  t127 := Tryz.underlying260
  a127 := Tryz.isAgg260
  z127 := Tryz.sizeOf260
  v127 := Tryz.zeroValue260
  t164 := Tryz.underlying271
  a164 := Tryz.isAgg271
  z164 := Tryz.sizeOf271
  v164 := Tryz.zeroValue271 }
theorem sh_Builder_Extra_156 : Builder.Extra Tryz.prog sh_lays156_ren := {
  sizeBuilder := by kernel_rfl
  liesBuilder := by kernel_rfl
  t5 := Tryz.underlying5
  a5 := Tryz.isAgg5
  z5 := Tryz.sizeOf5
  v5 := Tryz.zeroValue5
  infoByte := by kernel_rfl
  cellsByte := by kernel_rfl
  sizeByte := by kernel_rfl
  neB5 := by decide }
open Go.RowKit in
theorem sh_strings_Join_none (a : Option Addr) (c : Nat) (sep : ByteArray) (w : World) :
    Calls Tryz.prog 161 #[.slice a 0 c, .string sep] w fun e w' => e = .returned (.string ⟨#[]⟩) ∧ w' = w := Any.strings_Join_none sh_lays156 sh_Builder_Extra_156 a c sep w
open Go.RowKit in
theorem sh_strings_Join (bk o c : Nat) (xs : List ByteArray) (sep : ByteArray) (w : World) (hcells : ∀ (j : Nat) x, xs[j]? = some x → w.cell? ⟨bk, o + j, none⟩ = some (.string x)) (hbk : bk < w.heap.size) (hN : xs.length ≤ 140737488355328) (hcap : xs.length ≤ c) (hlen : (Lib.join (xs.map (·.data.toList)) sep.data.toList).length ≤ 140737488355328) :
    Calls Tryz.prog 161 #[.slice (some ⟨bk, o, none⟩) xs.length c, .string sep] w fun e w' => e = .returned (.string ⟨(Lib.join (xs.map (·.data.toList)) sep.data.toList).toArray⟩) ∧ Below w.heap.size w w' := Any.strings_Join sh_lays156 sh_Builder_Extra_156 bk o c xs sep w hcells hbk hN hcap hlen
def sh_laysSlM5_f77_ren : Go.Shelf.Ren := ⟨fun | 5 => 77 | 8 => 123 | 7 => 122 | 19 => 172 | 20 => 173 | 10 => 163 | 11 => 164 | 12 => 165 | 13 => 166 | 14 => 167 | 15 => 168 | 16 => 169 | 17 => 170 | 18 => 171 | 30 => 187 | 31 => 188 | 32 => 189 | 33 => 190 | 34 => 191 | 35 => 192 | 40 => 204 | n => n, fun | 23 => 28 | 25 => 3 | 3 => 3 | 32 => 197 | 22 => 28 | 0 => 0 | 44 => 194 | 46 => 196 | 4 => 4 | 36 => 250 | 35 => 249 | 41 => 154 | 5 => 5 | 9 => 9 | 53 => 264 | 57 => 268 | 63 => 279 | 64 => 280 | n => n, fun | n => n⟩
theorem sh_laysSlM5_f77 : Go.Proofs.SlLaysM.n5 Tryz.prog sh_laysSlM5_f77_ren := {
  mixed := by kernel_rfl
  f5 := ⟨Tryz.f77.name, by decide, Tryz.func77.trans (congrArg some (by kernel_rfl))⟩
  f7 := ⟨Tryz.f122.name, by decide, Tryz.func122.trans (congrArg some (by kernel_rfl))⟩
  f8 := Tryz.func123.trans (congrArg some (by kernel_rfl))
  f10 := ⟨Tryz.f163.name, by decide, Tryz.func163.trans (congrArg some (by kernel_rfl))⟩
  f11 := ⟨Tryz.f164.name, by decide, Tryz.func164.trans (congrArg some (by kernel_rfl))⟩
  f12 := ⟨Tryz.f165.name, by decide, Tryz.func165.trans (congrArg some (by kernel_rfl))⟩
  f13 := ⟨Tryz.f166.name, by decide, Tryz.func166.trans (congrArg some (by kernel_rfl))⟩
  f14 := ⟨Tryz.f167.name, by decide, Tryz.func167.trans (congrArg some (by kernel_rfl))⟩
  f15 := ⟨Tryz.f168.name, by decide, Tryz.func168.trans (congrArg some (by kernel_rfl))⟩
  f16 := ⟨Tryz.f169.name, by decide, Tryz.func169.trans (congrArg some (by kernel_rfl))⟩
  f17 := ⟨Tryz.f170.name, by decide, Tryz.func170.trans (congrArg some (by kernel_rfl))⟩
  f18 := ⟨Tryz.f171.name, by decide, Tryz.func171.trans (congrArg some (by kernel_rfl))⟩
  f19 := Tryz.func172.trans (congrArg some (by kernel_rfl))
  f20 := Tryz.func173.trans (congrArg some (by kernel_rfl))
  f30 := ⟨Tryz.f187.name, by decide, Tryz.func187.trans (congrArg some (by kernel_rfl))⟩
  f31 := Tryz.func188.trans (congrArg some (by kernel_rfl))
  f32 := Tryz.func189.trans (congrArg some (by kernel_rfl))
  f33 := ⟨Tryz.f190.name, by decide, Tryz.func190.trans (congrArg some (by kernel_rfl))⟩
  f34 := ⟨Tryz.f191.name, by decide, Tryz.func191.trans (congrArg some (by kernel_rfl))⟩
  f35 := ⟨Tryz.f192.name, by decide, Tryz.func192.trans (congrArg some (by kernel_rfl))⟩
  f40 := ⟨Tryz.f204.name, by decide, Tryz.func204.trans (congrArg some (by kernel_rfl))⟩
  t0 := Tryz.underlying0
  a0 := Tryz.isAgg0
  z0 := Tryz.sizeOf0
  v0 := Tryz.zeroValue0
  t3 := Tryz.underlying3
  a3 := Tryz.isAgg3
  z3 := Tryz.sizeOf3
  v3 := Tryz.zeroValue3
  t4 := Tryz.underlying4
  a4 := Tryz.isAgg4
  z4 := Tryz.sizeOf4
  v4 := Tryz.zeroValue4
  t5 := Tryz.underlying5
  a5 := Tryz.isAgg5
  z5 := Tryz.sizeOf5
  v5 := Tryz.zeroValue5
  t9 := Tryz.underlying9
  a9 := Tryz.isAgg9
  z9 := Tryz.sizeOf9
  v9 := Tryz.zeroValue9
  t22 := Tryz.underlying28
  a22 := Tryz.isAgg28
  z22 := Tryz.sizeOf28
  v22 := Tryz.zeroValue28
  t23 := Tryz.underlying28
  a23 := Tryz.isAgg28
  z23 := Tryz.sizeOf28
  v23 := Tryz.zeroValue28
  t25 := Tryz.underlying3
  a25 := Tryz.isAgg3
  z25 := Tryz.sizeOf3
  v25 := Tryz.zeroValue3
  t32 := Tryz.underlying197
  a32 := Tryz.isAgg197
  z32 := Tryz.sizeOf197
  v32 := Tryz.zeroValue197
  t35 := Tryz.underlying249
  a35 := Tryz.isAgg249
  z35 := Tryz.sizeOf249
  v35 := Tryz.zeroValue249
  t36 := Tryz.underlying250
  a36 := Tryz.isAgg250
  z36 := Tryz.sizeOf250
  v36 := Tryz.zeroValue250
  t41 := Tryz.underlying154
  a41 := Tryz.isAgg154
  z41 := Tryz.sizeOf154
  v41 := Tryz.zeroValue154
  t44 := Tryz.underlying194
  a44 := Tryz.isAgg194
  z44 := Tryz.sizeOf194
  v44 := Tryz.zeroValue194
  t46 := Tryz.underlying196
  a46 := Tryz.isAgg196
  z46 := Tryz.sizeOf196
  v46 := Tryz.zeroValue196
  t53 := Tryz.underlying264
  a53 := Tryz.isAgg264
  z53 := Tryz.sizeOf264
  v53 := Tryz.zeroValue264
  t57 := Tryz.underlying268
  a57 := Tryz.isAgg268
  z57 := Tryz.sizeOf268
  v57 := Tryz.zeroValue268
  t63 := Tryz.underlying279
  a63 := Tryz.isAgg279
  z63 := Tryz.sizeOf279
  v63 := Tryz.zeroValue279
  t64 := Tryz.underlying280
  a64 := Tryz.isAgg280
  z64 := Tryz.sizeOf280
  v64 := Tryz.zeroValue280 }
open Go.Sort Go.RowKit in
theorem sh_slices_Sort_int (blk off cap : Nat) (zs : List Int) (w : World) (hH : Holds (Value.int .i64) w blk off zs.toArray) (hblk : blk < w.heap.size) (hsz : zs.length < 4611686018427387904) :
    Calls Tryz.prog 77 #[.slice (some ⟨blk, off, none⟩) zs.length cap] w fun e w' =>
      e = .returned (.tuple #[]) ∧ ∃ n os, w' = grow (putRow (Value.int .i64) (Sort.ahead w n) blk off (zs.mergeSort fun x y => decide (x ≤ y)).toArray) os := AnyM.slices_Sort_int sh_laysSlM5_f77 blk off cap zs w hH hblk hsz
def sh_laysSlM6_f143_ren : Go.Shelf.Ren := ⟨fun | 6 => 143 | 8 => 123 | 9 => 178 | 19 => 172 | 20 => 173 | 21 => 194 | 22 => 195 | 23 => 196 | 24 => 197 | 25 => 198 | 26 => 199 | 27 => 200 | 28 => 201 | 29 => 202 | 36 => 205 | 31 => 188 | 32 => 189 | 37 => 206 | 38 => 207 | 39 => 208 | 41 => 210 | n => n, fun | 27 => 43 | 29 => 9 | 3 => 3 | 32 => 197 | 26 => 43 | 0 => 0 | 44 => 194 | 46 => 196 | 4 => 4 | 36 => 250 | 35 => 249 | 41 => 154 | 5 => 5 | 9 => 9 | 53 => 264 | 57 => 268 | 63 => 279 | 64 => 280 | n => n, fun | n => n⟩
open Go.RowKit Go.Sort in
theorem sh_slices_Sort_int_none (p : Option Addr) (cap : Nat) (w : World) :
    Calls Tryz.prog 77 #[.slice p 0 cap] w fun e w' => e = .returned (.tuple #[]) ∧ w' = w := AnyM.slices_Sort_int_none sh_laysSlM5_f77 p cap w
end Go.Proofs.YtfolmcpfdcgliaaGreat.B

set_option linter.unusedVariables false
set_option linter.unusedSimpArgs false
set_option maxRecDepth 8000
namespace Go.Proofs.YtfolmcpfdcgliaaGreat.B
open Go Go.Proofs Go.Sort
def sortI (xs : List Int) : List Int := xs.mergeSort fun x y => decide (x ≤ y)
theorem flat_int (xs : List Int) : flat intE xs = xs.map (Value.int .i64) := by
  induction xs with
  | nil => rfl
  | cons x r ih => simp only [flat, List.flatMap_cons, List.map_cons] at ih ⊢; rw [ih]; rfl
theorem sortI_len (xs : List Int) : (sortI xs).length = xs.length := List.length_mergeSort xs
theorem sort_ints {A : Option Addr} {c : Nat} {xs : List Int} (hl : xs.length ≤ 4000000000000000000) (W0 : World) (G : List SL) :
    Fn Tryz.prog 77 [.slice A xs.length c] W0 (slc intE 3 A c xs :: G) (Ret fun v G' => v = .tuple #[] ∧ G' = slc intE 3 A c (sortI xs) :: G) := fun w hs => by
  obtain ⟨h1, h2, h3⟩ := slc_at (i := 0) rfl w hs
  have hsl := sortI_len xs
  rcases h3 with ⟨rfl, rfl, rfl⟩ | ⟨g, rfl⟩
  · refine (sh_slices_Sort_int_none none 0 w).mono fun e w' h => ?_
    obtain ⟨rfl, rfl⟩ := h
    refine ⟨_, ⟨rfl, rfl⟩, ?_⟩
    simpa [sortI] using hs
  · obtain ⟨hp, h, hle⟩ := hs.head
    rcases h with ⟨h, _⟩ | ⟨g', cur, hg, hb, h3, h4, h5, h6⟩
    · cases h
    injection hg with hg
    injection hg with hg _ _
    subst hg
    have hb' := hle g _ hb
    have hsz : intE.sz = 1 := rfl
    rw [hsz, Nat.mul_one] at h5 h6
    rw [flat_int] at h6
    have hH : Holds (Value.int .i64) w g 0 xs.toArray := holds_of_blockI hb' h6
    have hlt : g < w.heap.size := (Array.getElem?_eq_some_iff.1 hb').1
    refine (sh_slices_Sort_int g 0 c xs w hH hlt (by omega)).mono fun e w' h => ?_
    obtain ⟨rfl, n, os, rfl⟩ := h
    have ho := ownsRow_sortedI (n := n) (os := os) (base := 0) (ts := sortI xs) hsl (Nat.zero_le _) hb' h3 h4 (by rw [h5, Nat.mul_one])
    obtain ⟨A', c', hA, s2⟩ := hs.slcTurn (v' := .slice (some ⟨g, 0, none⟩) xs.length c) (ys := sortI xs) (by rw [hsl, flat_int]; exact ho) (grownBy_sortedI (g := g) _) (.inl rfl)
    simp only [Value.slice.injEq] at hA
    obtain ⟨rfl, _, rfl⟩ := hA
    exact ⟨_, ⟨rfl, rfl⟩, s2⟩
end Go.Proofs.YtfolmcpfdcgliaaGreat.B

namespace Go.Proofs.YtfolmcpfdcgliaaGreat.B
open Go
def cnt (ls : List LogX) (E : Int) (k : Nat) : Nat := ls.countP fun x => decide (x.e = E) && decide (k ≤ x.xs.length)
def hit (E : Int) (k : Nat) (x : LogX) : Prop := x.e = E ∧ k ≤ x.xs.length
structure Comm (ls : List LogX) (need : Int) (E : Int) (K i : Nat) (x : LogX) : Prop where
  ep : need ≤ (cnt ls E 0 : Int)
  top : ∀ E', need ≤ (cnt ls E' 0 : Int) → E' ≤ E
  k0 : need ≤ (cnt ls E K : Int)
  k1 : (cnt ls E (K + 1) : Int) < need
  at_ : ls[i]? = some x
  is : hit E K x
  first : ∀ j y, j < i → ls[j]? = some y → ¬ hit E K y
def Nobody (ls : List LogX) (need : Int) : Prop := ∀ E, (cnt ls E 0 : Int) < need
def Out (ls : List LogX) (need : Int) (out : List Ent) : Prop := (Nobody ls need ∧ out = []) ∨ ∃ E K i x, Comm ls need E K i x ∧ out = x.xs.take K
theorem cnt_le {ls : List LogX} {E : Int} {a b : Nat} (h : a ≤ b) : cnt ls E b ≤ cnt ls E a := by
  unfold cnt
  refine List.countP_mono_left (fun x _ hx => ?_)
  simp only [Bool.and_eq_true, decide_eq_true_eq] at hx ⊢
  exact ⟨hx.1, by omega⟩
theorem Out.same {ls : List LogX} {need : Int} {a b : List Ent} (ha : Out ls need a) (hb : Out ls need b) : a = b := by
  rcases ha with ⟨h1, rfl⟩ | ⟨E, K, i, x, h1, rfl⟩
  · rcases hb with ⟨h2, rfl⟩ | ⟨E', K', i', x', h2, rfl⟩
    · rfl
    · have := h1 E'; have := h2.ep; omega
  · rcases hb with ⟨h2, rfl⟩ | ⟨E', K', i', x', h2, rfl⟩
    · have := h2 E; have := h1.ep; omega
    · obtain rfl : E = E' := Int.le_antisymm (h2.top _ h1.ep) (h1.top _ h2.ep)
      obtain rfl : K = K' := by
        rcases Nat.lt_trichotomy K K' with h | h | h
        · have := cnt_le (ls := ls) (E := E) (show K + 1 ≤ K' from h)
          have := h2.k0; have := h1.k1; omega
        · exact h
        · have := cnt_le (ls := ls) (E := E) (show K' + 1 ≤ K from h)
          have := h1.k0; have := h2.k1; omega
      obtain rfl : i = i' := by
        rcases Nat.lt_trichotomy i i' with h | h | h
        · exact absurd h1.is (h2.first i x h h1.at_)
        · exact h
        · exact absurd h2.is (h1.first i' x' h h2.at_)
      have := h1.at_.symm.trans h2.at_
      injection this with this
      subst this; rfl
theorem cnt_pos {ls : List LogX} {E : Int} {k : Nat} (h : 0 < cnt ls E k) : ∃ (i : Nat) (x : LogX), ls[i]? = some x ∧ hit E k x ∧ ∀ j y, j < i → ls[j]? = some y → ¬ hit E k y := by
  induction ls with
  | nil => simp [cnt] at h
  | cons x r ih =>
    by_cases hx : hit E k x
    · exact ⟨0, x, rfl, hx, fun j y hj => by omega⟩
    · have h2 : 0 < cnt r E k := by
        unfold cnt at h ⊢
        rw [List.countP_cons_of_neg] at h
        · exact h
        · intro hh
          simp only [Bool.and_eq_true, decide_eq_true_eq] at hh
          exact hx hh
      obtain ⟨i, y, h3, h4, h5⟩ := ih h2
      refine ⟨i + 1, y, by simpa using h3, h4, fun j z hj hz => ?_⟩
      cases j with
      | zero => simp at hz; subst hz; exact hx
      | succ j => exact h5 j z (by omega) (by simpa using hz)
def lensOf (ls : List LogX) (i : Nat) (E : Int) : List Int := ((ls.take i).filter fun x => decide (x.e = E)).map fun x => (x.xs.length : Int)
theorem lensOf_next {ls : List LogX} {i : Nat} {x : LogX} (h : ls[i]? = some x) (E : Int) : lensOf ls (i + 1) E = lensOf ls i E ++ (if x.e = E then [(x.xs.length : Int)] else []) := by
  unfold lensOf
  rw [List.take_add_one, h, List.filter_append, List.map_append]
  by_cases he : x.e = E <;> simp [he]
theorem lensOf_len (ls : List LogX) (i : Nat) (E : Int) : (lensOf ls i E).length = cnt (ls.take i) E 0 := by
  unfold lensOf cnt
  rw [List.length_map, List.countP_eq_length_filter]
  simp
theorem lensOf_le (ls : List LogX) (i : Nat) (E : Int) : (lensOf ls i E).length ≤ i := by
  unfold lensOf
  rw [List.length_map]
  exact Nat.le_trans (List.length_filter_le _ _) (by rw [List.length_take]; omega)
theorem cnt_lens (ls : List LogX) (E : Int) (k : Nat) : cnt ls E k = (lensOf ls ls.length E).countP fun z => decide ((k : Int) ≤ z) := by
  unfold cnt lensOf
  rw [List.take_length, List.countP_map, List.countP_filter]
  congr 1
  funext x
  simp only [Function.comp, Int.ofNat_le]
  rw [Bool.and_comm]
theorem lensOf_mem {ls : List LogX} {i : Nat} {E z : Int} (h : z ∈ lensOf ls i E) : 0 ≤ z := by
  unfold lensOf at h
  obtain ⟨x, _, rfl⟩ := List.mem_map.1 h
  omega
def epS (ls : List LogX) (need : Int) : Nat → Bool × Int
  | 0 => (false, -1)
  | i + 1 => match ls[i]? with
    | some x => if need ≤ ((lensOf ls (i + 1) x.e).length : Int) ∧ ((epS ls need i).1 = false ∨ (epS ls need i).2 < x.e) then (true, x.e) else epS ls need i
    | none => epS ls need i
theorem epS_next {ls : List LogX} {need : Int} {i : Nat} {x : LogX} (h : ls[i]? = some x) : epS ls need (i + 1) = if need ≤ ((lensOf ls (i + 1) x.e).length : Int) ∧ ((epS ls need i).1 = false ∨ (epS ls need i).2 < x.e) then (true, x.e) else epS ls need i := by
  rw [epS, h]
theorem epS_ok (ls : List LogX) (need : Int) (hn : 1 ≤ need) : ∀ i, i ≤ ls.length → if (epS ls need i).1 = true then (need ≤ ((lensOf ls i (epS ls need i).2).length : Int) ∧ ∀ E, need ≤ ((lensOf ls i E).length : Int) → E ≤ (epS ls need i).2) else ∀ E, ((lensOf ls i E).length : Int) < need
  | 0, _ => by
    rw [epS, if_neg (by decide)]
    intro E
    simp [lensOf]; omega
  | i + 1, hi => by
    have ih := epS_ok ls need hn i (by omega)
    obtain ⟨x, hx⟩ : ∃ x, ls[i]? = some x := ⟨ls[i]'(by omega), List.getElem?_eq_getElem (by omega)⟩
    have hother : ∀ E, x.e ≠ E → lensOf ls (i + 1) E = lensOf ls i E := fun E h => by rw [lensOf_next hx, if_neg h, List.append_nil]
    have hmono : ∀ E, (lensOf ls i E).length ≤ (lensOf ls (i + 1) E).length := fun E => by rw [lensOf_next hx, List.length_append]; omega
    obtain ⟨b, E0, hS⟩ : ∃ b E0, epS ls need i = (b, E0) := ⟨_, _, rfl⟩
    rw [epS, hx]
    simp only
    rw [hS] at ih ⊢
    simp only at ih ⊢
    split
    · rename_i h
      rw [if_pos rfl]
      refine ⟨h.1, fun E hE => ?_⟩
      by_cases he : x.e = E
      · omega
      · rw [hother E he] at hE
        cases b with
        | false => rw [if_neg (by decide)] at ih; have := ih E; omega
        | true =>
          rw [if_pos rfl] at ih
          have := ih.2 E hE
          have := h.2.resolve_left (by simp)
          omega
    · rename_i h
      cases b with
      | false =>
        rw [if_neg (by simp)] at ih ⊢
        intro E
        by_cases he : x.e = E
        · subst he
          have := Classical.not_and_iff_not_or_not.1 h
          rcases this with h1 | h1
          · omega
          · exact absurd (.inl rfl) h1
        · rw [hother E he]; exact ih E
      | true =>
        rw [if_pos rfl] at ih ⊢
        refine ⟨by have := hmono E0; have := ih.1; simp only at *; omega, fun E hE => ?_⟩
        by_cases he : x.e = E
        · subst he
          rcases Classical.not_and_iff_not_or_not.1 h with h1 | h1
          · omega
          · have : ¬ E0 < x.e := fun h2 => h1 (.inr h2)
            omega
        · rw [hother E he] at hE; exact ih.2 E hE
theorem sorted_from {s : List Int} (hs : s.Pairwise (· ≤ ·)) {n : Nat} (h0 : 0 < n) (h1 : n ≤ s.length) {K : Int} (hK : s[s.length - n]? = some K) : n ≤ s.countP (fun z => decide (K ≤ z)) ∧ s.countP (fun z => decide (K + 1 ≤ z)) < n := by
  have e1 : s = s.take (s.length - n) ++ s.drop (s.length - n) := (List.take_append_drop _ _).symm
  have hd : s.drop (s.length - n) = K :: s.drop (s.length - n + 1) := by
    obtain ⟨hi, e⟩ := List.getElem?_eq_some_iff.1 hK
    rw [List.drop_eq_getElem_cons hi, e]
  have hp := hs
  rw [e1, List.pairwise_append] at hp
  obtain ⟨p1, p2, p3⟩ := hp
  constructor
  · have h2 : (s.drop (s.length - n)).countP (fun z => decide (K ≤ z)) = (s.drop (s.length - n)).length := by
      rw [List.countP_eq_length]
      intro z hz
      rw [hd] at hz p2
      rcases List.mem_cons.1 hz with rfl | hz
      · simp
      · simpa using (List.pairwise_cons.1 p2).1 z hz
    conv => rhs; rw [e1]
    rw [List.countP_append, h2, List.length_drop]; omega
  · have h2 : (s.take (s.length - n)).countP (fun z => decide (K + 1 ≤ z)) = 0 := by
      rw [List.countP_eq_zero]
      intro z hz
      have := p3 z hz K (by rw [hd]; exact List.mem_cons_self ..)
      simp; omega
    have h3 : (s.drop (s.length - n)).countP (fun z => decide (K + 1 ≤ z)) < n := by
      rw [hd, List.countP_cons_of_neg (by simp; omega)]
      have h4 : (s.drop (s.length - n + 1)).countP (fun z => decide (K + 1 ≤ z)) ≤ (s.drop (s.length - n + 1)).length := List.countP_le_length
      rw [List.length_drop] at h4
      omega
    conv => lhs; rw [e1]
    rw [List.countP_append, h2]; omega
theorem sortI_sorted (xs : List Int) : (sortI xs).Pairwise (· ≤ ·) := by
  have := List.pairwise_mergeSort (le := fun x y : Int => decide (x ≤ y)) (fun a b c h1 h2 => by simp at *; omega) (fun a b => by simp; omega) xs
  exact this.imp (fun h => by simpa using h)
theorem sortI_count (xs : List Int) (p : Int → Bool) : (sortI xs).countP p = xs.countP p := (List.mergeSort_perm xs _).countP_eq p
theorem comm_of {ls : List LogX} {need : Int} (hn : 1 ≤ need) (h : (epS ls need ls.length).1 = true) {K : Int}
    (hK : (sortI (lensOf ls ls.length (epS ls need ls.length).2))[((lensOf ls ls.length (epS ls need ls.length).2).length - need).toNat]? = some K) : ∃ i x, Comm ls need (epS ls need ls.length).2 K.toNat i x := by
  have h1 := epS_ok ls need hn ls.length (Nat.le_refl _)
  rw [if_pos h] at h1
  obtain ⟨E, hE⟩ : ∃ E, E = (epS ls need ls.length).2 := ⟨_, rfl⟩
  rw [← hE] at h1 hK ⊢
  have hlen : ∀ E, (lensOf ls ls.length E).length = cnt ls E 0 := fun E => by rw [lensOf_len, List.take_length]
  have hsl := sortI_len (lensOf ls ls.length E)
  have hidx : ((lensOf ls ls.length E).length - need).toNat = (sortI (lensOf ls ls.length E)).length - need.toNat := by rw [hsl]; omega
  rw [hidx] at hK
  have h2 := sorted_from (sortI_sorted _) (n := need.toNat) (by omega) (by rw [hsl]; omega) hK
  rw [sortI_count, sortI_count] at h2
  have hK0 : 0 ≤ K := by
    have : K ∈ lensOf ls ls.length E := (List.mergeSort_perm _ _).mem_iff.1 (List.mem_of_getElem? hK)
    exact lensOf_mem this
  have c0 : cnt ls E K.toNat = (lensOf ls ls.length E).countP fun z => decide (K ≤ z) := by rw [cnt_lens, Int.toNat_of_nonneg hK0]
  have c1 : cnt ls E (K.toNat + 1) = (lensOf ls ls.length E).countP fun z => decide (K + 1 ≤ z) := by rw [cnt_lens]; congr 1; funext z; rw [show ((K.toNat + 1 : Nat) : Int) = K + 1 from by omega]
  obtain ⟨i, x, h3, h4, h5⟩ := cnt_pos (ls := ls) (E := E) (k := K.toNat) (by rw [c0]; omega)
  refine ⟨i, x, by rw [← hlen]; exact h1.1, fun E' hE' => h1.2 E' (by rw [hlen]; exact hE'), by rw [c0]; omega, by rw [c1]; omega, h3, h4, h5⟩
end Go.Proofs.YtfolmcpfdcgliaaGreat.B

namespace Go.Proofs.YtfolmcpfdcgliaaGreat.B.Q2
open Go Go.Proofs
structure Sys (g : Gh) (xs : List Nd) (m : List Msg) : Prop where
  ok : g.Ok
  nodes : ∀ (i : Nat) (x : Nd), xs[i]? = some x → NdOk x ∧ Has (Good g) x
  mail : ∀ z ∈ m, 0 ≤ z.1 ∧ z.1 < (xs.length : Int) ∧ ValS g (bs z.2) ∧ z.2.size ≤ 4000
  ch : ∀ c l, g.lo c = some l → Maj xs.length (HasAt xs (Prm c))
structure Dn (g : Gh) (xs : List Nd) (done : List Ent) (last : Int) : Prop where
  z : last = 0 → done = []
  p : 0 ≤ last
  h : 0 < last → g.lo last ≠ none ∧ done <+: g.hi last ∧ Maj xs.length (HasAt xs (Holds last done))
  later : ∀ c l, g.lo c = some l → last < c → done <+: l
theorem gots_mail {g : Gh} {fs : List Int} {s : ByteArray} {xs : List Nd} {m : List Msg} (hm : ∀ z ∈ m, 0 ≤ z.1 ∧ z.1 < (xs.length : Int) ∧ ValS g (bs z.2) ∧ z.2.size ≤ 4000) (hv : ValS g (bs s)) : ∀ k, k ≤ xs.length → ∀ z ∈ (gotsM fs s xs m k).m, 0 ≤ z.1 ∧ z.1 < (xs.length : Int) ∧ ValS g (bs z.2) ∧ z.2.size ≤ 4000
  | 0, _ => hm
  | k + 1, hk => by
    have ih := gots_mail (fs := fs) hm hv k (by omega)
    rw [gotsM]
    cases xs[k]? with
    | none => exact ih
    | some x =>
      simp only
      intro z hz
      unfold gotM heard at hz
      have hsend : z ∈ sendM (gotsM fs s xs m k).m (k : Int) s → 0 ≤ z.1 ∧ z.1 < (xs.length : Int) ∧ ValS g (bs z.2) ∧ z.2.size ≤ 4000 := fun hz => by
        unfold sendM at hz
        split at hz
        · exact ih z hz
        · rename_i hsz
          rcases List.mem_append.1 hz with hz | hz
          · exact ih z hz
          · rw [List.mem_singleton] at hz
            subst hz
            exact ⟨by simp only; omega, by simp only; omega, hv, by simp only; omega⟩
      split at hz
      · exact ih z hz
      · split at hz
        · exact hsend hz
        · split at hz
          · exact ih z hz
          · split at hz
            · exact ih z hz
            · split at hz <;> exact ih z hz
theorem Sys.all {g : Gh} {xs : List Nd} {m : List Msg} (h : Sys g xs m) {s : ByteArray} (hv : ValS g (bs s)) (fs : List Int) : Sys g (ndsM fs s xs xs.length) (gotsM fs s xs m xs.length).m := by
  refine ⟨h.ok, fun i x hx => ?_, ?_, fun c l hc => ?_⟩
  · have hi := (List.getElem?_eq_some_iff.1 hx).1
    rw [ndsM_len] at hi
    rw [nds_at hi] at hx
    obtain ⟨y, hy, rfl⟩ := Option.map_eq_some_iff.1 hx
    exact ⟨ndM_ok (h.nodes i y hy).1 _ _, (h.nodes i y hy).2.step (good_clS h.ok hv) _⟩
  · rw [ndsM_len]
    exact gots_mail h.mail hv xs.length (Nat.le_refl _)
  · rw [ndsM_len]
    exact (h.ch c l hc).mono fun i _ hi => hi.all (fun q _ => prm_cl c q)
theorem Dn.all {g : Gh} {xs : List Nd} {done : List Ent} {last : Int} (h : Dn g xs done last) (s : ByteArray) (fs : List Int) : Dn g (ndsM fs s xs xs.length) done last :=
  ⟨h.z, h.p, fun hp => ⟨(h.h hp).1, (h.h hp).2.1, by rw [ndsM_len]; exact (h.h hp).2.2.mono fun i _ hi => hi.all (fun q _ => holds_cl last done q)⟩, h.later⟩
structure Resp (g : Gh) (fs : List Int) (s : ByteArray) (xs : List Nd) (q : Rq) (i : Nat) (t : Lg) (x : Nd) (K : Jn) : Prop where
  at0 : xs[i]? = some x
  al : x.J.dead = false
  good : Good g x.J
  k : Keep x.J x.D
  kk : Good g K
  ke : K.e ≤ K.p
  nx : Nx x.J q K
  ack : Ack x.J q K
  t : q.kind = kP → t = (K.e, K.xs)
  at' : ∀ T : Jn → Prop, T K → Cl q T → HasAt (ndsM fs s xs xs.length) T i
theorem Resp.now {g : Gh} {fs : List Int} {s : ByteArray} {xs : List Nd} {q : Rq} {i : Nat} {t : Lg} {x : Nd} {K : Jn} (h : Resp g fs s xs q i t x K) {T : Jn → Prop} (hT : HasAt xs T i) : T x.J := by
  obtain ⟨y, h1, h2⟩ := hT
  rw [h.at0] at h1; obtain rfl := Option.some.inj h1
  exact h2.now h.al
theorem two_prefix {a b c : List Ent} (h1 : a <+: c) (h2 : b <+: c) (h : a.length ≤ b.length) : a <+: b := List.prefix_of_prefix_length_le h1 h2 h
def WOk (g : Gh) (done : List Ent) (last : Int) (w : Wr) : Prop := w.e = 0 ∨ (0 < w.e ∧ w.e ≤ 9007199254740991 ∧ w.e ≤ last ∧ w.over = false ∧ g.lo w.e ≠ none ∧ ((g.hi w.e).length : Int) = w.n ∧ (w.e = last → g.hi w.e = done))
def gset (g : Gh) (c : Int) (l : Option (List Ent)) (r : List Ent) : Gh := ⟨fun e => if e = c then l else g.lo e, fun e => if e = c then r else g.hi e⟩
theorem ValS.mono {g g' : Gh} (h : g.Le g') {s : List UInt8} (hs : ValS g s) : ValS g' s := fun q hq => (hs q hq).mono h
theorem Sys.more {g g' : Gh} {xs : List Nd} {m : List Msg} (h : Sys g xs m) (hle : g.Le g') (hok : g'.Ok) (hch : ∀ c l, g'.lo c = some l → (∃ l', g.lo c = some l') ∨ Maj xs.length (HasAt xs (Prm c))) : Sys g' xs m :=
  ⟨hok, fun i x hx => ⟨(h.nodes i x hx).1, (h.nodes i x hx).2.mono fun K hK => hK.mono hle⟩, fun z hz => ⟨(h.mail z hz).1, (h.mail z hz).2.1, (h.mail z hz).2.2.1.mono hle, (h.mail z hz).2.2.2⟩, fun c l hc => by
    rcases hch c l hc with ⟨l', hl'⟩ | h'
    · exact h.ch c l' hl'
    · exact h'⟩
end Go.Proofs.YtfolmcpfdcgliaaGreat.B.Q2
