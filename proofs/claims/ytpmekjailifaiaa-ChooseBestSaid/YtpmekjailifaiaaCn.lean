import Derived.Test.YtpmekjailifaiaaCk
set_option linter.unusedVariables false
set_option linter.unusedSimpArgs false
set_option maxRecDepth 8000
/-! The law on the best log. -/
namespace Go.Proofs.Ytpmekjailifaiaa.B
open Go Go.Proofs

def letter (r : Nat) : ByteArray := mk [UInt8.ofNat (97 + r)]
def entsE (r n : Nat) : List Ent := (List.range n).map fun (i : Nat) => ⟨(i : Int) + 1, letter r⟩
theorem entsE_len (r n : Nat) : (entsE r n).length = n := by simp [entsE]
theorem entsE_take (r n k : Nat) (h : k ≤ n) : (entsE r n).take k = entsE r k := by
  simp only [entsE, ← List.map_take]
  rw [List.take_range, Nat.min_eq_left h]
def mixT (r n i : Nat) : List Ent := (entsE r n).take i ++ (longT n).drop i
theorem mixT_len (r n i : Nat) (h : i ≤ n) : (mixT r n i).length = n := by
  simp only [mixT, List.length_append, List.length_take, List.length_drop, entsE_len, longT_len]; omega
theorem mixT_get (r n i : Nat) (h : i < n) : (mixT r n i)[i]? = some ⟨(i : Int) + 1, ⟨#[120]⟩⟩ := by
  unfold mixT
  rw [List.getElem?_append_right (by rw [List.length_take, entsE_len]; omega), List.length_take, entsE_len, Nat.min_eq_left (by omega), Nat.sub_self, List.getElem?_drop]
  simp [longT, h]
theorem mixT_set (r n i : Nat) (h : i < n) : (mixT r n i).set i ⟨(i : Int) + 1, letter r⟩ = mixT r n (i + 1) := by
  apply List.ext_getElem?
  intro j
  have hl := mixT_len r n i (by omega)
  rw [List.getElem?_set]
  unfold mixT
  by_cases hij : i = j
  · subst hij
    rw [if_pos rfl, if_pos (by rw [← mixT, hl]; exact h), List.getElem?_append_left (by rw [List.length_take, entsE_len]; omega), List.getElem?_take, if_pos (by omega)]
    simp [entsE, h]
  · rw [if_neg hij]
    simp only [List.getElem?_append, List.length_take, entsE_len, List.getElem?_take, List.getElem?_drop]
    by_cases h1 : j < i
    · rw [if_pos (by omega), if_pos h1, if_pos (by omega), if_pos (by omega)]
    · rw [if_neg (by omega), if_neg (by omega)]
      congr 1
      omega
theorem mixT_0 (r n : Nat) : mixT r n 0 = longT n := by simp [mixT]
theorem mixT_n (r n : Nat) : mixT r n n = entsE r n := by
  have h1 := entsE_len r n
  have h2 := longT_len n
  simp only [mixT]
  rw [List.take_of_length_le (by omega), List.drop_of_length_le (by omega), List.append_nil]
/-- The logs that the law makes. -/
def Made (x : LogX) : Prop := ∃ r n : Nat, r < 4 ∧ n ≤ 20 ∧ x.e = 1 + (r : Int) ∧ x.xs = entsE r n
def lslcs : List LogX → SL
  | [] => fun _ => True
  | x :: r => star (slc entE 28 x.A x.c x.xs) (lslcs r)
section
variable {W0 : World} {w : World}
theorem lslcs_snoc : ∀ {ls : List LogX} {x : LogX} {G : List SL}, Sat W0 (slc entE 28 x.A x.c x.xs :: lslcs ls :: G) w → Sat W0 (lslcs (ls ++ [x]) :: G) w
  | [], x, G, hs => Sat.join (P := slc entE 28 x.A x.c x.xs) (Q := lslcs []) hs
  | y :: r, x, G, hs => by
    have h1 := Sat.split (P := slc entE 28 y.A y.c y.xs) (Q := lslcs r) (hs.front (i := 1) rfl)
    have h2 := (h1.front (i := 1) rfl).front (i := 2) rfl
    have h3 := lslcs_snoc (ls := r) (x := x) h2
    exact Sat.join (P := slc entE 28 y.A y.c y.xs) (Q := lslcs (r ++ [x])) (h3.perm (List.Perm.swap ..))
theorem lslcs_at : ∀ {ls : List LogX} {x : LogX} {G : List SL}, x ∈ ls → Sat W0 (lslcs ls :: G) w → RdC w x.A (flat entE x.xs) ∧ x.xs.length ≤ x.c
  | y :: r, x, G, hx, hs => by
    have h1 := Sat.split (P := slc entE 28 y.A y.c y.xs) (Q := lslcs r) hs
    rcases List.mem_cons.1 hx with rfl | h
    · exact ⟨Rd.slc (i := 0) rfl w h1, slc_cap (i := 0) rfl w h1⟩
    · exact lslcs_at (ls := r) h h1.drop
end
theorem made_agree {a b : LogX} {k : Nat} (ha : Made a) (hb : Made b) (he : a.e = b.e) (hk : k ≤ a.xs.length) (hkb : k ≤ b.xs.length) : agreeN (a.xs.take k) b.xs = k := by
  obtain ⟨r, n, h1, h2, h3, h4⟩ := ha
  obtain ⟨r', n', h5, h6, h7, h8⟩ := hb
  obtain rfl : r = r' := by omega
  rw [h4] at hk ⊢
  rw [h8] at hkb ⊢
  rw [entsE_len] at hk hkb
  refine agreeN_at (by rw [List.length_take, entsE_len]; omega) (by rw [entsE_len]; exact hkb) ?_ (.inl (by rw [List.length_take, entsE_len]; omega))
  rw [List.take_take, Nat.min_self, entsE_take r n k hk, entsE_take r n' k hkb]
theorem bestP_full (ls : List LogX) : ∀ (i : Nat), i ≤ ls.length → ∀ y, ls[(bestP ls i).toNat]? = some y → 0 ≤ bestP ls i → ∀ (j : Nat) x, j < i → ls[j]? = some x → ¬ better x y = true
  | 0, _, y, _, h, j, x, hj, _ => absurd hj (Nat.not_lt_zero _)
  | i + 1, hi, y, hy, h0, j, x, hj, hx => by
    have hbr := bestP_range ls i
    have irr : ∀ a : LogX, ¬ better a a = true := fun a h => by simp [better] at h
    have tr : ∀ a b c : LogX, better a b = true → ¬ better c b = true → ¬ better c a = true := fun a b c h1 h2 h3 => by
      simp only [better, Bool.or_eq_true, Bool.and_eq_true, decide_eq_true_eq] at h1 h2 h3; omega
    obtain ⟨z, hz⟩ : ∃ z, ls[i]? = some z := ⟨ls[i]'(by omega), List.getElem?_eq_getElem (by omega)⟩
    by_cases hneg : bestP ls i < 0
    · have hi0 : i = 0 := by
        rcases Nat.eq_zero_or_pos i with h | h
        · exact h
        · have := hbr.2.2 h; omega
      subst hi0
      rw [bestP_lt hneg] at hy
      obtain rfl : j = 0 := by omega
      have : ls[0]? = some y := hy
      rw [hx] at this
      rw [Option.some.inj this]; exact irr _
    · obtain ⟨u, hu⟩ : ∃ u, ls[(bestP ls i).toNat]? = some u := ⟨ls[(bestP ls i).toNat]'(by omega), List.getElem?_eq_getElem (by omega)⟩
      have ih := bestP_full ls i (by omega) u hu (by omega)
      rw [bestP_ge hneg hz hu] at hy
      by_cases hb : better z u = true
      · rw [if_pos hb, Int.toNat_natCast, hz] at hy
        obtain rfl := Option.some.inj hy
        by_cases hji : j = i
        · subst hji; rw [hx] at hz; rw [Option.some.inj hz]; exact irr _
        · exact tr _ _ _ hb (ih j x (by omega) hx)
      · rw [if_neg hb, hu] at hy
        obtain rfl := Option.some.inj hy
        by_cases hji : j = i
        · subst hji; rw [hx] at hz
          obtain rfl := Option.some.inj hz
          exact hb
        · exact ih j x (by omega) hx
theorem best_prefix {ls : List LogX} {need : Int} {out : List Ent} {y : LogX} (hm : ∀ x ∈ ls, Made x) (ho : Out ls (max need 1) out) (hy : ls[(bestI ls).toNat]? = some y) (h0 : 0 ≤ bestI ls) (hc : need ≤ (cnt ls y.e 0 : Int)) : agreeN out y.xs = out.length := by
  have hmax := bestI_max hy h0
  have hcy : 1 ≤ cnt ls y.e 0 := List.countP_pos_iff.2 ⟨y, List.mem_of_getElem? hy, by simp⟩
  have hc' : max need 1 ≤ (cnt ls y.e 0 : Int) := by omega
  rcases ho with ⟨h1, _⟩ | ⟨E, K, i, x, hC, rfl⟩
  · have := h1 y.e; omega
  · have h2 := hC.top y.e hc'
    have h3 := cnt_top hmax (E' := E) (by have := hC.ep; omega)
    obtain rfl : E = y.e := by omega
    obtain ⟨j, hj⟩ := List.mem_iff_getElem?.1 (List.mem_of_getElem? hC.at_)
    have h4 := bestP_full ls ls.length (Nat.le_refl _) y hy h0 j x (List.getElem?_eq_some_iff.1 hj).1 hj
    have h5 : x.xs.length ≤ y.xs.length := by
      rcases Nat.lt_or_ge y.xs.length x.xs.length with h | h
      · exact absurd (by simp [better, hC.is.1, h]) h4
      · exact h
    have hK := hC.is.2
    rw [hC.len]
    exact made_agree (hm x (List.mem_of_getElem? hC.at_)) (hm y (List.mem_of_getElem? hy)) hC.is.1 hK (by omega)
end Go.Proofs.Ytpmekjailifaiaa.B
