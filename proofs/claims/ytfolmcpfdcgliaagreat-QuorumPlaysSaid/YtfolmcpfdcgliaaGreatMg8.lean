import Derived.Test.YtfolmcpfdcgliaaGreatMg7
import Derived.Test.YtfolmcpfdcgliaaGreatMg2
set_option linter.unusedVariables false
set_option maxRecDepth 8000
namespace Go.Proofs.YtfolmcpfdcgliaaGreat.B
open Go Go.Proofs
theorem bk {A B : Prop} (a : A) (f : PLift A → B := by
  intro k
  first | ((first | apply WL.s | apply WQ.s); (focus (first|exact op1_pure1 TT rfl|exact op1_load TT 0 rfl rfl rfl|exact op1_load TT 1 rfl rfl rfl|exact op1_load TT 2 rfl rfl rfl|exact op1_load TT 3 rfl rfl rfl|exact op1_load TT 4 rfl rfl rfl|exact op1_load TT 5 rfl rfl rfl|exact op1_load TT 6 rfl rfl rfl|exact op1_load TT 7 rfl rfl rfl|exact op1_load TT 8 rfl rfl rfl|exact op1_add TT rfl rfl (by omega)|exact op1_sub TT rfl rfl (by omega)|exact op1_mul TT rfl rfl (by omega)|exact op1_conv TT rfl rfl rfl (by omega)|exact op1_neg TT rfl (by omega)|exact op1_cat rfl rfl (by omega)|exact op1_pure TT rfl|exact op1_build TT rfl rfl rfl rfl rfl rfl|exact op1_buildA TT rfl rfl rfl rfl rfl|exact op1_lenM TT 0 rfl rfl rfl|exact op1_lenM TT 1 rfl rfl rfl|exact op1_lenM TT 2 rfl rfl rfl|exact op1_lenM TT 3 rfl rfl rfl)); exact rfl) | (refine isWL ?_; (first|refine WL.nil ?_|refine WL.store TT 0 rfl rfl rfl rfl rfl rfl rfl rfl rfl ?_|refine WL.store TT 1 rfl rfl rfl rfl rfl rfl rfl rfl rfl ?_|refine WL.store TT 2 rfl rfl rfl rfl rfl rfl rfl rfl rfl ?_|refine WL.store TT 3 rfl rfl rfl rfl rfl rfl rfl rfl rfl ?_|refine WL.store TT 4 rfl rfl rfl rfl rfl rfl rfl rfl rfl ?_|refine WL.store TT 5 rfl rfl rfl rfl rfl rfl rfl rfl rfl ?_|refine WL.store TT 6 rfl rfl rfl rfl rfl rfl rfl rfl rfl ?_|refine WL.guardT rfl rfl ?_|refine WL.guardF rfl rfl rfl ?_)) | (refine isWQ ?_; (first|refine WQ.nil ?_|refine WQ.guardT rfl rfl ?_|refine WQ.guardF rfl rfl rfl ?_)) | fail
  repeat (first | ((first | apply WL.s | apply WQ.s); (focus (first|exact op1_pure1 TT rfl|exact op1_load TT 0 rfl rfl rfl|exact op1_load TT 1 rfl rfl rfl|exact op1_load TT 2 rfl rfl rfl|exact op1_load TT 3 rfl rfl rfl|exact op1_load TT 4 rfl rfl rfl|exact op1_load TT 5 rfl rfl rfl|exact op1_load TT 6 rfl rfl rfl|exact op1_load TT 7 rfl rfl rfl|exact op1_load TT 8 rfl rfl rfl|exact op1_add TT rfl rfl (by omega)|exact op1_sub TT rfl rfl (by omega)|exact op1_mul TT rfl rfl (by omega)|exact op1_conv TT rfl rfl rfl (by omega)|exact op1_neg TT rfl (by omega)|exact op1_cat rfl rfl (by omega)|exact op1_pure TT rfl|exact op1_build TT rfl rfl rfl rfl rfl rfl|exact op1_buildA TT rfl rfl rfl rfl rfl|exact op1_lenM TT 0 rfl rfl rfl|exact op1_lenM TT 1 rfl rfl rfl|exact op1_lenM TT 2 rfl rfl rfl|exact op1_lenM TT 3 rfl rfl rfl)); exact rfl) | (refine isWL ?_; (first|refine WL.nil ?_|refine WL.store TT 0 rfl rfl rfl rfl rfl rfl rfl rfl rfl ?_|refine WL.store TT 1 rfl rfl rfl rfl rfl rfl rfl rfl rfl ?_|refine WL.store TT 2 rfl rfl rfl rfl rfl rfl rfl rfl rfl ?_|refine WL.store TT 3 rfl rfl rfl rfl rfl rfl rfl rfl rfl ?_|refine WL.store TT 4 rfl rfl rfl rfl rfl rfl rfl rfl rfl ?_|refine WL.store TT 5 rfl rfl rfl rfl rfl rfl rfl rfl rfl ?_|refine WL.store TT 6 rfl rfl rfl rfl rfl rfl rfl rfl rfl ?_|refine WL.guardT rfl rfl ?_|refine WL.guardF rfl rfl rfl ?_)) | (refine isWQ ?_; (first|refine WQ.nil ?_|refine WQ.guardT rfl rfl ?_|refine WQ.guardF rfl rfl rfl ?_)) | fail)
  exact k.down) : B := f ⟨a⟩
theorem bkq {A : Nat → Prop} {B : Prop} (a : ∀ q, A q) (f : PLift (∀ q, A q) → B := by
  intro k
  first | refine WL.alloc TT rfl rfl rfl k.down | refine WL.box rfl rfl rfl k.down | fail) : B := f ⟨a⟩
theorem bkc {A B : Prop} (a : A) (f : PLift A → B := by
  intro k
  first | (refine isCS ?_; (first|refine CS.region ?_|refine CS.skip ?_|refine CS.ret ?_|refine CS.block ?_|refine CS.exit ?_|refine CS.condT rfl ?_|refine CS.condF rfl ?_)) | (refine isQS ?_; (first|refine QS.then ?_|refine QS.thenExit ?_|refine QS.thenRet ?_|refine QS.thenPanic ?_|refine QS.blockHere ?_|refine QS.blockOther rfl ?_|refine QS.blockNormal ?_|refine QS.blockRet ?_|refine QS.blockPanic ?_)) | fail
  repeat (first | (refine isCS ?_; (first|refine CS.region ?_|refine CS.skip ?_|refine CS.ret ?_|refine CS.block ?_|refine CS.exit ?_|refine CS.condT rfl ?_|refine CS.condF rfl ?_)) | (refine isQS ?_; (first|refine QS.then ?_|refine QS.thenExit ?_|refine QS.thenRet ?_|refine QS.thenPanic ?_|refine QS.blockHere ?_|refine QS.blockOther rfl ?_|refine QS.blockNormal ?_|refine QS.blockRet ?_|refine QS.blockPanic ?_)) | fail)
  exact k.down) : B := f ⟨a⟩
theorem bks {A B : Prop} (a : A) (f : PLift A → B := by
  first | (intro k; refine CS.seq ?_; exact k.down) | fail) : B := f ⟨a⟩
theorem bkd {A B : Prop} (a : A) (f : PLift A → B := by
  intro k
  first | refine CS.drawQ rfl mixed (by kernel_rfl) ?_ | refine CS.drawW rfl rfl mixed (by kernel_rfl) ?_ | fail
  exact k.down) : B := f ⟨a⟩
theorem bkh {A B : Prop} (a : A) (f : PLift A → B := by
  intro k
  first | (apply WH.s; (focus (first|exact op1_pure1 TT rfl|exact op1_load TT 0 rfl rfl rfl|exact op1_load TT 1 rfl rfl rfl|exact op1_load TT 2 rfl rfl rfl|exact op1_load TT 3 rfl rfl rfl|exact op1_load TT 4 rfl rfl rfl|exact op1_load TT 5 rfl rfl rfl|exact op1_load TT 6 rfl rfl rfl|exact op1_load TT 7 rfl rfl rfl|exact op1_load TT 8 rfl rfl rfl|exact op1_add TT rfl rfl (by omega)|exact op1_sub TT rfl rfl (by omega)|exact op1_mul TT rfl rfl (by omega)|exact op1_conv TT rfl rfl rfl (by omega)|exact op1_neg TT rfl (by omega)|exact op1_cat rfl rfl (by omega)|exact op1_pure TT rfl|exact op1_build TT rfl rfl rfl rfl rfl rfl|exact op1_buildA TT rfl rfl rfl rfl rfl|exact op1_lenM TT 0 rfl rfl rfl|exact op1_lenM TT 1 rfl rfl rfl|exact op1_lenM TT 2 rfl rfl rfl|exact op1_lenM TT 3 rfl rfl rfl)); exact rfl) | (refine isWH ?_; (first|refine WH.nil ?_|refine WH.guardT rfl rfl ?_|refine WH.guardF rfl rfl rfl ?_)) | fail
  repeat (first | (apply WH.s; (focus (first|exact op1_pure1 TT rfl|exact op1_load TT 0 rfl rfl rfl|exact op1_load TT 1 rfl rfl rfl|exact op1_load TT 2 rfl rfl rfl|exact op1_load TT 3 rfl rfl rfl|exact op1_load TT 4 rfl rfl rfl|exact op1_load TT 5 rfl rfl rfl|exact op1_load TT 6 rfl rfl rfl|exact op1_load TT 7 rfl rfl rfl|exact op1_load TT 8 rfl rfl rfl|exact op1_add TT rfl rfl (by omega)|exact op1_sub TT rfl rfl (by omega)|exact op1_mul TT rfl rfl (by omega)|exact op1_conv TT rfl rfl rfl (by omega)|exact op1_neg TT rfl (by omega)|exact op1_cat rfl rfl (by omega)|exact op1_pure TT rfl|exact op1_build TT rfl rfl rfl rfl rfl rfl|exact op1_buildA TT rfl rfl rfl rfl rfl|exact op1_lenM TT 0 rfl rfl rfl|exact op1_lenM TT 1 rfl rfl rfl|exact op1_lenM TT 2 rfl rfl rfl|exact op1_lenM TT 3 rfl rfl rfl)); exact rfl) | (refine isWH ?_; (first|refine WH.nil ?_|refine WH.guardT rfl rfl ?_|refine WH.guardF rfl rfl rfl ?_)) | fail)
  exact k.down) : B := f ⟨a⟩
theorem bkw {A B : Prop} (a : A) (f : PLift A → B := by
  first | (intro k; apply WS.s; (focus (first|exact op1_pure1 TT rfl|exact op1_load TT 0 rfl rfl rfl|exact op1_load TT 1 rfl rfl rfl|exact op1_load TT 2 rfl rfl rfl|exact op1_load TT 3 rfl rfl rfl|exact op1_load TT 4 rfl rfl rfl|exact op1_load TT 5 rfl rfl rfl|exact op1_load TT 6 rfl rfl rfl|exact op1_load TT 7 rfl rfl rfl|exact op1_load TT 8 rfl rfl rfl|exact op1_add TT rfl rfl (by omega)|exact op1_sub TT rfl rfl (by omega)|exact op1_mul TT rfl rfl (by omega)|exact op1_conv TT rfl rfl rfl (by omega)|exact op1_neg TT rfl (by omega)|exact op1_cat rfl rfl (by omega)|exact op1_pure TT rfl|exact op1_build TT rfl rfl rfl rfl rfl rfl|exact op1_buildA TT rfl rfl rfl rfl rfl|exact op1_lenM TT 0 rfl rfl rfl|exact op1_lenM TT 1 rfl rfl rfl|exact op1_lenM TT 2 rfl rfl rfl|exact op1_lenM TT 3 rfl rfl rfl)); exact rfl; exact k.down) | fail) : B := f ⟨a⟩
theorem bk2 {A C B : Prop} (a : A) (c : C) (f : PLift A → PLift C → B := by
  intro k l
  first | refine WL.guardS rfl rfl k.down l.down | refine WQ.guardS rfl rfl k.down l.down | refine CS.cond rfl k.down l.down | fail) : B := f ⟨a⟩ ⟨c⟩
theorem bk2h {A C B : Prop} (a : A) (c : C) (f : PLift A → PLift C → B := by
  first | (intro k l; refine WH.guardS rfl rfl k.down l.down) | fail) : B := f ⟨a⟩ ⟨c⟩
theorem bkn {p B : Prop} (f : p → B := by
  first | (intro h; (try simp only [decide_eq_true_eq, decide_eq_false_iff_not, Decidable.not_not, Bool.not_eq_true', Bool.not_eq_false'] at h) <;> (exfalso; first | omega | exact h trivial | exact h rfl)) | fail) : p → B := f
theorem bkk {p p' B : Prop} (a : p' → B) (f : PLift (p' → B) → p → B := by
  intro k h
  (try simp only [decide_eq_true_eq, decide_eq_false_iff_not, Decidable.not_not, Bool.not_eq_true', Bool.not_eq_false'] at h)
  exact k.down h) : p → B := f ⟨a⟩
theorem bN {A B : Prop} (a : A) (f : PLift A → B := by
  intro k
  first | exact bk k.down | exact bkc k.down | exact bks k.down | fail) : B := f ⟨a⟩
theorem bA {A B : Prop} (a : A) (f : PLift A → B := by
  intro k
  first | exact bk k.down | exact bkc k.down | exact bks k.down | exact bkd k.down | fail) : B := f ⟨a⟩
end Go.Proofs.YtfolmcpfdcgliaaGreat.B

set_option linter.unusedSimpArgs false
namespace Go.Proofs.YtfolmcpfdcgliaaGreat.B
open Go
abbrev bs (s : ByteArray) : List UInt8 := s.data.toList
abbrev mk (l : List UInt8) : ByteArray := ⟨l.toArray⟩
theorem mk_bs (s : ByteArray) : mk (bs s) = s := rfl
theorem bs_mk (l : List UInt8) : bs (mk l) = l := rfl
theorem bs_len (s : ByteArray) : (bs s).length = s.size := by
  show s.data.toList.length = s.data.size
  simp
theorem mk_size (l : List UInt8) : (mk l).size = l.length := by
  show l.toArray.size = l.length
  simp
theorem mk_cat (a b : List UInt8) : mk a ++ mk b = mk (a ++ b) := by
  apply ByteArray.ext; simp [mk]
theorem bs_cat (a b : ByteArray) : bs (a ++ b) = bs a ++ bs b := by simp [bs]
theorem bs_inj {a b : ByteArray} (h : bs a = bs b) : a = b := by rw [← mk_bs a, ← mk_bs b, h]
theorem bs_ext (s : ByteArray) (a b : Nat) : bs (s.extract a b) = ((bs s).drop a).take (b - a) := by
  simp [bs, ByteArray.data_extract, List.extract_eq_take_drop, Array.toList_extract]
theorem ext_mk (s : ByteArray) (a b : Nat) : s.extract a b = mk (((bs s).drop a).take (b - a)) := by
  rw [← bs_ext]
theorem bs_get (s : ByteArray) (i : Nat) (h : i < s.size) : (bs s)[i]? = some s[i] := by
  simp only [bs, Array.getElem?_toList]
  rw [Array.getElem?_eq_getElem h]
  rfl
theorem ofInt_nat (w n : Nat) (h : n < 2 ^ w) : (BitVec.ofInt w (n : Int)).toNat = n := by
  simp only [BitVec.toNat_ofInt]
  rw [Int.emod_eq_of_lt (by omega) (by exact_mod_cast h)]
  simp
theorem wrapU {k : IntKind} (hk : k.signed = false) {n : Nat} (h : n < 2 ^ k.bits) : k.wrap (n : Int) = n := by
  simp only [IntKind.wrap, hk, Bool.false_and, Bool.false_eq_true, if_false]
  rw [Int.emod_eq_of_lt (by omega) (by exact_mod_cast h)]
theorem bit_or {k : IntKind} (hk : k.signed = false) {a b : Nat} (ha : a < 2 ^ k.bits) (hb : b < 2 ^ k.bits) : bitop .or k a b = ((a ||| b : Nat) : Int) := by
  simp only [bitop, BitVec.toNat_or, ofInt_nat _ _ ha, ofInt_nat _ _ hb]
  exact wrapU hk (Nat.or_lt_two_pow ha hb)
theorem bit_and {k : IntKind} (hk : k.signed = false) {a b : Nat} (ha : a < 2 ^ k.bits) (hb : b < 2 ^ k.bits) : bitop .and k a b = ((a &&& b : Nat) : Int) := by
  simp only [bitop, BitVec.toNat_and, ofInt_nat _ _ ha, ofInt_nat _ _ hb]
  exact wrapU hk (Nat.and_lt_two_pow _ hb)
theorem bit_xor {k : IntKind} (hk : k.signed = false) {a b : Nat} (ha : a < 2 ^ k.bits) (hb : b < 2 ^ k.bits) : bitop .xor k a b = ((a ^^^ b : Nat) : Int) := by
  simp only [bitop, BitVec.toNat_xor, ofInt_nat _ _ ha, ofInt_nat _ _ hb]
  exact wrapU hk (Nat.xor_lt_two_pow ha hb)
theorem xor_ones (w a : Nat) (h : a < 2 ^ w) : a ^^^ (2 ^ w - 1) = 2 ^ w - 1 - a := by
  have h1 : (BitVec.ofNat w a ^^^ BitVec.allOnes w).toNat = a ^^^ (2 ^ w - 1) := by
    simp only [BitVec.toNat_xor, BitVec.toNat_ofNat, BitVec.toNat_allOnes, Nat.mod_eq_of_lt h]
  have h2 : (BitVec.ofNat w a ^^^ BitVec.allOnes w).toNat = 2 ^ w - 1 - a := by
    rw [BitVec.xor_allOnes, BitVec.toNat_not]
    simp [Nat.mod_eq_of_lt h]
  exact h1.symm.trans h2
theorem or_128 (x : Nat) (h : x < 256) : x ||| 128 = x % 128 + 128 := by
  have : ∀ y : Fin 256, y.val ||| 128 = y.val % 128 + 128 := by decide +kernel
  exact this ⟨x, h⟩
theorem and_127 (x : Nat) (h : x < 256) : x &&& 127 = x % 128 := by
  have : ∀ y : Fin 256, y.val &&& 127 = y.val % 128 := by decide +kernel
  exact this ⟨x, h⟩
theorem or_add {z y i : Nat} (h : z < 2 ^ i) : z ||| (y * 2 ^ i) = z + y * 2 ^ i := by
  rw [Nat.mul_comm, Nat.or_comm, ← Nat.two_pow_add_eq_or_of_lt h, Nat.add_comm]
def leb (z : Nat) : List UInt8 := if z < 128 then [UInt8.ofNat z] else UInt8.ofNat (z % 128 + 128) :: leb (z / 128)
termination_by z
decreasing_by omega
def zig (n : Int) : Nat := if 0 ≤ n then 2 * n.toNat else 2 * (-n).toNat - 1
def zag (z : Nat) : Int := if z % 2 = 0 then (z / 2 : Nat) else -((z / 2 : Nat) : Int) - 1
def numB (n : Int) : List UInt8 := leb (zig n)
def I64 (n : Int) : Prop := -9223372036854775808 ≤ n ∧ n ≤ 9223372036854775807
theorem zig_lt {n : Int} (h : I64 n) : zig n < 2 ^ 64 := by unfold I64 at h; unfold zig; split <;> omega
theorem zag_zig (n : Int) : zag (zig n) = n := by unfold zag zig; split <;> split <;> omega
theorem zig_zag (z : Nat) : zig (zag z) = z := by unfold zag zig; split <;> split <;> omega
theorem zag_i64 {z : Nat} (h : z < 2 ^ 64) : I64 (zag z) := by unfold zag I64; split <;> omega
def val : List UInt8 → Nat
  | [] => 0
  | c :: r => c.toNat % 128 + 128 * val r
def Can (first : Bool) : List UInt8 → Prop
  | [] => False
  | [c] => c.toNat < 128 ∧ (first = true ∨ c.toNat ≠ 0)
  | c :: d :: r => 128 ≤ c.toNat ∧ Can false (d :: r)
theorem leb_ne (z : Nat) : leb z ≠ [] := by rw [leb]; split <;> simp
theorem can_leb (z : Nat) (f : Bool) (h : f = true ∨ z ≠ 0) : Can f (leb z) := by
  induction z using Nat.strongRecOn generalizing f with
  | _ z ih =>
    rw [leb]
    split
    · rename_i hz
      show (UInt8.ofNat z).toNat < 128 ∧ (f = true ∨ (UInt8.ofNat z).toNat ≠ 0)
      simp only [UInt8.toNat_ofNat']
      refine ⟨by omega, ?_⟩
      rcases h with h | h
      · exact .inl h
      · exact .inr (by omega)
    · rename_i hz
      have h1 := ih (z / 128) (by omega) false (.inr (by omega))
      have h2 := leb_ne (z / 128)
      cases hl : leb (z / 128) with
      | nil => exact absurd hl h2
      | cons d r =>
        rw [hl] at h1
        refine ⟨?_, h1⟩
        simp only [UInt8.toNat_ofNat']
        omega
theorem val_leb (z : Nat) : val (leb z) = z := by
  induction z using Nat.strongRecOn with
  | _ z ih =>
    rw [leb]
    split
    · simp only [val, UInt8.toNat_ofNat']; omega
    · rename_i hz
      simp only [val, UInt8.toNat_ofNat', ih (z / 128) (by omega)]
      omega
theorem ofNat_toNat (c : UInt8) (n : Nat) (h : n = c.toNat) : UInt8.ofNat n = c := by subst h; simp
theorem leb_val : ∀ {l : List UInt8} {f : Bool}, Can f l → leb (val l) = l
  | [], _, h => h.elim
  | [c], f, h => by
    simp only [Can] at h
    have : val [c] = c.toNat := by simp only [val]; omega
    rw [this, leb, if_pos h.1, ofNat_toNat c _ rfl]
  | c :: d :: r, f, h => by
    obtain ⟨h1, h2⟩ := h
    have ih := leb_val h2
    have hc := c.toNat_lt
    have hpos : 0 < val (d :: r) := by
      rcases Nat.eq_zero_or_pos (val (d :: r)) with e | e
      · exfalso
        have h3 := ih
        rw [e] at h3
        rw [leb, if_pos (by decide)] at h3
        rw [← h3] at h2
        simp [Can] at h2
      · exact e
    have e : val (c :: d :: r) = c.toNat % 128 + 128 * val (d :: r) := rfl
    rw [leb, if_neg (by omega), e]
    congr 1
    · exact ofNat_toNat c _ (by omega)
    · rw [show (c.toNat % 128 + 128 * val (d :: r)) / 128 = val (d :: r) from by omega]
      exact ih
theorem leb_len (z : Nat) (h : z < 2 ^ 64) : (leb z).length ≤ 10 := by
  have step : ∀ k z, z < 128 ^ k → (leb z).length ≤ k ∨ k = 0 := by
    intro k
    induction k with
    | zero => intro z _; exact .inr rfl
    | succ k ih =>
      intro z hz
      left
      rw [leb]
      split
      · simp
      · rename_i hz2
        have h2 : z / 128 < 128 ^ k := by
          rw [Nat.div_lt_iff_lt_mul (by decide)]; rw [Nat.pow_succ] at hz; omega
        rcases ih (z / 128) h2 with h3 | h3
        · simp; omega
        · subst h3; simp at hz; omega
  rcases step 10 z (Nat.lt_of_lt_of_le h (by decide)) with h1 | h1
  · exact h1
  · omega
theorem can_free : ∀ {a b r s : List UInt8} {f g : Bool}, Can f a → Can g b → a ++ r = b ++ s → a = b
  | [], _, _, _, _, _, h, _, _ => h.elim
  | _, [], _, _, _, _, _, h, _ => h.elim
  | [c], [d], r, s, _, _, _, _, h => by simp at h; rw [h.1]
  | [c], d :: e :: b, r, s, _, _, h1, h2, h => by
    simp only [List.cons_append, List.nil_append, List.cons.injEq] at h
    obtain ⟨rfl, _⟩ := h
    have := h1.1; have := h2.1; omega
  | c :: e :: a, [d], r, s, _, _, h1, h2, h => by
    simp only [List.cons_append, List.nil_append, List.cons.injEq] at h
    obtain ⟨rfl, _⟩ := h
    have := h1.1; have := h2.1; omega
  | c :: c2 :: a, d :: d2 :: b, r, s, _, _, h1, h2, h => by
    simp only [List.cons_append, List.cons.injEq] at h
    obtain ⟨rfl, h3⟩ := h
    have := can_free (a := c2 :: a) (b := d2 :: b) (r := r) (s := s) h1.2 h2.2 (by simpa using h3)
    rw [this]
theorem can_num (n : Int) : Can true (numB n) := can_leb _ _ (.inl rfl)
theorem num_free {m n : Int} {r s : List UInt8} (h : numB m ++ r = numB n ++ s) : m = n ∧ r = s := by
  have e := can_free (can_num m) (can_num n) h
  have h2 : zig m = zig n := by rw [← val_leb (zig m), ← val_leb (zig n)]; exact congrArg val e
  refine ⟨by rw [← zag_zig m, ← zag_zig n, h2], ?_⟩
  rw [e] at h
  exact List.append_cancel_left h
theorem num_len {n : Int} (h : I64 n) : (numB n).length ≤ 10 := leb_len _ (zig_lt h)
theorem num_pos (n : Int) : 0 < (numB n).length := by
  have := leb_ne (zig n)
  exact List.length_pos_iff.2 this
def TN (l : List UInt8) (o : Option (Int × List UInt8)) : Prop :=
  match o with
  | some (n, r) => I64 n ∧ l = numB n ++ r
  | none => ∀ n r, I64 n → l ≠ numB n ++ r
theorem TN.unique {l : List UInt8} {a b : Option (Int × List UInt8)} (ha : TN l a) (hb : TN l b) : a = b := by
  match a, b with
  | none, none => rfl
  | some (n, r), none => exact absurd ha.2 (hb n r ha.1)
  | none, some (n, r) => exact absurd hb.2 (ha n r hb.1)
  | some (n, r), some (m, s) =>
    have := num_free (ha.2.symm.trans hb.2)
    rw [this.1, this.2]
open Classical in
noncomputable def takeNum (l : List UInt8) : Option (Int × List UInt8) :=
  if h : ∃ p : Int × List UInt8, I64 p.1 ∧ l = numB p.1 ++ p.2 then some h.choose else none
theorem takeNum_TN (l : List UInt8) : TN l (takeNum l) := by
  unfold takeNum
  split
  · rename_i h
    exact h.choose_spec
  · rename_i h
    intro n r h1 h2
    exact h ⟨(n, r), h1, h2⟩
theorem takeNum_num {n : Int} (h : I64 n) (r : List UInt8) : takeNum (numB n ++ r) = some (n, r) := (takeNum_TN _).unique (b := some (n, r)) ⟨h, rfl⟩
end Go.Proofs.YtfolmcpfdcgliaaGreat.B
