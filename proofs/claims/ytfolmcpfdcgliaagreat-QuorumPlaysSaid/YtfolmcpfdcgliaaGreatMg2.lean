import Derived.Test.YtfolmcpfdcgliaaGreatMg1
set_option linter.unusedVariables false
set_option linter.unusedSimpArgs false
set_option maxRecDepth 8000
namespace Go.Proofs.YtfolmcpfdcgliaaGreat.B
open Go
def takeN : Nat → List Value → Option (List Value)
  | 0, _ => some []
  | n + 1, a :: l => match takeN n l with | some r => some (a :: r) | none => none
  | _ + 1, [] => none
def dropN : Nat → List Value → Option (List Value)
  | 0, l => some l
  | n + 1, _ :: l => dropN n l
  | _ + 1, [] => none
theorem takeN_eq : ∀ {n : Nat} {l r : List Value}, takeN n l = some r → n ≤ l.length ∧ r = l.take n
  | 0, l, r, h => by simp only [takeN, Option.some.injEq] at h; subst h; simp
  | n + 1, [], r, h => by cases h
  | n + 1, a :: l, r, h => by
    simp only [takeN] at h
    split at h
    · rename_i r' h'
      simp only [Option.some.injEq] at h
      subst h
      have := takeN_eq h'
      exact ⟨by simp; omega, by simp [this.2]⟩
    · cases h
theorem dropN_eq : ∀ {n : Nat} {l r : List Value}, dropN n l = some r → n ≤ l.length ∧ r = l.drop n
  | 0, l, r, h => by simp only [dropN, Option.some.injEq] at h; subst h; simp
  | n + 1, [], r, h => by cases h
  | n + 1, a :: l, r, h => by
    have := dropN_eq (n := n) (l := l) h
    exact ⟨by simp; omega, by simp [this.2]⟩
def cutN (o n : Nat) (l : List Value) : Option (List Value) := match dropN o l with | some r => takeN n r | none => none
theorem cutN_eq {o n : Nat} {l r : List Value} (h : cutN o n l = some r) : o + n ≤ l.length ∧ r = (l.drop o).take n := by
  unfold cutN at h
  split at h
  · rename_i r' h'
    have h1 := dropN_eq h'
    have h2 := takeN_eq h
    rw [h1.2] at h2
    exact ⟨by simp at h2; omega, h2.2⟩
  · cases h
def bitop (op : BinOp) (k : IntKind) (a b : Int) : Int :=
  k.wrap ((match op with
    | .and => BitVec.ofInt k.bits a &&& BitVec.ofInt k.bits b
    | .or => BitVec.ofInt k.bits a ||| BitVec.ofInt k.bits b
    | .xor => BitVec.ofInt k.bits a ^^^ BitVec.ofInt k.bits b
    | _ => BitVec.ofInt k.bits a &&& ~~~BitVec.ofInt k.bits b).toNat)
def intBin (op : BinOp) (k : IntKind) (a b : Int) : Option Value :=
  match op with
  | .add => some (.int k (k.wrap (a + b)))
  | .sub => some (.int k (k.wrap (a - b)))
  | .mul => some (.int k (k.wrap (a * b)))
  | .eql => some (.bool (decide (a = b)))
  | .neq => some (.bool (decide (¬ a = b)))
  | .lss => some (.bool (decide (a < b)))
  | .leq => some (.bool (decide (a ≤ b)))
  | .gtr => some (.bool (decide (b < a)))
  | .geq => some (.bool (decide (b ≤ a)))
  | .quo => match decide (b = 0) with | true => none | false => some (.int k (k.wrap (a.tdiv b)))
  | .rem => match decide (b = 0) with | true => none | false => some (.int k (a.tmod b))
  | .and => some (.int k (bitop .and k a b))
  | .or => some (.int k (bitop .or k a b))
  | .xor => some (.int k (bitop .xor k a b))
  | .andNot => some (.int k (bitop .andNot k a b))
  | _ => none
def shiftBin (op : BinOp) (k : IntKind) (a b : Int) : Option Value :=
  match decide (b < 0) with
  | true => none
  | false => match op with
    | .shl => some (.int k (k.wrap (a * 2 ^ (min b.toNat k.bits))))
    | .shr => some (.int k (a.fdiv (2 ^ (min b.toNat k.bits))))
    | _ => none
def strBin (op : BinOp) (a b : ByteArray) : Option Value :=
  match op with
  | .eql => some (.bool (decide (a = b)))
  | .neq => some (.bool (decide (¬ a = b)))
  | .lss => some (.bool (Op.bytesLess a.toList b.toList))
  | .leq => some (.bool (Op.bytesLess a.toList b.toList || decide (a = b)))
  | .gtr => some (.bool (!(Op.bytesLess a.toList b.toList || decide (a = b))))
  | .geq => some (.bool (!Op.bytesLess a.toList b.toList))
  | _ => none
def sameK : IntKind → IntKind → Bool
  | .i8, .i8 | .i16, .i16 | .i32, .i32 | .i64, .i64 | .u8, .u8 | .u16, .u16 | .u32, .u32 | .u64, .u64 => true
  | _, _ => false
theorem sameK_eq {k k' : IntKind} (h : sameK k k' = true) : k = k' := by cases k <;> cases k' <;> first | rfl | cases h
section
variable {P : Program} (T : Tab P)
def binV (op : BinOp) (t : Nat) (x y : Value) : Option Value :=
  match x, y with
  | .int k a, .int k' b => match op with
    | .shl => shiftBin .shl k a b
    | .shr => shiftBin .shr k a b
    | op => match sameK k k' with | true => intBin op k a b | false => none
  | .string a, .string b => strBin op a b
  | .bool a, .bool b => match lk T.tab t with
    | some ⟨.bool, _, _, _⟩ => (match op with | .eql => some (.bool (a == b)) | .neq => some (.bool (!(a == b))) | _ => none)
    | _ => none
  | .pointer (some _), .pointer none => match lk T.tab t with
    | some ⟨.ptr _, _, _, _⟩ => (match op with | .eql => some (.bool false) | .neq => some (.bool true) | _ => none)
    | _ => none
  | .pointer none, .pointer none => match lk T.tab t with
    | some ⟨.ptr _, _, _, _⟩ => (match op with | .eql => some (.bool true) | .neq => some (.bool false) | _ => none)
    | _ => none
  | _, _ => none
def partV (t : Nat) (cs : List Value) (off : Nat) : Option Value :=
  match lk T.tab t with
  | some e => (match e.td.agg with
    | true => (match cutN off e.size cs with | some r => some (.agg r.toArray) | none => none)
    | false => (match cutN off 1 cs with | some [v] => some v | _ => none))
  | none => none
def lenV (t : Nat) (x : Value) : Option Value :=
  match lk T.tab t, x with
  | some ⟨.string, _, _, _⟩, .string s => some (.int .i64 (s.size : Int))
  | some ⟨.slice _, _, _, _⟩, .slice _ n _ => some (.int .i64 (n : Int))
  | some ⟨.map _ _, _, _, _⟩, .map none => some (.int .i64 0)
  | some ⟨.arr n _, _, _, _⟩, _ => some (.int .i64 (n : Int))
  | _, _ => none
def convV (s d : Nat) (x : Value) : Option Value :=
  match lk T.tab s, lk T.tab d, x with
  | some ⟨.int _, _, _, _⟩, some ⟨.int k, _, _, _⟩, .int _ n => some (.int k (k.wrap n))
  | some ⟨.string, _, _, _⟩, some ⟨.string, _, _, _⟩, .string s => some (.string s)
  | _, _, _ => none
def pureOp (ρ : Operand → Option Value) (ρs : List Operand → Option (List Value)) (op : Op) : Option Value :=
  match op with
  | .move x => ρ x
  | .assign x => ρ x
  | .pick c a b => match ρ c with
    | some (.bool true) => ρ a
    | some (.bool false) => ρ b
    | _ => none
  | .nilCheck x => match ρ x with
    | some (.pointer (some a)) => some (.pointer (some a))
    | some (.func (.func f) x y) => some (.func (.func f) x y)
    | _ => none
  | .extract x i => match ρ x with
    | some (.tuple vs) => vs.toList[i]?
    | _ => none
  | .binOp op t x y _ => match ρ x, ρ y with
    | some a, some b => binV T op t a b
    | _, _ => none
  | .unOp .not _ x => match ρ x with
    | some (.bool b) => some (.bool (!b))
    | _ => none
  | .unOp .neg _ x => match ρ x with
    | some (.int k n) => some (.int k (k.wrap (0 - n)))
    | _ => none
  | .unOp .xor _ x => match ρ x with
    | some (.int k n) => some (.int k (bitop .xor k (match k.signed with | true => -1 | false => k.max) n))
    | _ => none
  | .convert s d x => match ρ x with
    | some v => convV T s d v
    | none => none
  | .fieldAddr t x f => match lk T.tab t, ρ x with
    | some ⟨.struct fs, _, _, _⟩, some (.pointer (some ⟨b, o, none⟩)) => (match fs[f]? with
      | some (ft, off) => (match lk T.tab ft with
        | some ⟨_, _ + 1, _, _⟩ => some (.pointer (some ⟨b, o + off, none⟩))
        | _ => none)
      | none => none)
    | _, _ => none
  | .field t x f => match lk T.tab t, ρ x with
    | some ⟨.struct fs, _, _, _⟩, some (.agg cs) => (match fs[f]? with
      | some (ft, off) => partV T ft cs.toList off
      | none => none)
    | _, _ => none
  | .makeFunc fn first cap => match ρs first.toList, ρs cap.toList with
    | some f, some c => some (.func fn f.toArray c.toArray)
    | _, _ => none
  | .call ⟨.builtin .len, args, tys⟩ => match args.toList, tys.toList with
    | [x], [t] => (match ρ x with | some v => lenV T t v | none => none)
    | _, _ => none
  | .call ⟨.builtin .min, args, _⟩ => match args.toList with
    | [x, y] => (match ρ x, ρ y with | some (.int k a), some (.int _ b) => some (.int k (if b < a then b else a)) | _, _ => none)
    | _ => none
  | .call ⟨.builtin .max, args, _⟩ => match args.toList with
    | [x, y] => (match ρ x, ρ y with | some (.int k a), some (.int _ b) => some (.int k (if b > a then b else a)) | _, _ => none)
    | _ => none
  | _ => none
end
section
variable {P : Program} (T : Tab P) {n : Nat} {ds : List Deferred} {L : TL} {W0 : World} {G : List SL} {op : Op} {ty : TypeId} {v : Value}
theorem toList_inj (a b : ByteArray) : (a.toList == b.toList) = decide (a = b) := by
  rw [Bool.eq_iff_iff]
  simp only [beq_iff_eq, decide_eq_true_eq, ByteArray.toList_eq]
  constructor
  · intro h
    obtain ⟨a⟩ := a
    obtain ⟨b⟩ := b
    simp only [ByteArray.mk.injEq]
    exact Array.toList_inj.1 h
  · intro h; rw [h]
theorem intBin_ok {o : BinOp} {k : IntKind} {a b : Int} (h : intBin o k a b = some v) (ho : o ≠ .shl) (ho' : o ≠ .shr) (w : World) (x y : Operand) :
    (do eqGuard o ty x y (.int k a) (.int k b); Go.binOp o ty (.int k a) (.int k b)).run P w = .ok v w := by
  cases o <;> simp only [intBin, Option.some.injEq, reduceCtorEq] at h <;> first
    | exact absurd rfl ho
    | exact absurd rfl ho'
    | (split at h <;> simp only [reduceCtorEq, Option.some.injEq] at h
       rename_i hb
       have hb' := of_decide_eq_false hb
       subst h
       simp [eqGuard, Go.binOp, Op.intDiv, hb'])
    | (subst h; simp [eqGuard, Go.binOp, Op.intArith, Op.intCmp, Op.intBits, bitop]; done)
    | (subst h; simp only [eqGuard, Go.binOp, Op.intCmp, Sem.run_bind]; simp; first | rfl | (rw [Bool.eq_iff_iff]; simp) | (rw [Bool.eq_iff_iff]; simp; omega))
theorem shiftBin_ok {o : BinOp} {k k' : IntKind} {a b : Int} (h : shiftBin o k a b = some v) (w : World) (x y : Operand) :
    (do eqGuard o ty x y (.int k a) (.int k' b); Go.binOp o ty (.int k a) (.int k' b)).run P w = .ok v w := by
  unfold shiftBin at h
  split at h
  · cases h
  · rename_i hb
    have hb' := of_decide_eq_false hb
    cases o <;> simp only [Option.some.injEq, reduceCtorEq] at h
    all_goals subst h; simp [eqGuard, Go.binOp, Op.shift, hb']
theorem strBin_ok {o : BinOp} {a b : ByteArray} (h : strBin o a b = some v) (w : World) (x y : Operand) :
    (do eqGuard o ty x y (.string a) (.string b); Go.binOp o ty (.string a) (.string b)).run P w = .ok v w := by
  cases o <;> simp only [strBin, Option.some.injEq, reduceCtorEq] at h
  all_goals subst h; simp only [eqGuard, Go.binOp, Op.stringOp, toList_inj, Sem.run_bind]; simp
theorem eqBool (d t : Nat) (h : P.underlying t = some .bool) (a b : Bool) (w : World) : (Op.equalIn (d + 1) t (.bool a) (.bool b)).run P w = .ok (a == b) w := by
  simp [Op.equalIn, underlying, h]
theorem eqPtrNil (d t e : Nat) (h : P.underlying t = some (.pointer e)) (a : Addr) (w : World) : (Op.equalIn (d + 1) t (.pointer (some a)) (.pointer none)).run P w = .ok false w := by
  simp [Op.equalIn, underlying, h]
theorem eqNilNil (d t e : Nat) (h : P.underlying t = some (.pointer e)) (w : World) : (Op.equalIn (d + 1) t (.pointer none) (.pointer none)).run P w = .ok true w := by
  simp [Op.equalIn, underlying, h]
theorem equal_is (t : Nat) (x y : Value) : Op.equal t x y = Op.equalIn (9999 + 1) t x y := rfl
theorem binV_ok {o : BinOp} {a b : Value} (h : binV T o ty a b = some v) (w : World) (x y : Operand) :
    (do eqGuard o ty x y a b; Go.binOp o ty a b).run P w = .ok v w := by
  unfold binV at h
  split at h
  · split at h
    · exact shiftBin_ok h w x y
    · exact shiftBin_ok h w x y
    · rename_i k a k' b o h1 h2
      split at h
      · rename_i hk
        have := sameK_eq hk
        subst this
        exact intBin_ok h h1 h2 w x y
      · cases h
  · exact strBin_ok h w x y
  · split at h
    · rename_i hl
      obtain ⟨d, hd, h2, h3⟩ := T.und (w := w) hl
      obtain rfl := tdOf_bool h2
      split at h <;> simp only [Option.some.injEq, reduceCtorEq] at h
      all_goals subst h; simp only [eqGuard, Go.binOp, equal_is, Sem.run_bind, eqBool _ _ h3]; rfl
    · cases h
  · split at h
    · rename_i hl
      obtain ⟨d, hd, h2, h3⟩ := T.und (w := w) hl
      obtain rfl := tdOf_ptr h2
      split at h <;> simp only [Option.some.injEq, reduceCtorEq] at h
      all_goals subst h; simp only [eqGuard, Go.binOp, equal_is, Sem.run_bind, eqPtrNil _ _ _ h3]; rfl
    · cases h
  · split at h
    · rename_i hl
      obtain ⟨d, hd, h2, h3⟩ := T.und (w := w) hl
      obtain rfl := tdOf_ptr h2
      split at h <;> simp only [Option.some.injEq, reduceCtorEq] at h
      all_goals subst h; simp only [eqGuard, Go.binOp, equal_is, Sem.run_bind, eqNilNil _ _ _ h3]; rfl
    · cases h
  · cases h
theorem partV_ok {t : Nat} {cs : List Value} {off : Nat} (h : partV T t cs off = some v) (w : World) : (part t cs.toArray off).run P w = .ok v w := by
  unfold partV at h
  split at h
  · rename_i e hl
    have ha := T.isAgg (w := w) hl
    have hz := T.sizeOf (w := w) hl
    simp only [part, Sem.run_bind, ha, Result.andThen_ok]
    split at h
    · rename_i hagg
      split at h
      · rename_i r hr
        simp only [Option.some.injEq] at h
        subst h
        obtain ⟨h1, h2⟩ := cutN_eq hr
        simp only [hagg, if_true, Sem.run_bind, hz, Result.andThen_ok, Sem.run_pure]
        congr 2
        rw [h2]
        simp [List.extract_toArray, List.extract_eq_take_drop]
      · cases h
    · rename_i hagg
      split at h
      · rename_i u hr
        simp only [Option.some.injEq] at h
        subst h
        obtain ⟨h1, h2⟩ := cutN_eq hr
        have h3 : cs[off]? = some u := by
          have := congrArg (fun l => l[0]?) h2
          simp at this
          exact this.symm
        simp [hagg, h3]
      · cases h
  · cases h
theorem lenV_ok {t : Nat} {x : Value} (h : lenV T t x = some v) (w : World) : (Builtin.len_ #[t] ty #[x]).run P w = .ok v w := by
  unfold lenV at h
  split at h
  · rename_i hl
    obtain ⟨d, hd, h2, h3⟩ := T.und (w := w) hl
    obtain rfl := tdOf_string h2
    simp only [Option.some.injEq] at h
    subst h
    simp [Builtin.len_, hd, goInt]
  · rename_i hl
    obtain ⟨d, hd, h2, h3⟩ := T.und (w := w) hl
    obtain rfl := tdOf_slice h2
    simp only [Option.some.injEq] at h
    subst h
    simp [Builtin.len_, hd, goInt]
  · rename_i hl
    obtain ⟨d, hd, h2, h3⟩ := T.und (w := w) hl
    obtain rfl := tdOf_map h2
    simp only [Option.some.injEq] at h
    subst h
    simp [Builtin.len_, hd, goInt]
  · rename_i hl
    obtain ⟨d, hd, h2, h3⟩ := T.und (w := w) hl
    obtain rfl := tdOf_arr h2
    simp only [Option.some.injEq] at h
    subst h
    simp [Builtin.len_, hd, goInt]
  · cases h
theorem convV_ok {s d : Nat} {x : Value} (h : convV T s d x = some v) (w : World) : (convert s d x).run P w = .ok v w := by
  unfold convV at h
  split at h
  · rename_i h1 h2
    obtain ⟨d1, hd1, e1, _⟩ := T.und (w := w) h1
    obtain ⟨d2, hd2, e2, _⟩ := T.und (w := w) h2
    obtain rfl := tdOf_int e1
    obtain rfl := tdOf_int e2
    simp only [Option.some.injEq] at h
    subst h
    simp [convert, hd1, hd2, Conv.intToInt]
  · rename_i h1 h2
    obtain ⟨d1, hd1, e1, _⟩ := T.und (w := w) h1
    obtain ⟨d2, hd2, e2, _⟩ := T.und (w := w) h2
    obtain rfl := tdOf_string e1
    obtain rfl := tdOf_string e2
    simp only [Option.some.injEq] at h
    subst h
    simp [convert, hd1, hd2]
  · cases h
theorem add_off (b o k : Nat) : (⟨b, o, none⟩ : Addr).add k = ⟨b, o + k, none⟩ := by unfold Addr.add; split <;> simp_all
theorem op1_pure (h : pureOp T (evL L) (evLs L) op = some v) : Op1 P n ds L W0 G op ty v := by
  intro a w hf hs d pos af g
  cases op <;> simp only [pureOp, reduceCtorEq] at h
  case move x => simp only [execOp, Sem.run_pure, hf.ev h]
  case assign x => simp only [execOp, Sem.run_pure, hf.ev h]
  case pick c x y =>
    split at h
    · rename_i hc
      simp [execOp, hf.ev hc, asBool, hf.ev h]
    · rename_i hc
      simp [execOp, hf.ev hc, asBool, hf.ev h]
    · cases h
  case nilCheck x =>
    split at h <;> simp only [Option.some.injEq, reduceCtorEq] at h
    · rename_i hx
      subst h
      simp [execOp, hf.ev hx]
    · rename_i hx
      subst h
      simp [execOp, hf.ev hx]
  case extract x i =>
    split at h
    · rename_i vs hx
      have h2 : vs[i]? = some v := by simpa using h
      simp [execOp, hf.ev hx, Instr.extract, h2]
    · cases h
  case binOp o t x y yt =>
    split at h
    · rename_i u1 u2 h1 h2
      have := binV_ok (P := P) T h w x y
      simp only [execOp, hf.ev h1, hf.ev h2, Sem.run_bind] at this ⊢
      rw [this]
      rfl
    · cases h
  case unOp o t x =>
    cases o <;> simp only [reduceCtorEq] at h
    all_goals (split at h <;> simp only [Option.some.injEq, reduceCtorEq] at h; rename_i hx; subst h; simp only [execOp, hf.ev hx, Op.unary, Sem.run_bind])
    · simp [Op.intArith]
    · simp [Op.intBits, bitop]
      cases IntKind.signed _ <;> rfl
    · simp
  case convert s d x =>
    split at h
    · rename_i u hx
      simp only [execOp, hf.ev hx, Sem.run_bind, convV_ok T h w]
      rfl
    · cases h
  case fieldAddr t x f =>
    split at h
    · rename_i fs _ _ _ b o hl hx
      split at h
      · rename_i ft off hfs
        split at h
        · rename_i hl2
          simp only [Option.some.injEq] at h
          subst h
          obtain ⟨d1, hd1, e1, _⟩ := T.und (w := w) hl
          obtain ⟨fields, rfl, hmap⟩ := tdOf_struct e1
          subst hmap
          rw [List.getElem?_map] at hfs
          obtain ⟨fd, hfd, hfe⟩ := Option.map_eq_some_iff.1 hfs
          simp only [Prod.mk.injEq] at hfe
          obtain ⟨rfl, rfl⟩ := hfe
          have hfd' : fields[f]? = some fd := by simpa using hfd
          have hz := T.sizeOf (w := w) hl2
          simp [execOp, hf.ev hx, Instr.fieldAt, hd1, hfd', Instr.sureAddr, fieldPlace, hz, add_off]
        · cases h
      · cases h
    · cases h
  case field t x f =>
    split at h
    · rename_i fs _ _ _ cs hl hx
      split at h
      · rename_i ft off hfs
        obtain ⟨d1, hd1, e1, _⟩ := T.und (w := w) hl
        obtain ⟨fields, rfl, hmap⟩ := tdOf_struct e1
        subst hmap
        rw [List.getElem?_map] at hfs
        obtain ⟨fd, hfd, hfe⟩ := Option.map_eq_some_iff.1 hfs
        simp only [Prod.mk.injEq] at hfe
        obtain ⟨rfl, rfl⟩ := hfe
        have hfd' : fields[f]? = some fd := by simpa using hfd
        have := partV_ok (P := P) T h w
        simp only [Array.toArray_toList] at this
        simp [execOp, hf.ev hx, Instr.field, hd1, hfd', asAgg, this]
      · cases h
    · cases h
  case makeFunc fn first cap =>
    split at h
    · rename_i u1 u2 h1 h2
      simp only [Option.some.injEq] at h
      subst h
      have e1 := hf.evs h1
      have e2 := hf.evs h2
      have e1' : first.map a.eval = u1.toArray := by rw [← e1, ← List.map_toArray, Array.toArray_toList]
      have e2' : cap.map a.eval = u2.toArray := by rw [← e2, ← List.map_toArray, Array.toArray_toList]
      simp only [execOp, Instr.makeFunc, Sem.run_bind, Sem.run_pure, Result.andThen_ok, e1', e2']
    · cases h
  case call c =>
    obtain ⟨callee, args, tys⟩ := c
    cases callee with
    | value f => cases h
    | invoke r m => cases h
    | builtin b =>
      cases b <;> simp only [reduceCtorEq] at h
      case len =>
        split at h
        · rename_i x t hx ht
          split at h
          · rename_i u hu
            have ea : args = #[x] := by rw [← Array.toArray_toList (xs := args), hx]
            have et : tys = #[t] := by rw [← Array.toArray_toList (xs := tys), ht]
            subst ea; subst et
            simp only [execOp, resolve, Sem.run_bind, Sem.run_pure, Result.andThen_ok, invoke, builtin, List.map_toArray, List.map_cons, List.map_nil, hf.ev hu, lenV_ok T h w]
          · cases h
        · cases h
      case min =>
        split at h
        · rename_i x y hx
          split at h
          · rename_i k p k' q h1 h2
            have ea : args = #[x, y] := by rw [← Array.toArray_toList (xs := args), hx]
            subst ea
            simp only [Option.some.injEq] at h
            subst h
            simp [execOp, resolve, invoke, builtin, hf.ev h1, hf.ev h2, Builtin.min_, Builtin.min2]
          · cases h
        · cases h
      case max =>
        split at h
        · rename_i x y hx
          split at h
          · rename_i k p k' q h1 h2
            have ea : args = #[x, y] := by rw [← Array.toArray_toList (xs := args), hx]
            subst ea
            simp only [Option.some.injEq] at h
            subst h
            simp [execOp, resolve, invoke, builtin, hf.ev h1, hf.ev h2, Builtin.max_, Builtin.max2]
          · cases h
        · cases h
def pureOp1 (ρ : Operand → Option Value) (ρs : List Operand → Option (List Value)) (op : Op) : Option Value :=
  match op with
  | .binOp .add _ _ _ _ => none
  | .binOp .sub _ _ _ _ => none
  | .binOp .mul _ _ _ _ => none
  | .unOp .neg _ _ => none
  | .convert _ _ _ => none
  | op => pureOp T ρ ρs op
theorem op1_pure1 (h : pureOp1 T (evL L) (evLs L) op = some v) : Op1 P n ds L W0 G op ty v := by
  refine op1_pure T ?_
  unfold pureOp1 at h
  split at h <;> first | cases h | exact h
end
end Go.Proofs.YtfolmcpfdcgliaaGreat.B
