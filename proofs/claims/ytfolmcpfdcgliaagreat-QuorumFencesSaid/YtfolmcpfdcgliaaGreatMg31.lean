import Derived.Test.YtfolmcpfdcgliaaGreatMg30
import Derived.Test.YtfolmcpfdcgliaaGreatMg29
import Derived.Test.YtfolmcpfdcgliaaGreatMg9
import Derived.Test.YtfolmcpfdcgliaaGreatMg18
import Derived.Test.YtfolmcpfdcgliaaGreatMg11
import Derived.Test.YtfolmcpfdcgliaaGreatMg21
import Derived.Test.YtfolmcpfdcgliaaGreatMg25
set_option linter.unusedVariables false
/-! A writer of some journal nodes, in plain words. -/
set_option maxRecDepth 8000
namespace Go.Proofs.YtfolmcpfdcgliaaGreat.B
open Go Go.Proofs
abbrev Lg := Int × List Ent
structure Nd where
  b : Nat
  d : Nat
  J : Jn
  D : Disk
structure NdOk (x : Nd) : Prop where
  J : JnOk x.J
  D : DiskOk x.D
noncomputable def Nd.ans (x : Nd) (s : List UInt8) : List UInt8 := (handJ x.J x.D s).1
noncomputable def Nd.hand (x : Nd) (s : List UInt8) : Nd := ⟨x.b, x.d, (handJ x.J x.D s).2.1, (handJ x.J x.D s).2.2⟩
abbrev Msg := Int × ByteArray
def sendM (m : List Msg) (i : Int) (s : ByteArray) : List Msg := if 50 ≤ m.length ∨ 4000 < s.size then m else m ++ [(i, s)]
def fateM (fs : List Int) (i : Nat) : Int := match fs[i]? with | some c => pickM c 5 | none => 0
structure Got where
  logs : List Lg
  bad : Int
  m : List Msg
def heard (t : Int × List Ent × Int) (σ : Got) : Got := if t.2.2 = 0 then { σ with logs := σ.logs ++ [(t.1, t.2.1)] } else if t.2.2 = 10 then { σ with bad := 10 } else σ
noncomputable def ndM (k : Int) (s : ByteArray) (x : Nd) : Nd := if k = 1 ∨ k = 4 then x else if k = 3 then (x.hand (bs s)).hand (bs s) else x.hand (bs s)
noncomputable def gotM (k : Int) (i : Nat) (s : ByteArray) (x : Nd) (σ : Got) : Got :=
  if k = 1 then σ else if k = 4 then { σ with m := sendM σ.m i s } else if k = 2 then σ else heard (toldM (x.ans (bs s))) σ
noncomputable def ndsM (fs : List Int) (s : ByteArray) (xs : List Nd) (i : Nat) : List Nd := xs.mapIdx fun j x => if j < i then ndM (fateM fs j) s x else x
noncomputable def gotsM (fs : List Int) (s : ByteArray) (xs : List Nd) (m : List Msg) : Nat → Got
  | 0 => ⟨[], 12, m⟩
  | i + 1 => match xs[i]? with | some x => gotM (fateM fs i) i s x (gotsM fs s xs m i) | none => gotsM fs s xs m i
structure Wr where
  e : Int
  n : Int
  over : Bool
structure Res where
  logs : List Lg
  err : Int
  w : Wr
  xs : List Nd
  m : List Msg
def mostM (n : Int) : Int := if n < 1 then 0 else n / 2 + 1
noncomputable def allM (w : Wr) (xs : List Nd) (m : List Msg) (s : ByteArray) (fs : List Int) : Res :=
  let g := gotsM fs s xs m xs.length
  if xs.length = 0 ∨ (g.logs.length : Int) < mostM xs.length then ⟨[], g.bad, ⟨0, 0, true⟩, ndsM fs s xs xs.length, g.m⟩
  else ⟨g.logs, 0, w, ndsM fs s xs xs.length, g.m⟩
/-- What is answered of one that begins or writes. -/
structure Out1 where
  l : List Ent
  err : Int
  w : Wr
  xs : List Nd
  m : List Msg
def betterQ (a b : Lg) : Bool := decide (b.1 < a.1) || (decide (a.1 = b.1) && decide (b.2.length < a.2.length))
def bestQ (ls : List Lg) : Nat → Int
  | 0 => -1
  | i + 1 => if bestQ ls i < 0 then i else match ls[i]?, ls[(bestQ ls i).toNat]? with
    | some a, some b => if betterQ a b = true then i else bestQ ls i
    | _, _ => bestQ ls i
def bestL (ls : List Lg) : List Ent := match ls[(bestQ ls ls.length).toNat]? with | some x => x.2 | none => []
noncomputable def accS (ep : Int) (l : List Ent) : ByteArray := if logOk ep l = true then mk (joinB (accL ep l)) else ⟨#[]⟩
noncomputable def addS (ep : Int) (n : Int) (s : ByteArray) : ByteArray := if fitsB n s = true then mk (joinB (addL ep ⟨n, s⟩)) else ⟨#[]⟩
noncomputable def promS (ep : Int) : ByteArray := mk (joinB (promL ep))
noncomputable def begin2 (ep : Int) (fs : List Int) (l : List Ent) (w : Wr) (xs : List Nd) (m : List Msg) : Out1 :=
  let b := allM w xs m (accS ep l) (fs.drop (min fs.length xs.length))
  if b.err ≠ 0 then ⟨[], b.err, b.w, b.xs, b.m⟩ else ⟨l, 0, ⟨ep, l.length, b.w.over⟩, b.xs, b.m⟩
noncomputable def beginM (w : Wr) (xs : List Nd) (m : List Msg) (ep : Int) (fs : List Int) : Out1 :=
  if w.over = true ∨ 0 < w.e then ⟨[], 14, w, xs, m⟩
  else if ep < 1 ∨ 9007199254740991 < ep then ⟨[], 1, w, xs, m⟩
  else
    let a := allM w xs m (promS ep) fs
    if a.err ≠ 0 then ⟨[], a.err, a.w, a.xs, a.m⟩ else begin2 ep fs (bestL a.logs) a.w a.xs a.m
noncomputable def writeM (w : Wr) (xs : List Nd) (m : List Msg) (s : ByteArray) (fs : List Int) : Out1 :=
  if w.over = true ∨ w.e = 0 then ⟨[], 14, w, xs, m⟩
  else if 600 < s.size then ⟨[], 1, w, xs, m⟩
  else if 300 ≤ w.n then ⟨[], 4, w, xs, m⟩
  else
    let a := allM w xs m (addS w.e (w.n + 1) s) fs
    ⟨[], a.err, if a.err = 0 then { a.w with n := a.w.n + 1 } else a.w, a.xs, a.m⟩
theorem ndsM_zero (fs : List Int) (s : ByteArray) (xs : List Nd) : ndsM fs s xs 0 = xs := by
  refine List.ext_getElem? fun i => ?_
  simp [ndsM, List.getElem?_mapIdx]
theorem ndsM_len (fs : List Int) (s : ByteArray) (xs : List Nd) (i : Nat) : (ndsM fs s xs i).length = xs.length := by simp [ndsM]
theorem ndsM_get {fs : List Int} {s : ByteArray} {xs : List Nd} {i : Nat} {x : Nd} (h : xs[i]? = some x) : (ndsM fs s xs i)[i]? = some x := by
  simp [ndsM, List.getElem?_mapIdx, h]
theorem ndsM_succ {fs : List Int} {s : ByteArray} {xs : List Nd} {i : Nat} {x : Nd} (h : xs[i]? = some x) : ndsM fs s xs (i + 1) = (ndsM fs s xs i).set i (ndM (fateM fs i) s x) := by
  have hi := (List.getElem?_eq_some_iff.1 h).1
  refine List.ext_getElem? fun j => ?_
  rw [List.getElem?_set]
  by_cases hj : i = j
  · subst hj
    rw [if_pos rfl, if_pos (by rw [ndsM_len]; exact hi)]
    simp [ndsM, List.getElem?_mapIdx, h]
  · rw [if_neg hj]
    simp only [ndsM, List.getElem?_mapIdx]
    congr 1
    funext y
    by_cases h2 : j < i
    · rw [if_pos h2, if_pos (by omega)]
    · rw [if_neg h2, if_neg (by omega)]
theorem ndM_same (k : Int) (s : ByteArray) (x : Nd) : (ndM k s x).b = x.b ∧ (ndM k s x).d = x.d := by unfold ndM; split; exact ⟨rfl, rfl⟩; split <;> exact ⟨rfl, rfl⟩
theorem ndsM_map {α : Type} (f : Nd → α) (hf : ∀ k s x, f (ndM k s x) = f x) (fs : List Int) (s : ByteArray) (xs : List Nd) (i : Nat) : (ndsM fs s xs i).map f = xs.map f := by
  refine List.ext_getElem? fun j => ?_
  simp only [ndsM, List.getElem?_map, List.getElem?_mapIdx, Option.map_map]
  congr 1
  funext x
  simp only [Function.comp]
  split
  · exact hf _ _ _
  · rfl
theorem hand_ok {x : Nd} (h : NdOk x) (s : List UInt8) : NdOk (x.hand s) := ⟨(hand_jok h.J h.D s).1, (hand_jok h.J h.D s).2⟩
theorem ndM_ok {x : Nd} (h : NdOk x) (k : Int) (s : ByteArray) : NdOk (ndM k s x) := by
  unfold ndM
  split
  · exact h
  · split
    · exact hand_ok (hand_ok h _) _
    · exact hand_ok h _
theorem ndsM_ok {xs : List Nd} (h : ∀ x ∈ xs, NdOk x) (fs : List Int) (s : ByteArray) (i : Nat) : ∀ x ∈ ndsM fs s xs i, NdOk x := by
  intro x hx
  obtain ⟨j, hj⟩ := List.mem_iff_getElem?.1 hx
  simp only [ndsM, List.getElem?_mapIdx, Option.map_eq_some_iff] at hj
  obtain ⟨y, hy, rfl⟩ := hj
  split
  · exact ndM_ok (h y (List.mem_of_getElem? hy)) _ _
  · exact h y (List.mem_of_getElem? hy)
theorem fate_range (fs : List Int) (i : Nat) : 0 ≤ fateM fs i ∧ fateM fs i < 5 := by
  unfold fateM
  split
  · exact pickM_range (by decide)
  · exact ⟨by decide, by decide⟩
theorem sendM_len {m : List Msg} (h : m.length ≤ 50) (i : Int) (s : ByteArray) : (sendM m i s).length ≤ 50 := by
  unfold sendM
  split
  · exact h
  · simp only [List.length_append, List.length_cons, List.length_nil]; omega
theorem gotM_len {σ : Got} {k : Int} {i : Nat} {s : ByteArray} {x : Nd} : (gotM k i s x σ).logs.length ≤ σ.logs.length + 1 := by
  unfold gotM heard
  split <;> (try split) <;> (try split) <;> (try split) <;> (try split) <;> simp
theorem gotsM_len (fs : List Int) (s : ByteArray) (xs : List Nd) (m : List Msg) : ∀ i, (gotsM fs s xs m i).logs.length ≤ i
  | 0 => Nat.le_refl _
  | i + 1 => by
    rw [gotsM]
    have := gotsM_len fs s xs m i
    split
    · have := gotM_len (σ := gotsM fs s xs m i) (k := fateM fs i) (i := i) (s := s) (x := by assumption)
      omega
    · omega
theorem gotsM_mail (fs : List Int) (s : ByteArray) (xs : List Nd) (m : List Msg) (hm : m.length ≤ 50) : ∀ i, (gotsM fs s xs m i).m.length ≤ 50
  | 0 => hm
  | i + 1 => by
    rw [gotsM]
    have := gotsM_mail fs s xs m hm i
    split
    · unfold gotM heard
      split
      · exact this
      · split
        · exact sendM_len this _ _
        · split
          · exact this
          · split
            · exact this
            · split <;> exact this
    · exact this
end Go.Proofs.YtfolmcpfdcgliaaGreat.B

set_option linter.unusedVariables false
set_option linter.unusedSimpArgs false
set_option maxRecDepth 8000
/-! Choosing a log: what two lists have in common, majorities, made-up logs. -/
namespace Go.Proofs.YtfolmcpfdcgliaaGreat.B
open Go Go.Proofs
attribute [local irreducible] WL CS QS WQ WH WS Fn Op1 row Sat

theorem Ent.ext' {x y : Ent} (h1 : x.n = y.n) (h2 : x.s = y.s) : x = y := by cases x; cases y; simp_all
theorem eqEnt (x y : Ent) : eqFs TT [(3, 0), (9, 1)] [.int .i64 x.n, .string x.s] [.int .i64 y.n, .string y.s] = some (decide (x = y)) := by
  have e : decide (x = y) = (decide (x.n = y.n) && (decide (x.s = y.s) && true)) := by
    rw [Bool.and_true, ← Bool.decide_and, decide_eq_decide]
    exact ⟨fun h => by subst h; exact ⟨rfl, rfl⟩, fun h => Ent.ext' h.1 h.2⟩
  rw [e]; rfl
def agreeN : List Ent → List Ent → Nat
  | x :: a, y :: b => if x = y then agreeN a b + 1 else 0
  | _, _ => 0
theorem agreeN_at : ∀ {a b : List Ent} {i : Nat}, i ≤ a.length → i ≤ b.length → a.take i = b.take i → (i = a.length ∨ i = b.length ∨ a[i]? ≠ b[i]?) → agreeN a b = i
  | [], b, i, h1, _, _, _ => by simp at h1; subst h1; rfl
  | x :: a, [], i, _, h2, _, _ => by simp at h2; subst h2; rfl
  | x :: a, y :: b, 0, _, _, _, h => by
    rw [agreeN, if_neg]
    rintro rfl
    rcases h with h | h | h
    · simp at h
    · simp at h
    · exact h rfl
  | x :: a, y :: b, i + 1, h1, h2, h3, h => by
    simp only [List.take_succ_cons, List.cons.injEq] at h3
    rw [agreeN, if_pos h3.1, agreeN_at (by simpa using h1) (by simpa using h2) h3.2 (by simpa using h)]
theorem agreeN_le : ∀ (a b : List Ent), agreeN a b ≤ a.length ∧ agreeN a b ≤ b.length
  | [], b => by simp [agreeN]
  | x :: a, [] => by simp [agreeN]
  | x :: a, y :: b => by
    have := agreeN_le a b
    rw [agreeN]; split <;> simp <;> omega
theorem agreeN_take : ∀ (a b : List Ent), a.take (agreeN a b) = b.take (agreeN a b)
  | [], b => by simp [agreeN]
  | x :: a, [] => by simp [agreeN]
  | x :: a, y :: b => by
    rw [agreeN]; split
    · rename_i h; subst h; simp [agreeN_take a b]
    · simp
theorem agreeN_stop : ∀ {a b : List Ent}, agreeN a b ≠ a.length → agreeN a b ≠ b.length → a[agreeN a b]? ≠ b[agreeN a b]?
  | [], b, h, _ => by simp [agreeN] at h
  | x :: a, [], _, h => by simp [agreeN] at h
  | x :: a, y :: b, h1, h2 => by
    rw [agreeN] at h1 h2 ⊢; split
    · rename_i h; subst h
      simp only [if_true, List.length_cons, ne_eq, Nat.add_right_cancel_iff] at h1 h2
      simpa using agreeN_stop h1 h2
    · rename_i h; simpa using h
theorem agreeN_comm : ∀ (a b : List Ent), agreeN a b = agreeN b a
  | [], [] => rfl
  | [], y :: b => rfl
  | x :: a, [] => rfl
  | x :: a, y :: b => by
    rw [agreeN, agreeN, agreeN_comm a b]
    by_cases h : x = y
    · rw [if_pos h, if_pos h.symm]
    · rw [if_neg h, if_neg (fun e => h e.symm)]
theorem agreeN_self : ∀ (a : List Ent), agreeN a a = a.length
  | [] => rfl
  | x :: a => by rw [agreeN, if_pos rfl, agreeN_self a]; rfl

theorem choose_Most (n : Int) (hn : I64 n) (W0 : World) (G : List SL) :
    Fn Tryz.prog 39 [.int .i64 n] W0 G (Ret fun v G' => v = .int .i64 (if n < 1 then 0 else n / 2 + 1) ∧ G' = G) := by
  refine Fn.enter Tryz.func39 rfl Tryz.ntmps39 rfl ?_
  unfold I64 at hn
  repeat' (first|refine bk ?_|refine bkc ?_|refine bks ?_|refine bkd ?_|refine bkq (fun q => ?_)|(refine bk2 ?_ ?_<;>(first|exact bkn|(refine bkk ?_;intro h))))
  · exact QS.retV Tryz.results39 rfl ⟨by rw [if_pos (by assumption)]; rfl, rfl⟩
  · refine QS.retV Tryz.results39 rfl ⟨?_, rfl⟩
    have h2 : n.tdiv 2 = n / 2 := Int.tdiv_eq_ediv_of_nonneg (by omega)
    rw [if_neg (by assumption), w64 (show -9223372036854775808 ≤ n.tdiv 2 ∧ n.tdiv 2 ≤ 9223372036854775807 from by omega), h2]
    first
      | rfl
      | (rw [w64 (by omega)]; rfl)

def longT (n : Nat) : List Ent := (List.range n).map fun (i : Nat) => ⟨(i : Int) + 1, ⟨#[120]⟩⟩
theorem longT_succ (n : Nat) : longT (n + 1) = longT n ++ [⟨(n : Int) + 1, ⟨#[120]⟩⟩] := by simp [longT, List.range_succ]
theorem longT_len (n : Nat) : (longT n).length = n := by simp [longT]
end Go.Proofs.YtfolmcpfdcgliaaGreat.B

set_option linter.unusedVariables false
set_option linter.unusedSimpArgs false
set_option maxRecDepth 8000
/-! Choosing a log: the best. -/
namespace Go.Proofs.YtfolmcpfdcgliaaGreat.B
open Go Go.Proofs
attribute [local irreducible] WL CS QS WQ WH WS Fn Op1 row Sat

/-- A log, and where its entries are. -/
structure LogX where
  e : Int
  A : Option Addr
  c : Nat
  xs : List Ent
def lgE : EncK LogX := ⟨fun l => [.int .i64 l.e, .slice l.A l.xs.length l.c], 2, fun _ => rfl, by decide, fun _ u hu => by simp only [List.mem_cons, List.not_mem_nil, or_false] at hu; rcases hu with rfl | rfl <;> rfl⟩
def better (a b : LogX) : Bool := decide (b.e < a.e) || (decide (a.e = b.e) && decide (b.xs.length < a.xs.length))
def bestP (ls : List LogX) : Nat → Int
  | 0 => -1
  | i + 1 => if bestP ls i < 0 then i else match ls[i]?, ls[(bestP ls i).toNat]? with
    | some a, some b => if better a b = true then i else bestP ls i
    | _, _ => bestP ls i
def bestI (ls : List LogX) : Int := bestP ls ls.length
theorem bestP_range (ls : List LogX) : ∀ i, -1 ≤ bestP ls i ∧ bestP ls i < i ∧ (0 < i → 0 ≤ bestP ls i)
  | 0 => ⟨by rw [bestP]; decide, by rw [bestP]; decide, fun h => absurd h (by decide)⟩
  | i + 1 => by
    have ih := bestP_range ls i
    rw [bestP]
    split
    · omega
    · split
      · split <;> omega
      · omega
theorem bestP_lt {ls : List LogX} {i : Nat} (h : bestP ls i < 0) : bestP ls (i + 1) = i := by rw [bestP, if_pos h]
theorem bestP_ge {ls : List LogX} {i : Nat} {a b : LogX} (h : ¬ bestP ls i < 0) (ha : ls[i]? = some a) (hb : ls[(bestP ls i).toNat]? = some b) : bestP ls (i + 1) = if better a b = true then (i : Int) else bestP ls i := by
  rw [bestP, if_neg h, ha, hb]

theorem choose_better (a b : LogX) (W0 : World) (G : List SL) :
    Fn Tryz.prog 76 [.agg #[.int .i64 a.e, .slice a.A a.xs.length a.c], .agg #[.int .i64 b.e, .slice b.A b.xs.length b.c]] W0 G (Ret fun v G' => v = .bool (better a b) ∧ G' = G) := by
  refine Fn.enter Tryz.func76 rfl Tryz.ntmps76 rfl ?_
  repeat' (first|refine bk ?_|refine bkc ?_|refine bks ?_|refine bkd ?_|refine bkq (fun q => ?_)|(refine bk2 ?_ ?_<;>(first|exact bkn|(refine bkk ?_;intro h))))
  all_goals
    refine QS.turn (fun w hs => hs.drop.drop) (QS.retV Tryz.results76 rfl ⟨?_, rfl⟩)
    simp [better, resV, *]

set_option maxHeartbeats 2000000 in
theorem choose_Best (A : Option Addr) (k c : Nat) (ls : List LogX) (hk : k = ls.length) (hkb : k ≤ 9223372036854775807) (W0 : World) (G : List SL) (hR : Rd W0 G lgE A ls) :
    Fn Tryz.prog 33 [.slice A k c] W0 G (Ret fun v G' => v = .int .i64 (bestI ls) ∧ G' = G) := by
  refine Fn.enter Tryz.func33 rfl Tryz.ntmps33 rfl ?_
  repeat' (first|refine bk ?_|refine bkc ?_|refine bks ?_|refine bkd ?_|refine bkq (fun q => ?_)|(refine bk2 ?_ ?_<;>(first|exact bkn|(refine bkk ?_;intro h))))
  refine CS.loop (X := Nat) (fun i => [(0, .slice A k c), (3, .int .i64 (bestP ls i)), (4, .func (.func 76) #[] #[]), (7, .int .i64 (k : Int)), (8, .int .i64 (i : Int))]) (fun i => G)
    (fun i => i ≤ k) (fun i => k - i) 0 ⟨rfl, rfl, rfl, rfl, rfl, trivial⟩ (fun w hs => hs) (Nat.zero_le _) ?_
  intro i hi
  have hbr := bestP_range ls i
  obtain ⟨B, hB⟩ : ∃ B, B = bestP ls i := ⟨_, rfl⟩
  rw [← hB] at hbr
  rw [← hB]
  refine CS.world fun hw => ?_
  repeat' (first|refine bk ?_|refine bkc ?_|refine bks ?_|refine bkd ?_|refine bkq (fun q => ?_)|(refine bk2 ?_ ?_<;>(first|exact bkn|(refine bkk ?_;intro h))))
  · refine QS.again (i + 1) (by omega) (by omega) ⟨rfl, ?_, rfl, rfl, ?_, trivial⟩ (fun w hs => hs)
    · rw [bestP_lt (by omega)]; rfl
    · rw [show ((i + 1 : Nat) : Int) = (i : Int) + 1 from by omega]; rfl
  · obtain ⟨x, hx⟩ : ∃ x, ls[i]? = some x := ⟨ls[i]'(by omega), List.getElem?_eq_getElem (by omega)⟩
    obtain ⟨y, hy⟩ : ∃ y, ls[B.toNat]? = some y := ⟨ls[B.toNat]'(by omega), List.getElem?_eq_getElem (by omega)⟩
    have hst := bestP_ge (ls := ls) (i := i) (by omega) hx (by rw [← hB]; exact hy)
    rw [← hB] at hst
    refine WQ.idx TT hR rfl rfl hk (by omega) (by rw [Int.toNat_natCast]; exact hx) rfl rfl rfl rfl hw (fun b2 o hA => ?_)
    repeat' (first|refine bk ?_|refine bkc ?_|refine bks ?_|refine bkd ?_|refine bkq (fun q => ?_)|(refine bk2 ?_ ?_<;>(first|exact bkn|(refine bkk ?_;intro h))))
    refine WQ.s (op1_at TT hA rfl rfl rfl rfl) rfl ?_
    repeat' (first|refine bk ?_|refine bkc ?_|refine bks ?_|refine bkd ?_|refine bkq (fun q => ?_)|(refine bk2 ?_ ?_<;>(first|exact bkn|(refine bkk ?_;intro h))))
    refine WQ.idx TT hR rfl rfl hk (by omega) hy rfl rfl rfl rfl hw (fun b3 o3 hA3 => ?_)
    repeat' (first|refine bk ?_|refine bkc ?_|refine bks ?_|refine bkd ?_|refine bkq (fun q => ?_)|(refine bk2 ?_ ?_<;>(first|exact bkn|(refine bkk ?_;intro h))))
    refine WQ.s (op1_at TT hA3 rfl rfl rfl rfl) rfl ?_
    repeat' (first|refine bk ?_|refine bkc ?_|refine bks ?_|refine bkd ?_|refine bkq (fun q => ?_)|(refine bk2 ?_ ?_<;>(first|exact bkn|(refine bkk ?_;intro h))))
    refine WQ.call c76 rfl rfl rfl rfl (choose_better x y W0 _) ?_
    cases hbb : better x y
    all_goals
      rw [hbb] at hst
      repeat' (first|refine bk ?_|refine bkc ?_|refine bks ?_|refine bkd ?_|refine bkq (fun q => ?_)|(refine bk2 ?_ ?_<;>(first|exact bkn|(refine bkk ?_;intro h))))
      refine QS.again (i + 1) (by omega) (by omega) ⟨rfl, ?_, rfl, rfl, ?_, trivial⟩ (fun w hs => hs)
      · rw [hst]; rfl
      · rw [show ((i + 1 : Nat) : Int) = (i : Int) + 1 from by omega]; rfl
  · refine QS.retV Tryz.results33 rfl ⟨?_, rfl⟩
    rw [bestI, hB, show i = ls.length from by omega]; rfl
end Go.Proofs.YtfolmcpfdcgliaaGreat.B

set_option linter.unusedVariables false
set_option linter.unusedSimpArgs false
/-! Nodes, their disks, logs and messages in memory. -/
set_option maxRecDepth 8000
namespace Go.Proofs.YtfolmcpfdcgliaaGreat.B
open Go Go.Proofs
theorem Fn.post {P : Program} {K : Nat} {vs : List Value} {W0 : World} {G : List SL} {R R' : Ending → List SL → Prop} (h : Fn P K vs W0 G R) (hr : ∀ e G', R e G' → ∃ G'', (∀ w, Sat W0 G' w → Sat W0 G'' w) ∧ R' e G'') : Fn P K vs W0 G R' := fun w hs =>
  (h w hs).mono fun e w' ⟨G', h1, h2⟩ => by
    obtain ⟨G'', h3, h4⟩ := hr e G' h1
    exact ⟨G'', h4, h3 _ h2⟩
theorem Ret.post {R R' : Value → List SL → Prop} {W0 : World} (hr : ∀ v G', R v G' → ∃ G'', (∀ w, Sat W0 G' w → Sat W0 G'' w) ∧ R' v G'') : ∀ e G', Ret R e G' → ∃ G'', (∀ w, Sat W0 G' w → Sat W0 G'' w) ∧ Ret R' e G'' := fun e G' h => by
  cases e with
  | returned v => exact hr v G' h
  | panicked ch => exact h.elim
  | outgrown => exact h.elim
theorem hand_len (J : Jn) (D : Disk) (s : List UInt8) : (handJ J D s).1.length ≤ 4010010 := by
  have hs : ∀ e, I64 e → (saidB e).length ≤ 4010010 := fun e h => joinB_len (saidL_ok h)
  have ht : ∀ e xs, (toldB e xs).length ≤ 4010010 := fun e xs => joinB_len (toldL_ok e xs)
  have i0 : I64 0 ∧ I64 2 ∧ I64 10 ∧ I64 11 ∧ I64 12 := by unfold I64; decide
  unfold handJ
  split
  · exact hs 12 i0.2.2.2.2
  · cases readQ s with
    | none => exact hs 2 i0.2.1
    | some q =>
      simp only
      unfold ansJ
      split
      · rename_i h
        rcases h with h | h <;> rw [h]
        · exact hs 10 i0.2.2.1
        · exact hs 11 i0.2.2.2.1
      · split
        · exact hs 12 i0.2.2.2.2
        · split
          · exact ht _ _
          · exact hs 0 i0.1
theorem ans_size (x : Nd) (s : List UInt8) : (mk (x.ans s)).size ≤ 9223372036854775807 := by
  rw [mk_size]; have := hand_len x.J x.D s; unfold Nd.ans; omega
/-- Assertions in another order: the first n, those of them that are named, in that order; then the rest. -/
theorem Sat.ord {W0 w : World} {G G' : List SL} (s : Sat W0 G w) (n : Nat) (is : List Nat) (hG : G' = is.filterMap (fun i => G[i]?) ++ G.drop n) (hn : is.Nodup ∧ ∀ i ∈ is, i < n := by decide) : Sat W0 G' w := by
  obtain ⟨hb, l, rfl, h1, h2⟩ := s
  subst hG
  have h3 : ∀ (i j : Nat) (a b : SL × Hp), i ≠ j → l[i]? = some a → l[j]? = some b → Disj a.2 b.2 := fun i j a b hij ha hb' => by
    obtain ⟨hi, rfl⟩ := List.getElem?_eq_some_iff.1 ha
    obtain ⟨hj, rfl⟩ := List.getElem?_eq_some_iff.1 hb'
    rcases Nat.lt_or_gt_of_ne hij with h | h
    · exact List.pairwise_iff_getElem.1 h2 i j hi hj h
    · exact (List.pairwise_iff_getElem.1 h2 j i hj hi h).symm
  refine ⟨hb, is.filterMap (fun i => l[i]?) ++ l.drop n, ?_, fun x hx => ?_, ?_⟩
  · rw [List.map_append, List.map_drop, List.map_filterMap]
    congr 1
    refine congrArg (fun f => List.filterMap f is) (funext fun i => ?_)
    rw [List.getElem?_map]
  · rcases List.mem_append.1 hx with hx | hx
    · obtain ⟨i, _, hi⟩ := List.mem_filterMap.1 hx
      exact h1 x (List.mem_of_getElem? hi)
    · exact h1 x (List.mem_of_mem_drop hx)
  · rw [List.pairwise_append]
    refine ⟨?_, h2.drop, fun x hx y hy => ?_⟩
    · rw [List.pairwise_filterMap]
      exact hn.1.imp fun {i j} hij a ha b hb' => h3 i j a b hij ha hb'
    · obtain ⟨i, hi, hix⟩ := List.mem_filterMap.1 hx
      obtain ⟨j, hj⟩ := List.mem_iff_getElem?.1 hy
      rw [List.getElem?_drop] at hj
      exact h3 i (n + j) x y (by have := hn.2 i hi; omega) hix hj
def bagA : List SL → SL
  | [] => fun _ => True
  | P :: l => star P (bagA l)
section
variable {W0 w : World} {G : List SL} {P P' : SL}
theorem bag_none (s : Sat W0 G w) : Sat W0 (bagA [] :: G) w := s.triv.imp fun _ _ => trivial
theorem bag_open {l : List SL} (s : Sat W0 (bagA (P :: l) :: G) w) : Sat W0 (P :: bagA l :: G) w := s.split
theorem bag_shut {l : List SL} (s : Sat W0 (P :: bagA l :: G) w) : Sat W0 (bagA (P :: l) :: G) w := s.join
theorem bag_at : ∀ {l : List SL} {i : Nat} {G : List SL}, l[i]? = some P → Sat W0 (bagA l :: G) w → Sat W0 (P :: bagA (l.eraseIdx i) :: G) w
  | [], i, G, h, _ => by simp at h
  | Q :: l, 0, G, h, s => by
    obtain rfl := Option.some.inj h
    exact bag_open s
  | Q :: l, i + 1, G, h, s => by
    have h1 : l[i]? = some P := by simpa using h
    have s2 := bag_at (G := Q :: G) h1 ((bag_open s).front (i := 1) rfl)
    have s3 : Sat W0 (Q :: bagA (l.eraseIdx i) :: P :: G) w := (s2.front (i := 1) rfl).front (i := 2) rfl
    exact (bag_shut s3).front (i := 1) rfl
theorem bag_set : ∀ {l : List SL} {i : Nat} {G : List SL}, i < l.length → Sat W0 (P :: bagA (l.eraseIdx i) :: G) w → Sat W0 (bagA (l.set i P) :: G) w
  | [], i, G, h, _ => by simp at h
  | Q :: l, 0, G, h, s => bag_shut s
  | Q :: l, i + 1, G, h, s => by
    have h1 : i < l.length := by simpa using h
    have s2 : Sat W0 (Q :: bagA (l.eraseIdx i) :: P :: G) w := bag_open (s.front (i := 1) rfl)
    have s3 : Sat W0 (P :: bagA (l.eraseIdx i) :: Q :: G) w := (s2.front (i := 1) rfl).front (i := 2) rfl
    exact bag_shut ((bag_set h1 s3).front (i := 1) rfl)
theorem bag_snoc : ∀ {l : List SL} {G : List SL}, Sat W0 (P :: bagA l :: G) w → Sat W0 (bagA (l ++ [P]) :: G) w
  | [], G, s => bag_shut s
  | Q :: l, G, s => by
    have s2 : Sat W0 (Q :: bagA l :: P :: G) w := bag_open (s.front (i := 1) rfl)
    have s3 : Sat W0 (P :: bagA l :: Q :: G) w := (s2.front (i := 1) rfl).front (i := 2) rfl
    exact bag_shut ((bag_snoc s3).front (i := 1) rfl)
end
def ndA (x : Nd) : SL := star (jA x.b x.d x.J) (diskA x.d x.D)
def nodesA (xs : List Nd) : SL := bagA (xs.map ndA)
def nodesX (xs : List Nd) (i : Nat) : SL := bagA ((xs.map ndA).eraseIdx i)
section
variable {W0 : World} {G : List SL} {xs : List Nd} {x : Nd} {i : Nat}
theorem nodes_open (h : xs[i]? = some x) : ∀ w, Sat W0 (nodesA xs :: G) w → Sat W0 (jA x.b x.d x.J :: diskA x.d x.D :: nodesX xs i :: G) w := fun w s =>
  (bag_at (P := ndA x) (by rw [List.getElem?_map, h]; rfl) s).split
theorem nodes_shut (h : xs[i]? = some x) {J : Jn} {D : Disk} : ∀ w, Sat W0 (jA x.b x.d J :: diskA x.d D :: nodesX xs i :: G) w → Sat W0 (nodesA (xs.set i ⟨x.b, x.d, J, D⟩) :: G) w := fun w s => by
  have h1 : i < (xs.map ndA).length := by rw [List.length_map]; exact (List.getElem?_eq_some_iff.1 h).1
  have := bag_set (P := ndA ⟨x.b, x.d, J, D⟩) h1 s.join
  rw [nodesA, List.map_set]
  exact this
theorem nodes_snoc {b d : Nat} {J : Jn} {D : Disk} : ∀ w, Sat W0 (jA b d J :: diskA d D :: nodesA xs :: G) w → Sat W0 (nodesA (xs ++ [⟨b, d, J, D⟩]) :: G) w := fun w s => by
  have := bag_snoc (P := ndA ⟨b, d, J, D⟩) s.join
  rw [nodesA, List.map_append]
  exact this
theorem nodes_none : ∀ w, Sat W0 G w → Sat W0 (nodesA [] :: G) w := fun w s => bag_none s
end
def bpE : EncK Nat := ⟨fun b => [.pointer (some ⟨b, 0, none⟩)], 1, fun _ => rfl, by decide, fun _ u hu => by simp only [List.mem_singleton] at hu; subst hu; rfl⟩
def msgE : EncK Msg := ⟨fun x => [.int .i64 x.1, .string x.2, .int .i64 0], 3, fun _ => rfl, by decide, fun _ u hu => by simp only [List.mem_cons, List.not_mem_nil, or_false] at hu; rcases hu with rfl | rfl | rfl <;> rfl⟩
/-- Logs' entries, each in a block of its own. -/
def entsA (ls : List LogX) : SL := bagA (ls.map fun x => slc entE 49 x.A x.c x.xs)
def lgOf (x : LogX) : Lg := (x.e, x.xs)
section
variable {W0 : World} {G : List SL} {ls : List LogX}
theorem ents_none : ∀ w, Sat W0 G w → Sat W0 (entsA [] :: G) w := fun w s => bag_none s
theorem ents_snoc {x : LogX} : ∀ w, Sat W0 (slc entE 49 x.A x.c x.xs :: entsA ls :: G) w → Sat W0 (entsA (ls ++ [x]) :: G) w := fun w s => by
  have := bag_snoc s
  rw [entsA, List.map_append]
  exact this
theorem ents_rd {x : LogX} (h : x ∈ ls) {i : Nat} {G' : List SL} (hG : G'[i]? = some (entsA ls)) : Rd W0 G' entE x.A x.xs := fun w hs => by
  obtain ⟨j, hj⟩ := List.mem_iff_getElem?.1 h
  have := bag_at (P := slc entE 49 x.A x.c x.xs) (i := j) (by rw [List.getElem?_map, hj]; rfl) (hs.pick hG)
  exact (Rd.slc (i := 0) rfl) _ this
end
def mailA (bm : Nat) (m : List Msg) : SL := fun h => ∃ x : Option Addr × Nat, star (row bm 118 [.slice x.1 m.length x.2]) (slc msgE 179 x.1 x.2 m) h
section
variable {W0 : World} {F : List SL} {bm : Nat} {m : List Msg}
theorem mailA_open : ∀ w, Sat W0 (mailA bm m :: F) w → ∃ x : Option Addr × Nat, Sat W0 (row bm 118 [.slice x.1 m.length x.2] :: slc msgE 179 x.1 x.2 m :: F) w := fun w hs => by
  obtain ⟨x, hx⟩ := Sat.ex (R := fun x : Option Addr × Nat => star (row bm 118 [.slice x.1 m.length x.2]) (slc msgE 179 x.1 x.2 m)) hs
  exact ⟨x, hx.split⟩
theorem mailA_shut {A : Option Addr} {c : Nat} : ∀ w, Sat W0 (row bm 118 [.slice A m.length c] :: slc msgE 179 A c m :: F) w → Sat W0 (mailA bm m :: F) w := fun w hs =>
  hs.join.imp fun hp h => ⟨(A, c), h⟩
end
end Go.Proofs.YtfolmcpfdcgliaaGreat.B
