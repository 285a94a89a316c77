import Derived.Test.YtfolmcpfdcgliaaGreatMg3
import Derived.MapKept
set_option linter.unusedVariables false
set_option linter.unusedSimpArgs false
set_option maxRecDepth 8000
namespace Go.Proofs.YtfolmcpfdcgliaaGreat.B
open Go
section
variable {κ ν : Type} [DecidableEq κ]
def aget : List (κ × ν) → κ → Option ν
  | [], _ => none
  | (k', y) :: r, k => if k' = k then some y else aget r k
def aput : List (κ × ν) → κ → ν → List (κ × ν)
  | [], k, x => [(k, x)]
  | (k', y) :: r, k, x => if k' = k then (k, x) :: r else (k', y) :: aput r k x
def adel : List (κ × ν) → κ → List (κ × ν)
  | [], _ => []
  | (k', y) :: r, k => if k' = k then r else (k', y) :: adel r k
def aidx : List (κ × ν) → κ → Option (Nat × ν)
  | [], _ => none
  | (k', y) :: r, k => if k' = k then some (0, y) else (aidx r k).map fun p => (p.1 + 1, p.2)
theorem aget_idx : ∀ (kv : List (κ × ν)) (k : κ), aget kv k = (aidx kv k).map (·.2)
  | [], _ => rfl
  | (k', y) :: r, k => by
    simp only [aget, aidx]
    split
    · rfl
    · rw [aget_idx r k]; cases aidx r k <;> rfl
theorem aput_idx : ∀ (kv : List (κ × ν)) (k : κ) (x : ν), aput kv k x = match aidx kv k with | some (j, _) => kv.set j (k, x) | none => kv ++ [(k, x)]
  | [], _, _ => rfl
  | (k', y) :: r, k, x => by
    simp only [aput, aidx]
    split
    · rfl
    · rw [aput_idx r k x]; cases aidx r k <;> rfl
theorem adel_idx : ∀ (kv : List (κ × ν)) (k : κ), adel kv k = match aidx kv k with | some (j, _) => kv.eraseIdx j | none => kv
  | [], _ => rfl
  | (k', y) :: r, k => by
    simp only [adel, aidx]
    split
    · rfl
    · rw [adel_idx r k]; cases aidx r k <;> rfl
theorem aidx_lt : ∀ {kv : List (κ × ν)} {k : κ} {j : Nat} {y : ν}, aidx kv k = some (j, y) → kv[j]? = some (k, y)
  | [], _, _, _, h => by cases h
  | (k', z) :: r, k, j, y, h => by
    simp only [aidx] at h
    split at h
    · rename_i e
      simp only [Option.some.injEq, Prod.mk.injEq] at h
      obtain ⟨rfl, rfl⟩ := h
      simp [e]
    · cases h2 : aidx r k with
      | none => rw [h2] at h; cases h
      | some p =>
        rw [h2] at h
        simp only [Option.map_some, Option.some.injEq, Prod.mk.injEq] at h
        obtain ⟨rfl, rfl⟩ := h
        have := aidx_lt (kv := r) (k := k) (j := p.1) (y := p.2) (by rw [h2])
        simpa using this
end
structure KeyK (κ : Type) [DecidableEq κ] where
  enc : κ → Value
  td : TD
  kind : TypeDesc
  kind_ok : ∀ d, tdOf d = td → d = kind
  same : ∀ a b, Instr.sameNow kind (enc a) (enc b) = some (decide (a = b))
  check : ∀ (P : Program) (t : Nat) (n : Nat) (k : κ) (b : Bool) (w : World), P.underlying t = some kind → (Instr.checkKey b (n + 1) t (enc k)).run P w = .ok () w
  bits : ∀ n k, Instr.sameBits n (enc k) (enc k) = true
theorem bytes_beq (a b : ByteArray) : (a == b) = decide (a = b) := by
  rw [beq_toListBytes, toList_inj]
def strK : KeyK ByteArray where
  enc := .string
  td := .string
  kind := .string
  kind_ok := fun d h => tdOf_string h
  same := fun a b => by simp only [Instr.sameNow, bytes_beq]
  check := fun P t n k b w h => by simp [Instr.checkKey, underlying, h]
  bits := fun n k => by cases n <;> simp [Instr.sameBits, bytes_beq]
def intK : KeyK Int where
  enc := .int .i64
  td := .int .i64
  kind := .int .i64
  kind_ok := fun d h => tdOf_int h
  same := fun a b => by simp only [Instr.sameNow, if_true]; congr 1
  check := fun P t n k b w h => by simp [Instr.checkKey, underlying, h]
  bits := fun n k => by cases n <;> simp [Instr.sameBits]
def bornOk (l : List MapEntry) (clock : Nat) : Prop := l.Pairwise (fun x y => x.born ≠ y.born) ∧ ∀ e ∈ l, e.born < clock
def mapb {κ ν : Type} [DecidableEq κ] (kk : KeyK κ) (ev : ν → Value) (m : Nat) (kv : List (κ × ν)) : SL := fun h =>
  ∃ (l : List MapEntry) (clock : Nat), blk m (.map l.toArray clock) h ∧ l.map (fun e => (e.key, e.val)) = kv.map (fun p => (kk.enc p.1, ev p.2)) ∧ bornOk l clock
section
variable {P : Program} (T : Tab P) {κ ν : Type} [DecidableEq κ] {kk : KeyK κ} {ev : ν → Value} {Q : Exit → Act → World → Prop} {n : Nat} {ds : List Deferred} {L : TL} {W0 : World} {G : List SL}
  {ops : Array Oper} {rest : List Oper} {op : Op} {ty : TypeId} {pos : String} {af : Array Edge}
theorem findNow_eq (k : κ) : ∀ (l : List MapEntry) (kv : List (κ × ν)) (i : Nat), l.map (fun e => (e.key, e.val)) = kv.map (fun p => (kk.enc p.1, ev p.2)) →
    Instr.findNow kk.kind (kk.enc k) l i = some ((aidx kv k).map fun p => (i + p.1, ev p.2))
  | [], [], i, _ => rfl
  | [], _ :: _, _, h => by cases h
  | _ :: _, [], _, h => by cases h
  | e :: l, (k', y) :: kv, i, h => by
    simp only [List.map_cons, List.cons.injEq, Prod.mk.injEq] at h
    obtain ⟨⟨h1, h2⟩, h3⟩ := h
    simp only [Instr.findNow, h1, kk.same, aidx]
    by_cases e1 : k = k'
    · subst e1
      simp [h2]
    · rw [decide_eq_false e1, if_neg (fun e => e1 e.symm)]
      simp only
      rw [findNow_eq k l kv (i + 1) h3]
      cases aidx kv k <;> simp
      omega
theorem run_findKey {t : Nat} (ht : P.underlying t = some kk.kind) (k : κ) {l : List MapEntry} {kv : List (κ × ν)} (h : l.map (fun e => (e.key, e.val)) = kv.map (fun p => (kk.enc p.1, ev p.2))) (w : World) :
    (Instr.findKey t (kk.enc k) l).run P w = .ok ((aidx kv k).map fun p => (p.1, ev p.2)) w := by
  simp only [Instr.findKey, underlying, Sem.run_bind, run_program, Result.andThen_ok, ht, Sem.run_pure, findNow_eq k l kv 0 h]
  simp
theorem mapb_at {w : World} {i : Nat} {m : Nat} {kv : List (κ × ν)} (hs : Sat W0 G w) (hG : G[i]? = some (mapb kk ev m kv)) :
    ∃ (l : List MapEntry) (clock : Nat), w.heap[m]? = some (.map l.toArray clock) ∧ l.map (fun e => (e.key, e.val)) = kv.map (fun p => (kk.enc p.1, ev p.2)) ∧ bornOk l clock := by
  obtain ⟨hp, ⟨l, c, h1, h2, h3⟩, hle⟩ := (hs.pick hG).head
  exact ⟨l, c, hle _ _ h1, h2, h3⟩
theorem run_getObj_map {w : World} {m : Nat} {l : List MapEntry} {c : Nat} (h : w.heap[m]? = some (.map l.toArray c)) : (getObj m).run P w = .ok (.map l.toArray c) w := by
  simp [getObj, Sem.run, h]
theorem run_setObj_map {w : World} {m : Nat} {l : List MapEntry} {c : Nat} (h : w.heap[m]? = some (.map l.toArray c)) (o : Obj) : (setObj m o).run P w = .ok () { w with heap := w.heap.setIfInBounds m o } := by
  simp [setObj, Sem.run, h]
theorem run_lookup {w : World} {i m t kt et : Nat} {kv : List (κ × ν)} {k : κ} {z b1 c1 z2 b2 c2 : _} {te : TE} (hs : Sat W0 G w) (hG : G[i]? = some (mapb kk ev m kv))
    (hl : lk T.tab t = some ⟨.map kt et, z, b1, c1⟩) (hk : lk T.tab kt = some ⟨kk.td, z2, b2, c2⟩) (he : lk T.tab et = some te) (ok : Bool) :
    (Instr.lookup t (.map (some m)) (kk.enc k) ok).run P w = .ok (match aget kv k with
      | some y => if ok then .tuple #[ev y, .bool true] else ev y
      | none => if ok then .tuple #[te.zero, .bool false] else te.zero) w := by
  obtain ⟨d1, hd1, e1, _⟩ := T.und (w := w) hl
  obtain rfl := tdOf_map e1
  obtain ⟨d2, hd2, e2, h2⟩ := T.und (w := w) hk
  have e3 := kk.kind_ok _ e2
  subst e3
  obtain ⟨l, c, hm, hmap, _⟩ := mapb_at hs hG
  have hz := T.zeroValue (w := w) he
  have hf := run_findKey (P := P) h2 k hmap w
  have hc := kk.check P kt 9999 k (l.toArray.isEmpty) w h2
  simp only [Instr.lookup, Sem.run_bind, hd1, Result.andThen_ok, run_getObj_map hm, Sem.run_pure]
  rw [show (10000 : Nat) = 9999 + 1 from rfl, hc]
  simp only [Result.andThen_ok, hf, aget_idx]
  cases aidx kv k with
  | none => simp [hz]
  | some p => simp
theorem op1_lookupS (i : Nat) {m t kt et : Nat} {x y : Operand} {ok : Bool} {kv : List (κ × ν)} {k : κ} {u : ν} {z b1 c1 z2 b2 c2 : _} {te : TE} (hx : evL L x = some (.map (some m))) (hy : evL L y = some (kk.enc k))
    (hG : G[i]? = some (mapb kk ev m kv)) (hl : lk T.tab t = some ⟨.map kt et, z, b1, c1⟩) (hk : lk T.tab kt = some ⟨kk.td, z2, b2, c2⟩) (he : lk T.tab et = some te) (hu : aget kv k = some u) :
    Op1 P n ds L W0 G (.lookup t x y ok) ty (if ok then .tuple #[ev u, .bool true] else ev u) := by
  intro a w hf hs d pos af g
  simp only [execOp, hf.ev hx, hf.ev hy, Sem.run_bind, run_lookup T hs hG hl hk he ok, hu]
  rfl
theorem op1_lookupN (i : Nat) {m t kt et : Nat} {x y : Operand} {ok : Bool} {kv : List (κ × ν)} {k : κ} {z b1 c1 z2 b2 c2 : _} {te : TE} (hx : evL L x = some (.map (some m))) (hy : evL L y = some (kk.enc k))
    (hG : G[i]? = some (mapb kk ev m kv)) (hl : lk T.tab t = some ⟨.map kt et, z, b1, c1⟩) (hk : lk T.tab kt = some ⟨kk.td, z2, b2, c2⟩) (he : lk T.tab et = some te) (hu : aget kv k = none) :
    Op1 P n ds L W0 G (.lookup t x y ok) ty (if ok then .tuple #[te.zero, .bool false] else te.zero) := by
  intro a w hf hs d pos af g
  simp only [execOp, hf.ev hx, hf.ev hy, Sem.run_bind, run_lookup T hs hG hl hk he ok, hu]
  rfl
theorem WL.lookup (i : Nat) {d m t kt et : Nat} {x y : Operand} {kv : List (κ × ν)} {k : κ} {z b1 c1 z2 b2 c2 : _} {te : TE} (hx : evL L x = some (.map (some m))) (hy : evL L y = some (kk.enc k))
    (hG : G[i]? = some (mapb kk ev m kv)) (hl : lk T.tab t = some ⟨.map kt et, z, b1, c1⟩) (hk : lk T.tab kt = some ⟨kk.td, z2, b2, c2⟩) (he : lk T.tab et = some te) (hd : Nat.blt d n = true)
    (hS : ∀ u, aget kv k = some u → WL P Q n ds ops rest ((d, .tuple #[ev u, .bool true]) :: L) W0 G) (hN : aget kv k = none → WL P Q n ds ops rest ((d, .tuple #[te.zero, .bool false]) :: L) W0 G) :
    WL P Q n ds ops (⟨some d, .lookup t x y true, ty, pos, af, none⟩ :: rest) L W0 G := by
  cases hu : aget kv k with
  | none => exact WL.s (op1_lookupN T i hx hy hG hl hk he hu) hd (hN hu)
  | some u => exact WL.s (op1_lookupS T i hx hy hG hl hk he hu) hd (hS u hu)
theorem WL.lookupD (i : Nat) {d m t kt et : Nat} {x y : Operand} {kv : List (κ × ν)} {k : κ} (u : ν) (ok : Bool) {u0 : ν} {z b1 c1 z2 b2 c2 : _} {te : TE} (hx : evL L x = some (.map (some m))) (hy : evL L y = some (kk.enc k))
    (hG : G[i]? = some (mapb kk ev m kv)) (hl : lk T.tab t = some ⟨.map kt et, z, b1, c1⟩) (hk : lk T.tab kt = some ⟨kk.td, z2, b2, c2⟩) (he : lk T.tab et = some te) (hz : te.zero = ev u0) (hu : u = (aget kv k).getD u0) (hok : ok = (aget kv k).isSome) (hd : Nat.blt d n = true)
    (h : WL P Q n ds ops rest ((d, .tuple #[ev u, .bool ok]) :: L) W0 G) :
    WL P Q n ds ops (⟨some d, .lookup t x y true, ty, pos, af, none⟩ :: rest) L W0 G := by
  subst hu; subst hok
  cases hg : aget kv k with
  | none => rw [hg] at h; refine WL.s (op1_lookupN T i hx hy hG hl hk he hg) hd ?_; rw [hz]; exact h
  | some u => rw [hg] at h; exact WL.s (op1_lookupS T i hx hy hG hl hk he hg) hd h
theorem op1_look1D (i : Nat) {m t kt et : Nat} {x y : Operand} {kv : List (κ × ν)} {k : κ} (u : ν) {u0 : ν} {z b1 c1 z2 b2 c2 : _} {te : TE} (hx : evL L x = some (.map (some m))) (hy : evL L y = some (kk.enc k))
    (hG : G[i]? = some (mapb kk ev m kv)) (hl : lk T.tab t = some ⟨.map kt et, z, b1, c1⟩) (hk : lk T.tab kt = some ⟨kk.td, z2, b2, c2⟩) (he : lk T.tab et = some te) (hz : te.zero = ev u0) (hu : u = (aget kv k).getD u0) :
    Op1 P n ds L W0 G (.lookup t x y false) ty (ev u) := by
  subst hu
  cases hg : aget kv k with
  | none => have := op1_lookupN (P := P) (n := n) (ds := ds) (L := L) (W0 := W0) (ty := ty) T i (ok := false) hx hy hG hl hk he hg; rw [hz] at this; exact this
  | some u => exact op1_lookupS (P := P) (n := n) (ds := ds) (L := L) (W0 := W0) (ty := ty) T i (ok := false) hx hy hG hl hk he hg
theorem op1_lenM (i : Nat) {m t kt et : Nat} {x : Operand} {kv : List (κ × ν)} {z b1 c1 : _} (hx : evL L x = some (.map (some m)))
    (hG : G[i]? = some (mapb kk ev m kv)) (hl : lk T.tab t = some ⟨.map kt et, z, b1, c1⟩) :
    Op1 P n ds L W0 G (.call ⟨.builtin .len, #[x], #[t]⟩) ty (.int .i64 (kv.length : Int)) := by
  intro a w hf hs d pos af g
  obtain ⟨d1, hd1, e1, _⟩ := T.und (w := w) hl
  obtain rfl := tdOf_map e1
  obtain ⟨l, c, hm, hmap, _⟩ := mapb_at hs hG
  have hlen : l.length = kv.length := by have := congrArg List.length hmap; simp only [List.length_map] at this; exact this
  simp [execOp, resolve, invoke, builtin, hf.ev hx, Builtin.len_, hd1, run_getObj_map hm, goInt, hlen]
theorem heap_set (w : World) (m : Nat) (o : Obj) (hm : m < w.heap.size) : ({ w with heap := w.heap.setIfInBounds m o } : World).heap[m]? = some o := by
  simp [Array.getElem?_setIfInBounds, hm]
theorem heap_set_ne (w : World) (m k : Nat) (o : Obj) (hk : k ≠ m) : ({ w with heap := w.heap.setIfInBounds m o } : World).heap[k]? = w.heap[k]? := by
  show (w.heap.setIfInBounds m o)[k]? = _
  rw [Array.getElem?_setIfInBounds, if_neg (Ne.symm hk)]
theorem Sat.mapTurn {w : World} {m : Nat} {kv kv' : List (κ × ν)} {l : List MapEntry} {c c' : Nat} {l' : List MapEntry} (s : Sat W0 (mapb kk ev m kv :: G) w) (hm : w.heap[m]? = some (.map l.toArray c))
    (h : l'.map (fun e => (e.key, e.val)) = kv'.map (fun p => (kk.enc p.1, ev p.2))) (hb : bornOk l' c') : Sat W0 (mapb kk ev m kv' :: G) { w with heap := w.heap.setIfInBounds m (.map l'.toArray c') } := by
  have hlt : m < w.heap.size := (Array.getElem?_eq_some_iff.1 hm).1
  refine s.turn (fun hp hP hle => ⟨⟨fun k => if k = m then some (.map l'.toArray c') else none, ⟨l', c', by simp [B.blk], h, hb⟩, fun k o hk => ?_, fun k hk => ?_⟩, fun k hk hn => ?_⟩) ⟨rfl, rfl, rfl⟩
  · simp only at hk
    split at hk
    · rename_i e; subst e; injection hk with hk; subst hk; exact heap_set w _ _ hlt
    · cases hk
  · simp only at hk
    split at hk
    · rename_i e; subst e
      obtain ⟨l2, c2, h1, _⟩ := hP
      have : hp k = some (.map l2.toArray c2) := h1
      exact .inl (by rw [this]; simp)
    · exact absurd rfl hk
  · refine heap_set_ne w _ _ _ (fun e => ?_)
    subst e
    obtain ⟨l2, c2, h1, _⟩ := hP
    have : hp k = some (.map l2.toArray c2) := h1
    rw [this] at hn; cases hn
theorem bornOk_key {l : List MapEntry} {c : Nat} (h : bornOk l c) (i : Nat) (f : MapEntry → MapEntry) (hf : ∀ e, (f e).born = e.born) : bornOk (l.modify i f) c := by
  have hm : (l.modify i f).map (·.born) = l.map (·.born) := by
    apply List.ext_getElem?
    intro j
    simp only [List.getElem?_map, List.getElem?_modify]
    split <;> cases l[j]? <;> simp [hf]
  have h1 : (l.map (·.born)).Pairwise (· ≠ ·) := by
    rw [List.pairwise_map]; exact h.1
  constructor
  · have := hm ▸ h1
    rwa [List.pairwise_map] at this
  · intro e he
    have : e.born ∈ (l.modify i f).map (·.born) := List.mem_map_of_mem he
    rw [hm] at this
    obtain ⟨e', he', hb⟩ := List.mem_map.1 this
    rw [← hb]
    exact h.2 e' he'
theorem bornOk_push {l : List MapEntry} {c : Nat} (h : bornOk l c) (k v : Value) : bornOk (l ++ [⟨k, v, c⟩]) (c + 1) := by
  constructor
  · rw [List.pairwise_append]
    refine ⟨h.1, by simp, fun x hx y hy => ?_⟩
    simp only [List.mem_singleton] at hy
    subst hy
    have := h.2 x hx
    simp only; omega
  · intro e he
    rcases List.mem_append.1 he with he | he
    · have := h.2 e he; omega
    · simp only [List.mem_singleton] at he
      subst he
      simp
theorem bornOk_erase {l : List MapEntry} {c : Nat} (h : bornOk l c) (i : Nat) : bornOk (l.eraseIdx i) c :=
  ⟨h.1.sublist (List.eraseIdx_sublist ..), fun e he => h.2 e (List.mem_of_mem_eraseIdx he)⟩
theorem WL.mapUpdate (i : Nat) {m t kt et : Nat} {x y v : Operand} {kv : List (κ × ν)} {k : κ} {u : ν} {uv : Value} {G' : List SL} {z b1 c1 z2 b2 c2 : _} (hx : evL L x = some (.map (some m))) (hy : evL L y = some (kk.enc k))
    (hv : evL L v = some uv) (hG : G[i]? = some (mapb kk ev m kv)) (hl : lk T.tab t = some ⟨.map kt et, z, b1, c1⟩) (hk : lk T.tab kt = some ⟨kk.td, z2, b2, c2⟩) (hu : ev u = uv)
    (hG' : setG G i (mapb kk ev m (aput kv k u)) = some G') (h : WL P Q n ds ops rest L W0 G') :
    WL P Q n ds ops (⟨none, .mapUpdate t x y v, ty, pos, af, none⟩ :: rest) L W0 G := by
  refine WL.step (v := undef) G' (fun a w hf hs => ?_) rfl h
  obtain ⟨d1, hd1, e1, _⟩ := T.und (w := w) hl
  obtain rfl := tdOf_map e1
  obtain ⟨d2, hd2, e2, h2⟩ := T.und (w := w) hk
  have e3 := kk.kind_ok _ e2
  subst e3
  obtain ⟨l, c, hm, hmap, hb⟩ := mapb_at hs hG
  have hf1 := run_findKey (P := P) h2 k hmap w
  have hc := kk.check P kt 9999 k false w h2
  obtain ⟨r, hr⟩ := getG_pick hG
  have s1 := hs.perm (pickG_eq hr).1.symm
  simp only [execOp, hf.ev hx, hf.ev hy, hf.ev hv, Instr.mapUpdate, Sem.run_bind, hd1, Result.andThen_ok, run_getObj_map hm]
  rw [show (10000 : Nat) = 9999 + 1 from rfl, hc]
  simp only [Result.andThen_ok, hf1]
  cases hi : aidx kv k with
  | none =>
    simp only [Option.map_none, run_setObj_map hm, Result.andThen_ok, Sem.run_pure]
    refine ⟨_, .inr ⟨rfl, trivial⟩, ?_⟩
    have s2 := s1.mapTurn (kv' := aput kv k u) (l' := l ++ [⟨kk.enc k, uv, c⟩]) (c' := c + 1) hm (by rw [aput_idx, hi]; simp [hmap, hu]) (bornOk_push hb _ _)
    have s3 := s2.perm (setG_eq hr hG')
    simpa using s3
  | some p =>
    obtain ⟨j, y0⟩ := p
    have hj := aidx_lt hi
    have hlj : ((l.map (fun e => (e.key, e.val)))[j]?) = some (kk.enc k, ev y0) := by rw [hmap]; simp [hj]
    rw [List.getElem?_map] at hlj
    obtain ⟨e0, he0, he1⟩ := Option.map_eq_some_iff.1 hlj
    simp only [Prod.mk.injEq] at he1
    have hkey : ((l.toArray[j]?).map (·.key)).getD (kk.enc k) = kk.enc k := by simp [he0, he1.1]
    have hst : (Instr.keyThatStays (kk.enc k) (kk.enc k)).run P w = .ok (kk.enc k) w := by
      unfold Instr.keyThatStays
      rw [kk.bits]
      rfl
    simp only [Option.map_some, hkey, hst, Sem.run_bind, Result.andThen_ok, run_setObj_map hm, Sem.run_pure]
    refine ⟨_, .inr ⟨rfl, trivial⟩, ?_⟩
    have s2 := s1.mapTurn (kv' := aput kv k u) (l' := l.modify j fun e => { e with key := kk.enc k, val := uv }) (c' := c) hm (by
      rw [aput_idx, hi]
      simp only
      rw [List.map_set, ← hmap, hu]
      apply List.ext_getElem?
      intro q
      simp only [List.getElem?_map, List.getElem?_modify, List.getElem?_set]
      by_cases e : j = q
      · subst e
        have hlt : j < l.length := (List.getElem?_eq_some_iff.1 he0).1
        simp [he0, hlt]
      · simp [e]) (bornOk_key hb _ _ (fun _ => rfl))
    have s3 := s2.perm (setG_eq hr hG')
    simpa using s3
theorem WL.delete (i : Nat) {d : Option Nat} {m t kt et : Nat} {x y : Operand} {tys : Array TypeId} {kv : List (κ × ν)} {k : κ} {G' : List SL} {z b1 c1 z2 b2 c2 : _} (hx : evL L x = some (.map (some m))) (hy : evL L y = some (kk.enc k))
    (hG : G[i]? = some (mapb kk ev m kv)) (hty : tys[0]? = some t) (hl : lk T.tab t = some ⟨.map kt et, z, b1, c1⟩) (hk : lk T.tab kt = some ⟨kk.td, z2, b2, c2⟩)
    (hG' : setG G i (mapb kk ev m (adel kv k)) = some G') (hd : dOk n d = true) (h : WL P Q n ds ops rest (putL L d (.tuple #[])) W0 G') :
    WL P Q n ds ops (⟨d, .call ⟨.builtin .delete, #[x, y], tys⟩, ty, pos, af, none⟩ :: rest) L W0 G := by
  refine WL.step (v := .tuple #[]) G' (fun a w hf hs => ?_) hd h
  obtain ⟨d1, hd1, e1, _⟩ := T.und (w := w) hl
  obtain rfl := tdOf_map e1
  obtain ⟨d2, hd2, e2, h2⟩ := T.und (w := w) hk
  have e3 := kk.kind_ok _ e2
  subst e3
  obtain ⟨l, c, hm, hmap, hb⟩ := mapb_at hs hG
  have hf1 := run_findKey (P := P) h2 k hmap w
  have hc := kk.check P kt 9999 k l.toArray.isEmpty w h2
  obtain ⟨r, hr⟩ := getG_pick hG
  have s1 := hs.perm (pickG_eq hr).1.symm
  simp only [execOp, resolve, invoke, builtin, List.map_toArray, List.map_cons, List.map_nil, hf.ev hx, hf.ev hy, Builtin.delete_, Sem.run_bind, Sem.run_pure, hty, Result.andThen_ok]
  simp only [show (#[Value.map (some m), kk.enc k] : Array Value)[0]? = some (.map (some m)) from rfl, show (#[Value.map (some m), kk.enc k] : Array Value)[1]? = some (kk.enc k) from rfl, Sem.run_bind, hd1, Result.andThen_ok, run_getObj_map hm]
  rw [show (10000 : Nat) = 9999 + 1 from rfl, hc]
  simp only [Result.andThen_ok, hf1]
  cases hi : aidx kv k with
  | none =>
    simp only [Option.map_none, Sem.run_bind, run_setObj_map hm, Result.andThen_ok, Sem.run_pure]
    refine ⟨_, .inl rfl, ?_⟩
    have s2 := s1.mapTurn (kv' := adel kv k) (l' := l) (c' := c) hm (by rw [adel_idx, hi]; exact hmap) hb
    exact s2.perm (setG_eq hr hG')
  | some p =>
    obtain ⟨j, y0⟩ := p
    simp only [Option.map_some, Sem.run_bind, run_setObj_map hm, Result.andThen_ok, Sem.run_pure]
    refine ⟨_, .inl rfl, ?_⟩
    have hj := aidx_lt hi
    have s2 := s1.mapTurn (kv' := adel kv k) (l' := l.eraseIdx j) (c' := c) hm (by
      rw [adel_idx, hi]
      simp only
      rw [map_erase, map_erase, hmap]) (bornOk_erase hb _)
    have s3 := s2.perm (setG_eq hr hG')
    simpa using s3
theorem WL.makeMap {d t : Nat} (κ ν : Type) [DecidableEq κ] (kk : KeyK κ) (ev : ν → Value) (hd : Nat.blt d n = true)
    (h : ∀ m, WL P Q n ds ops rest ((d, .map (some m)) :: L) W0 (mapb kk ev m ([] : List (κ × ν)) :: G)) : WL P Q n ds ops (⟨some d, .makeMap t none, ty, pos, af, none⟩ :: rest) L W0 G := fun a w hf hs =>
  wpList_plain rfl fun K hK => by
    have hr : (execOp a.eval ⟨some d, .makeMap t none, ty, pos, af, none⟩).run P w = .ok (.value (.map (some w.heap.size))) (w.alloc (.map #[] 0)) := by
      simp [execOp, Instr.makeMap]
    unfold Oper.wp
    rw [hr, Oper.upon_value]
    refine hK _ _ (h w.heap.size _ _ (hf.put (d := some d) hd) ((hs.alloc _).imp fun hp hP => ⟨[], 0, hP, rfl, by simp [bornOk]⟩))
end
end Go.Proofs.YtfolmcpfdcgliaaGreat.B
