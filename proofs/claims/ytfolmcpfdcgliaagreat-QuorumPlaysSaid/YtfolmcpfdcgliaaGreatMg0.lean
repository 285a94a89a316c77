import Derived.WalkKit
import Derived.Deep.Quiet
set_option linter.unusedVariables false
set_option linter.unusedSimpArgs false
set_option maxRecDepth 8000
namespace Go.Proofs.YtfolmcpfdcgliaaGreat.B
open Go
abbrev Hp := Nat → Option Obj
abbrev SL := Hp → Prop
def Disj (a b : Hp) : Prop := ∀ k, a k = none ∨ b k = none
theorem Disj.symm {a b : Hp} (h : Disj a b) : Disj b a := fun k => (h k).symm
def Le (h : Hp) (w : World) : Prop := ∀ k o, h k = some o → w.heap[k]? = some o
structure Base (W0 w : World) : Prop where
  os : w.os = W0.os
  tape : w.tape = W0.tape
  output : w.output = W0.output
theorem Base.refl (w : World) : Base w w := ⟨rfl, rfl, rfl⟩
theorem Base.trans {a b c : World} (h : Base a b) (k : Base b c) : Base a c := ⟨k.os.trans h.os, k.tape.trans h.tape, k.output.trans h.output⟩
def Sat (W0 : World) (G : List SL) (w : World) : Prop :=
  Base W0 w ∧ ∃ l : List (SL × Hp), l.map (·.1) = G ∧ (∀ x ∈ l, x.1 x.2 ∧ Le x.2 w) ∧ l.Pairwise (fun x y => Disj x.2 y.2)
section
variable {W0 w w' : World} {G : List SL} {P Q : SL}
theorem Sat.base (h : Sat W0 G w) : Base W0 w := h.1
theorem perm_pick {α : Type _} : ∀ (l : List α) (i : Nat) (h : i < l.length), (l[i] :: l.eraseIdx i).Perm l
  | a :: l, 0, _ => List.Perm.refl _
  | a :: l, i + 1, h => by
    have ih := perm_pick l i (by simpa using h)
    simp only [List.getElem_cons_succ, List.eraseIdx_cons_succ]
    exact (List.Perm.swap _ _ _).trans (ih.cons a)
theorem map_erase {α β : Type _} (f : α → β) : ∀ (l : List α) (i : Nat), (l.eraseIdx i).map f = (l.map f).eraseIdx i
  | [], _ => rfl
  | a :: l, 0 => rfl
  | a :: l, i + 1 => by simp [map_erase f l i]
theorem Sat.pick {i : Nat} (s : Sat W0 G w) (h : G[i]? = some P) : Sat W0 (P :: G.eraseIdx i) w := by
  obtain ⟨hb, l, rfl, h1, h2⟩ := s
  rw [List.getElem?_map] at h
  obtain ⟨x, hx, rfl⟩ := Option.map_eq_some_iff.1 h
  obtain ⟨hi, rfl⟩ := List.getElem?_eq_some_iff.1 hx
  have hp : (l[i] :: l.eraseIdx i).Perm l := perm_pick l i hi
  refine ⟨hb, l[i] :: l.eraseIdx i, ?_, fun y hy => h1 y (hp.mem_iff.1 hy), ?_⟩
  · simp only [List.map_cons, List.cons.injEq, true_and]
    rw [map_erase]
  · exact (hp.pairwise_iff (fun {_ _} h => Disj.symm h)).2 h2
theorem Sat.perm {G' : List SL} (s : Sat W0 G w) (h : G.Perm G') : Sat W0 G' w := by
  induction h generalizing w with
  | nil => exact s
  | cons x h ih =>
    obtain ⟨hb, l, hl, h1, h2⟩ := s
    match l, hl with
    | y :: l, hl =>
      simp only [List.map_cons, List.cons.injEq] at hl
      obtain ⟨rfl, rfl⟩ := hl
      rename_i G1 G2
      -- carry the head's apartness through as an assertion
      have key : ∀ (A B : List SL), A.Perm B → ∀ l : List (SL × Hp), l.map (·.1) = A → ∃ l' : List (SL × Hp), l'.map (·.1) = B ∧ l.Perm l' := by
        intro A B hAB
        induction hAB with
        | nil => intro l hl; exact ⟨l, hl, List.Perm.refl _⟩
        | cons x _ ih =>
          intro l hl
          match l, hl with
          | y :: l, hl =>
            simp only [List.map_cons, List.cons.injEq] at hl
            obtain ⟨l', h1, h2⟩ := ih l hl.2
            exact ⟨y :: l', by simp [hl.1, h1], h2.cons y⟩
        | swap x y r =>
          intro l hl
          match l, hl with
          | a :: b :: l, hl =>
            simp only [List.map_cons, List.cons.injEq] at hl
            exact ⟨b :: a :: l, by simp [hl.1, hl.2.1, hl.2.2], List.Perm.swap _ _ _⟩
        | trans _ _ ih1 ih2 =>
          intro l hl
          obtain ⟨l1, h1, p1⟩ := ih1 l hl
          obtain ⟨l2, h2, p2⟩ := ih2 l1 h1
          exact ⟨l2, h2, p1.trans p2⟩
      obtain ⟨l', hl', hp⟩ := key _ _ h l rfl
      have hp2 : (y :: l).Perm (y :: l') := hp.cons y
      exact ⟨hb, y :: l', by simp [hl'], fun z hz => h1 z (hp2.mem_iff.2 hz), (hp2.pairwise_iff (fun {_ _} h => Disj.symm h)).1 h2⟩
  | swap x y r =>
    obtain ⟨hb, l, hl, h1, h2⟩ := s
    match l, hl with
    | a :: b :: l, hl =>
      simp only [List.map_cons, List.cons.injEq] at hl
      have hp2 : (a :: b :: l).Perm (b :: a :: l) := List.Perm.swap _ _ _
      exact ⟨hb, b :: a :: l, by simp [hl.1, hl.2.1, hl.2.2], fun z hz => h1 z (hp2.mem_iff.2 hz), (hp2.pairwise_iff (fun {_ _} h => Disj.symm h)).1 h2⟩
  | trans _ _ ih1 ih2 => exact ih2 (ih1 s)
theorem Sat.turn (s : Sat W0 (P :: G) w)
    (h : ∀ hp, P hp → Le hp w → (∃ hp', Q hp' ∧ Le hp' w' ∧ ∀ k, hp' k ≠ none → hp k ≠ none ∨ w.heap.size ≤ k) ∧ (∀ k, k < w.heap.size → hp k = none → w'.heap[k]? = w.heap[k]?))
    (hb : Base w w') : Sat W0 (Q :: G) w' := by
  obtain ⟨hb0, l, hl, h1, h2⟩ := s
  match l, hl with
  | (P', hp) :: l, hl =>
    simp only [List.map_cons, List.cons.injEq] at hl
    obtain ⟨rfl, rfl⟩ := hl
    obtain ⟨hP, hLe⟩ := h1 _ (List.mem_cons_self ..)
    obtain ⟨⟨hp', hQ, hLe', hdom⟩, hkeep⟩ := h hp hP hLe
    rw [List.pairwise_cons] at h2
    refine ⟨hb0.trans hb, (Q, hp') :: l, by simp, ?_, ?_⟩
    · intro x hx
      rcases List.mem_cons.1 hx with rfl | hx
      · exact ⟨hQ, hLe'⟩
      · refine ⟨(h1 x (List.mem_cons_of_mem _ hx)).1, fun k o hk => ?_⟩
        have hk1 := (h1 x (List.mem_cons_of_mem _ hx)).2 k o hk
        have hlt : k < w.heap.size := (Array.getElem?_eq_some_iff.1 hk1).1
        rcases h2.1 x hx k with hd | hd
        · rw [hkeep k hlt hd]; exact hk1
        · rw [hd] at hk; cases hk
    · rw [List.pairwise_cons]
      refine ⟨fun x hx k => ?_, h2.2⟩
      show hp' k = none ∨ x.2 k = none
      cases hk : hp' k with
      | none => exact .inl rfl
      | some o =>
        refine .inr ?_
        rcases hdom k (by rw [hk]; simp) with hd | hd
        · rcases h2.1 x hx k with hd' | hd'
          · exact absurd hd' hd
          · exact hd'
        · cases hx2 : x.2 k with
          | none => rfl
          | some o' =>
            have := (h1 x (List.mem_cons_of_mem _ hx)).2 k o' hx2
            have hlt : k < w.heap.size := (Array.getElem?_eq_some_iff.1 this).1
            omega
theorem Sat.drop (s : Sat W0 (P :: G) w) : Sat W0 G w := by
  obtain ⟨hb, l, hl, h1, h2⟩ := s
  match l, hl with
  | x :: l, hl =>
    simp only [List.map_cons, List.cons.injEq] at hl
    exact ⟨hb, l, hl.2, fun y hy => h1 y (List.mem_cons_of_mem _ hy), (List.pairwise_cons.1 h2).2⟩
theorem Sat.triv (s : Sat W0 G w) : Sat W0 ((fun _ => True) :: G) w := by
  obtain ⟨hb, l, rfl, h1, h2⟩ := s
  refine ⟨hb, ((fun _ => True), fun _ => none) :: l, by simp, ?_, ?_⟩
  · intro x hx
    rcases List.mem_cons.1 hx with rfl | hx
    · exact ⟨trivial, fun k o hk => by cases hk⟩
    · exact h1 x hx
  · rw [List.pairwise_cons]
    exact ⟨fun x _ k => .inl rfl, h2⟩
theorem Sat.head (s : Sat W0 (P :: G) w) : ∃ hp, P hp ∧ Le hp w := by
  obtain ⟨hb, l, hl, h1, h2⟩ := s
  match l, hl with
  | x :: l, hl =>
    simp only [List.map_cons, List.cons.injEq] at hl
    have := h1 x (List.mem_cons_self ..)
    rw [hl.1] at this
    exact ⟨_, this⟩
theorem Sat.imp (s : Sat W0 (P :: G) w) (h : ∀ hp, P hp → Q hp) : Sat W0 (Q :: G) w := by
  obtain ⟨hb, l, hl, h1, h2⟩ := s
  match l, hl with
  | (P', hp) :: l, hl =>
    simp only [List.map_cons, List.cons.injEq] at hl
    obtain ⟨rfl, rfl⟩ := hl
    rw [List.pairwise_cons] at h2
    refine ⟨hb, (Q, hp) :: l, by simp, ?_, ?_⟩
    · intro x hx
      rcases List.mem_cons.1 hx with rfl | hx
      · exact ⟨h _ (h1 _ (List.mem_cons_self ..)).1, (h1 _ (List.mem_cons_self ..)).2⟩
      · exact h1 x (List.mem_cons_of_mem _ hx)
    · rw [List.pairwise_cons]; exact h2
theorem Sat.ex {X : Type} {R : X → SL} (s : Sat W0 ((fun h => ∃ x, R x h) :: G) w) : ∃ x, Sat W0 (R x :: G) w := by
  obtain ⟨hb, l, hl, h1, h2⟩ := s
  match l, hl with
  | (P', hp) :: l, hl =>
    simp only [List.map_cons, List.cons.injEq] at hl
    obtain ⟨rfl, rfl⟩ := hl
    rw [List.pairwise_cons] at h2
    obtain ⟨⟨x, hx⟩, hle⟩ := h1 _ (List.mem_cons_self ..)
    refine ⟨x, hb, (R x, hp) :: l, by simp, ?_, ?_⟩
    · intro y hy
      rcases List.mem_cons.1 hy with rfl | hy
      · exact ⟨hx, hle⟩
      · exact h1 y (List.mem_cons_of_mem _ hy)
    · rw [List.pairwise_cons]; exact h2
theorem Sat.pure {p : Prop} (s : Sat W0 ((fun h => p ∧ P h) :: G) w) : p ∧ Sat W0 (P :: G) w := by
  obtain ⟨hp, h, _⟩ := s.head
  exact ⟨h.1, s.imp fun _ h => h.2⟩
def star (P Q : SL) : SL := fun h => ∃ a b : Hp, P a ∧ Q b ∧ Disj a b ∧ ∀ k, h k = (a k).or (b k)
theorem Sat.split (s : Sat W0 (star P Q :: G) w) : Sat W0 (P :: Q :: G) w := by
  obtain ⟨hb, l, hl, h1, h2⟩ := s
  match l, hl with
  | (P', hp) :: l, hl =>
    simp only [List.map_cons, List.cons.injEq] at hl
    obtain ⟨rfl, rfl⟩ := hl
    rw [List.pairwise_cons] at h2
    obtain ⟨⟨a, b, ha, hbb, hd, hk⟩, hle⟩ := h1 _ (List.mem_cons_self ..)
    simp only at hk hle
    have ea : ∀ k o, a k = some o → hp k = some o := fun k o h => by rw [hk, h]; rfl
    have eb : ∀ k o, b k = some o → hp k = some o := fun k o h => by
      rcases hd k with h' | h'
      · rw [hk, h', h]; rfl
      · rw [h'] at h; cases h
    have dn : ∀ (c : Hp), (∀ k o, c k = some o → hp k = some o) → ∀ x ∈ l, Disj c x.2 := fun c hc x hx k => by
      cases h : c k with
      | none => exact .inl rfl
      | some o => rcases h2.1 x hx k with h' | h'
                  · have h2 := hc k o h
                    simp only at h'
                    rw [h2] at h'; cases h'
                  · exact .inr h'
    refine ⟨hb, (P, a) :: (Q, b) :: l, by simp, ?_, ?_⟩
    · intro x hx
      rcases List.mem_cons.1 hx with rfl | hx
      · exact ⟨ha, fun k o h => hle k o (ea k o h)⟩
      rcases List.mem_cons.1 hx with rfl | hx
      · exact ⟨hbb, fun k o h => hle k o (eb k o h)⟩
      · exact h1 x (List.mem_cons_of_mem _ hx)
    · rw [List.pairwise_cons, List.pairwise_cons]
      refine ⟨fun x hx => ?_, fun x hx => dn b eb x hx, h2.2⟩
      rcases List.mem_cons.1 hx with rfl | hx
      · exact hd
      · exact dn a ea x hx
theorem Sat.join (s : Sat W0 (P :: Q :: G) w) : Sat W0 (star P Q :: G) w := by
  obtain ⟨hb, l, hl, h1, h2⟩ := s
  match l, hl with
  | (P', a) :: (Q', b) :: l, hl =>
    simp only [List.map_cons, List.cons.injEq] at hl
    obtain ⟨rfl, rfl, rfl⟩ := hl
    rw [List.pairwise_cons, List.pairwise_cons] at h2
    obtain ⟨ha, hla⟩ := h1 _ (List.mem_cons_self ..)
    obtain ⟨hbb, hlb⟩ := h1 _ (List.mem_cons_of_mem _ (List.mem_cons_self ..))
    have hd : Disj a b := h2.1 _ (List.mem_cons_self ..)
    refine ⟨hb, (star P' Q', fun k => (a k).or (b k)) :: l, by simp, ?_, ?_⟩
    · intro x hx
      rcases List.mem_cons.1 hx with rfl | hx
      · refine ⟨⟨a, b, ha, hbb, hd, fun _ => rfl⟩, fun k o h => ?_⟩
        simp only at h
        cases hak : a k with
        | some o' => rw [hak] at h; simp at h; subst h; exact hla k _ hak
        | none => rw [hak] at h; simp at h; exact hlb k _ h
      · exact h1 x (List.mem_cons_of_mem _ (List.mem_cons_of_mem _ hx))
    · rw [List.pairwise_cons]
      refine ⟨fun x hx k => ?_, h2.2.2⟩
      rcases h2.1 x (List.mem_cons_of_mem _ hx) k with h | h
      · rcases h2.2.1 x hx k with h' | h'
        · simp only at h h' ⊢; exact .inl (by rw [h, h']; rfl)
        · exact .inr h'
      · exact .inr h
theorem Sat.same (s : Sat W0 G w) (hh : w'.heap = w.heap) (hb : Base w w') : Sat W0 G w' := by
  obtain ⟨hb0, l, hl, h1, h2⟩ := s
  exact ⟨hb0.trans hb, l, hl, fun x hx => ⟨(h1 x hx).1, fun k o hk => by rw [hh]; exact (h1 x hx).2 k o hk⟩, h2⟩
theorem Sat.below (s : Sat W0 G w) (hb : Go.RowKit.Below w.heap.size w w') : Sat W0 G w' := by
  obtain ⟨hb0, l, hl, h1, h2⟩ := s
  refine ⟨hb0.trans ⟨hb.os, hb.tape, hb.output⟩, l, hl, fun x hx => ⟨(h1 x hx).1, fun k o hk => ?_⟩, h2⟩
  have h := (h1 x hx).2 k o hk
  rw [hb.block k (Array.getElem?_eq_some_iff.1 h).1]
  exact h
end
def blk (b : Nat) (o : Obj) : SL := fun h => h b = some o
def old (W : World) (n : Nat) : SL := fun h => ∀ k, k < n → h k = W.heap[k]?
theorem Sat.start (W : World) : Sat W [old W W.heap.size] W :=
  ⟨Base.refl W, [(old W W.heap.size, fun k => W.heap[k]?)], rfl, fun x hx => by
    simp only [List.mem_singleton] at hx
    subst hx
    exact ⟨fun k _ => rfl, fun k o h => h⟩, by simp⟩
section
variable {W0 w : World} {G : List SL}
theorem Sat.oldBelow {W : World} {n : Nat} (s : Sat W (old W n :: G) w) (hn : n = W.heap.size) : Go.RowKit.Below n W w := by
  obtain ⟨hp, h, hle⟩ := s.head
  have hblock : ∀ k, k < n → w.heap[k]? = W.heap[k]? := fun k hk => by
    have h1 := h k hk
    have h2 : W.heap[k]? = some W.heap[k] := Array.getElem?_eq_getElem (by omega)
    rw [h2] at h1 ⊢
    exact hle k _ h1
  refine ⟨s.base.os, s.base.tape, s.base.output, ?_, hblock⟩
  rcases Nat.eq_zero_or_pos W.heap.size with h0 | h0
  · omega
  · have := hblock (W.heap.size - 1) (by omega)
    have h2 : W.heap[W.heap.size - 1]? = some (W.heap[W.heap.size - 1]'(by omega)) := Array.getElem?_eq_getElem (by omega)
    rw [h2] at this
    have := (Array.getElem?_eq_some_iff.1 this).1
    omega
theorem Sat.blk {b : Nat} {o : Obj} (s : Sat W0 (blk b o :: G) w) : w.heap[b]? = some o := by
  obtain ⟨hp, h, hle⟩ := s.head
  exact hle b o h
theorem Sat.alloc (s : Sat W0 G w) (o : Obj) : Sat W0 (B.blk w.heap.size o :: G) (w.alloc o) := by
  refine s.triv.turn (fun hp _ _ => ⟨⟨fun k => if k = w.heap.size then some o else none, by simp [B.blk], fun k o' hk => ?_, fun k hk => ?_⟩, fun k hk _ => ?_⟩) ⟨rfl, rfl, rfl⟩
  · simp only at hk
    split at hk
    · rename_i h; subst h; injection hk with hk; subst hk; exact heap_alloc_new w _
    · cases hk
  · simp only at hk
    split at hk
    · rename_i h; exact .inr (by omega)
    · exact absurd rfl hk
  · exact Go.RowKit.Below.heap_alloc w o k (by assumption)
theorem Sat.put {b : Nat} {o o' : Obj} {w' : World} (s : Sat W0 (B.blk b o :: G) w) (h : w'.heap[b]? = some o') (hk : ∀ k, k ≠ b → w'.heap[k]? = w.heap[k]?) (hb : Base w w') : Sat W0 (B.blk b o' :: G) w' := by
  have hlt : b < w.heap.size := (Array.getElem?_eq_some_iff.1 s.blk).1
  refine s.turn (fun hp hP hle => ⟨⟨fun k => if k = b then some o' else none, by simp [B.blk], fun k o2 hk2 => ?_, fun k hk2 => ?_⟩, fun k hk2 hn => ?_⟩) hb
  · simp only at hk2
    split at hk2
    · rename_i h'; subst h'; injection hk2 with hk2; subst hk2; exact h
    · cases hk2
  · simp only at hk2
    split at hk2
    · rename_i h'; subst h'
      have : hp k = some o := hP
      exact .inl (by rw [this]; simp)
    · exact absurd rfl hk2
  · refine hk k fun e => ?_
    subst e
    have : hp k = some o := hP
    rw [this] at hn; cases hn
end
end Go.Proofs.YtfolmcpfdcgliaaGreat.B
