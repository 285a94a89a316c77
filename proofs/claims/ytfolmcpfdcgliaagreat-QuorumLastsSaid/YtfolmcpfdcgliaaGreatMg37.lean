import Derived.Test.YtfolmcpfdcgliaaGreatMg8
import Derived.Test.YtfolmcpfdcgliaaGreatMg9
import Derived.Test.YtfolmcpfdcgliaaGreatMg33
import Derived.Test.YtfolmcpfdcgliaaGreatMg24
import Derived.Test.YtfolmcpfdcgliaaGreatMg25
set_option linter.unusedVariables false
set_option linter.unusedSimpArgs false
set_option maxRecDepth 8000
/-! strings.Join. -/
namespace Go.Proofs.YtfolmcpfdcgliaaGreat.B
open Go Go.Proofs

theorem inter_nil : ∀ l : List (List UInt8), Lib.join l [] = l.flatten
  | [] => rfl
  | [x] => by simp [Lib.join, List.intercalate]
  | x :: y :: r => by
    have ih := inter_nil (y :: r)
    simp only [Lib.join, List.intercalate, List.intersperse] at ih ⊢
    simp only [List.flatten_cons, List.nil_append] at ih ⊢
    rw [ih]
theorem strings_Join (A : Option Addr) (k c : Nat) (xs : List ByteArray) (hk : k = xs.length) (hkc : k ≤ c) (hl : (xs.flatMap fun s => bs s).length ≤ 140737488355328) (hN : xs.length ≤ 140737488355328) (W0 : World) (G : List SL) (hR : Rd W0 G strE A xs) :
    Fn Tryz.prog 161 [.slice A k c, .string ⟨#[]⟩] W0 G (Ret fun v G' => v = .string (mk (xs.flatMap fun s => bs s)) ∧ G' = G) := fun w hs => by
  subst hk
  have hj : Lib.join (xs.map (·.data.toList)) (⟨#[]⟩ : ByteArray).data.toList = xs.flatMap fun s => bs s := by
    rw [show (⟨#[]⟩ : ByteArray).data.toList = [] from rfl, inter_nil, List.flatMap]
  cases hx : xs with
  | nil =>
    refine (sh_strings_Join_none A c ⟨#[]⟩ w).mono fun e w' h => ?_
    obtain ⟨rfl, rfl⟩ := h
    exact ⟨G, ⟨rfl, rfl⟩, hs⟩
  | cons x0 r =>
    rw [← hx]
    rcases hR w hs with h0 | ⟨b, o, rfl, hc⟩
    · exfalso
      have h1 := congrArg List.length h0
      rw [flat_len, hx] at h1
      simp [strE] at h1
    · have hfl : ∀ l : List ByteArray, flat strE l = l.map Value.string := fun l => by
        induction l with
        | nil => rfl
        | cons a l ih => simp only [flat, List.flatMap_cons, List.map_cons] at ih ⊢; rw [ih]; rfl
      have hcs : ∀ (j : Nat) x, xs[j]? = some x → w.cell? ⟨b, o + j, none⟩ = some (.string x) := fun j x hj => hc j _ (by rw [hfl, List.getElem?_map, hj]; rfl)
      have hb : b < w.heap.size := by
        have := hcs 0 x0 (by rw [hx]; rfl)
        by_cases h : b < w.heap.size
        · exact h
        · exfalso
          simp only [World.cell?] at this
          rw [Array.getElem?_eq_none (by omega)] at this
          cases this
      refine (sh_strings_Join b o c xs ⟨#[]⟩ w hcs hb hN hkc (by rw [hj]; exact hl)).mono fun e w' h => ?_
      obtain ⟨rfl, hbw⟩ := h
      exact ⟨G, ⟨by rw [hj], rfl⟩, hs.below hbw⟩
end Go.Proofs.YtfolmcpfdcgliaaGreat.B

set_option linter.unusedVariables false
set_option linter.unusedSimpArgs false
set_option maxRecDepth 8000
/-! What an answer tells. -/
namespace Go.Proofs.YtfolmcpfdcgliaaGreat.B
open Go Go.Proofs
attribute [local irreducible] WL CS QS WQ WH WS Fn Op1 row Sat
attribute [local irreducible] slc diskA mapb

theorem append_new (b : ByteArray) : (b.size ≤ 400000 → (Disk.new b.size).append jLog b = (0, ⟨[(jLog, ⟨b, 0⟩)], b.size, b.size, 0, false⟩)) ∧ (400000 < b.size → ((Disk.new b.size).append jLog b).1 ≠ 0) := by
  have hn : Disk.new (b.size : Int) = ⟨[], (b.size : Int), 0, 0, false⟩ := new_is (by omega)
  constructor
  · intro h
    rw [hn, append_first (files := []) (by decide) (by decide) h (Int.le_refl _), noStr_cat, Int.zero_add]
  · intro h
    rw [hn]
    unfold Disk.append
    rw [if_neg (by simp), if_neg (by decide), if_pos (.inl (by simp [Disk.at, aget, noStr_size]; omega))]
    simp
theorem flat_total : ∀ {l : List ByteArray}, (∀ s ∈ l, s.size ≤ 4000) → (l.flatMap fun s => bs s).length ≤ l.length * 4000
  | [], _ => by simp
  | s :: l, h => by
    have h1 := flat_total (l := l) (fun x hx => h x (List.mem_cons_of_mem _ hx))
    have h2 := h s (List.mem_cons_self ..)
    have h3 := bs_len s
    rw [List.flatMap_cons, List.length_append, List.length_cons, Nat.succ_mul]
    generalize l.length * 4000 = m at h1 ⊢
    omega
def told1R (be bo : Nat) (s : ByteArray) (F : List SL) : Ending → List SL → Prop
  | .returned _, G' => ∃ e xs er A c, toldM (bs s) = (e, xs, er) ∧ G' = row bo 45 [.int .i64 e, .slice A xs.length c] :: row be 37 [.int .i64 er] :: slc entE 49 A c xs :: F
  | .panicked ch, G' => toldM (bs s) = (0, [], 2) ∧ ch = tornJ ∧ G' = row bo 45 [.int .i64 0, .slice none 0 0] :: row be 37 [.int .i64 0] :: F
  | .outgrown, _ => False
theorem cond14 {n : Int} {t : List ByteArray} : (n < 0 ∨ 14 < n ∨ (n ≠ 0 ∧ t ≠ [])) ∨ (0 ≤ n ∧ n ≤ 14 ∧ (n = 0 ∨ t = [])) := by
  by_cases h1 : n < 0
  · exact .inl (.inl h1)
  by_cases h2 : 14 < n
  · exact .inl (.inr (.inl h2))
  by_cases h3 : n = 0
  · exact .inr ⟨by omega, by omega, .inl h3⟩
  by_cases h4 : t = []
  · exact .inr ⟨by omega, by omega, .inr h4⟩
  · exact .inl (.inr (.inr ⟨h3, h4⟩))
set_option maxHeartbeats 8000000 in
theorem told1 (be bo ba : Nat) (s : ByteArray) (l : List ByteArray) (hl : splitP (bs s) = some l) (A : Option Addr) (c : Nat) (W0 : World) (F : List SL) :
    Fn Tryz.prog 160 [.slice A l.length c, .pointer (some ⟨be, 0, none⟩), .pointer (some ⟨ba, 0, none⟩), .pointer (some ⟨bo, 0, none⟩)] W0
      (slc strE 9 A c l :: row be 37 [.int .i64 0] :: row bo 45 [.int .i64 0, .slice none 0 0] :: row ba 9 [.string s] :: F) (told1R be bo s F) := by
  obtain ⟨hj, hjo⟩ := splitP_some hl
  obtain ⟨hl1, hl2⟩ := joinOk_iff.1 hjo
  refine Fn.fact (slc_cap (i := 0) rfl) fun hcap => ?_
  refine Fn.enter Tryz.func160 rfl Tryz.ntmps160 rfl ?_
  cases l with
  | nil =>
    have hT : toldM (bs s) = (0, [], 2) := by rw [toldM, hl]
    repeat' (first|refine bk ?_|refine bkc ?_|refine bks ?_|refine bkd ?_|refine bkq (fun q => ?_)|(refine bk2 ?_ ?_<;>(first|exact bkn|(refine bkk ?_;intro h))))
    refine WL.callP c55 rfl rfl rfl rfl (j_must false W0 _) (fun _ h => h) (fun _ _ h => absurd h.1 (by simp)) ?_
    rintro _ _ ⟨_, rfl, rfl⟩
    repeat' (first|refine bk ?_|refine bkc ?_|refine bks ?_|refine bkd ?_|refine bkq (fun q => ?_)|(refine bk2 ?_ ?_<;>(first|exact bkn|(refine bkk ?_;intro h))))
    exact QS.turn (G' := row bo 45 [.int .i64 0, .slice none 0 0] :: row be 37 [.int .i64 0] :: F) (fun w hs => (hs.drop.kick (i := 2) rfl).front (i := 1) rfl) (QS.panicV ⟨hT, rfl, rfl⟩)
  | cons hh t =>
    have hlen : (hh :: t).length = t.length + 1 := rfl
    have hd := hl2 hh (List.mem_cons_self ..)
    have hlt : (((hh :: t).length : Nat) : Int) = (t.length : Int) + 1 := by simp
    refine CS.seq ?_
    repeat' (first|refine bk ?_|refine bkc ?_|refine bkd ?_|refine bkq (fun q => ?_)|(refine bk2 ?_ ?_<;>(first|exact bkn|(refine bkk ?_;intro h))))
    refine WL.callP c55 rfl rfl rfl rfl (j_must (decide ((0 : Int) < ((hh :: t).length : Nat))) W0 _) (fun _ h => h) ?_ (fun _ _ h => absurd (of_decide_eq_false h.1) (by omega))
    rintro _ _ ⟨_, rfl, rfl⟩
    repeat' (first|refine bk ?_|refine bkc ?_|refine bks ?_|refine bkd ?_|refine bkq (fun q => ?_)|(refine bk2 ?_ ?_<;>(first|exact bkn|(refine bkk ?_;intro h))))
    refine WL.idx TT (Rd.slc (i := 0) rfl) rfl rfl rfl (by omega) (x := hh) rfl rfl rfl rfl rfl (fun bb o hA => ?_)
    refine WL.s (op1_at TT hA rfl rfl rfl rfl) rfl ?_
    refine WL.callP c56 rfl rfl rfl rfl (j_number hh (by omega) W0 _) (fun _ h => h) ?_ ?_
    rotate_left 1
    · rintro _ _ ⟨hn, rfl, rfl⟩
      have hT : toldM (bs s) = (0, [], 2) := by rw [toldM, hl]; simp only; rw [hn]
      repeat' (first|refine bk ?_|refine bkc ?_|refine bks ?_|refine bkd ?_|refine bkq (fun q => ?_)|(refine bk2 ?_ ?_<;>(first|exact bkn|(refine bkk ?_;intro h))))
      exact QS.turn (G' := row bo 45 [.int .i64 0, .slice none 0 0] :: row be 37 [.int .i64 0] :: F) (fun w hs => (hs.drop.kick (i := 2) rfl).front (i := 1) rfl) (QS.panicV ⟨hT, rfl, rfl⟩)
    rintro _ _ ⟨⟨n, hn, rfl⟩, rfl⟩
    have hT0 : toldM (bs s) = if 0 ≤ n ∧ n ≤ 14 ∧ (n = 0 ∨ t = []) then
        (if t = [] then (0, [], n) else match parseP (t.flatMap fun x => bs x) with
          | some (e, xs, r) => if r = [] ∧ toldB e xs = bs s then (e, xs, 0) else (0, [], 2)
          | none => (0, [], 2))
      else (0, [], 2) := by rw [toldM, hl]; simp only; rw [hn]; rfl
    have htl : t = [] ↔ t.length = 0 := List.length_eq_zero_iff.symm
    rcases cond14 (n := n) (t := t) with hc | ⟨hc1, hc2, hc3⟩
    · have hT : toldM (bs s) = (0, [], 2) := by
        rw [hT0, if_neg (fun e => by
          rcases hc with h | h | ⟨h1, h2⟩
          · omega
          · omega
          · rcases e.2.2 with h | h
            · exact h1 h
            · exact h2 h)]
      repeat' (first|refine bk ?_|refine bkc ?_|refine bks ?_|refine bkd ?_|refine bkq (fun q => ?_)|(refine bk2 ?_ ?_<;>(first|exact bkn|(refine bkk ?_;intro h))))
      rotate_left 1
      iterate 2 (
        · refine WL.callP c55 rfl rfl rfl rfl (j_must false W0 _) (fun _ h => h) (fun _ _ h => absurd h.1 (by simp)) ?_
          rintro _ _ ⟨_, rfl, rfl⟩
          repeat' (first|refine bk ?_|refine bkc ?_|refine bks ?_|refine bkd ?_|refine bkq (fun q => ?_)|(refine bk2 ?_ ?_<;>(first|exact bkn|(refine bkk ?_;intro h))))
          exact QS.turn (G' := row bo 45 [.int .i64 0, .slice none 0 0] :: row be 37 [.int .i64 0] :: F) (fun w hs => (hs.drop.kick (i := 2) rfl).front (i := 1) rfl) (QS.panicV ⟨hT, rfl, rfl⟩))
      have ht1 : 0 < t.length := by
        rcases hc with h | h | ⟨_, h⟩
        · omega
        · omega
        · exact List.length_pos_iff.2 h
      refine WL.callP c55 rfl rfl rfl rfl (j_must (decide (((hh :: t).length : Int) = 1)) W0 _) (fun _ h => h) (fun _ _ h => absurd (of_decide_eq_true h.1) (by omega)) ?_
      rintro _ _ ⟨_, rfl, rfl⟩
      repeat' (first|refine bk ?_|refine bkc ?_|refine bks ?_|refine bkd ?_|refine bkq (fun q => ?_)|(refine bk2 ?_ ?_<;>(first|exact bkn|(refine bkk ?_;intro h))))
      exact QS.turn (G' := row bo 45 [.int .i64 0, .slice none 0 0] :: row be 37 [.int .i64 0] :: F) (fun w hs => (hs.drop.kick (i := 2) rfl).front (i := 1) rfl) (QS.panicV ⟨hT, rfl, rfl⟩)
    · by_cases ht : t = []
      · subst ht
        rw [if_pos ⟨hc1, hc2, hc3⟩, if_pos rfl] at hT0
        repeat' (first|refine bk ?_|refine bkc ?_|refine bks ?_|refine bkd ?_|refine bkq (fun q => ?_)|(refine bk2 ?_ ?_<;>(first|exact bkn|(refine bkk ?_;intro h))))
        all_goals
          refine WL.callP c55 rfl rfl rfl rfl (j_must true W0 _) (fun _ h => h) ?_ (fun _ _ h => absurd h.1 (by simp))
          rintro _ _ ⟨_, rfl, rfl⟩
          repeat' (first|refine bk ?_|refine bkc ?_|refine bks ?_|refine bkd ?_|refine bkq (fun q => ?_)|(refine bk2 ?_ ?_<;>(first|exact bkn|(refine bkk ?_;intro h))))
          exact QS.turn (G' := row bo 45 [.int .i64 0, .slice none 0 0] :: row be 37 [.int .i64 n] :: slc entE 49 none 0 ([] : List Ent) :: F) (fun w hs => (((hs.drop.kick (i := 2) rfl).slcNil entE 49).front (i := 1) rfl).front (i := 2) rfl) (QS.retV Tryz.results160 rfl ⟨0, [], n, none, 0, hT0, rfl⟩)
      · have hn0 : n = 0 := hc3.resolve_right ht
        subst hn0
        have ht1 : 0 < t.length := List.length_pos_iff.2 ht
        rw [if_pos ⟨hc1, hc2, hc3⟩, if_neg ht] at hT0
        obtain ⟨b, hb⟩ : ∃ b, b = mk (t.flatMap fun x => bs x) := ⟨_, rfl⟩
        have hbb : bs b = t.flatMap fun x => bs x := by rw [hb, bs_mk]
        have hbl := flat_total (l := t) (fun x hx => hl2 x (List.mem_cons_of_mem _ hx))
        have hbz : b.size ≤ 4000000 := by
          have h1 : t.length * 4000 ≤ 1000 * 4000 := Nat.mul_le_mul_right _ (by omega)
          rw [← bs_len, hbb]
          exact Nat.le_trans hbl h1
        rw [← hbb] at hT0
        repeat' (first|refine bk ?_|refine bkc ?_|refine bks ?_|refine bkd ?_|refine bkq (fun q => ?_)|(refine bk2 ?_ ?_<;>(first|exact bkn|(refine bkk ?_;intro h))))
        refine WL.callP c55 rfl rfl rfl rfl (j_must true W0 _) (fun _ h => h) ?_ (fun _ _ h => absurd h.1 (by simp))
        rintro _ _ ⟨_, rfl, rfl⟩
        repeat' (first|refine bk ?_|refine bkc ?_|refine bks ?_|refine bkd ?_|refine bkq (fun q => ?_)|(refine bk2 ?_ ?_<;>(first|exact bkn|(refine bkk ?_;intro h))))
        refine WL.s (op1_sliceS TT (E := strE) (xs := hh :: t) (l := 1) (r := ((hh :: t).length : Nat)) rfl rfl rfl rfl rfl rfl rfl ⟨by omega, by omega, by omega⟩ hcap) rfl ?_
        repeat' (first|refine bk ?_|refine bkc ?_|refine bks ?_|refine bkd ?_|refine bkq (fun q => ?_)|(refine bk2 ?_ ?_<;>(first|exact bkn|(refine bkk ?_;intro h))))
        have hR1 := (Rd.slc (W0 := W0) (E := strE) (t := 9) (A := A) (c := c) (xs := hh :: t) (G := slc strE 9 A c (hh :: t) :: row be 37 [.int .i64 0] :: row bo 45 [.int .i64 0, .slice none 0 0] :: row ba 9 [.string s] :: F) (i := 0) rfl).part (l := 1) (r := (hh :: t).length) (Nat.le_refl _) hcap
        rw [List.take_length, List.drop_succ_cons, List.drop_zero] at hR1
        refine WL.call c161 rfl rfl rfl rfl (strings_Join _ _ _ t (by simp) (by simp only [Int.toNat_natCast]; omega) (by rw [← hbb, bs_len]; omega) (by omega) W0 _ hR1) ?_
        rintro _ _ ⟨rfl, rfl⟩
        rw [← hb]
        repeat' (first|refine bk ?_|refine bkc ?_|refine bks ?_|refine bkd ?_|refine bkq (fun q => ?_)|(refine bk2 ?_ ?_<;>(first|exact bkn|(refine bkk ?_;intro h))))
        refine WL.call c28 rfl rfl rfl rfl (disk_New _ W0 _) ?_
        rintro _ _ ⟨bd, rfl, rfl⟩
        repeat' (first|refine bk ?_|refine bkc ?_|refine bks ?_|refine bkd ?_|refine bkq (fun q => ?_)|(refine bk2 ?_ ?_<;>(first|exact bkn|(refine bkk ?_;intro h))))
        obtain ⟨ha1, ha2⟩ := append_new b
        refine WL.call c148 rfl rfl rfl rfl (disk_Append bd _ (new_ok _ (by omega)) jLog b (by omega) W0 _) ?_
        rintro _ _ ⟨rfl, rfl⟩
        have hbad : ∀ {P1 : Prop}, 400000 < b.size → toldM (bs s) = (0, [], 2) := fun hbig => by
          rw [hT0]
          cases hp : parseP (bs b) with
          | none => rfl
          | some q =>
            obtain ⟨e, xs, r⟩ := q
            simp only
            rw [if_neg]
            rintro ⟨rfl, _⟩
            obtain ⟨h1, h2⟩ := parseP_some hp
            have := logB_small h1
            have h3 := congrArg List.length h2
            rw [List.append_nil, bs_len] at h3
            omega
        by_cases hbig : 400000 < b.size
        · repeat' (first|refine bk ?_|refine bkc ?_|refine bks ?_|refine bkd ?_|refine bkq (fun q => ?_)|(refine bk2 ?_ ?_<;>(first|exact bkn|(refine bkk ?_;intro h))))
          refine WL.callP c55 rfl rfl rfl rfl (j_must (decide (((Disk.new b.size).append jLog b).1 = 0)) W0 _) (fun _ h => h) (fun _ _ h => absurd (of_decide_eq_true h.1) (ha2 hbig)) ?_
          rintro _ _ ⟨_, rfl, rfl⟩
          repeat' (first|refine bk ?_|refine bkc ?_|refine bks ?_|refine bkd ?_|refine bkq (fun q => ?_)|(refine bk2 ?_ ?_<;>(first|exact bkn|(refine bkk ?_;intro h))))
          exact QS.turn (G' := row bo 45 [.int .i64 0, .slice none 0 0] :: row be 37 [.int .i64 0] :: F) (fun w hs => (hs.drop.drop.kick (i := 2) rfl).front (i := 1) rfl) (QS.panicV ⟨hbad (P1 := True) hbig, rfl, rfl⟩)
        rw [ha1 (by omega)]
        repeat' (first|refine bk ?_|refine bkc ?_|refine bks ?_|refine bkd ?_|refine bkq (fun q => ?_)|(refine bk2 ?_ ?_<;>(first|exact bkn|(refine bkk ?_;intro h))))
        refine WL.callP c55 rfl rfl rfl rfl (j_must true W0 _) (fun _ h => h) ?_ (fun _ _ h => absurd h.1 (by simp))
        rintro _ _ ⟨_, rfl, rfl⟩
        repeat' (first|refine bk ?_|refine bkc ?_|refine bks ?_|refine bkd ?_|refine bkq (fun q => ?_)|(refine bk2 ?_ ?_<;>(first|exact bkn|(refine bkk ?_;intro h))))
        have hrd : (⟨[(jLog, ⟨b, 0⟩)], (b.size : Int), (b.size : Int), 0, false⟩ : Disk).read jLog = (b, 0) := read_one
        refine WL.call c65 rfl rfl rfl rfl (log_Load bd _ jLog (by rw [hrd]; simp only; omega) W0 _) ?_
        rw [hrd]
        simp only
        rw [loadM, if_pos rfl]
        cases hp : parseP (bs b) with
        | none =>
          have hT : toldM (bs s) = (0, [], 2) := by rw [hT0, hp]
          rintro _ _ ⟨A4, c4, rfl, rfl⟩
          repeat' (first|refine bk ?_|refine bkc ?_|refine bks ?_|refine bkq (fun q => ?_)|(refine bk2 ?_ ?_<;>(first|exact bkn|(refine bkk ?_;intro h))))
          refine CS.drawT 10 mixed (by kernel_rfl) rfl ?_
          repeat' (first|refine bk ?_|refine bkc ?_|refine bks ?_|refine bkd ?_|refine bkh ?_|refine bkq (fun q => ?_)|((first|refine bk2 ?_ ?_|refine bk2h ?_ ?_)<;>(first|exact bkn|(refine bkk ?_;intro h))))
          refine WL.callP c55 rfl rfl rfl rfl (j_must false W0 _) (fun _ h => h) (fun _ _ h => absurd h.1 (by simp)) ?_
          rintro _ _ ⟨_, rfl, rfl⟩
          repeat' (first|refine bk ?_|refine bkc ?_|refine bks ?_|refine bkd ?_|refine bkq (fun q => ?_)|(refine bk2 ?_ ?_<;>(first|exact bkn|(refine bkk ?_;intro h))))
          exact QS.turn (G' := row bo 45 [.int .i64 0, .slice none 0 0] :: row be 37 [.int .i64 0] :: F) (fun w hs => (hs.drop.drop.drop.drop.kick (i := 2) rfl).front (i := 1) rfl) (QS.panicV ⟨hT, rfl, rfl⟩)
        | some q =>
          obtain ⟨e, xs, r⟩ := q
          rw [hp] at hT0
          simp only at hT0 ⊢
          by_cases hr : r = []
          · subst hr
            rw [decide_eq_true (rfl : ([] : List UInt8) = [])]
            rintro _ _ ⟨A4, c4, rfl, rfl⟩
            repeat' (first|refine bk ?_|refine bkc ?_|refine bks ?_|refine bkq (fun q => ?_)|(refine bk2 ?_ ?_<;>(first|exact bkn|(refine bkk ?_;intro h))))
            refine CS.drawT 10 mixed (by kernel_rfl) rfl ?_
            repeat' (first|refine bk ?_|refine bkc ?_|refine bks ?_|refine bkd ?_|refine bkh ?_|refine bkq (fun q => ?_)|((first|refine bk2 ?_ ?_|refine bk2h ?_ ?_)<;>(first|exact bkn|(refine bkk ?_;intro h))))
            refine WH.call c60 rfl rfl rfl rfl (j_told e A4 _ c4 xs rfl W0 _ (Rd.slc (i := 1) rfl)) ?_
            repeat' (first|refine bk ?_|refine bkc ?_|refine bks ?_|refine bkd ?_|refine bkh ?_|refine bkq (fun q => ?_)|((first|refine bk2 ?_ ?_|refine bk2h ?_ ?_)<;>(first|exact bkn|(refine bkk ?_;intro h))))
            refine WL.callP c55 rfl rfl rfl rfl (j_must (decide (mk (toldB e xs) = s)) W0 _) (fun _ h => h) ?_ ?_
            · rintro _ _ ⟨hb, rfl, rfl⟩
              have hts : toldB e xs = bs s := by have := congrArg bs (of_decide_eq_true hb); rwa [bs_mk] at this
              rw [if_pos ⟨rfl, hts⟩] at hT0
              repeat' (first|refine bk ?_|refine bkc ?_|refine bks ?_|refine bkd ?_|refine bkq (fun q => ?_)|(refine bk2 ?_ ?_<;>(first|exact bkn|(refine bkk ?_;intro h))))
              exact QS.turn (G' := row bo 45 [.int .i64 e, .slice A4 xs.length c4] :: row be 37 [.int .i64 0] :: slc entE 49 A4 c4 xs :: F) (fun w hs => ((((hs.drop.kick (i := 1) rfl).kick (i := 1) rfl).kick (i := 3) rfl).front (i := 1) rfl).front (i := 2) rfl) (QS.endV Tryz.results160 rfl ⟨e, xs, 0, A4, c4, hT0, rfl⟩)
            · rintro _ _ ⟨hb, rfl, rfl⟩
              have hts : ¬ toldB e xs = bs s := fun e => of_decide_eq_false hb (by rw [e, mk_bs])
              rw [if_neg (fun e => hts e.2)] at hT0
              repeat' (first|refine bk ?_|refine bkc ?_|refine bks ?_|refine bkd ?_|refine bkq (fun q => ?_)|(refine bk2 ?_ ?_<;>(first|exact bkn|(refine bkk ?_;intro h))))
              exact QS.turn (G' := row bo 45 [.int .i64 0, .slice none 0 0] :: row be 37 [.int .i64 0] :: F) (fun w hs => (hs.drop.drop.drop.drop.kick (i := 2) rfl).front (i := 1) rfl) (QS.panicV ⟨hT0, rfl, rfl⟩)
          · rw [decide_eq_false hr]
            rw [if_neg (fun e => hr e.1)] at hT0
            rintro _ _ ⟨A4, c4, rfl, rfl⟩
            repeat' (first|refine bk ?_|refine bkc ?_|refine bks ?_|refine bkq (fun q => ?_)|(refine bk2 ?_ ?_<;>(first|exact bkn|(refine bkk ?_;intro h))))
            refine CS.drawT 10 mixed (by kernel_rfl) rfl ?_
            repeat' (first|refine bk ?_|refine bkc ?_|refine bks ?_|refine bkd ?_|refine bkh ?_|refine bkq (fun q => ?_)|((first|refine bk2 ?_ ?_|refine bk2h ?_ ?_)<;>(first|exact bkn|(refine bkk ?_;intro h))))
            refine WL.callP c55 rfl rfl rfl rfl (j_must false W0 _) (fun _ h => h) (fun _ _ h => absurd h.1 (by simp)) ?_
            rintro _ _ ⟨_, rfl, rfl⟩
            repeat' (first|refine bk ?_|refine bkc ?_|refine bks ?_|refine bkd ?_|refine bkq (fun q => ?_)|(refine bk2 ?_ ?_<;>(first|exact bkn|(refine bkk ?_;intro h))))
            exact QS.turn (G' := row bo 45 [.int .i64 0, .slice none 0 0] :: row be 37 [.int .i64 0] :: F) (fun w hs => (hs.drop.drop.drop.drop.kick (i := 2) rfl).front (i := 1) rfl) (QS.panicV ⟨hT0, rfl, rfl⟩)
set_option maxHeartbeats 2000000 in
theorem j_Told (s : ByteArray) (hs : s.size ≤ 9223372036854775807) (W0 : World) (G : List SL) :
    Fn Tryz.prog 120 [.string s] W0 G (Ret fun v G' => ∃ A c, v = .tuple #[logV (toldM (bs s)).1 A (toldM (bs s)).2.1.length c, .int .i64 (toldM (bs s)).2.2] ∧ G' = slc entE 49 A c (toldM (bs s)).2.1 :: G) := by
  refine Fn.enter Tryz.func120 rfl Tryz.ntmps120 rfl ?_
  repeat' (first|refine bk ?_|refine bkc ?_|refine bks ?_|refine bkd ?_|refine bkq (fun q => ?_)|(refine bk2 ?_ ?_<;>(first|exact bkn|(refine bkk ?_;intro h))))
  rename_i ba bo
  revert q
  intro be
  refine WL.call c53 rfl rfl rfl rfl (j_read (cap := [.pointer (some ⟨be, 0, none⟩), .pointer (some ⟨ba, 0, none⟩), .pointer (some ⟨bo, 0, none⟩)]) c160 s hs W0 _ (fun _ => told1R be bo s G)
    (fun v G' => (v = .bool true ∧ ∃ e xs er A c, toldM (bs s) = (e, xs, er) ∧ G' = row bo 45 [.int .i64 e, .slice A xs.length c] :: row be 37 [.int .i64 er] :: slc entE 49 A c xs :: G) ∨
      (v = .bool false ∧ toldM (bs s) = (0, [], 2) ∧ (G' = row bo 45 [.int .i64 0, .slice none 0 0] :: row be 37 [.int .i64 0] :: G ∨ G' = row be 37 [.int .i64 0] :: row bo 45 [.int .i64 0, .slice none 0 0] :: row ba 9 [.string s] :: G)))
    (fun l A c hl => told1 be bo ba s l hl A c W0 G) (fun _ _ h => h) (fun l v G' _ h => .inl ⟨rfl, h⟩) (fun l ch G' _ h => ⟨h.2.1, .inr ⟨rfl, h.1, .inl h.2.2⟩⟩) (fun hn => .inr ⟨rfl, by rw [toldM, hn], .inr rfl⟩)) ?_
  rintro _ G2 (⟨rfl, e, xs, er, A, c, hT, rfl⟩ | ⟨rfl, hT, rfl | rfl⟩)
  · rw [hT]
    repeat' (first|refine bk ?_|refine bkc ?_|refine bks ?_|refine bkq (fun q => ?_)|(refine bk2 ?_ ?_<;>(first|exact bkn|(refine bkk ?_;intro h))))
    refine CS.draw mixed (by kernel_rfl) ?_
    repeat' (first|refine bk ?_|refine bkc ?_|refine bks ?_|refine bkd ?_|refine bkq (fun q => ?_)|(refine bk2 ?_ ?_<;>(first|exact bkn|(refine bkk ?_;intro h))))
    refine WQ.storeSame TT 0 rfl rfl rfl rfl rfl rfl rfl rfl ?_
    repeat' (first|refine bk ?_|refine bkc ?_|refine bks ?_|refine bkd ?_|refine bkq (fun q => ?_)|(refine bk2 ?_ ?_<;>(first|exact bkn|(refine bkk ?_;intro h))))
    refine WQ.storeSame TT 1 rfl rfl rfl rfl rfl rfl rfl rfl ?_
    repeat' (first|refine bk ?_|refine bkc ?_|refine bks ?_|refine bkd ?_|refine bkq (fun q => ?_)|(refine bk2 ?_ ?_<;>(first|exact bkn|(refine bkk ?_;intro h))))
    refine QS.turnR (G2 := slc entE 49 A c xs :: G) (fun w hs => hs.drop.drop) ?_
    exact QS.retG (T := TT) Tryz.results120 (.cell 0 rfl rfl rfl (.cell 1 rfl rfl rfl .nil)) ⟨rfl, A, c, rfl, rfl⟩
  · rw [hT]
    repeat' (first|refine bk ?_|refine bkc ?_|refine bks ?_|refine bkd ?_|refine bkq (fun q => ?_)|(refine bk2 ?_ ?_<;>(first|exact bkn|(refine bkk ?_;intro h))))
    refine QS.turn (G' := slc entE 49 none 0 ([] : List Ent) :: row bo 45 [.int .i64 0, .slice none 0 0] :: row be 37 [.int .i64 2] :: G) (fun w hs => hs.slcNil _ _) ?_
    refine QS.turnR (G2 := slc entE 49 none 0 ([] : List Ent) :: G) (fun w hs => (hs.kick (i := 1) rfl).kick (i := 1) rfl) ?_
    exact QS.retG (T := TT) Tryz.results120 (.cell 1 rfl rfl rfl (.cell 2 rfl rfl rfl .nil)) ⟨rfl, none, 0, rfl, rfl⟩
  · rw [hT]
    repeat' (first|refine bk ?_|refine bkc ?_|refine bks ?_|refine bkd ?_|refine bkq (fun q => ?_)|(refine bk2 ?_ ?_<;>(first|exact bkn|(refine bkk ?_;intro h))))
    refine QS.turn (G' := slc entE 49 none 0 ([] : List Ent) :: row be 37 [.int .i64 2] :: row bo 45 [.int .i64 0, .slice none 0 0] :: G) (fun w hs => (hs.kick (i := 2) rfl).slcNil _ _) ?_
    refine QS.turnR (G2 := slc entE 49 none 0 ([] : List Ent) :: G) (fun w hs => (hs.kick (i := 1) rfl).kick (i := 1) rfl) ?_
    exact QS.retG (T := TT) Tryz.results120 (.cell 2 rfl rfl rfl (.cell 1 rfl rfl rfl .nil)) ⟨rfl, none, 0, rfl, rfl⟩
end Go.Proofs.YtfolmcpfdcgliaaGreat.B
