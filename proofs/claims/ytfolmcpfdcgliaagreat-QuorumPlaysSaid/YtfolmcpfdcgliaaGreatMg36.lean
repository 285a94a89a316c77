import Derived.Test.YtfolmcpfdcgliaaGreatMg24
import Derived.Test.YtfolmcpfdcgliaaGreatMg35
import Derived.Shelf.SlIter.Nil
import Derived.Shelf.SortM.Plain
import Derived.Shelf.SortM.SortNone
import Derived.Ground.GgzProg
import Derived.Ground.SlgmProg
import Derived.Test.YtfolmcpfdcgliaaGreatProg
set_option linter.unusedVariables false
set_option linter.unusedSimpArgs false
set_option maxRecDepth 8000
namespace Go.Proofs.YtfolmcpfdcgliaaGreat.B
open Go Go.Proofs
attribute [local irreducible] WL CS QS WQ WH WS Fn Op1 row Sat
attribute [local irreducible] slc diskA mapb
theorem append_new (b : ByteArray) : (b.size ≤ 400000 → (Disk.new b.size).append jLog b = (0, ⟨[(jLog, ⟨b, 0⟩)], b.size, b.size, 0, false⟩)) ∧ (400000 < b.size → ((Disk.new b.size).append jLog b).1 ≠ 0) := by
  have hn : Disk.new (b.size : Int) = ⟨[], (b.size : Int), 0, 0, false⟩ := new_is (by omega)
  constructor
  · intro h
    rw [hn, append_first (files := []) (by decide) (by decide) h (Int.le_refl _), noStr_cat, Int.zero_add]
  · intro h
    rw [hn]
    unfold Disk.append
    rw [if_neg (by simp), if_neg (by decide), if_pos (.inl (by simp [Disk.at, aget, noStr_size]; omega))]
    simp
theorem flat_total : ∀ {l : List ByteArray}, (∀ s ∈ l, s.size ≤ 4000) → (l.flatMap fun s => bs s).length ≤ l.length * 4000
  | [], _ => by simp
  | s :: l, h => by
    have h1 := flat_total (l := l) (fun x hx => h x (List.mem_cons_of_mem _ hx))
    have h2 := h s (List.mem_cons_self ..)
    have h3 := bs_len s
    rw [List.flatMap_cons, List.length_append, List.length_cons, Nat.succ_mul]
    generalize l.length * 4000 = m at h1 ⊢
    omega
def told1R (be bo : Nat) (s : ByteArray) (F : List SL) : Ending → List SL → Prop
  | .returned _, G' => ∃ e xs er A c, toldM (bs s) = (e, xs, er) ∧ G' = row bo 45 [.int .i64 e, .slice A xs.length c] :: row be 37 [.int .i64 er] :: slc entE 49 A c xs :: F
  | .panicked ch, G' => toldM (bs s) = (0, [], 2) ∧ ch = tornJ ∧ G' = row bo 45 [.int .i64 0, .slice none 0 0] :: row be 37 [.int .i64 0] :: F
  | .outgrown, _ => False
theorem cond14 {n : Int} {t : List ByteArray} : (n < 0 ∨ 14 < n ∨ (n ≠ 0 ∧ t ≠ [])) ∨ (0 ≤ n ∧ n ≤ 14 ∧ (n = 0 ∨ t = [])) := by
  by_cases h1 : n < 0
  · exact .inl (.inl h1)
  by_cases h2 : 14 < n
  · exact .inl (.inr (.inl h2))
  by_cases h3 : n = 0
  · exact .inr ⟨by omega, by omega, .inl h3⟩
  by_cases h4 : t = []
  · exact .inr ⟨by omega, by omega, .inr h4⟩
  · exact .inl (.inr (.inr ⟨h3, h4⟩))
set_option maxHeartbeats 8000000 in
theorem told1 (be bo ba : Nat) (s : ByteArray) (l : List ByteArray) (hl : splitP (bs s) = some l) (A : Option Addr) (c : Nat) (W0 : World) (F : List SL) :
    Fn Tryz.prog 160 [.slice A l.length c, .pointer (some ⟨be, 0, none⟩), .pointer (some ⟨ba, 0, none⟩), .pointer (some ⟨bo, 0, none⟩)] W0
      (slc strE 9 A c l :: row be 37 [.int .i64 0] :: row bo 45 [.int .i64 0, .slice none 0 0] :: row ba 9 [.string s] :: F) (told1R be bo s F) := by
  obtain ⟨hj, hjo⟩ := splitP_some hl
  obtain ⟨hl1, hl2⟩ := joinOk_iff.1 hjo
  refine Fn.fact (slc_cap (i := 0) rfl) fun hcap => ?_
  refine Fn.enter Tryz.func160 rfl Tryz.ntmps160 rfl ?_
  cases l with
  | nil =>
    have hT : toldM (bs s) = (0, [], 2) := by rw [toldM, hl]
    repeat' (first|refine bA ?_|refine bkq fun q=>?_|(refine bk2 ?_ ?_<;>(first|exact bkn|(refine bkk ?_;intro h))))
    refine WL.callP c55 rfl rfl rfl rfl (j_must false W0 _) (fun _ h => h) (fun _ _ h => absurd h.1 (by simp)) ?_
    rintro _ _ ⟨_, rfl, rfl⟩
    repeat' (first|refine bA ?_|refine bkq fun q=>?_|(refine bk2 ?_ ?_<;>(first|exact bkn|(refine bkk ?_;intro h))))
    exact QS.turn (G' := row bo 45 [.int .i64 0, .slice none 0 0] :: row be 37 [.int .i64 0] :: F) (fun w hs => (hs.drop.kick (i := 2) rfl).front (i := 1) rfl) (QS.panicV ⟨hT, rfl, rfl⟩)
  | cons hh t =>
    have hlen : (hh :: t).length = t.length + 1 := rfl
    have hd := hl2 hh (List.mem_cons_self ..)
    have hlt : (((hh :: t).length : Nat) : Int) = (t.length : Int) + 1 := by simp
    refine CS.seq ?_
    repeat' (first|refine bk ?_|refine bkc ?_|refine bkd ?_|refine bkq (fun q => ?_)|(refine bk2 ?_ ?_<;>(first|exact bkn|(refine bkk ?_;intro h))))
    refine WL.callP c55 rfl rfl rfl rfl (j_must (decide ((0 : Int) < ((hh :: t).length : Nat))) W0 _) (fun _ h => h) ?_ (fun _ _ h => absurd (of_decide_eq_false h.1) (by omega))
    rintro _ _ ⟨_, rfl, rfl⟩
    repeat' (first|refine bA ?_|refine bkq fun q=>?_|(refine bk2 ?_ ?_<;>(first|exact bkn|(refine bkk ?_;intro h))))
    refine WL.idx TT (Rd.slc (i := 0) rfl) rfl rfl rfl (by omega) (x := hh) rfl rfl rfl rfl rfl (fun bb o hA => ?_)
    refine WL.s (op1_at TT hA rfl rfl rfl rfl) rfl ?_
    refine WL.callP c56 rfl rfl rfl rfl (j_number hh (by omega) W0 _) (fun _ h => h) ?_ ?_
    rotate_left 1
    · rintro _ _ ⟨hn, rfl, rfl⟩
      have hT : toldM (bs s) = (0, [], 2) := by rw [toldM, hl]; simp only; rw [hn]
      repeat' (first|refine bA ?_|refine bkq fun q=>?_|(refine bk2 ?_ ?_<;>(first|exact bkn|(refine bkk ?_;intro h))))
      exact QS.turn (G' := row bo 45 [.int .i64 0, .slice none 0 0] :: row be 37 [.int .i64 0] :: F) (fun w hs => (hs.drop.kick (i := 2) rfl).front (i := 1) rfl) (QS.panicV ⟨hT, rfl, rfl⟩)
    rintro _ _ ⟨⟨n, hn, rfl⟩, rfl⟩
    have hT0 : toldM (bs s) = if 0 ≤ n ∧ n ≤ 14 ∧ (n = 0 ∨ t = []) then
        (if t = [] then (0, [], n) else match parseP (t.flatMap fun x => bs x) with
          | some (e, xs, r) => if r = [] ∧ toldB e xs = bs s then (e, xs, 0) else (0, [], 2)
          | none => (0, [], 2))
      else (0, [], 2) := by rw [toldM, hl]; simp only; rw [hn]; rfl
    have htl : t = [] ↔ t.length = 0 := List.length_eq_zero_iff.symm
    rcases cond14 (n := n) (t := t) with hc | ⟨hc1, hc2, hc3⟩
    · have hT : toldM (bs s) = (0, [], 2) := by
        rw [hT0, if_neg (fun e => by
          rcases hc with h | h | ⟨h1, h2⟩
          · omega
          · omega
          · rcases e.2.2 with h | h
            · exact h1 h
            · exact h2 h)]
      repeat' (first|refine bA ?_|refine bkq fun q=>?_|(refine bk2 ?_ ?_<;>(first|exact bkn|(refine bkk ?_;intro h))))
      rotate_left 1
      iterate 2 (
        · refine WL.callP c55 rfl rfl rfl rfl (j_must false W0 _) (fun _ h => h) (fun _ _ h => absurd h.1 (by simp)) ?_
          rintro _ _ ⟨_, rfl, rfl⟩
          repeat' (first|refine bA ?_|refine bkq fun q=>?_|(refine bk2 ?_ ?_<;>(first|exact bkn|(refine bkk ?_;intro h))))
          exact QS.turn (G' := row bo 45 [.int .i64 0, .slice none 0 0] :: row be 37 [.int .i64 0] :: F) (fun w hs => (hs.drop.kick (i := 2) rfl).front (i := 1) rfl) (QS.panicV ⟨hT, rfl, rfl⟩))
      have ht1 : 0 < t.length := by
        rcases hc with h | h | ⟨_, h⟩
        · omega
        · omega
        · exact List.length_pos_iff.2 h
      refine WL.callP c55 rfl rfl rfl rfl (j_must (decide (((hh :: t).length : Int) = 1)) W0 _) (fun _ h => h) (fun _ _ h => absurd (of_decide_eq_true h.1) (by omega)) ?_
      rintro _ _ ⟨_, rfl, rfl⟩
      repeat' (first|refine bA ?_|refine bkq fun q=>?_|(refine bk2 ?_ ?_<;>(first|exact bkn|(refine bkk ?_;intro h))))
      exact QS.turn (G' := row bo 45 [.int .i64 0, .slice none 0 0] :: row be 37 [.int .i64 0] :: F) (fun w hs => (hs.drop.kick (i := 2) rfl).front (i := 1) rfl) (QS.panicV ⟨hT, rfl, rfl⟩)
    · by_cases ht : t = []
      · subst ht
        rw [if_pos ⟨hc1, hc2, hc3⟩, if_pos rfl] at hT0
        repeat' (first|refine bA ?_|refine bkq fun q=>?_|(refine bk2 ?_ ?_<;>(first|exact bkn|(refine bkk ?_;intro h))))
        all_goals
          refine WL.callP c55 rfl rfl rfl rfl (j_must true W0 _) (fun _ h => h) ?_ (fun _ _ h => absurd h.1 (by simp))
          rintro _ _ ⟨_, rfl, rfl⟩
          repeat' (first|refine bA ?_|refine bkq fun q=>?_|(refine bk2 ?_ ?_<;>(first|exact bkn|(refine bkk ?_;intro h))))
          exact QS.turn (G' := row bo 45 [.int .i64 0, .slice none 0 0] :: row be 37 [.int .i64 n] :: slc entE 49 none 0 ([] : List Ent) :: F) (fun w hs => (((hs.drop.kick (i := 2) rfl).slcNil entE 49).front (i := 1) rfl).front (i := 2) rfl) (QS.retV Tryz.results160 rfl ⟨0, [], n, none, 0, hT0, rfl⟩)
      · have hn0 : n = 0 := hc3.resolve_right ht
        subst hn0
        have ht1 : 0 < t.length := List.length_pos_iff.2 ht
        rw [if_pos ⟨hc1, hc2, hc3⟩, if_neg ht] at hT0
        obtain ⟨b, hb⟩ : ∃ b, b = mk (t.flatMap fun x => bs x) := ⟨_, rfl⟩
        have hbb : bs b = t.flatMap fun x => bs x := by rw [hb, bs_mk]
        have hbl := flat_total (l := t) (fun x hx => hl2 x (List.mem_cons_of_mem _ hx))
        have hbz : b.size ≤ 4000000 := by
          have h1 : t.length * 4000 ≤ 1000 * 4000 := Nat.mul_le_mul_right _ (by omega)
          rw [← bs_len, hbb]
          exact Nat.le_trans hbl h1
        rw [← hbb] at hT0
        repeat' (first|refine bA ?_|refine bkq fun q=>?_|(refine bk2 ?_ ?_<;>(first|exact bkn|(refine bkk ?_;intro h))))
        refine WL.callP c55 rfl rfl rfl rfl (j_must true W0 _) (fun _ h => h) ?_ (fun _ _ h => absurd h.1 (by simp))
        rintro _ _ ⟨_, rfl, rfl⟩
        repeat' (first|refine bA ?_|refine bkq fun q=>?_|(refine bk2 ?_ ?_<;>(first|exact bkn|(refine bkk ?_;intro h))))
        refine WL.s (op1_sliceS TT (E := strE) (xs := hh :: t) (l := 1) (r := ((hh :: t).length : Nat)) rfl rfl rfl rfl rfl rfl rfl ⟨by omega, by omega, by omega⟩ hcap) rfl ?_
        repeat' (first|refine bA ?_|refine bkq fun q=>?_|(refine bk2 ?_ ?_<;>(first|exact bkn|(refine bkk ?_;intro h))))
        have hR1 := (Rd.slc (W0 := W0) (E := strE) (t := 9) (A := A) (c := c) (xs := hh :: t) (G := slc strE 9 A c (hh :: t) :: row be 37 [.int .i64 0] :: row bo 45 [.int .i64 0, .slice none 0 0] :: row ba 9 [.string s] :: F) (i := 0) rfl).part (l := 1) (r := (hh :: t).length) (Nat.le_refl _) hcap
        rw [List.take_length, List.drop_succ_cons, List.drop_zero] at hR1
        refine WL.call c161 rfl rfl rfl rfl (strings_Join _ _ _ t (by simp) (by simp only [Int.toNat_natCast]; omega) (by rw [← hbb, bs_len]; omega) (by omega) W0 _ hR1) ?_
        rintro _ _ ⟨rfl, rfl⟩
        rw [← hb]
        repeat' (first|refine bA ?_|refine bkq fun q=>?_|(refine bk2 ?_ ?_<;>(first|exact bkn|(refine bkk ?_;intro h))))
        refine WL.call c28 rfl rfl rfl rfl (disk_New _ W0 _) ?_
        rintro _ _ ⟨bd, rfl, rfl⟩
        repeat' (first|refine bA ?_|refine bkq fun q=>?_|(refine bk2 ?_ ?_<;>(first|exact bkn|(refine bkk ?_;intro h))))
        obtain ⟨ha1, ha2⟩ := append_new b
        refine WL.call c148 rfl rfl rfl rfl (disk_Append bd _ (new_ok _ (by omega)) jLog b (by omega) W0 _) ?_
        rintro _ _ ⟨rfl, rfl⟩
        have hbad : ∀ {P1 : Prop}, 400000 < b.size → toldM (bs s) = (0, [], 2) := fun hbig => by
          rw [hT0]
          cases hp : parseP (bs b) with
          | none => rfl
          | some q =>
            obtain ⟨e, xs, r⟩ := q
            simp only
            rw [if_neg]
            rintro ⟨rfl, _⟩
            obtain ⟨h1, h2⟩ := parseP_some hp
            have := logB_small h1
            have h3 := congrArg List.length h2
            rw [List.append_nil, bs_len] at h3
            omega
        by_cases hbig : 400000 < b.size
        · repeat' (first|refine bA ?_|refine bkq fun q=>?_|(refine bk2 ?_ ?_<;>(first|exact bkn|(refine bkk ?_;intro h))))
          refine WL.callP c55 rfl rfl rfl rfl (j_must (decide (((Disk.new b.size).append jLog b).1 = 0)) W0 _) (fun _ h => h) (fun _ _ h => absurd (of_decide_eq_true h.1) (ha2 hbig)) ?_
          rintro _ _ ⟨_, rfl, rfl⟩
          repeat' (first|refine bA ?_|refine bkq fun q=>?_|(refine bk2 ?_ ?_<;>(first|exact bkn|(refine bkk ?_;intro h))))
          exact QS.turn (G' := row bo 45 [.int .i64 0, .slice none 0 0] :: row be 37 [.int .i64 0] :: F) (fun w hs => (hs.drop.drop.kick (i := 2) rfl).front (i := 1) rfl) (QS.panicV ⟨hbad (P1 := True) hbig, rfl, rfl⟩)
        rw [ha1 (by omega)]
        repeat' (first|refine bA ?_|refine bkq fun q=>?_|(refine bk2 ?_ ?_<;>(first|exact bkn|(refine bkk ?_;intro h))))
        refine WL.callP c55 rfl rfl rfl rfl (j_must true W0 _) (fun _ h => h) ?_ (fun _ _ h => absurd h.1 (by simp))
        rintro _ _ ⟨_, rfl, rfl⟩
        repeat' (first|refine bA ?_|refine bkq fun q=>?_|(refine bk2 ?_ ?_<;>(first|exact bkn|(refine bkk ?_;intro h))))
        have hrd : (⟨[(jLog, ⟨b, 0⟩)], (b.size : Int), (b.size : Int), 0, false⟩ : Disk).read jLog = (b, 0) := read_one
        refine WL.call c65 rfl rfl rfl rfl (log_Load bd _ jLog (by rw [hrd]; simp only; omega) W0 _) ?_
        rw [hrd]
        simp only
        rw [loadM, if_pos rfl]
        cases hp : parseP (bs b) with
        | none =>
          have hT : toldM (bs s) = (0, [], 2) := by rw [hT0, hp]
          rintro _ _ ⟨A4, c4, rfl, rfl⟩
          repeat' (first|refine bN ?_|refine bkq fun q=>?_|(refine bk2 ?_ ?_<;>(first|exact bkn|(refine bkk ?_;intro h))))
          refine CS.drawT 10 mixed (by kernel_rfl) rfl ?_
          repeat' (first|refine bk ?_|refine bkc ?_|refine bks ?_|refine bkd ?_|refine bkh ?_|refine bkq (fun q => ?_)|((first|refine bk2 ?_ ?_|refine bk2h ?_ ?_)<;>(first|exact bkn|(refine bkk ?_;intro h))))
          refine WL.callP c55 rfl rfl rfl rfl (j_must false W0 _) (fun _ h => h) (fun _ _ h => absurd h.1 (by simp)) ?_
          rintro _ _ ⟨_, rfl, rfl⟩
          repeat' (first|refine bA ?_|refine bkq fun q=>?_|(refine bk2 ?_ ?_<;>(first|exact bkn|(refine bkk ?_;intro h))))
          exact QS.turn (G' := row bo 45 [.int .i64 0, .slice none 0 0] :: row be 37 [.int .i64 0] :: F) (fun w hs => (hs.drop.drop.drop.drop.kick (i := 2) rfl).front (i := 1) rfl) (QS.panicV ⟨hT, rfl, rfl⟩)
        | some q =>
          obtain ⟨e, xs, r⟩ := q
          rw [hp] at hT0
          simp only at hT0 ⊢
          by_cases hr : r = []
          · subst hr
            rw [decide_eq_true (rfl : ([] : List UInt8) = [])]
            rintro _ _ ⟨A4, c4, rfl, rfl⟩
            repeat' (first|refine bN ?_|refine bkq fun q=>?_|(refine bk2 ?_ ?_<;>(first|exact bkn|(refine bkk ?_;intro h))))
            refine CS.drawT 10 mixed (by kernel_rfl) rfl ?_
            repeat' (first|refine bk ?_|refine bkc ?_|refine bks ?_|refine bkd ?_|refine bkh ?_|refine bkq (fun q => ?_)|((first|refine bk2 ?_ ?_|refine bk2h ?_ ?_)<;>(first|exact bkn|(refine bkk ?_;intro h))))
            refine WH.call c60 rfl rfl rfl rfl (j_told e A4 _ c4 xs rfl W0 _ (Rd.slc (i := 1) rfl)) ?_
            repeat' (first|refine bk ?_|refine bkc ?_|refine bks ?_|refine bkd ?_|refine bkh ?_|refine bkq (fun q => ?_)|((first|refine bk2 ?_ ?_|refine bk2h ?_ ?_)<;>(first|exact bkn|(refine bkk ?_;intro h))))
            refine WL.callP c55 rfl rfl rfl rfl (j_must (decide (mk (toldB e xs) = s)) W0 _) (fun _ h => h) ?_ ?_
            · rintro _ _ ⟨hb, rfl, rfl⟩
              have hts : toldB e xs = bs s := by have := congrArg bs (of_decide_eq_true hb); rwa [bs_mk] at this
              rw [if_pos ⟨rfl, hts⟩] at hT0
              repeat' (first|refine bA ?_|refine bkq fun q=>?_|(refine bk2 ?_ ?_<;>(first|exact bkn|(refine bkk ?_;intro h))))
              exact QS.turn (G' := row bo 45 [.int .i64 e, .slice A4 xs.length c4] :: row be 37 [.int .i64 0] :: slc entE 49 A4 c4 xs :: F) (fun w hs => ((((hs.drop.kick (i := 1) rfl).kick (i := 1) rfl).kick (i := 3) rfl).front (i := 1) rfl).front (i := 2) rfl) (QS.endV Tryz.results160 rfl ⟨e, xs, 0, A4, c4, hT0, rfl⟩)
            · rintro _ _ ⟨hb, rfl, rfl⟩
              have hts : ¬ toldB e xs = bs s := fun e => of_decide_eq_false hb (by rw [e, mk_bs])
              rw [if_neg (fun e => hts e.2)] at hT0
              repeat' (first|refine bA ?_|refine bkq fun q=>?_|(refine bk2 ?_ ?_<;>(first|exact bkn|(refine bkk ?_;intro h))))
              exact QS.turn (G' := row bo 45 [.int .i64 0, .slice none 0 0] :: row be 37 [.int .i64 0] :: F) (fun w hs => (hs.drop.drop.drop.drop.kick (i := 2) rfl).front (i := 1) rfl) (QS.panicV ⟨hT0, rfl, rfl⟩)
          · rw [decide_eq_false hr]
            rw [if_neg (fun e => hr e.1)] at hT0
            rintro _ _ ⟨A4, c4, rfl, rfl⟩
            repeat' (first|refine bN ?_|refine bkq fun q=>?_|(refine bk2 ?_ ?_<;>(first|exact bkn|(refine bkk ?_;intro h))))
            refine CS.drawT 10 mixed (by kernel_rfl) rfl ?_
            repeat' (first|refine bk ?_|refine bkc ?_|refine bks ?_|refine bkd ?_|refine bkh ?_|refine bkq (fun q => ?_)|((first|refine bk2 ?_ ?_|refine bk2h ?_ ?_)<;>(first|exact bkn|(refine bkk ?_;intro h))))
            refine WL.callP c55 rfl rfl rfl rfl (j_must false W0 _) (fun _ h => h) (fun _ _ h => absurd h.1 (by simp)) ?_
            rintro _ _ ⟨_, rfl, rfl⟩
            repeat' (first|refine bA ?_|refine bkq fun q=>?_|(refine bk2 ?_ ?_<;>(first|exact bkn|(refine bkk ?_;intro h))))
            exact QS.turn (G' := row bo 45 [.int .i64 0, .slice none 0 0] :: row be 37 [.int .i64 0] :: F) (fun w hs => (hs.drop.drop.drop.drop.kick (i := 2) rfl).front (i := 1) rfl) (QS.panicV ⟨hT0, rfl, rfl⟩)
set_option maxHeartbeats 2000000 in
theorem j_Told (s : ByteArray) (hs : s.size ≤ 9223372036854775807) (W0 : World) (G : List SL) :
    Fn Tryz.prog 120 [.string s] W0 G (Ret fun v G' => ∃ A c, v = .tuple #[logV (toldM (bs s)).1 A (toldM (bs s)).2.1.length c, .int .i64 (toldM (bs s)).2.2] ∧ G' = slc entE 49 A c (toldM (bs s)).2.1 :: G) := by
  refine Fn.enter Tryz.func120 rfl Tryz.ntmps120 rfl ?_
  repeat' (first|refine bA ?_|refine bkq fun q=>?_|(refine bk2 ?_ ?_<;>(first|exact bkn|(refine bkk ?_;intro h))))
  rename_i ba bo
  revert q
  intro be
  refine WL.call c53 rfl rfl rfl rfl (j_read (cap := [.pointer (some ⟨be, 0, none⟩), .pointer (some ⟨ba, 0, none⟩), .pointer (some ⟨bo, 0, none⟩)]) c160 s hs W0 _ (fun _ => told1R be bo s G)
    (fun v G' => (v = .bool true ∧ ∃ e xs er A c, toldM (bs s) = (e, xs, er) ∧ G' = row bo 45 [.int .i64 e, .slice A xs.length c] :: row be 37 [.int .i64 er] :: slc entE 49 A c xs :: G) ∨
      (v = .bool false ∧ toldM (bs s) = (0, [], 2) ∧ (G' = row bo 45 [.int .i64 0, .slice none 0 0] :: row be 37 [.int .i64 0] :: G ∨ G' = row be 37 [.int .i64 0] :: row bo 45 [.int .i64 0, .slice none 0 0] :: row ba 9 [.string s] :: G)))
    (fun l A c hl => told1 be bo ba s l hl A c W0 G) (fun _ _ h => h) (fun l v G' _ h => .inl ⟨rfl, h⟩) (fun l ch G' _ h => ⟨h.2.1, .inr ⟨rfl, h.1, .inl h.2.2⟩⟩) (fun hn => .inr ⟨rfl, by rw [toldM, hn], .inr rfl⟩)) ?_
  rintro _ G2 (⟨rfl, e, xs, er, A, c, hT, rfl⟩ | ⟨rfl, hT, rfl | rfl⟩)
  · rw [hT]
    repeat' (first|refine bN ?_|refine bkq fun q=>?_|(refine bk2 ?_ ?_<;>(first|exact bkn|(refine bkk ?_;intro h))))
    refine CS.draw mixed (by kernel_rfl) ?_
    repeat' (first|refine bA ?_|refine bkq fun q=>?_|(refine bk2 ?_ ?_<;>(first|exact bkn|(refine bkk ?_;intro h))))
    refine WQ.storeSame TT 0 rfl rfl rfl rfl rfl rfl rfl rfl ?_
    repeat' (first|refine bA ?_|refine bkq fun q=>?_|(refine bk2 ?_ ?_<;>(first|exact bkn|(refine bkk ?_;intro h))))
    refine WQ.storeSame TT 1 rfl rfl rfl rfl rfl rfl rfl rfl ?_
    repeat' (first|refine bA ?_|refine bkq fun q=>?_|(refine bk2 ?_ ?_<;>(first|exact bkn|(refine bkk ?_;intro h))))
    refine QS.turnR (G2 := slc entE 49 A c xs :: G) (fun w hs => hs.drop.drop) ?_
    exact QS.retG (T := TT) Tryz.results120 (.cell 0 rfl rfl rfl (.cell 1 rfl rfl rfl .nil)) ⟨rfl, A, c, rfl, rfl⟩
  · rw [hT]
    repeat' (first|refine bA ?_|refine bkq fun q=>?_|(refine bk2 ?_ ?_<;>(first|exact bkn|(refine bkk ?_;intro h))))
    refine QS.turn (G' := slc entE 49 none 0 ([] : List Ent) :: row bo 45 [.int .i64 0, .slice none 0 0] :: row be 37 [.int .i64 2] :: G) (fun w hs => hs.slcNil _ _) ?_
    refine QS.turnR (G2 := slc entE 49 none 0 ([] : List Ent) :: G) (fun w hs => (hs.kick (i := 1) rfl).kick (i := 1) rfl) ?_
    exact QS.retG (T := TT) Tryz.results120 (.cell 1 rfl rfl rfl (.cell 2 rfl rfl rfl .nil)) ⟨rfl, none, 0, rfl, rfl⟩
  · rw [hT]
    repeat' (first|refine bA ?_|refine bkq fun q=>?_|(refine bk2 ?_ ?_<;>(first|exact bkn|(refine bkk ?_;intro h))))
    refine QS.turn (G' := slc entE 49 none 0 ([] : List Ent) :: row be 37 [.int .i64 2] :: row bo 45 [.int .i64 0, .slice none 0 0] :: G) (fun w hs => (hs.kick (i := 2) rfl).slcNil _ _) ?_
    refine QS.turnR (G2 := slc entE 49 none 0 ([] : List Ent) :: G) (fun w hs => (hs.kick (i := 1) rfl).kick (i := 1) rfl) ?_
    exact QS.retG (T := TT) Tryz.results120 (.cell 2 rfl rfl rfl (.cell 1 rfl rfl rfl .nil)) ⟨rfl, none, 0, rfl, rfl⟩
end Go.Proofs.YtfolmcpfdcgliaaGreat.B

namespace Go.Proofs.YtfolmcpfdcgliaaGreat.B
open Go Go.Proofs
open Go.Shelf
def it_keys102_ren : Go.Shelf.Ren := ⟨fun | 7 => 102 | 10 => 144 | n => n, fun | 23 => 133 | 26 => 9 | 3 => 138 | 28 => 190 | 0 => 0 | 27 => 189 | 33 => 237 | 4 => 4 | n => n, fun | n => n⟩
theorem it_keys102 : Go.Proofs.SlLaysZ.n7 Tryz.prog it_keys102_ren := {
  mixed := by kernel_rfl
  f7 := ⟨Tryz.f102.name, by decide, Tryz.func102.trans (congrArg some (by kernel_rfl))⟩
  f10 := ⟨Tryz.f144.name, by decide, Tryz.func144.trans (congrArg some (by kernel_rfl))⟩
  t0 := Tryz.underlying0
  a0 := Tryz.isAgg0
  z0 := Tryz.sizeOf0
  v0 := Tryz.zeroValue0
  t4 := Tryz.underlying4
  a4 := Tryz.isAgg4
  z4 := Tryz.sizeOf4
  v4 := Tryz.zeroValue4
  t23 := Tryz.underlying133
  a23 := Tryz.isAgg133
  z23 := Tryz.sizeOf133
  v23 := Tryz.zeroValue133
  t26 := Tryz.underlying9
  a26 := Tryz.isAgg9
  z26 := Tryz.sizeOf9
  v26 := Tryz.zeroValue9
  t27 := Tryz.underlying189
  a27 := Tryz.isAgg189
  z27 := Tryz.sizeOf189
  v27 := Tryz.zeroValue189
  t28 := Tryz.underlying190
  a28 := Tryz.isAgg190
  z28 := Tryz.sizeOf190
  v28 := Tryz.zeroValue190
  t33 := Tryz.underlying237
  a33 := Tryz.isAgg237
  z33 := Tryz.sizeOf237
  v33 := Tryz.zeroValue237 }
def it_sorted101_ren : Go.Shelf.Ren := ⟨fun | 6 => 101 | 8 => 142 | 9 => 143 | 11 => 177 | 13 => 123 | 12 => 178 | 23 => 172 | 24 => 173 | 14 => 194 | 15 => 195 | 16 => 196 | 17 => 197 | 18 => 198 | 19 => 199 | 20 => 200 | 21 => 201 | 22 => 202 | 25 => 205 | 26 => 188 | 27 => 189 | 28 => 206 | 29 => 207 | 30 => 208 | 31 => 210 | n => n, fun | 26 => 9 | 28 => 190 | 24 => 43 | 0 => 0 | 3 => 3 | 37 => 197 | 48 => 194 | 50 => 196 | 4 => 4 | 40 => 250 | 39 => 249 | 45 => 154 | 5 => 5 | 9 => 9 | 51 => 264 | 55 => 268 | 57 => 279 | 58 => 280 | 33 => 237 | n => n, fun | n => n⟩
theorem it_sorted101 : Go.Proofs.SlLaysZ.n6 Tryz.prog it_sorted101_ren := {
  mixed := by kernel_rfl
  f6 := ⟨Tryz.f101.name, by decide, Tryz.func101.trans (congrArg some (by kernel_rfl))⟩
  f8 := ⟨Tryz.f142.name, by decide, Tryz.func142.trans (congrArg some (by kernel_rfl))⟩
  f11 := ⟨Tryz.f177.name, by decide, Tryz.func177.trans (congrArg some (by kernel_rfl))⟩
  t0 := Tryz.underlying0
  a0 := Tryz.isAgg0
  z0 := Tryz.sizeOf0
  v0 := Tryz.zeroValue0
  t24 := Tryz.underlying43
  a24 := Tryz.isAgg43
  z24 := Tryz.sizeOf43
  v24 := Tryz.zeroValue43
  t26 := Tryz.underlying9
  a26 := Tryz.isAgg9
  z26 := Tryz.sizeOf9
  v26 := Tryz.zeroValue9
  t28 := Tryz.underlying190
  a28 := Tryz.isAgg190
  z28 := Tryz.sizeOf190
  v28 := Tryz.zeroValue190
  i26 := by kernel_rfl }
def it_sort143_ren : Go.Shelf.Ren := ⟨fun | 6 => 143 | 8 => 123 | 9 => 178 | 19 => 172 | 20 => 173 | 21 => 194 | 22 => 195 | 23 => 196 | 24 => 197 | 25 => 198 | 26 => 199 | 27 => 200 | 28 => 201 | 29 => 202 | 36 => 205 | 31 => 188 | 32 => 189 | 37 => 206 | 38 => 207 | 39 => 208 | 41 => 210 | n => n, fun | 27 => 43 | 29 => 9 | 3 => 3 | 32 => 197 | 26 => 43 | 0 => 0 | 44 => 194 | 46 => 196 | 4 => 4 | 36 => 250 | 35 => 249 | 41 => 154 | 5 => 5 | 9 => 9 | 53 => 264 | 57 => 268 | 63 => 279 | 64 => 280 | n => n, fun | n => n⟩
theorem it_sort143 : Go.Proofs.SlLaysM.n6 Tryz.prog it_sort143_ren := {
  mixed := by kernel_rfl
  f6 := ⟨Tryz.f143.name, by decide, Tryz.func143.trans (congrArg some (by kernel_rfl))⟩
  f8 := Tryz.func123.trans (congrArg some (by kernel_rfl))
  f9 := ⟨Tryz.f178.name, by decide, Tryz.func178.trans (congrArg some (by kernel_rfl))⟩
  f19 := Tryz.func172.trans (congrArg some (by kernel_rfl))
  f20 := Tryz.func173.trans (congrArg some (by kernel_rfl))
  f21 := ⟨Tryz.f194.name, by decide, Tryz.func194.trans (congrArg some (by kernel_rfl))⟩
  f22 := ⟨Tryz.f195.name, by decide, Tryz.func195.trans (congrArg some (by kernel_rfl))⟩
  f23 := ⟨Tryz.f196.name, by decide, Tryz.func196.trans (congrArg some (by kernel_rfl))⟩
  f24 := ⟨Tryz.f197.name, by decide, Tryz.func197.trans (congrArg some (by kernel_rfl))⟩
  f25 := ⟨Tryz.f198.name, by decide, Tryz.func198.trans (congrArg some (by kernel_rfl))⟩
  f26 := ⟨Tryz.f199.name, by decide, Tryz.func199.trans (congrArg some (by kernel_rfl))⟩
  f27 := ⟨Tryz.f200.name, by decide, Tryz.func200.trans (congrArg some (by kernel_rfl))⟩
  f28 := ⟨Tryz.f201.name, by decide, Tryz.func201.trans (congrArg some (by kernel_rfl))⟩
  f29 := ⟨Tryz.f202.name, by decide, Tryz.func202.trans (congrArg some (by kernel_rfl))⟩
  f31 := Tryz.func188.trans (congrArg some (by kernel_rfl))
  f32 := Tryz.func189.trans (congrArg some (by kernel_rfl))
  f36 := ⟨Tryz.f205.name, by decide, Tryz.func205.trans (congrArg some (by kernel_rfl))⟩
  f37 := ⟨Tryz.f206.name, by decide, Tryz.func206.trans (congrArg some (by kernel_rfl))⟩
  f38 := ⟨Tryz.f207.name, by decide, Tryz.func207.trans (congrArg some (by kernel_rfl))⟩
  f39 := ⟨Tryz.f208.name, by decide, Tryz.func208.trans (congrArg some (by kernel_rfl))⟩
  f41 := ⟨Tryz.f210.name, by decide, Tryz.func210.trans (congrArg some (by kernel_rfl))⟩
  t0 := Tryz.underlying0
  a0 := Tryz.isAgg0
  z0 := Tryz.sizeOf0
  v0 := Tryz.zeroValue0
  t3 := Tryz.underlying3
  a3 := Tryz.isAgg3
  z3 := Tryz.sizeOf3
  v3 := Tryz.zeroValue3
  t4 := Tryz.underlying4
  a4 := Tryz.isAgg4
  z4 := Tryz.sizeOf4
  v4 := Tryz.zeroValue4
  t5 := Tryz.underlying5
  a5 := Tryz.isAgg5
  z5 := Tryz.sizeOf5
  v5 := Tryz.zeroValue5
  t9 := Tryz.underlying9
  a9 := Tryz.isAgg9
  z9 := Tryz.sizeOf9
  v9 := Tryz.zeroValue9
  t26 := Tryz.underlying43
  a26 := Tryz.isAgg43
  z26 := Tryz.sizeOf43
  v26 := Tryz.zeroValue43
  t27 := Tryz.underlying43
  a27 := Tryz.isAgg43
  z27 := Tryz.sizeOf43
  v27 := Tryz.zeroValue43
  t29 := Tryz.underlying9
  a29 := Tryz.isAgg9
  z29 := Tryz.sizeOf9
  v29 := Tryz.zeroValue9
  t32 := Tryz.underlying197
  a32 := Tryz.isAgg197
  z32 := Tryz.sizeOf197
  v32 := Tryz.zeroValue197
  t35 := Tryz.underlying249
  a35 := Tryz.isAgg249
  z35 := Tryz.sizeOf249
  v35 := Tryz.zeroValue249
  t36 := Tryz.underlying250
  a36 := Tryz.isAgg250
  z36 := Tryz.sizeOf250
  v36 := Tryz.zeroValue250
  t41 := Tryz.underlying154
  a41 := Tryz.isAgg154
  z41 := Tryz.sizeOf154
  v41 := Tryz.zeroValue154
  t44 := Tryz.underlying194
  a44 := Tryz.isAgg194
  z44 := Tryz.sizeOf194
  v44 := Tryz.zeroValue194
  t46 := Tryz.underlying196
  a46 := Tryz.isAgg196
  z46 := Tryz.sizeOf196
  v46 := Tryz.zeroValue196
  t53 := Tryz.underlying264
  a53 := Tryz.isAgg264
  z53 := Tryz.sizeOf264
  v53 := Tryz.zeroValue264
  t57 := Tryz.underlying268
  a57 := Tryz.isAgg268
  z57 := Tryz.sizeOf268
  v57 := Tryz.zeroValue268
  t63 := Tryz.underlying279
  a63 := Tryz.isAgg279
  z63 := Tryz.sizeOf279
  v63 := Tryz.zeroValue279
  t64 := Tryz.underlying280
  a64 := Tryz.isAgg280
  z64 := Tryz.sizeOf280
  v64 := Tryz.zeroValue280 }
open Go.RowKit Go.Maps Go.Sort Go.Shelf
theorem it_sorts101 (m : Nat) : AnyZ.SortsIn Tryz.prog it_sorted101_ren Fence.wide m :=
  ⟨fun blk off cap ss W hH hblk hsz => callsIn_wide.2 (AnyM.slices_Sort_string it_sort143 blk off cap ss W hH hblk hsz),
   fun p cap W => callsIn_wide.2 (AnyM.slices_Sort_string_none it_sort143 p cap W)⟩
theorem it_maps_Keys_102 (mb : Option Nat) (W : World) : CallsIn Fence.wide 5 Tryz.prog 102 #[.map mb] W fun e w' => e = .returned (.func (.func 144) #[] #[.pointer (some ⟨W.heap.size, 0, none⟩)]) ∧ w' = W.alloc (.cells #[.map mb] 133) :=
  AnyZ.keys_in it_keys102 Fence.wide 5 trivial rfl mb W
end Go.Proofs.YtfolmcpfdcgliaaGreat.B
