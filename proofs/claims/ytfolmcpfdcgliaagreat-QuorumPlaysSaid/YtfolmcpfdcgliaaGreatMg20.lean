import Derived.Test.YtfolmcpfdcgliaaGreatMg17
import Derived.Test.YtfolmcpfdcgliaaGreatMg19
set_option linter.unusedVariables false
set_option linter.unusedSimpArgs false
set_option maxRecDepth 8000
namespace Go.Proofs.YtfolmcpfdcgliaaGreat.B
open Go Go.Proofs
attribute [local irreducible] WL CS QS WQ WH WS Fn Op1 row Sat
def tornCh : List PanicEntry := [{ v := .iface 201 (.agg #[]), recovered := false }]
def openR (l : List UInt8) (G : List SL) : Ending → List SL → Prop
  | .returned v, G' => (∃ n x r, openP l = some (n, x, r) ∧ v = .tuple #[.int .i64 n, .string (mk x), .string (mk r)]) ∧ G' = G
  | .panicked ch, G' => openP l = none ∧ ch = tornCh ∧ G' = G
  | .outgrown, _ => False
set_option maxHeartbeats 1000000 in
theorem log_open (s : ByteArray) (hs : s.size ≤ 140737488355328) (W0 : World) (G : List SL) : Fn Tryz.prog 108 [.string s] W0 G (openR (bs s) G) := by
  refine Fn.enter Tryz.func108 rfl Tryz.ntmps108 rfl ?_
  repeat' (first|refine bA ?_|refine bkq fun q=>?_|(refine bk2 ?_ ?_<;>(first|exact bkn|(refine bkk ?_;intro h))))
  refine WL.call c63 rfl rfl rfl rfl (sum_Open s (by omega) W0 G) ?_
  rintro _ _ ⟨rfl, rfl⟩
  cases hO : openB (bs s) with
  | mk e p =>
    obtain ⟨x, r⟩ := p
    simp only [openV]
    have hP : openP (bs s) = if e = 0 then (match takeNum x with | some (n, x') => some (n, x', r) | none => none) else none := by rw [openP, hO]; rfl
    repeat' (first|refine bA ?_|refine bkq fun q=>?_|(refine bk2 ?_ ?_<;>(first|exact bkn|(refine bkk ?_;intro h))))
    · refine WL.s (op1_iface TT rfl rfl rfl) rfl ?_
      refine WL.panic rfl ?_
      repeat' (first|refine bA ?_|refine bkq fun q=>?_|(refine bk2 ?_ ?_<;>(first|exact bkn|(refine bkk ?_;intro h))))
      refine QS.panicV ⟨?_, rfl, rfl⟩
      rw [hP, if_neg (by assumption)]
    · have e0 : e = 0 := by omega
      subst e0
      obtain ⟨h1, h2⟩ := openB_ok hO
      have hx := congrArg List.length h1
      rw [List.length_append, bs_len] at hx
      refine WL.call c64 rfl rfl rfl rfl (wire_TakeNum (mk x) (by rw [mk_size]; omega) W0 _) ?_
      rintro _ _ ⟨rfl, rfl⟩
      rw [if_pos rfl] at hP
      rw [bs_mk]
      cases hT : takeNum x with
      | none =>
        rw [hT] at hP
        simp only at hP ⊢
        repeat' (first|refine bA ?_|refine bkq fun q=>?_|(refine bk2 ?_ ?_<;>(first|exact bkn|(refine bkk ?_;intro h))))
        refine WL.s (op1_iface TT rfl rfl rfl) rfl ?_
        refine WL.panic rfl ?_
        repeat' (first|refine bA ?_|refine bkq fun q=>?_|(refine bk2 ?_ ?_<;>(first|exact bkn|(refine bkk ?_;intro h))))
        exact QS.panicV ⟨hP, rfl, rfl⟩
      | some p =>
        obtain ⟨n, x'⟩ := p
        rw [hT] at hP
        simp only at hP ⊢
        repeat' (first|refine bA ?_|refine bkq fun q=>?_|(refine bk2 ?_ ?_<;>(first|exact bkn|(refine bkk ?_;intro h))))
        exact QS.retV Tryz.results108 rfl ⟨⟨n, x', r, hP, rfl⟩, rfl⟩
theorem try_deferred (u : FrameMode) (hu : u = .returning ∨ u = .panicking tornCh) (W0 : World) (G : List SL) : DefOk Tryz.prog { target := .fn (.func 145) #[], args := #[] } u W0 G := by
  refine ⟨.func 145, #[], 145, #[], rfl, fun w => c145.invoke w, fun w hs => ?_⟩
  refine callsD_of_wpS Tryz.func145 rfl fun c₀ cs hc => ?_
  rcases hu with rfl | rfl
  · apply wpS_seq
    refine wpS_region ?_
    refine recO_run (v := .nilIface) (cs' := c₀ :: cs) (by rw [Tryz.ntmps145]; decide) (.inr ⟨by simp [recoverD, hc], rfl, rfl⟩) ?_
    refine wpS_of_wp ?_
    refine CS.use (n := (Tryz.f145).ntmps) (ds := []) (L := [(0, .nilIface), (3, .nilIface)]) (W0 := W0) (G := G) ?_ (((Fr.start _).put (d := some 3) rfl).put (d := some 0) rfl) hs
    repeat' (first|refine bA ?_|refine bkq fun q=>?_|(refine bk2 ?_ ?_<;>(first|exact bkn|(refine bkk ?_;intro h))))
    refine WL.s (op1_nilIface TT rfl rfl) rfl ?_
    repeat' (first|refine bA ?_|refine bkq fun q=>?_|(refine bk2 ?_ ?_<;>(first|exact bkn|(refine bkk ?_;intro h))))
    exact QS.endS (u' := .returning) (.inl rfl) Tryz.results145 (by rw [← hc]) (fun w hs => ⟨⟨_, rfl⟩, rfl, hs⟩)
  · apply wpS_seq
    refine wpS_region ?_
    refine recO_run (v := .iface 201 (.agg #[])) (cs' := { c₀ with mode := .panicking [{ v := .iface 201 (.agg #[]), recovered := true }] } :: cs) (by rw [Tryz.ntmps145]; decide) (.inl (by simp [recoverD, hc, tornCh])) ?_
    refine wpS_of_wp ?_
    refine CS.use (n := (Tryz.f145).ntmps) (ds := []) (L := [(0, .iface 201 (.agg #[])), (3, .iface 201 (.agg #[]))]) (W0 := W0) (G := G) ?_ (((Fr.start _).put (d := some 3) rfl).put (d := some 0) rfl) hs
    repeat' (first|refine bA ?_|refine bkq fun q=>?_|(refine bk2 ?_ ?_<;>(first|exact bkn|(refine bkk ?_;intro h))))
    refine WL.s (op1_someIface TT rfl rfl) rfl ?_
    repeat' (first|refine bA ?_|refine bkq fun q=>?_|(refine bk2 ?_ ?_<;>(first|exact bkn|(refine bkk ?_;intro h))))
    refine WL.s (op1_assertOk TT rfl rfl rfl) rfl ?_
    repeat' (first|refine bA ?_|refine bkq fun q=>?_|(refine bk2 ?_ ?_<;>(first|exact bkn|(refine bkk ?_;intro h))))
    exact QS.turn (G' := G) (fun w hs => hs.drop) (QS.endS (u' := .panicking [{ v := .iface 201 (.agg #[]), recovered := true }]) (.inl rfl) Tryz.results145 rfl (fun w hs => ⟨⟨_, rfl⟩, rfl, hs⟩))
theorem log_try {K : Nat} {cap : List Value} (hK : Callable Tryz.prog K) (W0 : World) (G : List SL) (R : Ending → List SL → Prop) (R' : Value → List SL → Prop) (spec : Fn Tryz.prog K cap W0 G R) (hout : ∀ G', ¬ R .outgrown G')
    (hret : ∀ v G', R (.returned v) G' → R' (.bool true) G') (hpan : ∀ ch G', R (.panicked ch) G' → ch = tornCh ∧ R' (.bool false) G') :
    Fn Tryz.prog 106 [.func (.func K) #[] cap.toArray] W0 G (Ret R') := by
  refine Fn.enterD Tryz.func106 rfl Tryz.ntmps106 rfl ?_
  refine CS.seq ?_
  refine CS.region ?_
  repeat' (first|refine bk ?_|refine bkh ?_|refine bkw ?_|refine bkq (fun q => ?_)|((first|refine bk2 ?_ ?_|refine bk2h ?_ ?_)<;>(first|exact bkn|(refine bkk ?_;intro h))))
  refine QS.then ?_
  refine CS.seq ?_
  refine CS.region ?_
  refine WL.defer rfl ?_
  repeat' (first|refine bA ?_|refine bkq fun q=>?_|(refine bk2 ?_ ?_<;>(first|exact bkn|(refine bkk ?_;intro h))))
  refine WL.callP (fst := []) (vs := []) (cap := cap) hK rfl rfl rfl rfl spec hout (fun v G' hR => ?_) (fun ch G' hR => ?_)
  · have h := hret _ _ hR
    repeat' (first|refine bA ?_|refine bkq fun q=>?_|(refine bk2 ?_ ?_<;>(first|exact bkn|(refine bkk ?_;intro h))))
    exact QS.retD Tryz.results106 rfl (try_deferred _ (.inl rfl) W0 G') h
  · obtain ⟨rfl, h⟩ := hpan _ _ hR
    repeat' (first|refine bA ?_|refine bkq fun q=>?_|(refine bk2 ?_ ?_<;>(first|exact bkn|(refine bkk ?_;intro h))))
    exact QS.panicD Tryz.results106 rfl (try_deferred _ (.inr rfl) W0 G') h
def load1R (bt bo bl : Nat) (s : ByteArray) (f : Bool) (e : Int) (sl : Value) (F : List SL) : Ending → List SL → Prop
  | .returned v, G' => ∃ n x r, openP (bs s) = some (n, x, r) ∧ G' = row bt 9 [.string (mk r)] :: row bo 4 [.bool (decide (x = [] ∧ 0 ≤ n ∧ n ≤ 9007199254740991))] :: row bl 45 [.int .i64 n, sl] :: F
  | .panicked ch, G' => openP (bs s) = none ∧ ch = tornCh ∧ G' = row bt 9 [.string s] :: row bo 4 [.bool f] :: row bl 45 [.int .i64 e, sl] :: F
  | .outgrown, _ => False
theorem mk_nil_iff {x : List UInt8} : mk x = ⟨#[]⟩ ↔ x = [] := ⟨fun h => congrArg bs h, fun h => by rw [h]⟩
set_option maxHeartbeats 1000000 in
theorem load1 (bt bo bl : Nat) (s : ByteArray) (hs : s.size ≤ 140737488355328) (f : Bool) (e : Int) (A : Option Addr) (k c : Nat) (W0 : World) (F : List SL) :
    Fn Tryz.prog 107 [.pointer (some ⟨bt, 0, none⟩), .pointer (some ⟨bo, 0, none⟩), .pointer (some ⟨bl, 0, none⟩)] W0 (row bt 9 [.string s] :: row bo 4 [.bool f] :: row bl 45 [.int .i64 e, .slice A k c] :: F) (load1R bt bo bl s f e (.slice A k c) F) := by
  refine Fn.enter Tryz.func107 rfl Tryz.ntmps107 rfl ?_
  repeat' (first|refine bA ?_|refine bkq fun q=>?_|(refine bk2 ?_ ?_<;>(first|exact bkn|(refine bkk ?_;intro h))))
  refine WL.callP c108 rfl rfl rfl rfl (log_open s hs W0 _) (fun _ h => h) ?_ ?_
  · rintro _ _ ⟨⟨n, x, r, h1, rfl⟩, rfl⟩
    repeat' (first|refine bA ?_|refine bkq fun q=>?_|(refine bk2 ?_ ?_<;>(first|exact bkn|(refine bkk ?_;intro h))))
    · refine QS.endV Tryz.results107 rfl ⟨n, x, r, h1, ?_⟩
      have hx := mk_nil_iff.1 ‹mk x = _›
      rw [show decide (x = [] ∧ 0 ≤ n ∧ n ≤ 9007199254740991) = decide (n ≤ 9007199254740991) from by simp [hx, h]]
    · refine QS.endV Tryz.results107 rfl ⟨n, x, r, h1, ?_⟩
      rw [show decide (x = [] ∧ 0 ≤ n ∧ n ≤ 9007199254740991) = false from decide_eq_false (fun e => h e.2.1)]
    · refine QS.endV Tryz.results107 rfl ⟨n, x, r, h1, ?_⟩
      rw [show decide (x = [] ∧ 0 ≤ n ∧ n ≤ 9007199254740991) = false from decide_eq_false (fun e => h (mk_nil_iff.2 e.1))]
  · rintro ch G' ⟨h1, rfl, rfl⟩
    repeat' (first|refine bA ?_|refine bkq fun q=>?_|(refine bk2 ?_ ?_<;>(first|exact bkn|(refine bkk ?_;intro h))))
    exact QS.panicV ⟨h1, rfl, rfl⟩
def load2R (bt bl : Nat) (s : ByteArray) (e : Int) (A : Option Addr) (c : Nat) (xs : List Ent) (F : List SL) : Ending → List SL → Prop
  | .returned v, G' => ∃ x r A' c', takeEnt xs.length (bs s) = some (x, r) ∧ G' = row bt 9 [.string (mk r)] :: row bl 45 [.int .i64 e, .slice A' (xs ++ [x]).length c'] :: slc entE 49 A' c' (xs ++ [x]) :: F
  | .panicked ch, G' => takeEnt xs.length (bs s) = none ∧ ch = tornCh ∧ G' = row bt 9 [.string s] :: row bl 45 [.int .i64 e, .slice A xs.length c] :: slc entE 49 A c xs :: F
  | .outgrown, _ => False
theorem flat_ent (x : Ent) : flat entE [x] = [.int .i64 x.n, .string x.s] := rfl
set_option maxHeartbeats 1000000 in
theorem load2 (bt bl : Nat) (s : ByteArray) (hs : s.size ≤ 140737488355328) (e : Int) (A : Option Addr) (c : Nat) (xs : List Ent) (hx : xs.length ≤ 300) (W0 : World) (F : List SL) :
    Fn Tryz.prog 109 [.pointer (some ⟨bt, 0, none⟩), .pointer (some ⟨bl, 0, none⟩)] W0 (row bt 9 [.string s] :: row bl 45 [.int .i64 e, .slice A xs.length c] :: slc entE 49 A c xs :: F) (load2R bt bl s e A c xs F) := by
  refine Fn.enter Tryz.func109 rfl Tryz.ntmps109 rfl ?_
  repeat' (first|refine bA ?_|refine bkq fun q=>?_|(refine bk2 ?_ ?_<;>(first|exact bkn|(refine bkk ?_;intro h))))
  refine WL.callP c108 rfl rfl rfl rfl (log_open s hs W0 _) (fun _ h => h) ?_ ?_
  · rintro _ _ ⟨⟨n, x, r, h1, rfl⟩, rfl⟩
    have hms := mk_size x
    have hT : takeEnt xs.length (bs s) = if n = (xs.length : Int) + 1 ∧ x.length ≤ 600 then some (⟨n, mk x⟩, r) else none := by rw [takeEnt, h1]
    repeat' (first|refine bA ?_|refine bkq fun q=>?_|(refine bk2 ?_ ?_<;>(first|exact bkn|(refine bkk ?_;intro h))))
    all_goals try
      refine WL.s (op1_iface TT rfl rfl rfl) rfl ?_
      refine WL.panic rfl ?_
      repeat' (first|refine bA ?_|refine bkq fun q=>?_|(refine bk2 ?_ ?_<;>(first|exact bkn|(refine bkk ?_;intro h))))
      exact QS.panicV ⟨hT.trans (if_neg (by omega)), rfl, rfl⟩
    refine WL.buildSlice TT rfl rfl rfl rfl rfl rfl rfl rfl (fun q => ?_)
    refine WL.append TT (E := entE) (xs := xs) (ys := [⟨n, mk x⟩]) 3 rfl rfl rfl rfl rfl (Rd.row (i := 0) rfl (flat_ent _)) rfl rfl rfl rfl rfl (by decide) (by simp only [List.length_cons, List.length_nil]; omega) (fun _ _ => rfl) rfl (fun A' c' => ?_)
    repeat' (first|refine bA ?_|refine bkq fun q=>?_|(refine bk2 ?_ ?_<;>(first|exact bkn|(refine bkk ?_;intro h))))
    refine QS.turn (G' := row bt 9 [.string (mk r)] :: row bl 45 [.int .i64 e, .slice A' (xs ++ [Ent.mk n (mk x)]).length c'] :: slc entE 49 A' c' (xs ++ [Ent.mk n (mk x)]) :: F) (fun w hs => hs.drop) ?_
    exact QS.endV Tryz.results109 rfl ⟨⟨n, mk x⟩, r, A', c', hT.trans (if_pos (by omega)), rfl⟩
  · rintro ch G' ⟨h1, rfl, rfl⟩
    repeat' (first|refine bA ?_|refine bkq fun q=>?_|(refine bk2 ?_ ?_<;>(first|exact bkn|(refine bkk ?_;intro h))))
    exact QS.panicV ⟨by rw [takeEnt, h1], rfl, rfl⟩
noncomputable def loadM (t : List UInt8) (err : Int) : Int × List Ent × Bool × Int :=
  if err = 0 then (match parseP t with | none => (0, [], false, 2) | some (n, xs, r) => (n, xs, decide (r = []), 0)) else (0, [], false, err)
def toldR (m : Int × List Ent × Bool × Int) (F : List SL) (v : Value) (G' : List SL) : Prop := ∃ A c, v = .tuple #[logV m.1 A m.2.1.length c, .bool m.2.2.1, .int .i64 m.2.2.2] ∧ G' = slc entE 49 A c m.2.1 :: F
theorem ents_stop {f k : Nat} {l : List UInt8} (h : takeEnt k l = none ∨ f = 0) : ents f k l = ([], l) := by
  cases f with
  | zero => rfl
  | succ f =>
    rcases h with h | h
    · rw [ents, h]
    · cases h
theorem dec_nil (l : List UInt8) : decide (l = []) = decide (mk l = ⟨#[]⟩) := decide_eq_decide.2 mk_nil_iff.symm
set_option maxHeartbeats 4000000 in
theorem log_Load (b : Nat) (D : Disk) (name : ByteArray) (hsz : (D.read name).1.size ≤ 140737488355328) (W0 : World) (F : List SL) :
    Fn Tryz.prog 65 [.pointer (some ⟨b, 0, none⟩), .string name] W0 (diskA b D :: F) (Ret (toldR (loadM (bs (D.read name).1) (D.read name).2) (diskA b D :: F))) := by
  refine Fn.enter Tryz.func65 rfl Tryz.ntmps65 rfl ?_
  repeat' (first|refine bA ?_|refine bkq fun q=>?_|(refine bk2 ?_ ?_<;>(first|exact bkn|(refine bkk ?_;intro h))))
  refine WL.call c62 rfl rfl rfl rfl ((disk_Read b D name W0 _).pre (fun w hs => hs.front (i := 1) rfl)) ?_
  rintro _ _ ⟨rfl, rfl⟩
  generalize hT : (D.read name).1 = t at *
  generalize hE : (D.read name).2 = er at *
  repeat' (first|refine bA ?_|refine bkq fun q=>?_|(refine bk2 ?_ ?_<;>(first|exact bkn|(refine bkk ?_;intro h))))
  · refine QS.turn (G' := slc entE 49 none 0 ([] : List Ent) :: row q 9 [.string t] :: diskA b D :: row _ 45 [.int .i64 0, .slice none 0 0] :: F) (fun w hs => hs.slcNil _ _) ?_
    refine QS.turnR (G2 := slc entE 49 none 0 ([] : List Ent) :: diskA b D :: F) (fun w hs => (hs.kick (i := 1) rfl).kick (i := 2) rfl) ?_
    refine QS.retC TT 3 Tryz.results65 rfl rfl rfl rfl ⟨rfl, none, 0, ?_, ?_⟩
    · rw [loadM, if_neg h]; rfl
    · rw [loadM, if_neg h]
  rename_i ql qt
  have hms := bs_len t
  refine WL.call c106 rfl rfl rfl rfl ((log_try (K := 107) (cap := [.pointer (some ⟨qt, 0, none⟩), .pointer (some ⟨q, 0, none⟩), .pointer (some ⟨ql, 0, none⟩)]) c107 W0 _ _
    (fun v G' => (∃ n x r, openP (bs t) = some (n, x, r) ∧ v = .bool true ∧ G' = row qt 9 [.string (mk r)] :: row q 4 [.bool (decide (x = [] ∧ 0 ≤ n ∧ n ≤ 9007199254740991))] :: row ql 45 [.int .i64 n, .slice none 0 0] :: diskA b D :: F) ∨
      (openP (bs t) = none ∧ v = .bool false ∧ G' = row qt 9 [.string t] :: row q 4 [.bool false] :: row ql 45 [.int .i64 0, .slice none 0 0] :: diskA b D :: F))
    (load1 qt q ql t hsz false 0 none 0 0 W0 (diskA b D :: F)) (fun _ h => h) (fun _ _ h => ?_) (fun _ _ h => ?_)).pre (fun w hs => ((hs.front (i := 3) rfl).front (i := 1) rfl).front (i := 2) rfl)) ?_
  · obtain ⟨n, x, r, h1, h2⟩ := h
    exact .inl ⟨n, x, r, h1, rfl, h2⟩
  · obtain ⟨h1, h2, h3⟩ := h
    exact ⟨h2, .inr ⟨h1, rfl, h3⟩⟩
  rintro _ _ (⟨n, x, r, h1, rfl, rfl⟩ | ⟨h1, rfl, rfl⟩)
  · have hP : parseP (bs t) = if x = [] ∧ 0 ≤ n ∧ n ≤ 9007199254740991 then some (n, (ents 300 0 r).1, (ents 300 0 r).2) else none := by rw [parseP, h1]
    repeat' (first|refine bA ?_|refine bkq fun q=>?_|(refine bk2 ?_ ?_<;>(first|exact bkn|(refine bkk ?_;intro h))))
    · refine QS.turn (G' := slc entE 49 none 0 ([] : List Ent) :: row qt 9 [.string (mk r)] :: row q 4 [.bool (decide (x = [] ∧ 0 ≤ n ∧ n ≤ 9007199254740991))] :: row ql 45 [.int .i64 0, .slice none 0 0] :: diskA b D :: F) (fun w hs => hs.slcNil _ _) ?_
      refine QS.turnR (G2 := slc entE 49 none 0 ([] : List Ent) :: diskA b D :: F) (fun w hs => ((hs.kick (i := 1) rfl).kick (i := 1) rfl).kick (i := 1) rfl) ?_
      have e1 : loadM (bs t) er = (0, [], false, 2) := by rw [loadM, if_pos (by assumption), hP, if_neg h]
      refine QS.retC TT 3 Tryz.results65 rfl rfl rfl rfl ⟨rfl, none, 0, ?_, ?_⟩ <;> rw [e1] <;> rfl
    · rw [if_pos h] at hP
      have e1 : loadM (bs t) er = (n, (ents 300 0 r).1, decide ((ents 300 0 r).2 = []), 0) := by rw [loadM, if_pos (by assumption), hP]
      have hrl := (openP_len h1).1
      refine CS.loop (X := List Ent × List UInt8 × Bool × Option Addr × Nat) (fun x => [(4, .pointer (some ⟨ql, 0, none⟩)), (7, .pointer (some ⟨qt, 0, none⟩)), (9, .bool x.2.2.1)])
        (fun x => row qt 9 [.string (mk x.2.1)] :: row ql 45 [.int .i64 n, .slice x.2.2.2.1 x.1.length x.2.2.2.2] :: slc entE 49 x.2.2.2.1 x.2.2.2.2 x.1 :: diskA b D :: F)
        (fun x => x.1.length ≤ 300 ∧ x.2.1.length ≤ t.size ∧ ents 300 0 r = (x.1 ++ (ents (300 - x.1.length) x.1.length x.2.1).1, (ents (300 - x.1.length) x.1.length x.2.1).2) ∧ (x.2.2.1 = true ∨ takeEnt x.1.length x.2.1 = none))
        (fun x => 2 * (300 - x.1.length) + (if x.2.2.1 = true then 1 else 0)) ([], r, true, none, 0) ⟨rfl, rfl, rfl, trivial⟩ (fun w hs => (((hs.kick (i := 1) rfl).slcNil entE 49).front (i := 2) rfl).front (i := 2) rfl) ⟨Nat.zero_le _, by simp only; omega, rfl, .inl rfl⟩ ?_
      rintro ⟨xs, l, more, A, c⟩ ⟨hx1, hx2, hx3, hx4⟩
      simp only at *
      cases more with
      | false =>
        repeat' (first|refine bA ?_|refine bkq fun q=>?_|(refine bk2 ?_ ?_<;>(first|exact bkn|(refine bkk ?_;intro h))))
        all_goals
          refine CS.draw mixed (by kernel_rfl) ?_
          repeat' (first|refine bk ?_|refine bkh ?_|refine bkw ?_|refine bkq (fun q => ?_)|((first|refine bk2 ?_ ?_|refine bk2h ?_ ?_)<;>(first|exact bkn|(refine bkk ?_;intro h))))
          refine WQ.storeSame TT 1 rfl rfl rfl rfl rfl rfl rfl rfl ?_
          repeat' (first|refine bA ?_|refine bkq fun q=>?_|(refine bk2 ?_ ?_<;>(first|exact bkn|(refine bkk ?_;intro h))))
          have hst : takeEnt xs.length l = none ∨ 300 - xs.length = 0 := by
            first
              | exact .inr (by omega)
              | exact .inl (hx4.resolve_left (by decide))
              | exact .inl (by rw [mk_nil_iff.1 ‹mk l = _›, takeEnt_nil])
          rw [ents_stop hst, List.append_nil] at hx3
          rw [hx3] at e1
          refine QS.turnR (G2 := slc entE 49 A c xs :: diskA b D :: F) (fun w hs => hs.drop.drop) ?_
          refine QS.retC TT 1 Tryz.results65 rfl rfl rfl rfl ⟨rfl, A, c, ?_, ?_⟩
          · rw [e1, dec_nil]; rfl
          · rw [e1]
      | true =>
        repeat' (first|refine bA ?_|refine bkq fun q=>?_|(refine bk2 ?_ ?_<;>(first|exact bkn|(refine bkk ?_;intro h))))
        · refine WL.call c106 rfl rfl rfl rfl (log_try (K := 109) (cap := [.pointer (some ⟨qt, 0, none⟩), .pointer (some ⟨ql, 0, none⟩)]) c109 W0 _ _
            (fun v G' => (∃ y r' A' c', takeEnt xs.length l = some (y, r') ∧ v = .bool true ∧ G' = row qt 9 [.string (mk r')] :: row ql 45 [.int .i64 n, .slice A' (xs ++ [y]).length c'] :: slc entE 49 A' c' (xs ++ [y]) :: diskA b D :: F) ∨
              (takeEnt xs.length l = none ∧ v = .bool false ∧ G' = row qt 9 [.string (mk l)] :: row ql 45 [.int .i64 n, .slice A xs.length c] :: slc entE 49 A c xs :: diskA b D :: F))
            (load2 qt ql (mk l) (by rw [mk_size]; omega) n A c xs hx1 W0 (diskA b D :: F)) (fun _ h => h) (fun _ _ h => ?_) (fun _ _ h => ?_)) ?_
          · obtain ⟨y, r', A', c', h2, h3⟩ := h
            exact .inl ⟨y, r', A', c', h2, rfl, h3⟩
          · obtain ⟨h2, h3, h4⟩ := h
            exact ⟨h3, .inr ⟨h2, rfl, h4⟩⟩
          obtain ⟨f, hf⟩ : ∃ f, 300 - xs.length = f + 1 := ⟨299 - xs.length, by omega⟩
          rintro _ _ (⟨y, r', A', c', h2, rfl, rfl⟩ | ⟨h2, rfl, rfl⟩)
          · have hrl2 : r'.length ≤ l.length := takeEnt_len h2
            have hlen : (xs ++ [y]).length = xs.length + 1 := by simp
            repeat' (first|refine bA ?_|refine bkq fun q=>?_|(refine bk2 ?_ ?_<;>(first|exact bkn|(refine bkk ?_;intro h))))
            refine QS.again (xs ++ [y], r', true, A', c') ⟨by simp only [hlen]; omega, by simp only; omega, ?_, .inl rfl⟩ (by simp only [hlen]; omega) ⟨rfl, rfl, rfl, trivial⟩ (fun w hs => hs)
            simp only
            rw [hx3, hf, ents, h2]
            simp only
            rw [hlen, show 300 - (xs.length + 1) = f from by omega, List.append_assoc]; rfl
          · repeat' (first|refine bA ?_|refine bkq fun q=>?_|(refine bk2 ?_ ?_<;>(first|exact bkn|(refine bkk ?_;intro h))))
            refine QS.again (xs, l, false, A, c) ⟨hx1, hx2, hx3, .inr h2⟩ (by simp) ⟨rfl, rfl, rfl, trivial⟩ (fun w hs => hs)
        all_goals
          refine CS.draw mixed (by kernel_rfl) ?_
          repeat' (first|refine bk ?_|refine bkh ?_|refine bkw ?_|refine bkq (fun q => ?_)|((first|refine bk2 ?_ ?_|refine bk2h ?_ ?_)<;>(first|exact bkn|(refine bkk ?_;intro h))))
          refine WQ.storeSame TT 1 rfl rfl rfl rfl rfl rfl rfl rfl ?_
          repeat' (first|refine bA ?_|refine bkq fun q=>?_|(refine bk2 ?_ ?_<;>(first|exact bkn|(refine bkk ?_;intro h))))
          have hst : takeEnt xs.length l = none ∨ 300 - xs.length = 0 := by
            first
              | exact .inr (by omega)
              | exact .inl (hx4.resolve_left (by decide))
              | exact .inl (by rw [mk_nil_iff.1 ‹mk l = _›, takeEnt_nil])
          rw [ents_stop hst, List.append_nil] at hx3
          rw [hx3] at e1
          refine QS.turnR (G2 := slc entE 49 A c xs :: diskA b D :: F) (fun w hs => hs.drop.drop) ?_
          refine QS.retC TT 1 Tryz.results65 rfl rfl rfl rfl ⟨rfl, A, c, ?_, ?_⟩
          · rw [e1, dec_nil]; rfl
          · rw [e1]
  · have hP : parseP (bs t) = none := by rw [parseP, h1]
    have e1 : loadM (bs t) er = (0, [], false, 2) := by rw [loadM, if_pos (by assumption), hP]
    repeat' (first|refine bA ?_|refine bkq fun q=>?_|(refine bk2 ?_ ?_<;>(first|exact bkn|(refine bkk ?_;intro h))))
    refine QS.turn (G' := slc entE 49 none 0 ([] : List Ent) :: row qt 9 [.string t] :: row q 4 [.bool false] :: row ql 45 [.int .i64 0, .slice none 0 0] :: diskA b D :: F) (fun w hs => hs.slcNil _ _) ?_
    refine QS.turnR (G2 := slc entE 49 none 0 ([] : List Ent) :: diskA b D :: F) (fun w hs => ((hs.kick (i := 1) rfl).kick (i := 1) rfl).kick (i := 1) rfl) ?_
    refine QS.retC TT 3 Tryz.results65 rfl rfl rfl rfl ⟨rfl, none, 0, ?_, ?_⟩ <;> rw [e1] <;> rfl
end Go.Proofs.YtfolmcpfdcgliaaGreat.B
