import Derived.Test.YtfolmcpfdcgliaaGreatMg16
import Derived.Test.YtfolmcpfdcgliaaGreatMg20
import Derived.Test.YtfolmcpfdcgliaaGreatMg13
import Derived.Test.YtfolmcpfdcgliaaGreatMg22
import Derived.Test.YtfolmcpfdcgliaaGreatMg40
import Derived.Test.YtfolmcpfdcgliaaGreatMg24
import Derived.Test.YtfolmcpfdcgliaaGreatMg37
import Derived.Test.YtfolmcpfdcgliaaGreatMg18
import Derived.Test.YtfolmcpfdcgliaaGreatMg10
import Derived.Test.YtfolmcpfdcgliaaGreatMg8
set_option linter.unusedVariables false
set_option linter.unusedSimpArgs false
set_option maxRecDepth 8000
/-! The document's reading of a log. -/
namespace Go.Proofs.YtfolmcpfdcgliaaGreat.B
open Go Go.Proofs
attribute [local irreducible] WL CS QS WQ WH WS Fn Op1 row Sat
attribute [local irreducible] slc

noncomputable def parseM (t : List UInt8) : Int × List Ent × Bool × Bool := match parseP t with | none => (0, [], false, false) | some (n, xs, r) => (n, xs, decide (r = []), true)
def toldP (m : Int × List Ent × Bool × Bool) (F : List SL) (v : Value) (G' : List SL) : Prop := ∃ A c, v = .tuple #[logV m.1 A m.2.1.length c, .bool m.2.2.1, .bool m.2.2.2] ∧ G' = slc entE 49 A c m.2.1 :: F

theorem openB_len {l x r : List UInt8} {e : Int} (h : openB l = (e, x, r)) : x.length ≤ 4000 ∧ r.length ≤ l.length := by
  unfold openB openT at h
  split at h
  · simp only [Prod.mk.injEq] at h; obtain ⟨_, rfl, rfl⟩ := h; simp
  · rename_i y s hy
    obtain ⟨h1, h2⟩ := takeText_some hy
    have h3 := congrArg List.length h1
    rw [List.length_append] at h3
    split at h
    · simp only [Prod.mk.injEq] at h; obtain ⟨_, rfl, rfl⟩ := h; simp
    · split at h
      · simp only [Prod.mk.injEq] at h; obtain ⟨_, rfl, rfl⟩ := h
        rw [List.length_drop]; omega
      · simp only [Prod.mk.injEq] at h; obtain ⟨_, rfl, rfl⟩ := h; simp
theorem openP_of {l x r : List UInt8} {e : Int} (h : openB l = (e, x, r)) : openP l = if e = 0 then (match takeNum x with | some (n, x') => some (n, x', r) | none => none) else none := by rw [openP, h]; rfl
set_option maxHeartbeats 4000000 in
theorem ref_Parse (t : ByteArray) (hsz : t.size ≤ 140737488355328) (W0 : World) (F : List SL) :
    Fn Tryz.prog 116 [.string t] W0 F (Ret (toldP (parseM (bs t)) F)) := by
  refine Fn.enter Tryz.func116 rfl Tryz.ntmps116 rfl ?_
  have hms := bs_len t
  repeat' (first|refine bk ?_|refine bkc ?_|refine bks ?_|refine bkd ?_|refine bkq (fun q => ?_)|(refine bk2 ?_ ?_<;>(first|exact bkn|(refine bkk ?_;intro h))))
  refine WL.call c68 rfl rfl rfl rfl (ref_Open t (by omega) W0 _) ?_
  rintro _ _ ⟨rfl, rfl⟩
  rcases hO : openB (bs t) with ⟨e, x, r⟩
  have hlen := openB_len hO
  have hP0 := openP_of hO
  simp only [openV]
  repeat' (first|refine bk ?_|refine bkc ?_|refine bks ?_|refine bkd ?_|refine bkq (fun q => ?_)|(refine bk2 ?_ ?_<;>(first|exact bkn|(refine bkk ?_;intro h))))
  refine WL.call c115 rfl rfl rfl rfl (ref_TakeNum (mk x) (by rw [mk_size]; omega) W0 _) ?_
  rintro _ _ ⟨rfl, rfl⟩
  rw [bs_mk]
  rcases hT : takeNum x with _ | ⟨n, y⟩
  · simp only [takeNumV]
    have hP : parseP (bs t) = none := by rw [parseP, hP0, hT]; simp
    have e1 : parseM (bs t) = (0, [], false, false) := by rw [parseM, hP]
    repeat' (first|refine bk ?_|refine bkc ?_|refine bks ?_|refine bkd ?_|refine bkq (fun q => ?_)|(refine bk2 ?_ ?_<;>(first|exact bkn|(refine bkk ?_;intro h))))
    all_goals
      refine QS.turn (G' := slc entE 49 none 0 ([] : List Ent) :: row q 45 [.int .i64 0, .slice none 0 0] :: F) (fun w hs => hs.slcNil _ _) ?_
      refine QS.turnR (G2 := slc entE 49 none 0 ([] : List Ent) :: F) (fun w hs => hs.kick (i := 1) rfl) ?_
      refine QS.retC TT 1 Tryz.results116 rfl rfl rfl rfl ⟨rfl, none, 0, ?_, ?_⟩ <;> rw [e1] <;> rfl
  · simp only [takeNumV]
    rw [hT] at hP0
    simp only at hP0
    repeat' (first|refine bk ?_|refine bkc ?_|refine bks ?_|refine bkd ?_|refine bkq (fun q => ?_)|(refine bk2 ?_ ?_<;>(first|exact bkn|(refine bkk ?_;intro h))))
    rotate_right
    · rw [if_pos (by assumption)] at hP0
      have hyn := mk_nil_iff.1 ‹mk y = _›
      have hP : parseP (bs t) = some (n, (ents 300 0 r).1, (ents 300 0 r).2) := by rw [parseP, hP0]; exact if_pos ⟨hyn, by omega, by omega⟩
      have e1 : parseM (bs t) = (n, (ents 300 0 r).1, decide ((ents 300 0 r).2 = []), true) := by rw [parseM, hP]
      rename_i q0 _ _ _
      refine CS.loop (X := List Ent × List UInt8 × Option Addr × Nat) (fun x => [(2, .pointer (some ⟨q0, 0, none⟩)), (6, .string (mk x.2.1)), (11, .pointer (some ⟨q, 0, none⟩))])
        (fun x => row q 45 [.int .i64 n, .slice x.2.2.1 x.1.length x.2.2.2] :: slc entE 49 x.2.2.1 x.2.2.2 x.1 :: row q0 45 [.int .i64 0, .slice none 0 0] :: F)
        (fun x => x.1.length ≤ 300 ∧ x.2.1.length ≤ t.size ∧ ents 300 0 r = (x.1 ++ (ents (300 - x.1.length) x.1.length x.2.1).1, (ents (300 - x.1.length) x.1.length x.2.1).2))
        (fun x => 300 - x.1.length) ([], r, none, 0) ⟨rfl, rfl, rfl, trivial⟩ (fun w hs => (hs.slcNil entE 49).front (i := 1) rfl) ⟨Nat.zero_le _, by simp only; omega, rfl⟩ ?_
      rintro ⟨xs, l, A, c⟩ ⟨hx1, hx2, hx3⟩
      simp only at *
      repeat' (first|refine bk ?_|refine bkc ?_|refine bks ?_|refine bkd ?_|refine bkq (fun q => ?_)|(refine bk2 ?_ ?_<;>(first|exact bkn|(refine bkk ?_;intro h))))
      focus
        refine WL.call c68 rfl rfl rfl rfl (ref_Open (mk l) (by rw [mk_size]; omega) W0 _) ?_
        rintro _ _ ⟨rfl, rfl⟩
        rw [bs_mk]
        rcases hO2 : openB l with ⟨e2, x2, r2⟩
        have hlen2 := openB_len hO2
        have hP2 := openP_of hO2
        simp only [openV]
        repeat' (first|refine bk ?_|refine bkc ?_|refine bks ?_|refine bkd ?_|refine bkq (fun q => ?_)|(refine bk2 ?_ ?_<;>(first|exact bkn|(refine bkk ?_;intro h))))
        refine WL.call c115 rfl rfl rfl rfl (ref_TakeNum (mk x2) (by rw [mk_size]; omega) W0 _) ?_
        rintro _ _ ⟨rfl, rfl⟩
        rw [bs_mk]
        rcases hT2 : takeNum x2 with _ | ⟨n2, y2⟩
        · simp only [takeNumV]
          repeat' (first|refine bk ?_|refine bkc ?_|refine bks ?_|refine bkd ?_|refine bkq (fun q => ?_)|(refine bk2 ?_ ?_<;>(first|exact bkn|(refine bkk ?_;intro h))))
          all_goals
            have hst : takeEnt xs.length l = none ∨ 300 - xs.length = 0 := by
              exact .inl (by rw [takeEnt, hP2, hT2]; simp)
            rw [ents_stop hst, List.append_nil] at hx3
            rw [hx3] at e1
            refine QS.turnR (G2 := slc entE 49 A c xs :: F) (fun w hs => hs.drop.kick (i := 1) rfl) ?_
            refine QS.retC TT 2 Tryz.results116 rfl rfl rfl rfl ⟨rfl, A, c, ?_, ?_⟩
            · rw [e1, dec_nil]; rfl
            · rw [e1]
        · simp only [takeNumV]
          rw [hT2] at hP2
          simp only at hP2
          have hys := mk_size y2
          have hE : takeEnt xs.length l = if e2 = 0 ∧ n2 = (xs.length : Int) + 1 ∧ y2.length ≤ 600 then some (⟨n2, mk y2⟩, r2) else none := by
            rw [takeEnt, hP2]
            by_cases h0 : e2 = 0
            · simp only [h0, if_true, true_and]
            · simp only [h0, if_false, false_and]
          repeat' (first|refine bk ?_|refine bkc ?_|refine bks ?_|refine bkd ?_|refine bkq (fun q => ?_)|(refine bk2 ?_ ?_<;>(first|exact bkn|(refine bkk ?_;intro h))))
          rotate_right
          · rw [if_pos (by omega)] at hE
            refine WL.buildSlice TT rfl rfl rfl rfl rfl rfl rfl rfl (fun qs => ?_)
            refine WL.append TT (E := entE) (xs := xs) (ys := [⟨n2, mk y2⟩]) 2 rfl rfl rfl rfl rfl (Rd.row (i := 0) rfl (flat_ent _)) rfl rfl rfl rfl rfl (by decide) (by simp only [List.length_cons, List.length_nil]; omega) (fun _ _ => rfl) rfl (fun A' c' => ?_)
            repeat' (first|refine bk ?_|refine bkc ?_|refine bks ?_|refine bkd ?_|refine bkq (fun q => ?_)|(refine bk2 ?_ ?_<;>(first|exact bkn|(refine bkk ?_;intro h))))
            have hlen3 : (xs ++ [(⟨n2, mk y2⟩ : Ent)]).length = xs.length + 1 := by simp
            obtain ⟨f, hf⟩ : ∃ f, 300 - xs.length = f + 1 := ⟨299 - xs.length, by omega⟩
            refine QS.again (xs ++ [⟨n2, mk y2⟩], r2, A', c') ⟨by simp only [hlen3]; omega, by simp only; omega, ?_⟩ (by simp only [hlen3]; omega) ⟨rfl, rfl, rfl, trivial⟩ (fun w hs => hs.drop)
            simp only
            rw [hx3, hf, ents, hE]
            simp only
            rw [hlen3, show 300 - (xs.length + 1) = f from by omega, List.append_assoc]; rfl
          all_goals
            have hst : takeEnt xs.length l = none ∨ 300 - xs.length = 0 := by
              exact .inl (hE.trans (if_neg (by omega)))
            rw [ents_stop hst, List.append_nil] at hx3
            rw [hx3] at e1
            refine QS.turnR (G2 := slc entE 49 A c xs :: F) (fun w hs => hs.drop.kick (i := 1) rfl) ?_
            refine QS.retC TT 2 Tryz.results116 rfl rfl rfl rfl ⟨rfl, A, c, ?_, ?_⟩
            · rw [e1, dec_nil]; rfl
            · rw [e1]
      all_goals
        have hst : takeEnt xs.length l = none ∨ 300 - xs.length = 0 := by
          first | exact .inr (by omega) | exact .inl (by rw [mk_nil_iff.1 ‹mk l = _›, takeEnt_nil])
        rw [ents_stop hst, List.append_nil] at hx3
        rw [hx3] at e1
        refine QS.turnR (G2 := slc entE 49 A c xs :: F) (fun w hs => hs.drop.kick (i := 1) rfl) ?_
        refine QS.retC TT 2 Tryz.results116 rfl rfl rfl rfl ⟨rfl, A, c, ?_, ?_⟩
        · rw [e1, dec_nil]; rfl
        · rw [e1]
    all_goals
      have hP : parseP (bs t) = none := by
        rw [parseP, hP0]
        first
          | rw [if_neg (by assumption)]
          | (rw [if_pos (by assumption)]; exact if_neg (fun h => ‹¬ mk y = _› (mk_nil_iff.2 h.1)))
          | (rw [if_pos (by assumption)]; exact if_neg (fun h => by omega))
      have e1 : parseM (bs t) = (0, [], false, false) := by rw [parseM, hP]
      refine QS.turn (G' := slc entE 49 none 0 ([] : List Ent) :: row q 45 [.int .i64 0, .slice none 0 0] :: F) (fun w hs => hs.slcNil _ _) ?_
      refine QS.turnR (G2 := slc entE 49 none 0 ([] : List Ent) :: F) (fun w hs => hs.kick (i := 1) rfl) ?_
      refine QS.retC TT 1 Tryz.results116 rfl rfl rfl rfl ⟨rfl, none, 0, ?_, ?_⟩ <;> rw [e1] <;> rfl
end Go.Proofs.YtfolmcpfdcgliaaGreat.B

set_option linter.unusedVariables false
set_option linter.unusedSimpArgs false
set_option maxRecDepth 8000
/-! The document's texts of a journal. -/
namespace Go.Proofs.YtfolmcpfdcgliaaGreat.B
open Go Go.Proofs
attribute [local irreducible] WL CS QS WQ WH WS Fn Op1 row Sat
attribute [local irreducible] slc

def fitsR (n : Int) (s : ByteArray) : Bool := decide (1 ≤ n ∧ n ≤ 300 ∧ s.size ≤ 600)
theorem r_number (s : ByteArray) (hs : s.size ≤ 9223372036854775807) (W0 : World) (G : List SL) : Fn Tryz.prog 69 [.string s] W0 G (Ret fun v G' => (∃ n, v = .tuple #[.int .i64 n, .bool (numP s).isSome] ∧ ∀ m, numP s = some m → n = m) ∧ G' = G) := by
  refine Fn.enter Tryz.func69 rfl Tryz.ntmps69 rfl ?_
  repeat' (first|refine bk ?_|refine bkc ?_|refine bks ?_|refine bkd ?_|refine bkq (fun q => ?_)|(refine bk2 ?_ ?_<;>(first|exact bkn|(refine bkk ?_;intro h))))
  refine WL.call c115 rfl rfl rfl rfl (ref_TakeNum s hs W0 _) ?_
  rintro _ G2 ⟨rfl, hG2⟩
  rw [hG2]; clear hG2 G2
  cases hn : takeNum (bs s) with
  | none =>
    simp only [takeNumV]
    repeat' (first|refine bk ?_|refine bkc ?_|refine bks ?_|refine bkd ?_|refine bkq (fun q => ?_)|(refine bk2 ?_ ?_<;>(first|exact bkn|(refine bkk ?_;intro h))))
    have e1 : numP s = none := by rw [numP, hn]
    exact QS.retV Tryz.results69 rfl ⟨⟨0, by rw [e1]; rfl, fun m hm => by rw [e1] at hm; cases hm⟩, rfl⟩
  | some p =>
    obtain ⟨n, r⟩ := p
    simp only [takeNumV]
    repeat' (first|refine bk ?_|refine bkc ?_|refine bks ?_|refine bkd ?_|refine bkq (fun q => ?_)|(refine bk2 ?_ ?_<;>(first|exact bkn|(refine bkk ?_;intro h))))
    have e1 : numP s = if r = [] then some n else none := by rw [numP, hn]
    refine QS.retV Tryz.results69 rfl ⟨⟨n, ?_, fun m hm => ?_⟩, rfl⟩
    · rw [show (numP s).isSome = decide (mk r = ⟨#[]⟩) from by
        rw [e1]
        by_cases hr : r = []
        · rw [if_pos hr, hr]; rfl
        · rw [if_neg hr, decide_eq_false (fun e => hr (congrArg bs e))]; rfl]
      rfl
    · rw [e1] at hm
      split at hm
      · exact Option.some.inj hm
      · cases hm
end Go.Proofs.YtfolmcpfdcgliaaGreat.B

set_option linter.unusedVariables false
set_option linter.unusedSimpArgs false
set_option maxRecDepth 8000
/-! The document's answers of a journal. -/
namespace Go.Proofs.YtfolmcpfdcgliaaGreat.B
open Go Go.Proofs
attribute [local irreducible] WL CS QS WQ WH WS Fn Op1 row Sat
attribute [local irreducible] slc

end Go.Proofs.YtfolmcpfdcgliaaGreat.B

set_option linter.unusedVariables false
set_option linter.unusedSimpArgs false
set_option maxRecDepth 8000
/-! The document's disk in plain words: files in the order of their names. -/
namespace Go.Proofs.YtfolmcpfdcgliaaGreat.B
open Go

structure RFile where
  name : ByteArray
  data : ByteArray
  syn : Int
  deriving DecidableEq
def rfE : EncK RFile := ⟨fun f => [.string f.name, .string f.data, .int .i64 f.syn], 3, fun _ => rfl, by decide, fun _ u hu => by simp only [List.mem_cons, List.not_mem_nil, or_false] at hu; rcases hu with rfl | rfl | rfl <;> rfl⟩
structure RDisk where
  room : Int
  files : List RFile
  left : Int
  off : Bool
def bl (a b : ByteArray) : Bool := Op.bytesLess a.toList b.toList
def findF (name : ByteArray) (l : List RFile) : Option Nat := l.findIdx? fun f => decide (f.name = name)
def atF (name : ByteArray) (l : List RFile) : Int := match findF name l with | some i => (i : Int) | none => -1
def posF (name : ByteArray) (l : List RFile) : Nat := (l.takeWhile fun f => bl f.name name).length
def insF (f : RFile) (l : List RFile) : List RFile := l.take (posF f.name l) ++ [f] ++ l.drop (posF f.name l)
def sumF (l : List RFile) : Int := (l.map fun f => (f.data.size : Int)).sum
structure ROk (R : RDisk) : Prop where
  count : R.files.length ≤ 20
  most : ∀ f ∈ R.files, f.data.size ≤ 400000
  left0 : 0 ≤ R.left
  left1 : R.left ≤ 9223372036854775807
  room0 : 0 ≤ R.room
  room1 : R.room ≤ 9223372036854775807
def RDisk.new (r : Int) : RDisk := ⟨max r 0, [], 0, false⟩
def RDisk.blow (R : RDisk) : Bool × RDisk := if R.left = 0 then (false, R) else (decide (R.left - 1 = 0), { R with left := R.left - 1, off := decide (R.left - 1 = 0) })
def RDisk.dataAt (R : RDisk) (name : ByteArray) : ByteArray := match findF name R.files with | some i => ((R.files[i]?).getD ⟨⟨#[]⟩, ⟨#[]⟩, 0⟩).data | none => ⟨#[]⟩
def addF (name data : ByteArray) (l : List RFile) : List RFile := match findF name l with
  | some i => (match l[i]? with | some f => l.set i { f with data := f.data ++ data } | none => l)
  | none => insF ⟨name, data, 0⟩ l
def RDisk.append (R : RDisk) (name data : ByteArray) : Int × RDisk :=
  if R.off = true then (12, R)
  else if ¬ (1 ≤ (name.size : Int) ∧ (name.size : Int) ≤ 30) then (1, R)
  else if 400000 < (data.size : Int) ∨ (0 ≤ atF name R.files ∧ 400000 < ((R.dataAt name).size : Int) + data.size) ∨ (atF name R.files < 0 ∧ 20 ≤ (R.files.length : Int)) then (4, R)
  else if R.room < sumF R.files + data.size then (8, R)
  else if R.blow.1 = true then (12, R.blow.2)
  else (0, { R.blow.2 with files := addF name data R.files })
def RDisk.read (R : RDisk) (name : ByteArray) : ByteArray × Int :=
  if R.off = true then (⟨#[]⟩, 12) else if atF name R.files < 0 then (⟨#[]⟩, 5) else (R.dataAt name, 0)

theorem findF_some {name : ByteArray} {l : List RFile} {i : Nat} {f : RFile} (hf : l[i]? = some f) (hn : f.name = name) (h : ∀ j g, j < i → l[j]? = some g → g.name ≠ name) : findF name l = some i := by
  unfold findF
  rw [List.findIdx?_eq_some_iff_getElem]
  obtain ⟨hi, e⟩ := List.getElem?_eq_some_iff.1 hf
  refine ⟨hi, by rw [e]; simpa using hn, fun j hj => ?_⟩
  have := h j (l[j]'(by omega)) hj (List.getElem?_eq_getElem (by omega))
  simpa using this
theorem findF_none {name : ByteArray} {l : List RFile} (h : ∀ (j : Nat) g, l[j]? = some g → g.name ≠ name) : findF name l = none := by
  unfold findF
  rw [List.findIdx?_eq_none_iff]
  intro f hf
  obtain ⟨j, hj⟩ := List.mem_iff_getElem?.1 hf
  simpa using h j f hj
theorem findF_get {name : ByteArray} {l : List RFile} {i : Nat} (h : findF name l = some i) : ∃ f, l[i]? = some f ∧ f.name = name := by
  unfold findF at h
  rw [List.findIdx?_eq_some_iff_getElem] at h
  obtain ⟨hi, h1, h2⟩ := h
  exact ⟨l[i], List.getElem?_eq_getElem hi, by simpa using h1⟩
theorem posF_at {name : ByteArray} {l : List RFile} {i : Nat} (h : ∀ j g, j < i → l[j]? = some g → bl g.name name = true) (hi : i ≤ l.length) (hs : ∀ f, l[i]? = some f → bl f.name name = false) : posF name l = i := by
  induction l generalizing i with
  | nil => simp at hi; subst hi; rfl
  | cons f r ih =>
    cases i with
    | zero =>
      have := hs f rfl
      simp [posF, List.takeWhile_cons, this]
    | succ i =>
      have h0 := h 0 f (by omega) rfl
      have := ih (i := i) (fun j g hj hg => h (j + 1) g (by omega) (by simpa using hg)) (by simpa using hi) (fun g hg => hs g (by simpa using hg))
      simp [posF, List.takeWhile_cons, h0] at this ⊢
      exact this
theorem sumF_take {l : List RFile} {i : Nat} {f : RFile} (h : l[i]? = some f) : sumF (l.take (i + 1)) = sumF (l.take i) + f.data.size := by
  rw [List.take_add_one, h]; simp [sumF]
theorem sumF_bound {l : List RFile} (h : ∀ f ∈ l, f.data.size ≤ 400000) : 0 ≤ sumF l ∧ sumF l ≤ l.length * 400000 := by
  induction l with
  | nil => simp [sumF]
  | cons f r ih =>
    have h1 := h f (List.mem_cons_self ..)
    have h2 := ih (fun g hg => h g (List.mem_cons_of_mem _ hg))
    simp only [sumF, List.map_cons, List.sum_cons, List.length_cons] at h2 ⊢
    omega
theorem sumF_take_bound {l : List RFile} (h : ∀ f ∈ l, f.data.size ≤ 400000) (hl : l.length ≤ 20) (i : Nat) : 0 ≤ sumF (l.take i) ∧ sumF (l.take i) ≤ 8000000 := by
  have := sumF_bound (l := l.take i) (fun f hf => h f (List.mem_of_mem_take hf))
  rw [List.length_take] at this
  omega
end Go.Proofs.YtfolmcpfdcgliaaGreat.B

set_option linter.unusedVariables false
set_option linter.unusedSimpArgs false
set_option maxRecDepth 8000
/-! What the document's disk does with its blocks. -/
namespace Go.Proofs.YtfolmcpfdcgliaaGreat.B
open Go Go.Proofs
attribute [local irreducible] WL CS QS WQ WH WS Fn Op1 row Sat

def refCells (A : Option Addr) (c : Nat) (R : RDisk) : List Value := [.int .i64 R.room, .slice A R.files.length c, .int .i64 R.left, .bool R.off]
def refA (b : Nat) (R : RDisk) : SL := fun h => ∃ x : Option Addr × Nat, star (row b 149 (refCells x.1 x.2 R)) (slc rfE 176 x.1 x.2 R.files) h
section
variable {W0 : World} {F : List SL} {b : Nat} {R : RDisk}
theorem refA_open : ∀ w, Sat W0 (refA b R :: F) w → ∃ x : Option Addr × Nat, Sat W0 (row b 149 (refCells x.1 x.2 R) :: slc rfE 176 x.1 x.2 R.files :: F) w := fun w hs => by
  obtain ⟨x, hx⟩ := Sat.ex (R := fun x : Option Addr × Nat => star (row b 149 (refCells x.1 x.2 R)) (slc rfE 176 x.1 x.2 R.files)) hs
  exact ⟨x, hx.split⟩
theorem refA_shut {A : Option Addr} {c : Nat} : ∀ w, Sat W0 (row b 149 (refCells A c R) :: slc rfE 176 A c R.files :: F) w → Sat W0 (refA b R :: F) w := fun w hs =>
  hs.join.imp fun h hh => ⟨(A, c), hh⟩
end
attribute [local irreducible] refA slc

theorem rdisk_New (r : Int) (W0 : World) (F : List SL) :
    Fn Tryz.prog 29 [.int .i64 r] W0 F (Ret fun v G' => ∃ b, v = .pointer (some ⟨b, 0, none⟩) ∧ G' = refA b (RDisk.new r) :: F) := by
  refine Fn.enter Tryz.func29 rfl Tryz.ntmps29 rfl ?_
  repeat' (first|refine bk ?_|refine bkc ?_|refine bks ?_|refine bkd ?_|refine bkq (fun q => ?_)|(refine bk2 ?_ ?_<;>(first|exact bkn|(refine bkk ?_;intro h))))
  refine QS.turn (G' := refA q (RDisk.new r) :: F) (fun w hs => refA_shut (A := none) (c := 0) w ?_) (QS.retV Tryz.results29 rfl ⟨q, rfl, rfl⟩)
  have e : (if 0 > r then 0 else r) = max r 0 := by split <;> omega
  rw [e] at hs
  exact (hs.slcNil rfE 176).perm (List.Perm.swap ..)

theorem rdisk_at (b : Nat) (A : Option Addr) (c : Nat) (R : RDisk) (hl : R.files.length ≤ 1000) (name : ByteArray) (W0 : World) (F : List SL) :
    Fn Tryz.prog 111 [.pointer (some ⟨b, 0, none⟩), .string name] W0 (row b 149 (refCells A c R) :: slc rfE 176 A c R.files :: F)
      (Ret fun v G' => v = .int .i64 (atF name R.files) ∧ G' = row b 149 (refCells A c R) :: slc rfE 176 A c R.files :: F) := by
  refine Fn.enter Tryz.func111 rfl Tryz.ntmps111 rfl ?_
  simp only [refCells]
  repeat' (first|refine bk ?_|refine bkc ?_|refine bks ?_|refine bkd ?_|refine bkq (fun q => ?_)|(refine bk2 ?_ ?_<;>(first|exact bkn|(refine bkk ?_;intro h))))
  refine CS.loop (X := Nat) (fun i => [(0, .pointer (some ⟨b, 0, none⟩)), (1, .string name), (5, .int .i64 (i : Int))]) (fun i => row b 149 (refCells A c R) :: slc rfE 176 A c R.files :: F)
    (fun i => i ≤ R.files.length ∧ ∀ j g, j < i → R.files[j]? = some g → g.name ≠ name) (fun i => R.files.length - i) 0 ⟨rfl, rfl, rfl, trivial⟩ (fun w hs => hs) ⟨Nat.zero_le _, fun j g hj => by omega⟩ ?_
  rintro i ⟨hi, hne⟩
  simp only [refCells]
  repeat' (first|refine bk ?_|refine bkc ?_|refine bks ?_|refine bkd ?_|refine bkq (fun q => ?_)|(refine bk2 ?_ ?_<;>(first|exact bkn|(refine bkk ?_;intro h))))
  · obtain ⟨x, hx⟩ : ∃ x, R.files[i]? = some x := ⟨R.files[i]'(by omega), List.getElem?_eq_getElem (by omega)⟩
    refine WL.idx TT (Rd.slc (i := 1) rfl) rfl rfl rfl (by omega) (by rw [Int.toNat_natCast]; exact hx) rfl rfl rfl rfl (fun b2 o hA => ?_)
    repeat' (first|refine bk ?_|refine bkc ?_|refine bks ?_|refine bkd ?_|refine bkq (fun q => ?_)|(refine bk2 ?_ ?_<;>(first|exact bkn|(refine bkk ?_;intro h))))
    refine WL.s (op1_atF TT 0 hA rfl rfl rfl rfl rfl) rfl ?_
    repeat' (first|refine bk ?_|refine bkc ?_|refine bks ?_|refine bkd ?_|refine bkq (fun q => ?_)|(refine bk2 ?_ ?_<;>(first|exact bkn|(refine bkk ?_;intro h))))
    · refine QS.retV Tryz.results111 rfl ⟨?_, rfl⟩
      rw [atF, findF_some hx (by assumption) hne]; rfl
    · refine QS.again (i + 1) ⟨by omega, fun j g hj hg => ?_⟩ (by omega) ⟨rfl, rfl, ?_, trivial⟩ (fun w hs => hs)
      · by_cases hji : j = i
        · subst hji; rw [hx] at hg; injection hg with hg; subst hg; assumption
        · exact hne j g (by omega) hg
      · rw [show ((i + 1 : Nat) : Int) = (i : Int) + 1 from by omega]; rfl
  · refine QS.retV Tryz.results111 rfl ⟨?_, rfl⟩
    rw [atF, findF_none (fun j g hg => hne j g (by have := (List.getElem?_eq_some_iff.1 hg).1; omega) hg)]; rfl

theorem rdisk_Name (name : ByteArray) (W0 : World) (F : List SL) :
    Fn Tryz.prog 183 [.string name] W0 F (Ret fun v G' => v = .bool (decide (1 ≤ (name.size : Int) ∧ (name.size : Int) ≤ 30)) ∧ G' = F) := by
  refine Fn.enter Tryz.func183 rfl Tryz.ntmps183 rfl ?_
  repeat' (first|refine bk ?_|refine bkc ?_|refine bks ?_|refine bkd ?_|refine bkq (fun q => ?_)|(refine bk2 ?_ ?_<;>(first|exact bkn|(refine bkk ?_;intro h))))
  · refine QS.retV Tryz.results183 rfl ⟨?_, rfl⟩
    rw [decide_eq_decide.2 (show (1 ≤ (name.size : Int) ∧ (name.size : Int) ≤ 30) ↔ ((name.size : Int) ≤ 30) from ⟨fun h => h.2, fun h => ⟨by assumption, h⟩⟩)]; rfl
  · refine QS.retV Tryz.results183 rfl ⟨?_, rfl⟩
    rw [decide_eq_false (fun h => absurd h.1 (by assumption))]; rfl

theorem rdisk_Bytes (b : Nat) (A : Option Addr) (c : Nat) (R : RDisk) (hR : ROk R) (W0 : World) (F : List SL) :
    Fn Tryz.prog 184 [.pointer (some ⟨b, 0, none⟩)] W0 (row b 149 (refCells A c R) :: slc rfE 176 A c R.files :: F)
      (Ret fun v G' => v = .int .i64 (sumF R.files) ∧ G' = row b 149 (refCells A c R) :: slc rfE 176 A c R.files :: F) := by
  have hc := hR.count
  have hmo := hR.most
  refine Fn.enter Tryz.func184 rfl Tryz.ntmps184 rfl ?_
  simp only [refCells]
  repeat' (first|refine bk ?_|refine bkc ?_|refine bks ?_|refine bkd ?_|refine bkq (fun q => ?_)|(refine bk2 ?_ ?_<;>(first|exact bkn|(refine bkk ?_;intro h))))
  refine CS.loop (X := Nat) (fun i => [(0, .pointer (some ⟨b, 0, none⟩)), (3, .int .i64 (sumF (R.files.take i))), (4, .int .i64 (i : Int))]) (fun i => row b 149 (refCells A c R) :: slc rfE 176 A c R.files :: F)
    (fun i => i ≤ R.files.length) (fun i => R.files.length - i) 0 ⟨rfl, rfl, rfl, trivial⟩ (fun w hs => hs) (Nat.zero_le _) ?_
  intro i hi
  have hb1 := sumF_take_bound hmo hc i
  simp only [refCells]
  repeat' (first|refine bk ?_|refine bkc ?_|refine bks ?_|refine bkd ?_|refine bkq (fun q => ?_)|(refine bk2 ?_ ?_<;>(first|exact bkn|(refine bkk ?_;intro h))))
  · obtain ⟨x, hx⟩ : ∃ x, R.files[i]? = some x := ⟨R.files[i]'(by omega), List.getElem?_eq_getElem (by omega)⟩
    have hxm := hmo x (List.mem_of_getElem? hx)
    refine WL.idx TT (Rd.slc (i := 1) rfl) rfl rfl rfl (by omega) (by rw [Int.toNat_natCast]; exact hx) rfl rfl rfl rfl (fun b2 o hA => ?_)
    repeat' (first|refine bk ?_|refine bkc ?_|refine bks ?_|refine bkd ?_|refine bkq (fun q => ?_)|(refine bk2 ?_ ?_<;>(first|exact bkn|(refine bkk ?_;intro h))))
    refine WL.s (op1_atF TT 1 hA rfl rfl rfl rfl rfl) rfl ?_
    repeat' (first|refine bk ?_|refine bkc ?_|refine bks ?_|refine bkd ?_|refine bkq (fun q => ?_)|(refine bk2 ?_ ?_<;>(first|exact bkn|(refine bkk ?_;intro h))))
    refine QS.again (i + 1) (by omega) (by omega) ⟨rfl, ?_, ?_, trivial⟩ (fun w hs => hs)
    · rw [sumF_take hx]; rfl
    · rw [show ((i + 1 : Nat) : Int) = (i : Int) + 1 from by omega]; rfl
  · refine QS.retV Tryz.results184 rfl ⟨?_, rfl⟩
    rw [List.take_of_length_le (by omega)]; rfl

theorem rdisk_blows (b : Nat) (A : Option Addr) (c : Nat) (R : RDisk) (h0 : 0 ≤ R.left) (h1 : R.left ≤ 9223372036854775807) (W0 : World) (F : List SL) :
    Fn Tryz.prog 181 [.pointer (some ⟨b, 0, none⟩)] W0 (row b 149 (refCells A c R) :: F)
      (Ret fun v G' => v = .bool R.blow.1 ∧ G' = row b 149 (refCells A c R.blow.2) :: F) := by
  refine Fn.enter Tryz.func181 rfl Tryz.ntmps181 rfl ?_
  simp only [refCells]
  repeat' (first|refine bk ?_|refine bkc ?_|refine bks ?_|refine bkd ?_|refine bkq (fun q => ?_)|(refine bk2 ?_ ?_<;>(first|exact bkn|(refine bkk ?_;intro h))))
  · refine QS.retV Tryz.results181 rfl ⟨?_, ?_⟩ <;> simp [RDisk.blow, resV, *]
  · refine QS.retV Tryz.results181 rfl ⟨?_, ?_⟩ <;> simp [RDisk.blow, resV, *]

set_option maxHeartbeats 400000 in
theorem rdisk_Read (b : Nat) (R : RDisk) (hl : R.files.length ≤ 1000) (name : ByteArray) (W0 : World) (F : List SL) :
    Fn Tryz.prog 67 [.pointer (some ⟨b, 0, none⟩), .string name] W0 (refA b R :: F)
      (Ret fun v G' => v = .tuple #[.string (R.read name).1, .int .i64 (R.read name).2] ∧ G' = refA b R :: F) := by
  refine Fn.ex (fun w hs => refA_open w hs) (fun x => ?_)
  obtain ⟨A, c⟩ := x
  simp only
  refine Fn.enter Tryz.func67 rfl Tryz.ntmps67 rfl ?_
  repeat' (first|refine bk ?_|refine bkc ?_|refine bks ?_|refine bkd ?_|refine bkq (fun q => ?_)|(refine bk2 ?_ ?_<;>(first|exact bkn|(refine bkk ?_;intro h))))
  refine WL.call c111 rfl rfl rfl rfl (rdisk_at b A c R hl name W0 _) ?_
  rintro _ _ ⟨rfl, rfl⟩
  simp only [refCells]
  repeat' (first|refine bk ?_|refine bkc ?_|refine bks ?_|refine bkd ?_|refine bkq (fun q => ?_)|(refine bk2 ?_ ?_<;>(first|exact bkn|(refine bkk ?_;intro h))))
  · refine QS.turn (G' := refA b R :: F) (fun w hs => refA_shut (A := A) (c := c) w hs) (QS.retV Tryz.results67 rfl ⟨?_, rfl⟩)
    rw [RDisk.read, if_pos (by assumption)]; rfl
  · refine QS.turn (G' := refA b R :: F) (fun w hs => refA_shut (A := A) (c := c) w hs) (QS.retV Tryz.results67 rfl ⟨?_, rfl⟩)
    rw [RDisk.read, if_neg (by simp [*]), if_pos (by assumption)]; rfl
  · obtain ⟨i, hi⟩ : ∃ i, findF name R.files = some i := by
      cases hf : findF name R.files with
      | some i => exact ⟨i, rfl⟩
      | none => exfalso; simp [atF, hf] at *
    obtain ⟨x, hx, hxn⟩ := findF_get hi
    have hai : atF name R.files = (i : Int) := by rw [atF, hi]
    have hda : R.dataAt name = x.data := by rw [RDisk.dataAt, hi]; simp [hx]
    refine WL.idx TT (Rd.slc (i := 1) rfl) rfl rfl rfl (by omega) (by rw [hai, Int.toNat_natCast]; exact hx) rfl rfl rfl rfl (fun b2 o hA => ?_)
    repeat' (first|refine bk ?_|refine bkc ?_|refine bks ?_|refine bkd ?_|refine bkq (fun q => ?_)|(refine bk2 ?_ ?_<;>(first|exact bkn|(refine bkk ?_;intro h))))
    refine WL.s (op1_atF TT 1 hA rfl rfl rfl rfl rfl) rfl ?_
    repeat' (first|refine bk ?_|refine bkc ?_|refine bks ?_|refine bkd ?_|refine bkq (fun q => ?_)|(refine bk2 ?_ ?_<;>(first|exact bkn|(refine bkk ?_;intro h))))
    refine QS.turn (G' := refA b R :: F) (fun w hs => refA_shut (A := A) (c := c) w hs) (QS.retV Tryz.results67 rfl ⟨?_, rfl⟩)
    rw [RDisk.read, if_neg (by simp [*]), if_neg (by omega), hda]; rfl
end Go.Proofs.YtfolmcpfdcgliaaGreat.B
