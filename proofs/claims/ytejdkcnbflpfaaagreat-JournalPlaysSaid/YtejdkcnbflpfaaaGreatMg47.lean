import Derived.Test.YtejdkcnbflpfaaaGreatMg46
import Derived.Test.YtejdkcnbflpfaaaGreatMg9
import Derived.Test.YtejdkcnbflpfaaaGreatMg18
import Derived.Test.YtejdkcnbflpfaaaGreatRows
import Derived.WalkKit
import Derived.ProofKit
import Derived.OpenShut
import Derived.JoinedCond
import Derived.Carry
import Derived.Lib.SmallJoins
import Derived.SliceStrings
import Derived.ChangeMaps5
import Derived.SizedLaws
set_option linter.unusedVariables false
set_option linter.unusedSimpArgs false
set_option maxRecDepth 8000
/-! The journal's chapter: its example. -/
namespace Go.Proofs.YtejdkcnbflpfaaaGreat.B
open Go Go.Proofs
attribute [local irreducible] WL CS QS WQ WH WS Fn Op1 row Sat
attribute [local irreducible] slc diskA jA

abbrev jn0 : Jn := ⟨0, 0, [], false⟩
theorem open_fresh (bd : Nat) (R : Int) (h0 : 0 ≤ R) (h1 : R ≤ 9223372036854775807) (W0 : World) (F : List SL) :
    Fn Tryz.prog 11 [.pointer (some ⟨bd, 0, none⟩)] W0 (diskA bd (Disk.new R) :: F)
      (Ret fun v G' => ∃ b, v = .tuple #[.pointer (some ⟨b, 0, none⟩), .int .i64 0] ∧ G' = jA b bd jn0 :: diskA bd (jD R jn0) :: F) := by
  refine (j_Open bd (Disk.new R) (new_ok R h1) W0 F).mono fun e G' h => ?_
  rw [open_new R h0] at h
  unfold openO at h
  simpa using h
theorem jD_ok {R : Int} (h1 : R ≤ 9223372036854775807) (h0 : 0 ≤ R) : DiskOk (jD R jn0) := by rw [← new_jD h0]; exact new_ok R h1
set_option maxHeartbeats 8000000 in
theorem law_examples (W0 : World) (G : List SL) : Fn Tryz.prog 6 [] W0 G (Ret fun v G' => v = .bool true ∧ G' = G) := by
  have i1 : I64 1 := by unfold I64; decide
  obtain ⟨e1, e2, e3, e4, e5, e6⟩ := example_j
  have ok0 : DiskOk (jD 1000 jn0) := jD_ok (by decide) (by decide)
  have jk0 : JnOk jn0 := well0.ok
  have k1 := hand_jok jk0 ok0 (joinB (promL 1))
  rw [e1] at k1
  simp only at k1
  have k4 := hand_jok jk0 ok0 (joinB (accL 1 []))
  rw [e4] at k4
  simp only at k4
  have k5 := hand_jok k4.1 k4.2 (joinB (addL 1 ⟨1, jx⟩))
  rw [e5] at k5
  simp only at k5
  have sz : ∀ {l : List ByteArray}, joinOk l = true → (mk (joinB l)).size ≤ 9223372036854775807 := fun h => by rw [mk_size]; have := joinB_len h; omega
  have fx : fitsB 1 jx = true := by decide
  have fy : fitsB 3 jy = true := by decide
  refine Fn.enter Tryz.func6 rfl Tryz.ntmps6 rfl ?_
  repeat' (first|refine bk ?_|refine bkc ?_|refine bks ?_|refine bkd ?_|refine bkq (fun q => ?_)|(refine bk2 ?_ ?_<;>(first|exact bkn|(refine bkk ?_;intro h))))
  refine WL.call c7 rfl rfl rfl rfl (disk_New 1000 W0 _) ?_
  rintro _ _ ⟨d1, rfl, rfl⟩
  repeat' (first|refine bk ?_|refine bkc ?_|refine bks ?_|refine bkd ?_|refine bkq (fun q => ?_)|(refine bk2 ?_ ?_<;>(first|exact bkn|(refine bkk ?_;intro h))))
  refine WL.call c11 rfl rfl rfl rfl (open_fresh d1 1000 (by decide) (by decide) W0 _) ?_
  rintro _ _ ⟨b1, rfl, rfl⟩
  repeat' (first|refine bk ?_|refine bkc ?_|refine bks ?_|refine bkd ?_|refine bkq (fun q => ?_)|(refine bk2 ?_ ?_<;>(first|exact bkn|(refine bkk ?_;intro h))))
  refine WL.call c7 rfl rfl rfl rfl (disk_New 1000 W0 _) ?_
  rintro _ _ ⟨d2, rfl, rfl⟩
  repeat' (first|refine bk ?_|refine bkc ?_|refine bks ?_|refine bkd ?_|refine bkq (fun q => ?_)|(refine bk2 ?_ ?_<;>(first|exact bkn|(refine bkk ?_;intro h))))
  refine WL.call c11 rfl rfl rfl rfl (open_fresh d2 1000 (by decide) (by decide) W0 _) ?_
  rintro _ _ ⟨b2, rfl, rfl⟩
  repeat' (first|refine bk ?_|refine bkc ?_|refine bks ?_|refine bkd ?_|refine bkq (fun q => ?_)|(refine bk2 ?_ ?_<;>(first|exact bkn|(refine bkk ?_;intro h))))
  refine WL.call c30 rfl rfl rfl rfl (j_Promise 1 i1 W0 _) ?_
  rintro _ G2 ⟨rfl, hG2⟩
  rw [hG2]; clear hG2 G2
  repeat' (first|refine bk ?_|refine bkc ?_|refine bks ?_|refine bkd ?_|refine bkq (fun q => ?_)|(refine bk2 ?_ ?_<;>(first|exact bkn|(refine bkk ?_;intro h))))
  have hc := (j_Handle b1 d1 jn0 jk0 _ ok0 _ (sz (promL_ok i1)) W0 (jA b2 d2 jn0 :: diskA d2 (jD 1000 jn0) :: G))
  rw [bs_mk, e1] at hc
  simp only at hc
  refine WL.call c13 rfl rfl rfl rfl (hc.pre (fun w hs => (hs.front (i := 3) rfl).front (i := 3) rfl)) ?_
  clear hc
  rintro _ _ ⟨rfl, rfl⟩
  repeat' (first|refine bk ?_|refine bkc ?_|refine bks ?_|refine bkd ?_|refine bkq (fun q => ?_)|(refine bk2 ?_ ?_<;>(first|exact bkn|(refine bkk ?_;intro h))))
  have hc := law_said (mk (toldB 0 [])) (sz (toldL_ok 0 [])) W0 (jA b1 d1 ⟨1, 0, [], false⟩ :: diskA d1 (jD 1000 ⟨1, 0, [], false⟩) :: jA b2 d2 jn0 :: diskA d2 (jD 1000 jn0) :: G)
  rw [bs_mk, told_told (by decide)] at hc
  simp only at hc
  refine WL.call c29 rfl rfl rfl rfl hc ?_
  clear hc
  rintro _ G2 ⟨rfl, hG2⟩
  rw [hG2]; clear hG2 G2
  repeat' (first|refine bk ?_|refine bkc ?_|refine bks ?_|refine bkd ?_|refine bkq (fun q => ?_)|(refine bk2 ?_ ?_<;>(first|exact bkn|(refine bkk ?_;intro h))))
  refine WL.call c30 rfl rfl rfl rfl (j_Promise 1 i1 W0 _) ?_
  rintro _ G2 ⟨rfl, hG2⟩
  rw [hG2]; clear hG2 G2
  repeat' (first|refine bk ?_|refine bkc ?_|refine bks ?_|refine bkd ?_|refine bkq (fun q => ?_)|(refine bk2 ?_ ?_<;>(first|exact bkn|(refine bkk ?_;intro h))))
  have hc := j_Handle b1 d1 _ k1.1 _ k1.2 _ (sz (promL_ok i1)) W0 (jA b2 d2 jn0 :: diskA d2 (jD 1000 jn0) :: G)
  rw [bs_mk, e2] at hc
  simp only at hc
  refine WL.call c13 rfl rfl rfl rfl hc ?_
  clear hc
  rintro _ _ ⟨rfl, rfl⟩
  repeat' (first|refine bk ?_|refine bkc ?_|refine bks ?_|refine bkd ?_|refine bkq (fun q => ?_)|(refine bk2 ?_ ?_<;>(first|exact bkn|(refine bkk ?_;intro h))))
  have hc := law_said (mk (saidB 10)) (sz (saidL_ok (by unfold I64; decide))) W0 (jA b1 d1 ⟨1, 0, [], false⟩ :: diskA d1 (jD 1000 ⟨1, 0, [], false⟩) :: jA b2 d2 jn0 :: diskA d2 (jD 1000 jn0) :: G)
  rw [bs_mk, told_said (by decide) (by decide)] at hc
  simp only at hc
  refine WL.call c29 rfl rfl rfl rfl hc ?_
  clear hc
  rintro _ G2 ⟨rfl, hG2⟩
  rw [hG2]; clear hG2 G2
  repeat' (first|refine bk ?_|refine bkc ?_|refine bks ?_|refine bkd ?_|refine bkq (fun q => ?_)|(refine bk2 ?_ ?_<;>(first|exact bkn|(refine bkk ?_;intro h))))
  refine WL.call c31 rfl rfl rfl rfl (law_add 1 i1 1 jx W0 _) ?_
  rintro _ G2 ⟨rfl, hG2⟩
  rw [hG2]; clear hG2 G2
  rw [if_pos fx]
  repeat' (first|refine bk ?_|refine bkc ?_|refine bks ?_|refine bkd ?_|refine bkq (fun q => ?_)|(refine bk2 ?_ ?_<;>(first|exact bkn|(refine bkk ?_;intro h))))
  have hc := j_Handle b1 d1 _ k1.1 _ k1.2 _ (sz (addL_ok (x := ⟨1, jx⟩) i1 i1 (by decide))) W0 (jA b2 d2 jn0 :: diskA d2 (jD 1000 jn0) :: G)
  rw [bs_mk, e3] at hc
  simp only at hc
  refine WL.call c13 rfl rfl rfl rfl hc ?_
  clear hc
  rintro _ _ ⟨rfl, rfl⟩
  repeat' (first|refine bk ?_|refine bkc ?_|refine bks ?_|refine bkd ?_|refine bkq (fun q => ?_)|(refine bk2 ?_ ?_<;>(first|exact bkn|(refine bkk ?_;intro h))))
  have hc := law_said (mk (saidB 10)) (sz (saidL_ok (by unfold I64; decide))) W0 (jA b1 d1 ⟨1, 0, [], false⟩ :: diskA d1 (jD 1000 ⟨1, 0, [], false⟩) :: jA b2 d2 jn0 :: diskA d2 (jD 1000 jn0) :: G)
  rw [bs_mk, told_said (by decide) (by decide)] at hc
  simp only at hc
  refine WL.call c29 rfl rfl rfl rfl hc ?_
  clear hc
  rintro _ G2 ⟨rfl, hG2⟩
  rw [hG2]; clear hG2 G2
  repeat' (first|refine bk ?_|refine bkc ?_|refine bks ?_|refine bkd ?_|refine bkq (fun q => ?_)|(refine bk2 ?_ ?_<;>(first|exact bkn|(refine bkk ?_;intro h))))
  refine WL.call c32 rfl rfl rfl rfl (law_accept 1 i1 none 0 0 [] rfl (by decide) W0 _ Rd.nil) ?_
  rintro _ G2 ⟨rfl, hG2⟩
  rw [hG2]; clear hG2 G2
  rw [if_pos (show logOk 1 [] = true by decide)]
  repeat' (first|refine bk ?_|refine bkc ?_|refine bks ?_|refine bkd ?_|refine bkq (fun q => ?_)|(refine bk2 ?_ ?_<;>(first|exact bkn|(refine bkk ?_;intro h))))
  have hc := (j_Handle b2 d2 jn0 jk0 _ ok0 _ (sz (accL_ok (ep := 1) (xs := []) (by decide))) W0 (jA b1 d1 ⟨1, 0, [], false⟩ :: diskA d1 (jD 1000 ⟨1, 0, [], false⟩) :: G))
  rw [bs_mk, e4] at hc
  simp only at hc
  refine WL.call c13 rfl rfl rfl rfl (hc.pre (fun w hs => (hs.front (i := 3) rfl).front (i := 3) rfl)) ?_
  clear hc
  rintro _ _ ⟨rfl, rfl⟩
  repeat' (first|refine bk ?_|refine bkc ?_|refine bks ?_|refine bkd ?_|refine bkq (fun q => ?_)|(refine bk2 ?_ ?_<;>(first|exact bkn|(refine bkk ?_;intro h))))
  have hc := law_said (mk (saidB 0)) (sz (saidL_ok (by unfold I64; decide))) W0 (jA b2 d2 ⟨1, 1, [], false⟩ :: diskA d2 (jD 1000 ⟨1, 1, [], false⟩) :: jA b1 d1 ⟨1, 0, [], false⟩ :: diskA d1 (jD 1000 ⟨1, 0, [], false⟩) :: G)
  rw [bs_mk, told_said (by decide) (by decide)] at hc
  simp only at hc
  refine WL.call c29 rfl rfl rfl rfl hc ?_
  clear hc
  rintro _ G2 ⟨rfl, hG2⟩
  rw [hG2]; clear hG2 G2
  repeat' (first|refine bk ?_|refine bkc ?_|refine bks ?_|refine bkd ?_|refine bkq (fun q => ?_)|(refine bk2 ?_ ?_<;>(first|exact bkn|(refine bkk ?_;intro h))))
  refine WL.call c31 rfl rfl rfl rfl (law_add 1 i1 1 jx W0 _) ?_
  rintro _ G2 ⟨rfl, hG2⟩
  rw [hG2]; clear hG2 G2
  rw [if_pos fx]
  repeat' (first|refine bk ?_|refine bkc ?_|refine bks ?_|refine bkd ?_|refine bkq (fun q => ?_)|(refine bk2 ?_ ?_<;>(first|exact bkn|(refine bkk ?_;intro h))))
  have hc := j_Handle b2 d2 _ k4.1 _ k4.2 _ (sz (addL_ok (x := ⟨1, jx⟩) i1 i1 (by decide))) W0 (jA b1 d1 ⟨1, 0, [], false⟩ :: diskA d1 (jD 1000 ⟨1, 0, [], false⟩) :: G)
  rw [bs_mk, e5] at hc
  simp only at hc
  refine WL.call c13 rfl rfl rfl rfl hc ?_
  clear hc
  rintro _ _ ⟨rfl, rfl⟩
  repeat' (first|refine bk ?_|refine bkc ?_|refine bks ?_|refine bkd ?_|refine bkq (fun q => ?_)|(refine bk2 ?_ ?_<;>(first|exact bkn|(refine bkk ?_;intro h))))
  have hc := law_said (mk (saidB 0)) (sz (saidL_ok (by unfold I64; decide))) W0 (jA b2 d2 ⟨1, 1, [⟨1, jx⟩], false⟩ :: diskA d2 (jD 1000 ⟨1, 1, [⟨1, jx⟩], false⟩) :: jA b1 d1 ⟨1, 0, [], false⟩ :: diskA d1 (jD 1000 ⟨1, 0, [], false⟩) :: G)
  rw [bs_mk, told_said (by decide) (by decide)] at hc
  simp only at hc
  refine WL.call c29 rfl rfl rfl rfl hc ?_
  clear hc
  rintro _ G2 ⟨rfl, hG2⟩
  rw [hG2]; clear hG2 G2
  repeat' (first|refine bk ?_|refine bkc ?_|refine bks ?_|refine bkd ?_|refine bkq (fun q => ?_)|(refine bk2 ?_ ?_<;>(first|exact bkn|(refine bkk ?_;intro h))))
  refine WL.call c31 rfl rfl rfl rfl (law_add 1 i1 3 jy W0 _) ?_
  rintro _ G2 ⟨rfl, hG2⟩
  rw [hG2]; clear hG2 G2
  rw [if_pos fy]
  repeat' (first|refine bk ?_|refine bkc ?_|refine bks ?_|refine bkd ?_|refine bkq (fun q => ?_)|(refine bk2 ?_ ?_<;>(first|exact bkn|(refine bkk ?_;intro h))))
  have hc := j_Handle b2 d2 _ k5.1 _ k5.2 _ (sz (addL_ok (x := ⟨3, jy⟩) i1 (by unfold I64; decide) (by decide))) W0 (jA b1 d1 ⟨1, 0, [], false⟩ :: diskA d1 (jD 1000 ⟨1, 0, [], false⟩) :: G)
  rw [bs_mk, e6] at hc
  simp only at hc
  refine WL.call c13 rfl rfl rfl rfl hc ?_
  clear hc
  rintro _ _ ⟨rfl, rfl⟩
  repeat' (first|refine bk ?_|refine bkc ?_|refine bks ?_|refine bkd ?_|refine bkq (fun q => ?_)|(refine bk2 ?_ ?_<;>(first|exact bkn|(refine bkk ?_;intro h))))
  have hc := law_said (mk (saidB 11)) (sz (saidL_ok (by unfold I64; decide))) W0 (jA b2 d2 ⟨1, 1, [⟨1, jx⟩], false⟩ :: diskA d2 (jD 1000 ⟨1, 1, [⟨1, jx⟩], false⟩) :: jA b1 d1 ⟨1, 0, [], false⟩ :: diskA d1 (jD 1000 ⟨1, 0, [], false⟩) :: G)
  rw [bs_mk, told_said (by decide) (by decide)] at hc
  simp only at hc
  refine WL.call c29 rfl rfl rfl rfl hc ?_
  clear hc
  rintro _ G2 ⟨rfl, hG2⟩
  rw [hG2]; clear hG2 G2
  repeat' (first|refine bk ?_|refine bkc ?_|refine bks ?_|refine bkd ?_|refine bkq (fun q => ?_)|(refine bk2 ?_ ?_<;>(first|exact bkn|(refine bkk ?_;intro h))))
  have hc := j_Promised b1 d1 ⟨1, 0, [], false⟩ W0 (jA b2 d2 ⟨1, 1, [⟨1, jx⟩], false⟩ :: diskA d2 (jD 1000 ⟨1, 1, [⟨1, jx⟩], false⟩) :: diskA d1 (jD 1000 ⟨1, 0, [], false⟩) :: G)
  rw [if_neg (by decide)] at hc
  refine WL.call c24 rfl rfl rfl rfl (hc.pre (fun w hs => hs.front (i := 2) rfl)) ?_
  clear hc
  rintro _ _ ⟨rfl, rfl⟩
  repeat' (first|refine bk ?_|refine bkc ?_|refine bks ?_|refine bkd ?_|refine bkq (fun q => ?_)|(refine bk2 ?_ ?_<;>(first|exact bkn|(refine bkk ?_;intro h))))
  have hc := j_Log b2 d2 ⟨1, 1, [⟨1, jx⟩], false⟩ (by decide) W0 (jA b1 d1 ⟨1, 0, [], false⟩ :: diskA d2 (jD 1000 ⟨1, 1, [⟨1, jx⟩], false⟩) :: diskA d1 (jD 1000 ⟨1, 0, [], false⟩) :: G)
  rw [if_neg (by decide), if_neg (by decide)] at hc
  refine WL.call c22 rfl rfl rfl rfl (hc.pre (fun w hs => hs.front (i := 1) rfl)) ?_
  clear hc
  rintro _ _ ⟨A, c, rfl, rfl⟩
  repeat' (first|refine bk ?_|refine bkc ?_|refine bks ?_|refine bkd ?_|refine bkq (fun q => ?_)|(refine bk2 ?_ ?_<;>(first|exact bkn|(refine bkk ?_;intro h))))
  exact QS.turn (G' := G) (fun w hs => hs.drop.drop.drop.drop.drop) (QS.retV Tryz.results6 rfl ⟨rfl, rfl⟩)
end Go.Proofs.YtejdkcnbflpfaaaGreat.B

set_option linter.unusedVariables false
set_option linter.unusedSimpArgs false
set_option maxRecDepth 8000
/-! The rows' opening and closing. -/
namespace Go.Proofs.YtejdkcnbflpfaaaGreat.B
open Go Go.Proofs Go.ChangeShapes Go.WideShapes Go.ChangeAt Go.RowKit

section
variable {H : Type} {enc : TypeId × Value → H} {P : Program} {W W' : World}
theorem trodAll_below (hl : laidOutB P = true) (hb : Below W.heap.size W W') : ∀ {ts : List TypeId} {vs : List Value} {ds : List (DataW H)} {ps : List MemPlace}, (∀ t ∈ ts, P.readableRec t = true ∧ t < P.types.size) →
    DataW.TrodAll enc P W 0 (fun _ => true) true ts vs ds ps → (∀ x ∈ ps, x.block < W.heap.size) → DataW.TrodAll enc P W' 0 (fun b => decide (b < W.heap.size)) true ts vs ds ps
  | [], [], [], _, _, h, _ => h
  | _ :: _, _ :: _, _ :: _, _, ht, ⟨p, q, h1, h2, e⟩, hlt => by
    subst e
    have h3 := ht _ (List.mem_cons_self ..)
    exact ⟨p, q, Below.trod hl h3.1 h3.2 h1 hb (fun x hx => hlt x (List.mem_append_left _ hx)), trodAll_below hl hb (fun t h => ht t (List.mem_cons_of_mem _ h)) h2 (fun x hx => hlt x (List.mem_append_right _ hx)), rfl⟩
/-- A law's post, of a walk that leaves the old blocks alone. -/
theorem law_post {f : Func} {s : ChangeSpec} {fresh handsOn : Bool} {args : Array Value} {ds gs : List (DataW H)} {before : List MemPlace} {v : Value}
    (hl : laidOutB P = true) (hvars : s.vars = []) (ht : f.params.toList.all (fun t => P.readableRec t && decide (t < P.types.size)) = true)
    (hW : DataW.Whole enc P f.params.toList s.vars false W args.toList ds gs before) (hb : Below W.heap.size W W')
    (hres : DataW.TrodAll enc P W' (match fresh with | true => W.heap.size | false => 0) (fun _ => false) handsOn f.resultTypes.toList (v.resultList f.resultTypes.size) (s.fn H ds).results [])
    (hargs : (s.fn H ds).args = ds) (hv2 : (s.fn H ds).vars = []) : s.post enc P f false fresh handsOn false W args v W' := by
  have hlt := hW.lt
  have hW' := hW
  obtain ⟨p, q, hA, hV, rfl, hfz, hnd⟩ := hW
  rw [hvars] at hV
  obtain ⟨rfl, rfl⟩ := trodVars_none hV
  refine ⟨ds, [], p ++ [], [], p, [], hW', ?_, ?_, ?_, ?_, fun h => (by cases h)⟩
  · rw [List.append_nil]; exact hres
  · rw [List.append_nil, hargs]
    refine trodAll_below hl hb (fun t h => ?_) hA (fun x hx => hlt x (List.mem_append_left _ hx))
    have := List.all_eq_true.1 ht t h
    simpa using this
  · rw [List.append_nil, hvars, hv2]; rfl
  · exact hb.frame _
end
theorem spot_none {w : World} {a : Addr} {v : Value} (h : w.cell? a = some v) : a.spot = none := by
  unfold World.cell? at h
  split at h
  · cases hs : a.spot with
    | none => rfl
    | some x => rw [hs] at h; simp at h
  · cases h
theorem wf_i64 {n : Int} (h : (Lit.int .i64 n).wf = true) : I64 n := by
  unfold I64
  simp only [Lit.wf, Bool.and_eq_true, decide_eq_true_eq] at h
  exact h
theorem Rd.old {α : Type} {E : EncK α} {W : World} {A : Option Addr} {xs : List α} (h : RdC W A (flat E xs)) : Rd W [B.old W W.heap.size] E A xs := fun w hs => by
  have hb := hs.oldBelow rfl
  rcases h with h | ⟨b, o, rfl, hc⟩
  · exact .inl h
  · refine .inr ⟨b, o, rfl, fun j u hj => ?_⟩
    have h1 := hc j u hj
    have hlt := World.block_lt_of_cell? W ⟨b, o + j, none⟩ (u := u) h1
    rw [World.cell?_of_block (w := W) (hb.block b hlt)]
    exact h1
/-- A walk from the beginning, for a row. -/
theorem Fn.row {P : Program} {K : Nat} {vs : List Value} {W : World} {u : Value} (h : Fn P K vs W [B.old W W.heap.size] (Ret fun v G' => v = u ∧ G' = [B.old W W.heap.size])) :
    Calls P K vs.toArray W fun e w' => e = .returned u ∧ Below W.heap.size W w' := by
  refine (h W (Sat.start W)).mono ?_
  rintro e w' ⟨G', hR, hs⟩
  cases e with
  | returned v => obtain ⟨rfl, rfl⟩ := hR; exact ⟨rfl, hs.oldBelow rfl⟩
  | panicked ch => exact hR.elim
  | outgrown => exact hR.elim

theorem prog_own : ownKnob Tryz.prog.godebug = none := by kernel_rfl
theorem prog_laid : laidOutB Tryz.prog = true := by kernel_rfl
end Go.Proofs.YtejdkcnbflpfaaaGreat.B

set_option linter.unusedVariables false
set_option linter.unusedSimpArgs false
set_option linter.unusedSectionVars false
set_option maxRecDepth 8000
/-! Opening a slice of anything. -/
namespace Go.Proofs.YtejdkcnbflpfaaaGreat.B
open Go Go.Proofs Go.ChangeShapes Go.WideShapes Go.ChangeAt Go.RowKit
section
variable {H : Type} {enc : TypeId × Value → H} {P : Program} {w : World} {sp : Nat → Bool} {held : Bool}
theorem weightsAll_mem {e : TypeId} : ∀ {l : List (DataW H)} {d : DataW H}, d ∈ l → ∀ m ∈ d.weights P e, m ∈ DataW.weightsAll P e l
  | d0 :: r, d, hd, m, hm => by
    simp only [DataW.weightsAll, List.mem_append]
    rcases List.mem_cons.1 hd with rfl | h
    · exact .inl hm
    · exact .inr (weightsAll_mem h m hm)
theorem open_slcG {α : Type} (E : EncK α) {T e : Nat} (PX : α → DataW H → Prop) (hT : P.underlying T = some (.slice e)) (hC : P.cellsOf e = E.sz)
    (one : ∀ {fuel : Nat} {cs : List Value} {x : DataW H × List MemPlace}, cs.length = E.sz → DataW.trod enc P w 0 sp held fuel e cs = some x → ∃ a : α, cs = E.enc a ∧ PX a x.1)
    {fuel : Nat} {v : Value} {x : DataW H × List MemPlace} (h : DataW.trod enc P w 0 sp held fuel T [v] = some x) :
    ∃ A k c xs, v = .slice A k c ∧ k = xs.length ∧ k ≤ c ∧ c ≤ maxLen ∧ RdC w A (flat E xs) ∧ (∀ a ∈ xs, ∃ d, PX a d ∧ ∀ m ∈ d.weights P e, m ∈ x.1.weights P T) ∧ ((∀ m ∈ x.1.weights P T, m ≤ reachBytes) → k * P.bytesOf e ≤ reachBytes) := by
  rcases DataW.trod_slice hT h with ⟨hc, _⟩ | ⟨a, len, cap, elems, rest, n, _, hcs, hx, hb, hl, hm, hlen, hel, _⟩
  · simp only [List.cons.injEq, and_true] at hc
    subst hc
    exact ⟨none, 0, 0, [], rfl, rfl, Nat.le_refl _, by simp [maxLen], .inl rfl, fun l hl => absurd hl (List.not_mem_nil), fun _ => by omega⟩
  · simp only [List.cons.injEq, and_true] at hcs
    subst hcs
    have each : ∀ i, i < len → ∃ y : α, (∀ j u, (E.enc y)[j]? = some u → w.cell? ((a.add (i * E.sz)).add j) = some u) ∧ ∃ d, PX y d ∧ ∀ m ∈ d.weights P e, m ∈ x.1.weights P T := fun i hi => by
      have h1 := hel i hi
      rw [hC, List.getElem?_eq_getElem (by omega), Option.bind_eq_some_iff] at h1
      obtain ⟨cs, h2, h3⟩ := h1
      obtain ⟨_, hl2, hg⟩ := World.cells?_some h2
      obtain ⟨y, rfl, hy⟩ := one hl2 h3
      refine ⟨y, fun j u hj => ?_, elems[i].1, hy, fun m hm' => ?_⟩
      · have hjl : j < E.sz := by have := (List.getElem?_eq_some_iff.1 hj).1; rwa [E.len] at this
        have := hg j hjl
        rw [this, hj]
      · rw [hx]
        simp only [DataW.weights, hT]
        exact List.mem_cons_of_mem _ (List.mem_append_left _ (weightsAll_mem (d := elems[i].1) (List.mem_map.2 ⟨elems[i], List.getElem_mem _, rfl⟩) m hm'))
    have build : ∀ m, m ≤ len → ∃ xs : List α, xs.length = m ∧ (∀ i y, xs[i]? = some y → ∀ j u, (E.enc y)[j]? = some u → w.cell? ((a.add (i * E.sz)).add j) = some u) ∧ ∀ y ∈ xs, ∃ d, PX y d ∧ ∀ m ∈ d.weights P e, m ∈ x.1.weights P T := by
      intro m
      induction m with
      | zero => intro _; exact ⟨[], rfl, fun i y h => by simp at h, fun l hl => by cases hl⟩
      | succ m ih =>
        intro hm
        obtain ⟨xs, hl3, hx3, hx4⟩ := ih (by omega)
        obtain ⟨y, hy1, hy2⟩ := each m (by omega)
        refine ⟨xs ++ [y], by simp [hl3], fun i z hz => ?_, fun l hl => ?_⟩
        · by_cases hi : i < xs.length
          · rw [List.getElem?_append_left hi] at hz; exact hx3 i z hz
          · rw [List.getElem?_append_right (by omega)] at hz
            have : i - xs.length = 0 := by
              have := (List.getElem?_eq_some_iff.1 hz).1
              simp at this; omega
            rw [this] at hz
            simp at hz
            subst hz
            rw [show i = m from by omega]; exact hy1
        · rcases List.mem_append.1 hl with h | h
          · exact hx4 l h
          · rw [List.mem_singleton.1 h]; exact hy2
    obtain ⟨xs, hxl, hx5, hx6⟩ := build len (Nat.le_refl _)
    refine ⟨some a, len, cap, xs, rfl, hxl.symm, hl, hm, ?_, hx6, fun hw => ?_⟩
    · cases hxs : xs with
      | nil => exact .inl rfl
      | cons y0 yr =>
        have hp := E.pos
        obtain ⟨u0, hu0⟩ : ∃ u0, (E.enc y0)[0]? = some u0 := ⟨(E.enc y0)[0]'(by rw [E.len]; exact hp), List.getElem?_eq_getElem _⟩
        have hy0 := hx5 0 y0 (by rw [hxs]; rfl) 0 u0 hu0
        have hsp : a.spot = none := by have := spot_none hy0; simpa [Addr.add] using this
        obtain ⟨b, o, spt⟩ := a
        simp only at hsp
        subst hsp
        refine .inr ⟨b, o, rfl, fun j u hj => ?_⟩
        rw [← hxs] at hj
        have hjl : j < xs.length * E.sz := by
          have := (List.getElem?_eq_some_iff.1 hj).1
          rwa [flat_len] at this
        have hq : j / E.sz < xs.length := Nat.div_lt_of_lt_mul (by rw [Nat.mul_comm]; exact hjl)
        obtain ⟨y, hy⟩ : ∃ y, xs[j / E.sz]? = some y := ⟨xs[j / E.sz]'hq, List.getElem?_eq_getElem hq⟩
        have hr : j % E.sz < E.sz := Nat.mod_lt _ hp
        obtain ⟨u2, hu2⟩ : ∃ u2, (E.enc y)[j % E.sz]? = some u2 := ⟨(E.enc y)[j % E.sz]'(by rw [E.len]; exact hr), List.getElem?_eq_getElem _⟩
        have h3 := flat_get E xs (j / E.sz) (j % E.sz) y u2 hy hu2
        have ej : j / E.sz * E.sz + j % E.sz = j := Nat.div_add_mod' j E.sz
        rw [ej, hj] at h3
        injection h3 with h3
        rw [h3]
        have := hx5 _ _ hy _ _ hu2
        rw [add_off, add_off] at this
        rwa [show o + j = o + j / E.sz * E.sz + j % E.sz from by omega]
    · have h1 := hw ((elems.length + rest.length) * P.bytesOf e) (by
        rw [hx]
        simp only [DataW.weights, hT, List.length_map]
        exact List.mem_cons_self ..)
      refine Nat.le_trans (Nat.mul_le_mul_right _ ?_) h1
      omega
theorem open_intsT {fuel : Nat} {T e : Nat} (hT : P.underlying T = some (.slice e)) (hC : P.cellsOf e = 1) (he : P.underlying e = some (.int .i64)) {v : Value} {x : DataW H × List MemPlace} (h : DataW.trod enc P w 0 sp held fuel T [v] = some x) :
    ∃ A k c xs, v = .slice A k c ∧ k = xs.length ∧ k ≤ c ∧ c ≤ maxLen ∧ RdC w A (flat intE xs) ∧ ∀ a ∈ xs, I64 a := by
  obtain ⟨A, k, c, xs, h1, h2, h3, h4, h5, h6, _⟩ := open_slcG intE (fun a _ => I64 a) hT hC (fun {fuel cs x} hl h => by
    obtain ⟨n, rfl, _, hw⟩ := DataW.trod_int he h
    exact ⟨n, rfl, wf_i64 hw⟩) h
  exact ⟨A, k, c, xs, h1, h2, h3, h4, h5, fun a ha => (h6 a ha).choose_spec.1⟩
end
end Go.Proofs.YtejdkcnbflpfaaaGreat.B
