import Derived.Test.YtfolmcpfdcgliaaGreatMg41
import Derived.Test.YtfolmcpfdcgliaaGreatMg21
import Derived.Test.YtfolmcpfdcgliaaGreatMg42
import Derived.Test.YtfolmcpfdcgliaaGreatMg43
import Derived.Test.YtfolmcpfdcgliaaGreatMg40
import Derived.Test.YtfolmcpfdcgliaaGreatMg22
set_option linter.unusedVariables false
set_option linter.unusedSimpArgs false
set_option maxRecDepth 8000
namespace Go.Proofs.YtfolmcpfdcgliaaGreat.B
open Go Go.Proofs
attribute [local irreducible] WL CS QS WQ WH WS Fn Op1 row Sat
attribute [local irreducible] refA slc
theorem read_err (D : Disk) (nm : ByteArray) : (D.read nm).2 = 12 ∨ (D.read nm).2 = 0 ∨ (D.read nm).2 = 5 := by
  unfold Disk.read; (repeat' split) <;> simp
theorem toR_len {D : Disk} (hD : DiskOk D) : (toR D).files.length ≤ 1000 := by
  rw [show (toR D).files = recF D from rfl, rec_len hD]; have := hD.count; omega
theorem name_short {nm : ByteArray} : nm = noStr ↔ (nm.size : Int) < 1 := ⟨fun h => by rw [h]; decide, fun h => size_zero (by omega)⟩
set_option maxHeartbeats 2000000 in
theorem ref_Place (b : Nat) (D : Disk) (hD : DiskOk D) (name text : ByteArray) (hn : name.size ≤ 1000000) (ht : text.size ≤ 140737488355328) (W0 : World) (F : List SL) :
    Fn Tryz.prog 118 [.pointer (some ⟨b, 0, none⟩), .string name, .string text] W0 (refA b (toR D) :: F) (Ret fun v G' => v = .int .i64 (place1 D (name ++ dotNew) name text).1 ∧ G' = refA b (toR (place1 D (name ++ dotNew) name text).2) :: F) := by
  refine Fn.enter Tryz.func118 rfl Tryz.ntmps118 rfl ?_
  have h4 : (⟨#[46, 110, 101, 119]⟩ : ByteArray).size = 4 := rfl
  repeat' (first|refine bA ?_|refine bkq fun q=>?_|(refine bk2 ?_ ?_<;>(first|exact bkn|(refine bkk ?_;intro h))))
  refine WL.call c67 rfl rfl rfl rfl (rdisk_Read b _ (toR_len hD) (name ++ dotNew) W0 _) ?_
  rintro _ _ ⟨rfl, rfl⟩
  rw [toR_read hD]
  rcases read_err D (name ++ dotNew) with hE | hE | hE
  · rw [hE]
    repeat' (first|refine bA ?_|refine bkq fun q=>?_|(refine bk2 ?_ ?_<;>(first|exact bkn|(refine bkk ?_;intro h))))
    refine QS.retV Tryz.results118 rfl ⟨?_, ?_⟩ <;> rw [place1, hE, if_neg (by decide), if_neg (by decide)] <;> rfl
  · have e0 : place1 D (name ++ dotNew) name text = if ¬ (D.delete (name ++ dotNew)).1 = 0 then D.delete (name ++ dotNew) else place2 (D.delete (name ++ dotNew)).2 (name ++ dotNew) name text := by rw [place1, hE, if_neg (by decide), if_pos (by decide)]
    rw [hE]
    repeat' (first|refine bA ?_|refine bkq fun q=>?_|(refine bk2 ?_ ?_<;>(first|exact bkn|(refine bkk ?_;intro h))))
    refine WL.call c155 rfl rfl rfl rfl (rdisk_Delete b _ (toR_ok hD) (name ++ dotNew) W0 _) ?_
    rintro _ _ ⟨rfl, rfl⟩
    rw [toR_delete hD]
    repeat' (first|refine bA ?_|refine bkq fun q=>?_|(refine bk2 ?_ ?_<;>(first|exact bkn|(refine bkk ?_;intro h))))
    · refine QS.retV Tryz.results118 rfl ⟨?_, ?_⟩ <;> rw [e0, if_pos (by assumption)] <;> rfl
    have e1 : place1 D (name ++ dotNew) name text = place2 (D.delete (name ++ dotNew)).2 (name ++ dotNew) name text := by rw [e0, if_neg (fun e => e (by assumption))]
    have ok1 := delete_ok hD (name ++ dotNew)
    simp only
    generalize (D.delete (name ++ dotNew)).2 = D1 at ok1 e1 ⊢
    refine WL.call c156 rfl rfl rfl rfl (rdisk_Append b _ (toR_ok ok1) (name ++ dotNew) text (by omega) W0 _) ?_
    rintro _ _ ⟨rfl, rfl⟩
    rw [toR_append ok1]
    have okA := append_ok ok1 (name ++ dotNew) text (fun _ => trivial)
    repeat' (first|refine bA ?_|refine bkq fun q=>?_|(refine bk2 ?_ ?_<;>(first|exact bkn|(refine bkk ?_;intro h))))
    · refine QS.retV Tryz.results118 rfl ⟨?_, ?_⟩ <;> rw [e1, place2, if_pos (by assumption)] <;> rfl
    refine WL.call c157 rfl rfl rfl rfl (rdisk_Sync b _ (toR_ok okA) (name ++ dotNew) W0 _) ?_
    rintro _ _ ⟨rfl, rfl⟩
    rw [toR_sync okA]
    have okS := sync_ok okA (name ++ dotNew)
    repeat' (first|refine bA ?_|refine bkq fun q=>?_|(refine bk2 ?_ ?_<;>(first|exact bkn|(refine bkk ?_;intro h))))
    · refine QS.retV Tryz.results118 rfl ⟨?_, ?_⟩ <;> rw [e1, place2, if_neg (fun e => e (by assumption)), if_pos (by assumption)] <;> rfl
    refine WL.call c158 rfl rfl rfl rfl (rdisk_Rename b _ (toR_ok okS) (name ++ dotNew) name W0 _) ?_
    rintro _ _ ⟨rfl, rfl⟩
    rw [toR_rename okS]
    repeat' (first|refine bA ?_|refine bkq fun q=>?_|(refine bk2 ?_ ?_<;>(first|exact bkn|(refine bkk ?_;intro h))))
    refine QS.retV Tryz.results118 rfl ⟨?_, ?_⟩ <;> rw [e1, place2, if_neg (fun e => e (by assumption)), if_neg (fun e => e (by assumption))] <;> rfl
  · have e1 : place1 D (name ++ dotNew) name text = place2 D (name ++ dotNew) name text := by rw [place1, if_pos hE]
    have ok1 := hD
    rw [hE]
    repeat' (first|refine bA ?_|refine bkq fun q=>?_|(refine bk2 ?_ ?_<;>(first|exact bkn|(refine bkk ?_;intro h))))
    refine WL.call c156 rfl rfl rfl rfl (rdisk_Append b _ (toR_ok ok1) (name ++ dotNew) text (by omega) W0 _) ?_
    rintro _ _ ⟨rfl, rfl⟩
    rw [toR_append ok1]
    have okA := append_ok ok1 (name ++ dotNew) text (fun _ => trivial)
    repeat' (first|refine bA ?_|refine bkq fun q=>?_|(refine bk2 ?_ ?_<;>(first|exact bkn|(refine bkk ?_;intro h))))
    · refine QS.retV Tryz.results118 rfl ⟨?_, ?_⟩ <;> rw [e1, place2, if_pos (by assumption)] <;> rfl
    refine WL.call c157 rfl rfl rfl rfl (rdisk_Sync b _ (toR_ok okA) (name ++ dotNew) W0 _) ?_
    rintro _ _ ⟨rfl, rfl⟩
    rw [toR_sync okA]
    have okS := sync_ok okA (name ++ dotNew)
    repeat' (first|refine bA ?_|refine bkq fun q=>?_|(refine bk2 ?_ ?_<;>(first|exact bkn|(refine bkk ?_;intro h))))
    · refine QS.retV Tryz.results118 rfl ⟨?_, ?_⟩ <;> rw [e1, place2, if_neg (fun e => e (by assumption)), if_pos (by assumption)] <;> rfl
    refine WL.call c158 rfl rfl rfl rfl (rdisk_Rename b _ (toR_ok okS) (name ++ dotNew) name W0 _) ?_
    rintro _ _ ⟨rfl, rfl⟩
    rw [toR_rename okS]
    repeat' (first|refine bA ?_|refine bkq fun q=>?_|(refine bk2 ?_ ?_<;>(first|exact bkn|(refine bkk ?_;intro h))))
    refine QS.retV Tryz.results118 rfl ⟨?_, ?_⟩ <;> rw [e1, place2, if_neg (fun e => e (by assumption)), if_neg (fun e => e (by assumption))] <;> rfl
set_option maxHeartbeats 2000000 in
theorem ref_Store (b : Nat) (D : Disk) (hD : DiskOk D) (name : ByteArray) (e : Int) (A : Option Addr) (k c : Nat) (xs : List Ent) (hk : k = xs.length) (W0 : World) (F : List SL) (hR : Rd W0 (refA b (toR D) :: F) entE A xs) :
    Fn Tryz.prog 71 [.pointer (some ⟨b, 0, none⟩), .string name, logV e A k c] W0 (refA b (toR D) :: F) (Ret fun v G' => v = .int .i64 (storeM D e xs name).1 ∧ G' = refA b (toR (storeM D e xs name).2) :: F) := by
  refine Fn.enter Tryz.func71 rfl Tryz.ntmps71 rfl ?_
  repeat' (first|refine bA ?_|refine bkq fun q=>?_|(refine bk2 ?_ ?_<;>(first|exact bkn|(refine bkk ?_;intro h))))
  refine WL.call c117 rfl rfl rfl rfl (ref_Bytes e A k c xs hk W0 _ hR.cons) ?_
  rintro _ _ ⟨rfl, rfl⟩
  cases hok : logOk e xs with
  | false =>
    simp only [Bool.false_eq_true, if_false]
    repeat' (first|refine bA ?_|refine bkq fun q=>?_|(refine bk2 ?_ ?_<;>(first|exact bkn|(refine bkk ?_;intro h))))
    refine QS.turn (G' := refA b (toR D) :: F) (fun w hs => hs.drop) (QS.retV Tryz.results71 rfl ⟨?_, ?_⟩) <;> rw [storeM, if_pos (.inl hok)] <;> rfl
  | true =>
    have hl := logB_len hok
    have hms := mk_size (logB e xs)
    simp only [if_true]
    repeat' (first|refine bA ?_|refine bkq fun q=>?_|(refine bk2 ?_ ?_<;>(first|exact bkn|(refine bkk ?_;intro h))))
    · refine QS.turn (G' := refA b (toR D) :: F) (fun w hs => hs.drop) (QS.retV Tryz.results71 rfl ⟨?_, ?_⟩) <;> rw [storeM, if_pos (.inr (.inl (name_short.2 (by assumption))))] <;> rfl
    · refine QS.turn (G' := refA b (toR D) :: F) (fun w hs => hs.drop) (QS.retV Tryz.results71 rfl ⟨?_, ?_⟩) <;> rw [storeM, if_pos (.inr (.inr (by assumption)))] <;> rfl
    · have e1 : storeM D e xs name = place1 D (name ++ dotNew) name (mk (logB e xs)) := by rw [storeM, if_neg (by simp only [hok, Bool.true_eq_false, false_or, not_or, name_short]; exact ⟨by assumption, by assumption⟩)]
      refine WL.call c118 rfl rfl rfl rfl ((ref_Place b D hD name (mk (logB e xs)) (by omega) (by omega) W0 _).pre (fun w hs => hs.front (i := 1) rfl)) ?_
      rintro _ _ ⟨rfl, rfl⟩
      repeat' (first|refine bA ?_|refine bkq fun q=>?_|(refine bk2 ?_ ?_<;>(first|exact bkn|(refine bkk ?_;intro h))))
      refine QS.turn (G' := refA b _ :: F) (fun w hs => hs.kick (i := 1) rfl) (QS.retV Tryz.results71 rfl ⟨?_, ?_⟩) <;> rw [e1] <;> rfl
set_option maxHeartbeats 2000000 in
theorem ref_Add (b : Nat) (D : Disk) (hD : DiskOk D) (name : ByteArray) (n : Int) (s : ByteArray) (W0 : World) (F : List SL) :
    Fn Tryz.prog 133 [.pointer (some ⟨b, 0, none⟩), .string name, .agg #[.int .i64 n, .string s]] W0 (refA b (toR D) :: F) (Ret fun v G' => v = .int .i64 (addM D n s name).1 ∧ G' = refA b (toR (addM D n s name).2) :: F) := by
  refine Fn.enter Tryz.func133 rfl Tryz.ntmps133 rfl ?_
  repeat' (first|refine bA ?_|refine bkq fun q=>?_|(refine bk2 ?_ ?_<;>(first|exact bkn|(refine bkk ?_;intro h))))
  all_goals try (refine QS.turn (G' := refA b (toR D) :: F) (fun w hs => hs.drop) (QS.retV Tryz.results133 rfl ⟨?_, ?_⟩) <;> rw [addM, if_pos (by first | exact .inl (by assumption) | exact .inr (.inl (by assumption)) | exact .inr (.inr (.inl (by assumption))) | exact .inr (.inr (.inr (.inl (name_short.2 (by assumption))))) | exact .inr (.inr (.inr (.inr (by assumption)))))] <;> rfl)
  have hneg : ¬ (600 < (s.size : Int) ∨ n < 1 ∨ 300 < n ∨ name = noStr ∨ 16 < (name.size : Int)) := by simp only [not_or, name_short]; exact ⟨by assumption, by assumption, by assumption, by assumption, by assumption⟩
  refine WL.call c67 rfl rfl rfl rfl ((rdisk_Read b _ (toR_len hD) name W0 _).pre (fun w hs => hs.front (i := 1) rfl)) ?_
  rintro _ _ ⟨rfl, rfl⟩
  rw [toR_read hD]
  have hI : I64 n := by unfold I64; constructor <;> omega
  have hpl := partB_len n hI (bs s)
  have hms := mk_size (partB n (bs s))
  repeat' (first|refine bA ?_|refine bkq fun q=>?_|(refine bk2 ?_ ?_<;>(first|exact bkn|(refine bkk ?_;intro h))))
  · refine QS.turn (G' := refA b (toR D) :: F) (fun w hs => hs.kick (i := 1) rfl) (QS.retV Tryz.results133 rfl ⟨?_, ?_⟩) <;> rw [addM, if_neg hneg, if_pos (by assumption)] <;> rfl
  · refine WL.call c154 rfl rfl rfl rfl (ref_one n hI s (by omega) W0 _) ?_
    rintro _ _ ⟨rfl, rfl⟩
    refine WL.call c156 rfl rfl rfl rfl (rdisk_Append b _ (toR_ok hD) name (mk (partB n (bs s))) (by omega) W0 _) ?_
    rintro _ _ ⟨rfl, rfl⟩
    rw [toR_append hD]
    have okA := append_ok hD name (mk (partB n (bs s))) (fun _ => trivial)
    have e0 : addM D n s name = if ¬ (D.append name (mk (partB n (bs s)))).1 = 0 then D.append name (mk (partB n (bs s))) else (D.append name (mk (partB n (bs s)))).2.sync name := by rw [addM, if_neg hneg, if_neg (fun e => e (by assumption))]
    repeat' (first|refine bA ?_|refine bkq fun q=>?_|(refine bk2 ?_ ?_<;>(first|exact bkn|(refine bkk ?_;intro h))))
    · refine QS.turn (G' := refA b _ :: F) (fun w hs => hs.kick (i := 1) rfl) (QS.retV Tryz.results133 rfl ⟨?_, ?_⟩) <;> rw [e0, if_pos (by assumption)] <;> rfl
    · refine WL.call c157 rfl rfl rfl rfl (rdisk_Sync b _ (toR_ok okA) name W0 _) ?_
      rintro _ _ ⟨rfl, rfl⟩
      rw [toR_sync okA]
      repeat' (first|refine bA ?_|refine bkq fun q=>?_|(refine bk2 ?_ ?_<;>(first|exact bkn|(refine bkk ?_;intro h))))
      refine QS.turn (G' := refA b _ :: F) (fun w hs => hs.kick (i := 1) rfl) (QS.retV Tryz.results133 rfl ⟨?_, ?_⟩) <;> rw [e0, if_neg (fun e => e (by assumption))] <;> rfl
end Go.Proofs.YtfolmcpfdcgliaaGreat.B

namespace Go.Proofs.YtfolmcpfdcgliaaGreat.B
open Go Go.Proofs
attribute [local irreducible] WL CS QS WQ WH WS Fn Op1 row Sat
def rjC (bx : Nat) (A : Option Addr) (c : Nat) (J : Jn) : List Value := [.pointer (some ⟨bx, 0, none⟩), .int .i64 J.p, .int .i64 J.e, .slice A J.xs.length c, .bool J.dead]
def rjA (b bx : Nat) (J : Jn) : SL := fun h => ∃ x : Option Addr × Nat, star (row b 112 (rjC bx x.1 x.2 J)) (slc entE 49 x.1 x.2 J.xs) h
section
variable {W0 : World} {F : List SL} {b bx : Nat} {J : Jn}
theorem rjA_open : ∀ w, Sat W0 (rjA b bx J :: F) w → ∃ x : Option Addr × Nat, Sat W0 (row b 112 (rjC bx x.1 x.2 J) :: slc entE 49 x.1 x.2 J.xs :: F) w := fun w hs => by
  obtain ⟨x, hx⟩ := Sat.ex (R := fun x : Option Addr × Nat => star (row b 112 (rjC bx x.1 x.2 J)) (slc entE 49 x.1 x.2 J.xs)) hs
  exact ⟨x, hx.split⟩
theorem rjA_shut {A : Option Addr} {c : Nat} : ∀ w, Sat W0 (row b 112 (rjC bx A c J) :: slc entE 49 A c J.xs :: F) w → Sat W0 (rjA b bx J :: F) w := fun w hs =>
  hs.join.imp fun hp h => ⟨(A, c), h⟩
end
attribute [local irreducible] slc rjA refA
theorem r_answer (e : Int) (h : I64 e) (W0 : World) (F : List SL) :
    Fn Tryz.prog 89 [.int .i64 e] W0 F (Ret fun v G' => v = .string (mk (saidB e)) ∧ G' = F) := by
  refine Fn.enter Tryz.func89 rfl Tryz.ntmps89 rfl ?_
  repeat' (first|refine bA ?_|refine bkq fun q=>?_|(refine bk2 ?_ ?_<;>(first|exact bkn|(refine bkk ?_;intro h))))
  refine WL.call c127 rfl rfl rfl rfl (r_num e h W0 _) ?_
  rintro _ G2 ⟨rfl, hG2⟩
  rw [hG2]; clear hG2 G2
  refine WL.buildSlice TT rfl rfl rfl rfl rfl rfl rfl rfl (fun q => ?_)
  refine WL.call c126 rfl rfl rfl rfl (r_join _ _ _ (saidL e) rfl (saidL_ok h) W0 _ (Rd.row (i := 0) rfl rfl)) ?_
  rintro _ G2 ⟨rfl, hG2⟩
  rw [hG2]; clear hG2 G2
  repeat' (first|refine bA ?_|refine bkq fun q=>?_|(refine bk2 ?_ ?_<;>(first|exact bkn|(refine bkk ?_;intro h))))
  exact QS.turn (G' := F) (fun w hs => hs.drop) (QS.retV Tryz.results89 rfl ⟨rfl, rfl⟩)
theorem r_promise (b bx : Nat) (J : Jn) (D : Disk) (hD : DiskOk D) (ep : Int) (hI : I64 ep) (W0 : World) (F : List SL) :
    Fn Tryz.prog 132 [.pointer (some ⟨b, 0, none⟩), .int .i64 ep] W0 (rjA b bx J :: refA bx (toR D) :: F)
      (Ret fun v G' => v = .int .i64 (promJ J D ep).1 ∧ G' = rjA b bx (promJ J D ep).2.1 :: refA bx (toR (promJ J D ep).2.2) :: F) := by
  refine Fn.ex (fun w hs => rjA_open w hs) ?_
  rintro ⟨A, c⟩
  refine Fn.enter Tryz.func132 rfl Tryz.ntmps132 rfl ?_
  simp only [rjC]
  have hnl := num_len hI
  have hms := mk_size (numB ep)
  repeat' (first|refine bA ?_|refine bkq fun q=>?_|(refine bk2 ?_ ?_<;>(first|exact bkn|(refine bkk ?_;intro h))))
  refine WL.call c127 rfl rfl rfl rfl (r_num ep hI W0 _) ?_
  rintro _ G2 ⟨rfl, hG2⟩
  rw [hG2]; clear hG2 G2
  refine WL.call c153 rfl rfl rfl rfl (ref_Seal _ (by omega) W0 _) ?_
  rintro _ G2 ⟨rfl, hG2⟩
  rw [hG2, if_neg (by omega), bs_mk]; clear hG2 G2
  have hsl := (sealB_len (s := numB ep) (by omega)).1
  have hms2 := mk_size (sealB (numB ep))
  repeat' (first|refine bA ?_|refine bkq fun q=>?_|(refine bk2 ?_ ?_<;>(first|exact bkn|(refine bkk ?_;intro h))))
  refine WL.call c118 rfl rfl rfl rfl ((ref_Place bx D hD jProm (mk (sealB (numB ep))) (by decide) (by omega) W0 _).pre (fun w hs => hs.front (i := 2) rfl)) ?_
  rw [show place1 D (jProm ++ dotNew) jProm (mk (sealB (numB ep))) = placeP D ep from rfl]
  rintro _ _ ⟨rfl, rfl⟩
  by_cases h0 : (placeP D ep).1 = 0
  · repeat' (first|refine bA ?_|refine bkq fun q=>?_|(refine bk2 ?_ ?_<;>(first|exact bkn|(refine bkk ?_;intro h))))
    refine QS.turn (G' := rjA b bx { J with p := ep } :: refA bx (toR (placeP D ep).2) :: F) (fun w hs => rjA_shut (A := A) (c := c) w ((hs.front (i := 2) rfl).front (i := 2) rfl)) (QS.retV Tryz.results132 rfl ⟨?_, ?_⟩)
    · rfl
    · rw [promJ, if_pos h0]
  · repeat' (first|refine bA ?_|refine bkq fun q=>?_|(refine bk2 ?_ ?_<;>(first|exact bkn|(refine bkk ?_;intro h))))
    refine QS.turn (G' := rjA b bx J :: refA bx (toR (placeP D ep).2) :: F) (fun w hs => rjA_shut (A := A) (c := c) w ((hs.front (i := 2) rfl).front (i := 2) rfl)) (QS.retV Tryz.results132 rfl ⟨?_, ?_⟩)
    · rfl
    · rw [promJ, if_neg h0]
end Go.Proofs.YtfolmcpfdcgliaaGreat.B
