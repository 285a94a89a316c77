import Derived.Test.YtpklbelejebcfaaGreatAu
import Derived.Test.YtpklbelejebcfaaGreatTj
set_option linter.unusedVariables false
set_option linter.unusedSimpArgs false
set_option maxRecDepth 8000
/-! A string builder. -/
namespace Go.Proofs.YtpklbelejebcfaaGreat.B
open Go Go.Proofs
attribute [local irreducible] WL CS QS WQ WH WS Fn Op1 row Sat

def bldA (b : Nat) (l : List UInt8) : SL := fun h => ∃ p A c, (p = none ∨ p = some ⟨b, 0, none⟩) ∧ star (row b 91 [.pointer p, .slice A l.length c]) (slc byteE 5 A c l) h
theorem bldA_open {W0 : World} {F : List SL} {b : Nat} {l : List UInt8} : ∀ w, Sat W0 (bldA b l :: F) w → ∃ x : Bool × Option Addr × Nat, Sat W0 (row b 91 [.pointer (if x.1 then some ⟨b, 0, none⟩ else none), .slice x.2.1 l.length x.2.2] :: slc byteE 5 x.2.1 x.2.2 l :: F) w := fun w hs => by
  obtain ⟨p, hp⟩ := Sat.ex hs
  obtain ⟨A, hA⟩ := Sat.ex hp
  obtain ⟨c, hc⟩ := Sat.ex hA
  obtain ⟨hpp, hc2⟩ := Sat.pure hc
  rcases hpp with rfl | rfl
  · exact ⟨(false, A, c), hc2.split⟩
  · exact ⟨(true, A, c), hc2.split⟩
theorem bldA_shut {W0 : World} {F : List SL} {b : Nat} {l : List UInt8} {p A : Option Addr} {c : Nat} (hp : p = none ∨ p = some ⟨b, 0, none⟩) : ∀ w, Sat W0 (row b 91 [.pointer p, .slice A l.length c] :: slc byteE 5 A c l :: F) w → Sat W0 (bldA b l :: F) w := fun w hs =>
  hs.join.imp fun hh h => ⟨p, A, c, hp, h⟩
theorem unsafe_und : Tryz.prog.underlying 126 = some .unsafePointer := by kernel_rfl
theorem copyCheck (b : Nat) (f : Bool) (sl : Value) (W0 : World) (G : List SL) :
    Fn Tryz.prog 70 [.pointer (some ⟨b, 0, none⟩)] W0 (row b 91 [.pointer (if f then some ⟨b, 0, none⟩ else none), sl] :: G) (Ret fun v G' => v = .tuple #[] ∧ G' = row b 91 [.pointer (some ⟨b, 0, none⟩), sl] :: G) := by
  refine Fn.enter Tryz.func70 rfl Tryz.ntmps70 rfl ?_
  cases f
  all_goals simp only [Bool.false_eq_true, if_true, if_false]
  all_goals repeat' (first|refine bk ?_|refine bkc ?_|refine bks ?_|refine bkd ?_|refine bkq (fun q => ?_)|(refine bk2 ?_ ?_<;>(first|exact bkn|(refine bkk ?_;intro h))))
  · refine WL.s (op1_toU TT 0 rfl (by simp) rfl rfl rfl rfl unsafe_und) rfl ?_
    refine WL.extern (v := .pointer (some ⟨b, 0, none⟩)) (fun w => ?_) rfl rfl rfl ?_
    · rw [run_callFunc_extern Tryz.func83 (by kernel_rfl) (by kernel_rfl) (by kernel_rfl) (e := Extern.AbiNoEscape.same) (by kernel_rfl)]; rfl
    refine WL.s (op1_fromU TT 0 rfl rfl rfl rfl unsafe_und (by kernel_rfl)) rfl ?_
    repeat' (first|refine bk ?_|refine bkc ?_|refine bks ?_|refine bkd ?_|refine bkq (fun q => ?_)|(refine bk2 ?_ ?_<;>(first|exact bkn|(refine bkk ?_;intro h))))
    exact QS.endV Tryz.results70 rfl ⟨rfl, rfl⟩
  · refine WL.s (op1_neqSame TT rfl rfl rfl rfl) rfl ?_
    repeat' (first|refine bk ?_|refine bkc ?_|refine bks ?_|refine bkd ?_|refine bkq (fun q => ?_)|(refine bk2 ?_ ?_<;>(first|exact bkn|(refine bkk ?_;intro h))))
    exact QS.endV Tryz.results70 rfl ⟨rfl, rfl⟩

theorem bld_WriteString (b : Nat) (l : List UInt8) (s : ByteArray) (hb : l.length + s.size ≤ 140737488355328) (W0 : World) (G : List SL) :
    Fn Tryz.prog 44 [.pointer (some ⟨b, 0, none⟩), .string s] W0 (bldA b l :: G) (Ret fun v G' => v = .tuple #[.int .i64 (s.size : Int), .nilIface] ∧ G' = bldA b (l ++ bs s) :: G) := by
  refine Fn.ex (fun w hs => bldA_open w hs) ?_
  rintro ⟨f, A, c⟩
  refine Fn.enter Tryz.func44 rfl Tryz.ntmps44 rfl ?_
  repeat' (first|refine bk ?_|refine bkc ?_|refine bks ?_|refine bkd ?_|refine bkq (fun q => ?_)|(refine bk2 ?_ ?_<;>(first|exact bkn|(refine bkk ?_;intro h))))
  refine WL.call c70 rfl rfl rfl rfl (copyCheck b f _ W0 _) ?_
  rintro _ _ ⟨rfl, rfl⟩
  repeat' (first|refine bk ?_|refine bkc ?_|refine bks ?_|refine bkd ?_|refine bkq (fun q => ?_)|(refine bk2 ?_ ?_<;>(first|exact bkn|(refine bkk ?_;intro h))))
  refine WL.appendS TT 1 rfl rfl rfl rfl rfl rfl rfl (by omega) (fun _ _ => rfl) rfl (fun A' c' => ?_)
  repeat' (first|refine bk ?_|refine bkc ?_|refine bks ?_|refine bkd ?_|refine bkq (fun q => ?_)|(refine bk2 ?_ ?_<;>(first|exact bkn|(refine bkk ?_;intro h))))
  exact QS.turn (G' := bldA b (l ++ bs s) :: G) (bldA_shut (.inr rfl)) (QS.retV Tryz.results44 rfl ⟨rfl, rfl⟩)

theorem bld_String (b : Nat) (l : List UInt8) (h0 : l ≠ []) (W0 : World) (G : List SL) :
    Fn Tryz.prog 45 [.pointer (some ⟨b, 0, none⟩)] W0 (bldA b l :: G) (Ret fun v G' => v = .string (mk l) ∧ G' = G) := by
  refine Fn.ex (fun w hs => bldA_open w hs) ?_
  rintro ⟨f, A, c⟩
  refine Fn.world fun ⟨w, hs⟩ => ?_
  simp only at hs ⊢
  obtain ⟨g, rfl, hc⟩ : ∃ g, A = some ⟨g, 0, none⟩ ∧ c ≠ 0 := by
    obtain ⟨hp, hP, _⟩ := hs.drop.head
    rcases hP with ⟨_, _, h1⟩ | ⟨g, cur, h1, _, h2, _⟩
    · exact absurd h1 h0
    · have := List.length_pos_iff.2 h0
      exact ⟨g, h1, by omega⟩
  refine Fn.enter Tryz.func45 rfl Tryz.ntmps45 rfl ?_
  refine CS.seq ?_
  refine CS.region ?_
  repeat' (first|refine bk ?_|refine bkh ?_|refine bkw ?_|refine bkq (fun q => ?_)|((first|refine bk2 ?_ ?_|refine bk2h ?_ ?_)<;>(first|exact bkn|(refine bkk ?_;intro h))))
  refine QS.then ?_
  refine CS.seq ?_
  refine CS.drawT 10 mixed (by kernel_rfl) rfl ?_
  repeat' (first|refine bk ?_|refine bkh ?_|refine bkw ?_|refine bkq (fun q => ?_)|((first|refine bk2 ?_ ?_|refine bk2h ?_ ?_)<;>(first|exact bkn|(refine bkk ?_;intro h))))
  refine WH.s (op1_sliceData rfl hc) rfl ?_
  repeat' (first|refine bk ?_|refine bkh ?_|refine bkw ?_|refine bkq (fun q => ?_)|((first|refine bk2 ?_ ?_|refine bk2h ?_ ?_)<;>(first|exact bkn|(refine bkk ?_;intro h))))
  refine WL.unsafeString TT 1 rfl rfl rfl rfl h0 rfl (by kernel_rfl) rfl ?_
  repeat' (first|refine bk ?_|refine bkc ?_|refine bks ?_|refine bkd ?_|refine bkq (fun q => ?_)|(refine bk2 ?_ ?_<;>(first|exact bkn|(refine bkk ?_;intro h))))
  exact QS.turn (G' := G) (fun w hs => hs.drop) (QS.retV Tryz.results45 rfl ⟨rfl, rfl⟩)
end Go.Proofs.YtpklbelejebcfaaGreat.B
