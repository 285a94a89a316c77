import Derived.Test.YtpklbelejebcfaaGreatLe
set_option linter.unusedVariables false
set_option linter.unusedSimpArgs false
set_option maxRecDepth 8000
/-! A log on a disk that had nothing. -/
namespace Go.Proofs.YtpklbelejebcfaaGreat.B
open Go

def disk1 (room : Int) (name t : ByteArray) : Disk := ⟨[(name, ⟨t, t.size⟩)], room, t.size, 0, false⟩
theorem blow_still {D : Disk} (h : D.fuse = 0) : D.blow = (D.down, D) := by unfold Disk.blow; rw [if_neg (by omega)]
theorem append_first {room : Int} {name t : ByteArray} {files : List (ByteArray × File)} (h1 : name ≠ noStr) (h2 : name.size ≤ 30) (ht : t.size ≤ 400000) (hr : (t.size : Int) ≤ room) :
    (⟨[], room, 0, 0, false⟩ : Disk).append name t = (0, ⟨[(name, ⟨noStr ++ t, 0⟩)], room, 0 + t.size, 0, false⟩) := by
  unfold Disk.append
  rw [if_neg (by simp), if_neg (by simp only [not_or]; exact ⟨h1, by omega⟩), if_neg (by simp [Disk.at, Disk.has, aget, noStr_size]; omega), if_neg (by simp only; omega), blow_still rfl, if_neg (by simp)]
  simp [Disk.at, aget, aput]
theorem noStr_cat (t : ByteArray) : noStr ++ t = t := by apply ByteArray.ext; simp [noStr]
theorem sync_one {room used : Int} {name t : ByteArray} {k : Int} : (⟨[(name, ⟨t, k⟩)], room, used, 0, false⟩ : Disk).sync name = (0, ⟨[(name, ⟨t, t.size⟩)], room, used, 0, false⟩) := by
  unfold Disk.sync
  rw [if_neg (by simp), if_neg (by simp [Disk.has, aget]), blow_still rfl, if_neg (by simp)]
  simp [Disk.at, aget, aput]
theorem rename_one {room used : Int} {a b t : ByteArray} {k : Int} (h1 : b ≠ noStr) (h2 : b.size ≤ 30) (hne : a ≠ b) : (⟨[(a, ⟨t, k⟩)], room, used, 0, false⟩ : Disk).rename a b = (0, ⟨[(b, ⟨t, k⟩)], room, used - 0, 0, false⟩) := by
  unfold Disk.rename
  rw [if_neg (by simp), if_neg (by simp only [not_or]; exact ⟨h1, by omega⟩), if_neg (by simp [Disk.has, aget]), blow_still rfl, if_neg (by simp), if_neg hne]
  simp [Disk.at, aget, aput, adel, hne, noStr_size]
theorem read_none {D : Disk} {name : ByteArray} (h1 : D.down = false) (h2 : aget D.files name = none) : D.read name = (noStr, 5) := by
  unfold Disk.read; rw [if_neg (by rw [h1]; decide), if_pos (by simp [Disk.has, h2])]
theorem read_one {room used : Int} {name t : ByteArray} {k : Int} : (⟨[(name, ⟨t, k⟩)], room, used, 0, false⟩ : Disk).read name = (t, 0) := by
  unfold Disk.read; rw [if_neg (by simp), if_neg (by simp [Disk.has, aget])]; simp [Disk.at, aget]
theorem place_first {room : Int} {name text nw : ByteArray} (h1 : name ≠ noStr) (h2 : name.size ≤ 30) (h3 : nw ≠ noStr) (h4 : nw.size ≤ 30) (hne : nw ≠ name) (ht : text.size ≤ 400000) (hr : (text.size : Int) ≤ room) :
    place1 ⟨[], room, 0, 0, false⟩ nw name text = (0, disk1 room name text) := by
  unfold place1
  rw [read_none rfl rfl, if_pos rfl]
  unfold place2
  rw [append_first (files := []) h3 h4 ht hr]
  simp only [not_true_eq_false, if_false, noStr_cat]
  rw [sync_one]
  simp only [not_true_eq_false, if_false]
  rw [rename_one h1 h2 hne]
  simp [disk1]
theorem add_one {room : Int} {name t p : ByteArray} (h1 : name ≠ noStr) (h2 : name.size ≤ 30) (ht : t.size + p.size ≤ 400000) (hr : (t.size + p.size : Nat) ≤ room) : (disk1 room name t).append name p = (0, ⟨[(name, ⟨t ++ p, t.size⟩)], room, t.size + p.size, 0, false⟩) := by
  unfold Disk.append disk1
  rw [if_neg (by simp), if_neg (by simp only [not_or]; exact ⟨h1, by omega⟩), if_neg (by simp [Disk.at, Disk.has, aget]; omega), if_neg (by simp only; omega), blow_still rfl, if_neg (by simp)]
  simp [Disk.at, aget, aput]
theorem new_is {r : Int} (h : 0 ≤ r) : Disk.new r = ⟨[], r, 0, 0, false⟩ := by unfold Disk.new; rw [Int.max_eq_left h]
theorem cat_dot_ne {name : ByteArray} : name ++ dotNew ≠ name ∧ name ++ dotNew ≠ noStr ∧ (name ++ dotNew).size = name.size + 4 := by
  have h : (name ++ dotNew).size = name.size + 4 := by rw [ByteArray.size_append]; rfl
  refine ⟨fun e => ?_, fun e => ?_, h⟩
  · rw [e] at h; omega
  · rw [e, noStr_size] at h; omega
theorem store_first {room e : Int} {xs : List Ent} {name : ByteArray} (hr0 : 0 ≤ room) (hok : logOk e xs = true) (h1 : name ≠ noStr) (h2 : name.size ≤ 16) (ht : (logB e xs).length ≤ 400000) (hr : ((logB e xs).length : Int) ≤ room) :
    storeM (Disk.new room) e xs name = (0, disk1 room name (mk (logB e xs))) := by
  obtain ⟨h3, h4, h5⟩ := cat_dot_ne (name := name)
  unfold storeM
  rw [if_neg (by simp only [hok, Bool.true_eq_false, false_or, not_or]; exact ⟨h1, by omega⟩), new_is hr0, place_first h1 (by omega) h4 (by omega) h3 (by rw [mk_size]; exact ht) (by rw [mk_size]; exact hr)]
theorem addM_one {room n : Int} {name t s : ByteArray} (h1 : name ≠ noStr) (h2 : name.size ≤ 16) (hn : 1 ≤ n ∧ n ≤ 300) (hs : s.size ≤ 600) (ht : t.size + (partB n (bs s)).length ≤ 400000) (hr : (t.size + (partB n (bs s)).length : Nat) ≤ room) :
    addM (disk1 room name t) n s name = (0, disk1 room name (t ++ mk (partB n (bs s)))) := by
  unfold addM
  have e1 : (disk1 room name t).read name = (t, 0) := read_one
  rw [if_neg (by simp only [not_or]; exact ⟨by omega, by omega, by omega, h1, by omega⟩), e1, if_neg (by simp), add_one h1 (by omega) (by rw [mk_size]; exact ht) (by rw [mk_size]; exact hr)]
  simp only [not_true_eq_false, if_false]
  rw [sync_one]
  simp [disk1, ByteArray.size_append]
theorem load_one {room : Int} {name t : ByteArray} : loadM (bs ((disk1 room name t).read name).1) ((disk1 room name t).read name).2 = loadM (bs t) 0 := by
  have e1 : (disk1 room name t).read name = (t, 0) := read_one
  rw [e1]
theorem place2_ok {D : Disk} (h : DiskOk D) (nw name text : ByteArray) : DiskOk (place2 D nw name text).2 := by
  unfold place2
  split
  · exact append_ok h nw text (fun _ => trivial)
  · split
    · exact sync_ok (append_ok h nw text (fun _ => trivial)) nw
    · exact rename_ok (sync_ok (append_ok h nw text (fun _ => trivial)) nw) nw name
theorem place1_ok {D : Disk} (h : DiskOk D) (nw name text : ByteArray) : DiskOk (place1 D nw name text).2 := by
  unfold place1
  split
  · exact place2_ok h _ _ _
  · split
    · split
      · exact delete_ok h nw
      · exact place2_ok (delete_ok h nw) _ _ _
    · exact h
theorem storeM_ok {D : Disk} (h : DiskOk D) (e : Int) (xs : List Ent) (name : ByteArray) : DiskOk (storeM D e xs name).2 := by
  unfold storeM
  split
  · exact h
  · exact place1_ok h _ _ _
theorem addM_ok {D : Disk} (h : DiskOk D) (n : Int) (s name : ByteArray) : DiskOk (addM D n s name).2 := by
  unfold addM
  split
  · exact h
  · split
    · exact h
    · split
      · exact append_ok h _ _ (fun _ => trivial)
      · exact sync_ok (append_ok h _ _ (fun _ => trivial)) _
/-- The chapter's example. -/
theorem example_disk : let name : ByteArray := ⟨#[108, 111, 103]⟩
    storeM (Disk.new 1000) 3 [] name = (0, disk1 1000 name (mk (logB 3 []))) ∧
    addM (disk1 1000 name (mk (logB 3 []))) 1 ⟨#[120]⟩ name = (0, disk1 1000 name (mk (logB 3 [⟨1, ⟨#[120]⟩⟩]))) ∧
    loadM (bs (mk (logB 3 [⟨1, ⟨#[120]⟩⟩]))) 0 = (3, [⟨1, ⟨#[120]⟩⟩], true, 0) ∧ logOk 3 [⟨1, ⟨#[120]⟩⟩] = true := by
  intro name
  have hn1 : name ≠ noStr := by decide
  have hl3 := num_len (n := 3) (by unfold I64; decide)
  have hl1 := num_len (n := 1) (by unfold I64; decide)
  have hs3 := sealB_len (s := numB 3 ++ []) (by rw [List.length_append]; simp; omega)
  have hs1 := sealB_len (s := numB 1 ++ bs ⟨#[120]⟩) (by rw [List.length_append]; show _ + 1 ≤ _; omega)
  rw [List.length_append] at hs3 hs1
  have e3 : partB 3 [] = sealB (numB 3 ++ []) := by rw [partB, if_neg (by rw [List.length_append]; simp; omega)]
  have e1 : partB 1 (bs ⟨#[120]⟩) = sealB (numB 1 ++ bs ⟨#[120]⟩) := by rw [partB, if_neg (by rw [List.length_append]; show ¬ 4000 < _ + 1; omega)]
  have hb1 : (bs (⟨#[120]⟩ : ByteArray)).length = 1 := rfl
  have eL : logB 3 [] = partB 3 [] := by simp [logB, entB]
  have eL2 : logB 3 [⟨1, ⟨#[120]⟩⟩] = logB 3 [] ++ partB 1 (bs ⟨#[120]⟩) := by simp [logB, entB]
  have hlen3 : (logB 3 []).length ≤ 24 := by rw [eL, e3]; have := hs3.1; simp only [List.length_nil] at this; omega
  have hlen1 : (partB 1 (bs ⟨#[120]⟩)).length ≤ 25 := by rw [e1]; omega
  have hok : logOk 3 [⟨1, ⟨#[120]⟩⟩] = true := by decide
  refine ⟨store_first (by decide) (by decide) hn1 (by decide) (by omega) (by omega), ?_, ?_, hok⟩
  · rw [addM_one hn1 (by decide) (by decide) (by decide) (by rw [mk_size]; omega) (by rw [mk_size]; omega), eL2, mk_cat]
  · have := parseP_log hok [] (.inr (takeEnt_nil _))
    rw [List.append_nil] at this
    rw [loadM, if_pos rfl, bs_mk, this]
    simp
end Go.Proofs.YtpklbelejebcfaaGreat.B
