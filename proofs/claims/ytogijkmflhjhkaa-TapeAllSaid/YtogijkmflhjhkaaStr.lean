/- Strings as lists of bytes. Plain lemmas, no condition. -/
import Derived.Test.YtogijkmflhjhkaaLst
namespace Go.Proofs.Ytogijkmflhjhkaa
open Go.Sx Go.RowKit
set_option linter.unusedSimpArgs false
set_option linter.unusedVariables false

/-- The string of bytes; a string's bytes. -/
def sb (l : List (BitVec 8)) : ByteArray := ⟨(l.map UInt8.ofBitVec).toArray⟩
def ls (s : ByteArray) : List (BitVec 8) := s.data.toList.map UInt8.toBitVec
theorem sb_ls (s : ByteArray) : sb (ls s) = s := by
  cases s with
  | mk d =>
    unfold sb ls
    simp only [List.map_map]
    congr 1
    rw [show (UInt8.ofBitVec ∘ UInt8.toBitVec) = id from rfl, List.map_id]
theorem ls_sb (l : List (BitVec 8)) : ls (sb l) = l := by
  unfold sb ls
  simp only [List.map_map]
  rw [show (UInt8.toBitVec ∘ UInt8.ofBitVec) = id from rfl, List.map_id]
theorem ls_length (s : ByteArray) : (ls s).length = s.size := by unfold ls; rw [List.length_map]; exact Array.length_toList
theorem sb_size (l : List (BitVec 8)) : (sb l).size = l.length := by rw [← ls_length, ls_sb]
theorem sb_inj {a b : List (BitVec 8)} (h : sb a = sb b) : a = b := by rw [← ls_sb a, h, ls_sb]
theorem byteArray_ext {a b : ByteArray} (h : a.data.toList = b.data.toList) : a = b := by
  cases a; cases b; simp only at h; congr 1; exact Array.toList_inj.1 h
theorem ls_append (a b : ByteArray) : ls (a ++ b) = ls a ++ ls b := by
  unfold ls
  rw [ByteArray.data_append]
  simp
theorem sb_append (a b : List (BitVec 8)) : sb a ++ sb b = sb (a ++ b) := by
  rw [← sb_ls (sb a ++ sb b), ls_append, ls_sb, ls_sb]
theorem ls_extract (s : ByteArray) (a b : Nat) : ls (s.extract a b) = ((ls s).drop a).take (b - a) := by
  unfold ls
  rw [ByteArray.data_extract]
  simp [List.map_drop, List.map_take, List.extract_eq_take_drop]
theorem sb_extract (l : List (BitVec 8)) (a b : Nat) : (sb l).extract a b = sb ((l.drop a).take (b - a)) := by
  rw [← sb_ls ((sb l).extract a b), ls_extract, ls_sb]
theorem bytesI_ls (s : ByteArray) (j : Nat) : bytesI s j = UL (ls s) j := by
  unfold bytesI UL ls U
  by_cases h : j < s.data.size
  · simp [Array.getD_eq_getD_getElem?, List.getD_eq_getElem?_getD, h]
  · simp [Array.getD_eq_getD_getElem?, List.getD_eq_getElem?_getD, h]
theorem bytesI_sb (l : List (BitVec 8)) (j : Nat) : bytesI (sb l) j = UL l j := by rw [bytesI_ls, ls_sb]
theorem strI_sb {g : Nat → Int} {n : Nat} (h : R8 g n) : strI g n = sb (L8 g n) := by
  apply byteArray_ext
  unfold strI sb L8
  simp only [List.map_map]
  apply List.map_congr_left
  intro j hj
  have hj : j < n := by simpa using hj
  apply UInt8.toBitVec_inj.1
  show BitVec.ofNat 8 (g j).toNat = BitVec.ofInt 8 (g j)
  have := h j hj
  apply BitVec.eq_of_toNat_eq
  rw [BitVec.toNat_ofNat, BitVec.toNat_ofInt]
  have e1 : (2 : Nat) ^ 8 = 256 := rfl
  rw [e1]
  omega
theorem toList_loop (s : ByteArray) : ∀ (k i : Nat) (r : List UInt8), s.size - i = k → ByteArray.toList.loop s i r = r.reverse ++ s.data.toList.drop i := by
  intro k
  induction k with
  | zero =>
    intro i r h
    unfold ByteArray.toList.loop
    rw [if_neg (by omega), List.drop_eq_nil_of_le (by have e0 : s.size = s.data.size := rfl; rw [Array.length_toList]; omega)]
    simp
  | succ k ih =>
    intro i r h
    have hi : i < s.data.size := by have : s.size = s.data.size := rfl; omega
    unfold ByteArray.toList.loop
    rw [if_pos (by have : s.size = s.data.size := rfl; omega), ih (i + 1) _ (by omega)]
    have e : s.data.toList.drop i = s.data.toList[i]'(by simpa using hi) :: s.data.toList.drop (i + 1) := by
      rw [List.getElem_cons_drop]
    rw [e, List.reverse_cons, List.append_assoc, List.singleton_append]
    congr 2
    show s.data[i]! = _
    rw [getElem!_pos s.data i hi, Array.getElem_toList]
theorem toList_data (s : ByteArray) : s.toList = s.data.toList := by
  unfold ByteArray.toList
  rw [toList_loop s s.size 0 [] (by omega)]
  simp
theorem eq_sb (a b : List (BitVec 8)) : ((sb a).toList == (sb b).toList) = decide (a = b) := by
  rw [toList_data, toList_data]
  by_cases h : a = b
  · subst h; simp
  · rw [decide_eq_false h, beq_eq_false_iff_ne]
    intro e
    exact h (sb_inj (byteArray_ext e))
end Go.Proofs.Ytogijkmflhjhkaa
