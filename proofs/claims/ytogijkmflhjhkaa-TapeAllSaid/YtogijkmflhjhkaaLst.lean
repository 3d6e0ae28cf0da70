/- Lists of bit vectors as the evaluator's functions, and back. Plain lemmas, no condition. -/
import Derived.Test.YtogijkmflhjhkaaSxU
import Derived.Test.YtogijkmflhjhkaaBits
namespace Go.Proofs.Ytogijkmflhjhkaa
open Go.Sx Go.RowKit
set_option linter.unusedSimpArgs false
set_option linter.unusedVariables false

/-- A list's numbers. -/
def UL {n : Nat} (l : List (BitVec n)) (j : Nat) : Int := U (l.getD j 0)
/-- n bytes. -/
def L8 (f : Nat → Int) (n : Nat) : List (BitVec 8) := (List.range n).map fun j => BitVec.ofInt 8 (f j)
/-- They are bytes. -/
def R8 (f : Nat → Int) (n : Nat) : Prop := ∀ j, j < n → 0 ≤ f j ∧ f j < 256

theorem U_nonneg {n : Nat} (x : BitVec n) : 0 ≤ U x := by unfold U; omega
theorem U_lt8 (x : BitVec 8) : U x < 256 := by unfold U; have := x.isLt; omega
theorem U_lt32 (x : BitVec 32) : U x < 4294967296 := by unfold U; have := x.isLt; omega
theorem U_lt64 (x : BitVec 64) : U x < 18446744073709551616 := by unfold U; have := x.isLt; omega
theorem U_inj {n : Nat} {x y : BitVec n} (h : U x = U y) : x = y := by unfold U at h; exact BitVec.eq_of_toNat_eq (by omega)
theorem ofInt_U {n : Nat} (x : BitVec n) : BitVec.ofInt n (U x) = x := ofInt_toNat x
theorem U_ofInt8 {x : Int} (h0 : 0 ≤ x) (h1 : x < 256) : U (BitVec.ofInt 8 x) = x := by
  unfold U; rw [BitVec.toNat_ofInt]; simp; omega

theorem L8_length (f : Nat → Int) (n : Nat) : (L8 f n).length = n := by simp [L8]
theorem L8_get (f : Nat → Int) (n j : Nat) (h : j < n) : (L8 f n).getD j 0 = BitVec.ofInt 8 (f j) := by
  simp [L8, h]
theorem UL_L8 {f : Nat → Int} {n : Nat} (h : R8 f n) (j : Nat) (hj : j < n) : UL (L8 f n) j = f j := by
  unfold UL; rw [L8_get f n j hj, U_ofInt8 (h j hj).1 (h j hj).2]
theorem R8_UL (l : List (BitVec 8)) (n : Nat) : R8 (UL l) n := fun j _ => ⟨U_nonneg _, U_lt8 _⟩
theorem R8_put {f g : Nat → Int} {n m : Nat} (h : R8 f n) (h' : R8 g m) : R8 (put_ f n m g) (n + m) := by
  intro j hj
  unfold put_
  split
  · exact h' _ (by omega)
  · exact h _ (by omega)
theorem R8_shift {f : Nat → Int} {n a m : Nat} (h : R8 f n) (ha : a + m ≤ n) : R8 (fun j => f (a + j)) m := fun j hj => h _ (by omega)
theorem R8_le {f : Nat → Int} {n m : Nat} (h : R8 f n) (hm : m ≤ n) : R8 f m := fun j hj => h j (by omega)
theorem L8_UL (l : List (BitVec 8)) : L8 (UL l) l.length = l := by
  apply List.ext_getElem?
  intro j
  by_cases h : j < l.length
  · simp [L8, UL, h, ofInt_U]
  · rw [List.getElem?_eq_none (by rw [L8_length]; omega), List.getElem?_eq_none (by omega)]
theorem L8_UL' {l : List (BitVec 8)} {n : Nat} (h : n = l.length) : L8 (UL l) n = l := by subst h; exact L8_UL l
theorem L8_put (f g : Nat → Int) (n m : Nat) : L8 (put_ f n m g) (n + m) = L8 f n ++ L8 g m := by
  apply List.ext_getElem?
  intro j
  by_cases h : j < n
  · rw [List.getElem?_append_left (by rw [L8_length]; exact h)]
    have h2 : j < n + m := by omega
    simp only [L8, List.getElem?_map, List.getElem?_range h, List.getElem?_range h2, Option.map_some, put_]
    rw [if_neg (by omega)]
  · rw [List.getElem?_append_right (by rw [L8_length]; omega), L8_length]
    by_cases h2 : j < n + m
    · have h3 : j - n < m := by omega
      simp only [L8, List.getElem?_map, List.getElem?_range h2, List.getElem?_range h3, Option.map_some, put_]
      rw [if_pos (by omega)]
    · rw [List.getElem?_eq_none (by rw [L8_length]; omega), List.getElem?_eq_none (by rw [L8_length]; omega)]
theorem L8_take (f : Nat → Int) (n m : Nat) (h : m ≤ n) : L8 f m = (L8 f n).take m := by
  apply List.ext_getElem?
  intro j
  by_cases hj : j < m
  · have : j < n := by omega
    rw [List.getElem?_take_of_lt hj]
    simp [L8, hj, this]
  · rw [List.getElem?_eq_none (by rw [L8_length]; omega), List.getElem?_eq_none (by rw [List.length_take]; omega)]
theorem L8_drop (f : Nat → Int) (n a : Nat) : L8 (fun j => f (a + j)) (n - a) = (L8 f n).drop a := by
  apply List.ext_getElem?
  intro j
  rw [List.getElem?_drop]
  by_cases hj : j < n - a
  · have : a + j < n := by omega
    simp [L8, hj, this]
  · rw [List.getElem?_eq_none (by rw [L8_length]; omega), List.getElem?_eq_none (by rw [L8_length]; omega)]
theorem L8_congr {f g : Nat → Int} {n : Nat} (h : ∀ j, j < n → f j = g j) : L8 f n = L8 g n := by
  unfold L8; exact List.map_congr_left fun j hj => by rw [h j (by simpa using hj)]

theorem UL_snoc {n : Nat} (l : List (BitVec n)) (x : BitVec n) : upd (UL l) l.length (U x) = UL (l ++ [x]) := by
  funext j
  simp only [upd, UL]
  by_cases h : j = l.length
  · subst h; simp
  · rw [if_neg h]
    by_cases h2 : j < l.length
    · simp [List.getD_eq_getElem?_getD, List.getElem?_append_left h2]
    · rw [List.getD_eq_getElem?_getD, List.getD_eq_getElem?_getD, List.getElem?_eq_none (by omega), List.getElem?_eq_none (by simp; omega)]
theorem UL_nil {n : Nat} (j : Nat) : UL ([] : List (BitVec n)) j = 0 := by simp [UL, U]
theorem UL_getD {n : Nat} (l : List (BitVec n)) (j : Nat) : UL l j = U (l.getD j 0) := rfl
theorem UL_app {n : Nat} (a b : List (BitVec n)) (j : Nat) (h : j < a.length + b.length) : put_ (UL a) a.length b.length (UL b) j = UL (a ++ b) j := by
  simp only [put_, UL]
  by_cases h1 : j < a.length
  · rw [if_neg (by omega), List.getD_eq_getElem?_getD, List.getD_eq_getElem?_getD, List.getElem?_append_left h1]
  · rw [if_pos (by omega), List.getD_eq_getElem?_getD, List.getD_eq_getElem?_getD, List.getElem?_append_right (by omega)]
theorem put_0 {f g : Nat → Int} {n j : Nat} (h : j < n) : put_ f 0 n g j = g j := by
  simp only [put_]; rw [if_pos (by omega), Nat.sub_zero]
theorem L8_sub (f : Nat → Int) (n a b : Nat) (h : a + b ≤ n) : L8 (fun j => f (a + j)) b = ((L8 f n).drop a).take b := by
  rw [← L8_drop, ← L8_take _ _ _ (show b ≤ n - a by omega)]
/-- n words. -/
def L32 (f : Nat → Int) (n : Nat) : List (BitVec 32) := (List.range n).map fun j => BitVec.ofInt 32 (f j)
def R32 (f : Nat → Int) (n : Nat) : Prop := ∀ j, j < n → 0 ≤ f j ∧ f j < 4294967296
theorem U_ofInt32 {x : Int} (h0 : 0 ≤ x) (h1 : x < 4294967296) : U (BitVec.ofInt 32 x) = x := by
  unfold U; rw [BitVec.toNat_ofInt]; simp; omega
theorem L32_length (f : Nat → Int) (n : Nat) : (L32 f n).length = n := by simp [L32]
theorem UL_L32 {f : Nat → Int} {n : Nat} (h : R32 f n) (j : Nat) (hj : j < n) : UL (L32 f n) j = f j := by
  have : (L32 f n).getD j 0 = BitVec.ofInt 32 (f j) := by simp [L32, hj]
  unfold UL; rw [this, U_ofInt32 (h j hj).1 (h j hj).2]
theorem R32_UL (l : List (BitVec 32)) (n : Nat) : R32 (UL l) n := fun j _ => ⟨U_nonneg _, U_lt32 _⟩
theorem L32_UL' {l : List (BitVec 32)} {n : Nat} (h : n = l.length) : L32 (UL l) n = l := by
  subst h
  apply List.ext_getElem?
  intro j
  by_cases h : j < l.length
  · simp [L32, UL, h, ofInt_U]
  · rw [List.getElem?_eq_none (by rw [L32_length]; omega), List.getElem?_eq_none (by omega)]
theorem listI_map {n : Nat} (l : List (BitVec n)) (j : Nat) : listI (l.map U) j = UL l j := by
  unfold listI UL
  by_cases h : j < l.length
  · simp [List.getD_eq_getElem?_getD, h]
  · rw [List.getD_eq_getElem?_getD, List.getD_eq_getElem?_getD, List.getElem?_eq_none (by simp; omega), List.getElem?_eq_none (by omega)]
    simp [U]
end Go.Proofs.Ytogijkmflhjhkaa
