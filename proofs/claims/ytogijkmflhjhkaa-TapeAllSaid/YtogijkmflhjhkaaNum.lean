/- Numbers as bytes, as the document says it: plain definitions and lemmas; no program, no condition. -/
import Derived.Test.YtogijkmflhjhkaaLst
import Derived.Test.YtogijkmflhjhkaaSha
namespace Go.Proofs.Ytogijkmflhjhkaa
open Go.Sx Go.RowKit
set_option linter.unusedSimpArgs false
set_option linter.unusedVariables false

theorem or64_nat {u v : Nat} (hu : u < 2 ^ 64) (hv : v < 2 ^ 64) : bits .or .u64 (u : Int) (v : Int) = ((u ||| v : Nat) : Int) := by
  show IntKind.u64.wrap ((BitVec.ofInt 64 _ ||| BitVec.ofInt 64 _).toNat : Int) = _
  rw [BitVec.ofInt_natCast, BitVec.ofInt_natCast, BitVec.toNat_or, BitVec.toNat_ofNat, BitVec.toNat_ofNat, Nat.mod_eq_of_lt hu, Nat.mod_eq_of_lt hv, w_u64]
  have := Nat.or_lt_two_pow hu hv
  have e : (2 : Nat) ^ 64 = 18446744073709551616 := by decide
  omega
theorem and8_all : ∀ c : Fin 256, bits .and .u8 (c.val : Int) 127 = ((c.val % 128 : Nat) : Int) := by decide +kernel
theorem or8_all : ∀ c : Fin 256, bits .or .u8 (c.val : Int) 128 = ((c.val % 128 + 128 : Nat) : Int) := by decide +kernel
theorem and8_127 (c : B8) : bits .and .u8 (U c) 127 = ((c.toNat % 128 : Nat) : Int) := and8_all ⟨c.toNat, c.isLt⟩
theorem or8_128 {c : Nat} (h : c < 256) : bits .or .u8 (c : Int) 128 = ((c % 128 + 128 : Nat) : Int) := or8_all ⟨c, h⟩
theorem and64_1 {u : Nat} (h : u < 2 ^ 64) : bits .and .u64 (u : Int) 1 = ((u % 2 : Nat) : Int) := by
  show IntKind.u64.wrap ((BitVec.ofInt 64 _ &&& BitVec.ofInt 64 1).toNat : Int) = _
  rw [BitVec.ofInt_natCast, BitVec.toNat_and, BitVec.toNat_ofNat, Nat.mod_eq_of_lt h, show (BitVec.ofInt 64 1).toNat = 1 by decide, Nat.and_one_is_mod, w_u64]
  omega
theorem xor_i64 {x : Int} (h0 : 0 ≤ x) (h1 : x < 9223372036854775808) : bits .xor .i64 (-1) x = -1 - x := by
  show IntKind.i64.wrap ((BitVec.ofInt 64 _ ^^^ BitVec.ofInt 64 _).toNat : Int) = _
  rw [show BitVec.ofInt 64 (-1) = BitVec.allOnes 64 by decide, BitVec.allOnes_xor, BitVec.toNat_not, BitVec.toNat_ofInt, w_i64]
  have e : ((2 ^ 64 : Nat) : Int) = 18446744073709551616 := by decide
  have e' : (2 : Nat) ^ 64 = 18446744073709551616 := by decide
  rw [e, e', show (x % 18446744073709551616).toNat = x.toNat by rw [Int.emod_eq_of_lt h0 (by omega)]]
  omega
theorem xor_u64 {x : Int} (h0 : 0 ≤ x) (h1 : x < 18446744073709551616) : bits .xor .u64 18446744073709551615 x = 18446744073709551615 - x := by
  show IntKind.u64.wrap ((BitVec.ofInt 64 _ ^^^ BitVec.ofInt 64 _).toNat : Int) = _
  rw [show BitVec.ofInt 64 18446744073709551615 = BitVec.allOnes 64 by decide, BitVec.allOnes_xor, BitVec.toNat_not, BitVec.toNat_ofInt, w_u64]
  have e : ((2 ^ 64 : Nat) : Int) = 18446744073709551616 := by decide
  have e' : (2 : Nat) ^ 64 = 18446744073709551616 := by decide
  rw [e, e', show (x % 18446744073709551616).toNat = x.toNat by rw [Int.emod_eq_of_lt h0 h1]]
  omega

/-- An integer as a natural number. -/
def zz (x : Int) : Nat := if x < 0 then (-2 * x - 1).toNat else (2 * x).toNat
def dec (u : Nat) : Int := if u % 2 = 1 then -((u / 2 : Nat) : Int) - 1 else ((u / 2 : Nat) : Int)
theorem dec_zz (x : Int) : dec (zz x) = x := by unfold dec zz; split <;> split <;> omega
/-- A natural number's bytes. -/
def putN (u : Nat) : List B8 := if _h : u < 128 then [BitVec.ofNat 8 u] else BitVec.ofNat 8 (u % 128 + 128) :: putN (u / 128)
  termination_by u
  decreasing_by omega
theorem putN_lt {u : Nat} (h : u < 128) : putN u = [BitVec.ofNat 8 u] := by rw [putN, dif_pos h]
theorem putN_ge {u : Nat} (h : ¬ u < 128) : putN u = BitVec.ofNat 8 (u % 128 + 128) :: putN (u / 128) := by rw [putN, dif_neg h]
/-- A number's bytes. -/
def putL (x : Int) : List B8 := putN (zz x)

/-- A number is read from bytes; i have been read and say u. 1: not of this form; 2: there is not enough. -/
def getN (i u : Nat) : List B8 → Int × Nat × Nat
  | [] => (0, 0, 2)
  | c :: l => if i = 9 ∧ 1 < c.toNat then (0, 0, 1) else
    if 127 < c.toNat then getN (i + 1) (u + c.toNat % 128 * 128 ^ i) l else
      if 0 < i ∧ c.toNat = 0 then (0, 0, 1) else (dec (u + c.toNat % 128 * 128 ^ i), i + 1, 0)
def getL (l : List B8) : Int × Nat × Nat := getN 0 0 l

/-- What was put is read, whatever stands behind. -/
theorem getN_put (v : Nat) : ∀ (i u : Nat) (r : List B8), v * 128 ^ i < 2 ^ 64 → i ≤ 9 → (0 < i → 0 < v) → getN i u (putN v ++ r) = (dec (u + v * 128 ^ i), i + (putN v).length, 0) := by
  induction v using Nat.strongRecOn with
  | ind v ih =>
    intro i u r hv hi h0
    have h9 : i = 9 → v ≤ 1 := by
      intro h
      subst h
      have e1 : (128 : Nat) ^ 9 = 9223372036854775808 := by decide
      have e2 : (2 : Nat) ^ 64 = 18446744073709551616 := by decide
      omega
    by_cases h : v < 128
    · rw [putN_lt h]
      have e : (BitVec.ofNat 8 v).toNat = v := by rw [BitVec.toNat_ofNat]; omega
      simp only [List.cons_append, List.nil_append, getN, e]
      rw [if_neg (by omega), if_neg (by omega), if_neg (by omega), Nat.mod_eq_of_lt h]
      rfl
    · rw [putN_ge h]
      have e : (BitVec.ofNat 8 (v % 128 + 128)).toNat = v % 128 + 128 := by rw [BitVec.toNat_ofNat]; omega
      have hi9 : i ≠ 9 := fun hq => by have := h9 hq; omega
      simp only [List.cons_append, getN, e]
      rw [if_neg (by omega), if_pos (by omega)]
      have hsp : (128 : Nat) ^ (i + 1) = 128 * 128 ^ i := by rw [Nat.pow_succ, Nat.mul_comm]
      have hd : v / 128 * 128 ^ (i + 1) + v % 128 * 128 ^ i = v * 128 ^ i := by
        rw [hsp, ← Nat.mul_assoc, ← Nat.add_mul]
        congr 1
        omega
      rw [ih (v / 128) (by omega) (i + 1) _ r (by omega) (by omega) (fun _ => by omega)]
      have em : (v % 128 + 128) % 128 = v % 128 := by omega
      rw [em, List.length_cons]
      refine Prod.ext ?_ (Prod.ext ?_ rfl)
      · show dec _ = dec _
        congr 1
        omega
      · show _ = _
        simp only
        omega
theorem zz_lt {x : Int} (h0 : -9223372036854775808 ≤ x) (h1 : x ≤ 9223372036854775807) : zz x < 2 ^ 64 := by
  have e2 : (2 : Nat) ^ 64 = 18446744073709551616 := by decide
  unfold zz; split <;> omega
theorem getL_put {x : Int} (h0 : -9223372036854775808 ≤ x) (h1 : x ≤ 9223372036854775807) (r : List B8) : getL (putL x ++ r) = (x, (putL x).length, 0) := by
  unfold getL putL
  rw [getN_put _ 0 0 r (by have := zz_lt h0 h1; simpa using this) (by omega) (by omega)]
  simp [dec_zz]
/-- A front of it is not enough. -/
theorem getN_cut (v : Nat) : ∀ (i u k : Nat), v * 128 ^ i < 2 ^ 64 → k < (putN v).length → getN i u ((putN v).take k) = (0, 0, 2) := by
  induction v using Nat.strongRecOn with
  | ind v ih =>
    intro i u k hv hk
    by_cases h : v < 128
    · rw [putN_lt h] at hk ⊢
      have : k = 0 := by simp at hk; omega
      subst this
      rfl
    · rw [putN_ge h] at hk ⊢
      have hsp : (128 : Nat) ^ (i + 1) = 128 * 128 ^ i := by rw [Nat.pow_succ, Nat.mul_comm]
      have hd : v / 128 * 128 ^ (i + 1) + v % 128 * 128 ^ i = v * 128 ^ i := by
        rw [hsp, ← Nat.mul_assoc, ← Nat.add_mul]
        congr 1
        omega
      have e : (BitVec.ofNat 8 (v % 128 + 128)).toNat = v % 128 + 128 := by rw [BitVec.toNat_ofNat]; omega
      have hi9 : i ≠ 9 := fun hq => by
        subst hq
        have e1 : (128 : Nat) ^ 9 = 9223372036854775808 := by decide
        have e2 : (2 : Nat) ^ 64 = 18446744073709551616 := by decide
        omega
      cases k with
      | zero => rfl
      | succ k =>
        simp only [List.take_succ_cons, getN, e]
        rw [if_neg (by omega), if_pos (by omega)]
        exact ih (v / 128) (by omega) (i + 1) _ k (by omega) (by simpa using hk)
theorem getL_cut {x : Int} (h0 : -9223372036854775808 ≤ x) (h1 : x ≤ 9223372036854775807) {k : Nat} (hk : k < (putL x).length) : getL ((putL x).take k) = (0, 0, 2) :=
  getN_cut _ 0 0 k (by have := zz_lt h0 h1; simpa using this) hk
theorem putN_mono (v : Nat) : ∀ w, v ≤ w → (putN v).length ≤ (putN w).length := by
  induction v using Nat.strongRecOn with
  | ind v ih =>
    intro w hw
    by_cases h : v < 128
    · rw [putN_lt h]
      by_cases h' : w < 128
      · rw [putN_lt h']; simp
      · rw [putN_ge h']; simp
    · rw [putN_ge h, putN_ge (by omega : ¬ w < 128)]
      have := ih (v / 128) (by omega) (w / 128) (by omega)
      simp; omega
theorem putN_pos (v : Nat) : 1 ≤ (putN v).length := by
  by_cases h : v < 128
  · rw [putN_lt h]; simp
  · rw [putN_ge h]; simp
theorem putN_le (v : Nat) : ∀ k, v < 128 ^ (k + 1) → (putN v).length ≤ k + 1 := by
  induction v using Nat.strongRecOn with
  | ind v ih =>
    intro k hv
    by_cases h : v < 128
    · rw [putN_lt h]; simp
    · rw [putN_ge h]
      cases k with
      | zero => simp at hv; omega
      | succ k =>
        have hsp : (128 : Nat) ^ (k + 1 + 1) = 128 ^ (k + 1) * 128 := Nat.pow_succ ..
        have := ih (v / 128) (by omega) k (by rw [Nat.div_lt_iff_lt_mul (by omega)]; omega)
        simp; omega
theorem putL_le {x : Int} (h0 : -9223372036854775808 ≤ x) (h1 : x ≤ 9223372036854775807) : (putL x).length ≤ 10 :=
  putN_le _ 9 (Nat.lt_of_lt_of_le (zz_lt h0 h1) (by decide))
theorem putL_pos (x : Int) : 1 ≤ (putL x).length := putN_pos _

/-- A text's bytes; a text read from bytes. -/
def putT (s : List B8) : List B8 := putL s.length ++ s
def getT (l : List B8) : List B8 × Nat × Nat :=
  if (getL l).2.2 ≠ 0 then ([], 0, (getL l).2.2) else
    if (getL l).1 < 0 ∨ 1048576 < (getL l).1 then ([], 0, 1) else
      if ((l.length : Int) - (getL l).2.1 : Int) < (getL l).1 then ([], 0, 2) else
        ((l.drop (getL l).2.1).take (getL l).1.toNat, (getL l).2.1 + (getL l).1.toNat, 0)
theorem getT_put {s : List B8} (hs : s.length ≤ 1048576) (r : List B8) : getT (putT s ++ r) = (s, (putT s).length, 0) := by
  have e := getL_put (x := (s.length : Int)) (by omega) (by omega) (s ++ r)
  rw [← List.append_assoc] at e
  unfold getT
  rw [show putT s ++ r = putL s.length ++ s ++ r from rfl, e]
  simp only [putT, List.length_append]
  rw [if_neg (by simp), if_neg (by omega), if_neg (by omega)]
  simp
theorem getN_short : ∀ (l : List B8) (i u : Nat), (getN i u l).2.1 ≤ i + l.length
  | [], _, _ => by simp [getN]
  | c :: l, i, u => by
    simp only [getN]
    have := getN_short l (i + 1) (u + c.toNat % 128 * 128 ^ i)
    split
    · simp
    · split
      · simp only [List.length_cons]; omega
      · split <;> simp
theorem getL_short (l : List B8) : (getL l).2.1 ≤ l.length := by have := getN_short l 0 0; simpa [getL] using this
theorem getN_pos : ∀ (l : List B8) (i u : Nat), (getN i u l).2.2 = 0 → i < (getN i u l).2.1
  | [], _, _ => by simp [getN]
  | c :: l, i, u => by
    simp only [getN]
    have := getN_pos l (i + 1) (u + c.toNat % 128 * 128 ^ i)
    split
    · simp
    · split
      · intro h; have := this h; omega
      · split <;> simp
theorem getT_cut {s : List B8} (hs : s.length ≤ 1048576) {k : Nat} (hk : k < (putT s).length) : getT ((putT s).take k) = ([], 0, 2) := by
  have h1 : ((s.length : Nat) : Int) ≤ 9223372036854775807 := by omega
  by_cases h : k < (putL s.length).length
  · have e : (putT s).take k = (putL s.length).take k := by
      rw [putT, List.take_append_of_le_length (by omega)]
    unfold getT
    rw [e, getL_cut (by omega) h1 h]
    simp
  · have e : (putT s).take k = putL s.length ++ s.take (k - (putL s.length).length) := by
      rw [putT, List.take_append, List.take_of_length_le (by omega)]
    have hk' : k - (putL s.length).length < s.length := by
      simp only [putT, List.length_append] at hk
      omega
    unfold getT
    rw [e, getL_put (by omega) h1, List.length_append, List.length_take]
    simp only
    rw [if_neg (by simp), if_neg (by omega), if_pos (by omega)]
end Go.Proofs.Ytogijkmflhjhkaa
