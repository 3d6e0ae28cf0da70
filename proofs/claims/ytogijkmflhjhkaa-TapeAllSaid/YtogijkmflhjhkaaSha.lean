/- SHA-256 on lists of bit vectors, as FIPS 180-4 says it: the schedule, the rounds, the padding. Plain definitions and lemmas: no program, no condition. -/
import Derived.Test.YtogijkmflhjhkaaBits
namespace Go.Proofs.Ytogijkmflhjhkaa
set_option linter.unusedSimpArgs false
set_option linter.unusedVariables false

abbrev B8 := BitVec 8
abbrev W32 := BitVec 32

def be (l : List B8) (k : Nat) : W32 :=
  (l.getD (4 * k) 0).setWidth 32 <<< 24 ||| (l.getD (4 * k + 1) 0).setWidth 32 <<< 16 ||| (l.getD (4 * k + 2) 0).setWidth 32 <<< 8 ||| (l.getD (4 * k + 3) 0).setWidth 32
def sig0 (x : W32) : W32 := rotl x 25 ^^^ rotl x 14 ^^^ x >>> 3
def sig1 (x : W32) : W32 := rotl x 15 ^^^ rotl x 13 ^^^ x >>> 10
def next (s : List W32) (k : Nat) : W32 := s.getD (k - 16) 0 + sig0 (s.getD (k - 15) 0) + s.getD (k - 7) 0 + sig1 (s.getD (k - 2) 0)
def sched (l : List B8) : Nat → List W32
  | 0 => []
  | k + 1 => sched l k ++ [if k < 16 then be l k else next (sched l k) k]
theorem sched_length (l : List B8) (k : Nat) : (sched l k).length = k := by
  induction k with
  | zero => rfl
  | succ k ih => simp [sched, ih]

/-- The whole schedule; nothing looks into it but by its equation. -/
@[irreducible] def wsched (l : List B8) : List W32 := sched l 64
theorem wsched_eq (l : List B8) : wsched l = sched l 64 := by unfold wsched; rfl
theorem wsched_length (l : List B8) : (wsched l).length = 64 := by rw [wsched_eq, sched_length]

def K256 : List W32 := [
  0x428a2f98, 0x71374491, 0xb5c0fbcf, 0xe9b5dba5, 0x3956c25b, 0x59f111f1, 0x923f82a4, 0xab1c5ed5,
  0xd807aa98, 0x12835b01, 0x243185be, 0x550c7dc3, 0x72be5d74, 0x80deb1fe, 0x9bdc06a7, 0xc19bf174,
  0xe49b69c1, 0xefbe4786, 0x0fc19dc6, 0x240ca1cc, 0x2de92c6f, 0x4a7484aa, 0x5cb0a9dc, 0x76f988da,
  0x983e5152, 0xa831c66d, 0xb00327c8, 0xbf597fc7, 0xc6e00bf3, 0xd5a79147, 0x06ca6351, 0x14292967,
  0x27b70a85, 0x2e1b2138, 0x4d2c6dfc, 0x53380d13, 0x650a7354, 0x766a0abb, 0x81c2c92e, 0x92722c85,
  0xa2bfe8a1, 0xa81a664b, 0xc24b8b70, 0xc76c51a3, 0xd192e819, 0xd6990624, 0xf40e3585, 0x106aa070,
  0x19a4c116, 0x1e376c08, 0x2748774c, 0x34b0bcb5, 0x391c0cb3, 0x4ed8aa4a, 0x5b9cca4f, 0x682e6ff3,
  0x748f82ee, 0x78a5636f, 0x84c87814, 0x8cc70208, 0x90befffa, 0xa4506ceb, 0xbef9a3f7, 0xc67178f2]
theorem K256_length : K256.length = 64 := rfl

def S1 (e : W32) : W32 := rotl e 26 ^^^ rotl e 21 ^^^ rotl e 7
def S0 (a : W32) : W32 := rotl a 30 ^^^ rotl a 19 ^^^ rotl a 10
def Ch (e f g : W32) : W32 := e &&& f ^^^ ~~~e &&& g
def Maj (a b c : W32) : W32 := a &&& b ^^^ a &&& c ^^^ b &&& c
def T1 (v : List W32) (k w : W32) : W32 := v.getD 7 0 + S1 (v.getD 4 0) + Ch (v.getD 4 0) (v.getD 5 0) (v.getD 6 0) + k + w
def T2 (v : List W32) : W32 := S0 (v.getD 0 0) + Maj (v.getD 0 0) (v.getD 1 0) (v.getD 2 0)
def rnd (v : List W32) (k w : W32) : List W32 :=
  [T1 v k w + T2 v, v.getD 0 0, v.getD 1 0, v.getD 2 0, v.getD 3 0 + T1 v k w, v.getD 4 0, v.getD 5 0, v.getD 6 0]
def rnds (w : List W32) : Nat → List W32 → List W32
  | 0, v => v
  | i + 1, v => rnd (rnds w i v) (K256.getD i 0) (w.getD i 0)
theorem rnds_length (w : List W32) (i : Nat) (v : List W32) (h : v.length = 8) : (rnds w i v).length = 8 := by
  cases i with
  | zero => exact h
  | succ i => rfl
def addv (a b : List W32) : List W32 := List.zipWith (· + ·) a b
def mix (h : List W32) (b : List B8) : List W32 := addv h (rnds (wsched b) 64 h)
theorem mix_length (h : List W32) (b : List B8) (hh : h.length = 8) : (mix h b).length = 8 := by
  simp [mix, addv, rnds_length _ _ _ hh, hh]

/-- n blocks off the head of l. -/
def absorbN : Nat → List W32 → List B8 → List W32
  | 0, h, _ => h
  | n + 1, h, l => absorbN n (mix h (l.take 64)) (l.drop 64)
def absorb (h : List W32) (l : List B8) : List W32 := absorbN (l.length / 64) h l
def rest (l : List B8) : List B8 := l.drop (64 * (l.length / 64))
theorem absorbN_length (n : Nat) : ∀ (h : List W32) (l : List B8), h.length = 8 → (absorbN n h l).length = 8 := by
  induction n with
  | zero => intro h l hh; exact hh
  | succ n ih => intro h l hh; exact ih _ _ (mix_length h _ hh)
theorem absorb_length (h : List W32) (l : List B8) (hh : h.length = 8) : (absorb h l).length = 8 := absorbN_length _ _ _ hh
theorem rest_length (l : List B8) : (rest l).length = l.length % 64 := by
  rw [rest, List.length_drop]; omega
theorem absorbN_append (n : Nat) : ∀ (h : List W32) (a b : List B8), 64 * n ≤ a.length → absorbN n h (a ++ b) = absorbN n h a := by
  induction n with
  | zero => intro h a b _; rfl
  | succ n ih =>
    intro h a b hl
    simp only [absorbN]
    rw [List.take_append_of_le_length (by omega), List.drop_append_of_le_length (by omega)]
    exact ih _ _ _ (by rw [List.length_drop]; omega)
theorem absorbN_add (n m : Nat) : ∀ (h : List W32) (l : List B8), absorbN (n + m) h l = absorbN m (absorbN n h l) (l.drop (64 * n)) := by
  induction n with
  | zero => intro h l; simp [absorbN]
  | succ n ih =>
    intro h l
    rw [show n + 1 + m = (n + m) + 1 by omega]
    simp only [absorbN]
    rw [ih, List.drop_drop, show 64 + 64 * n = 64 * (n + 1) by omega]
theorem absorbN_succ (k : Nat) (h : List W32) (l : List B8) : absorbN (k + 1) h l = mix (absorbN k h l) ((l.drop (64 * k)).take 64) := by
  rw [absorbN_add]; rfl
/-- More bytes behind: they go in behind what was left. -/
theorem absorb_append (h : List W32) (a b : List B8) : absorb h (a ++ b) = absorb (absorb h a) (rest a ++ b) := by
  unfold absorb
  have hq : (a ++ b).length / 64 = a.length / 64 + (rest a ++ b).length / 64 := by
    rw [List.length_append, List.length_append, rest_length]; omega
  rw [hq, absorbN_add, absorbN_append _ _ a b (by omega), List.drop_append_of_le_length (by omega)]
  rfl
theorem rest_append (a b : List B8) : rest (a ++ b) = rest (rest a ++ b) := by
  unfold rest
  have e : a.drop (64 * (a.length / 64)) ++ b = (a ++ b).drop (64 * (a.length / 64)) := (List.drop_append_of_le_length (by omega)).symm
  rw [e, List.drop_drop, List.length_drop]
  congr 1
  rw [List.length_append]; omega
theorem absorb_small (h : List W32) (l : List B8) (hl : l.length < 64) : absorb h l = h := by
  rw [absorb, Nat.div_eq_of_lt hl]; rfl
theorem rest_small (l : List B8) (hl : l.length < 64) : rest l = l := by
  rw [rest, Nat.div_eq_of_lt hl]; rfl
theorem absorb_block (h : List W32) (l : List B8) (hl : 64 ≤ l.length) : absorb h l = absorb (mix h (l.take 64)) (l.drop 64) := by
  unfold absorb
  rw [List.length_drop, show l.length / 64 = (l.length - 64) / 64 + 1 by omega]
  rfl
theorem rest_block (l : List B8) (hl : 64 ≤ l.length) : rest l = rest (l.drop 64) := by
  unfold rest
  rw [List.length_drop, List.drop_drop]
  congr 1
  omega

def H256 : List W32 := [0x6a09e667, 0xbb67ae85, 0x3c6ef372, 0xa54ff53a, 0x510e527f, 0x9b05688c, 0x1f83d9ab, 0x5be0cd19]
/-- The eight bytes of a number, the highest first. -/
def be8 (n : BitVec 64) : List B8 := (List.range 8).map fun i => (n >>> (56 - 8 * i)).setWidth 8
theorem be8_length (n : BitVec 64) : (be8 n).length = 8 := by simp [be8]
def zeros (n : Nat) : Nat := (119 - n % 64) % 64
def tail (n : Nat) : List B8 := 0x80 :: (List.replicate (zeros n) 0 ++ be8 (BitVec.ofNat 64 n * 8))
theorem tail_length (n : Nat) : (tail n).length = 9 + zeros n := by simp [tail, be8_length]; omega
theorem tail_whole (n : Nat) : (n + (tail n).length) % 64 = 0 := by rw [tail_length, zeros]; omega
def w4 (x : W32) : List B8 := [(x >>> 24).setWidth 8, (x >>> 16).setWidth 8, (x >>> 8).setWidth 8, x.setWidth 8]
def digest (h : List W32) : List B8 := h.flatMap w4
/-- SHA-256. -/
def sha (l : List B8) : List B8 := digest (absorb H256 (l ++ tail l.length))
theorem H256_length : H256.length = 8 := rfl
theorem digest_length (h : List W32) : (digest h).length = 4 * h.length := by
  induction h with
  | nil => rfl
  | cons x h ih => simp only [digest, List.flatMap_cons, List.length_append] at ih ⊢; simp only [w4, List.length_cons, List.length_nil]; omega
theorem sha_length (l : List B8) : (sha l).length = 32 := by
  rw [sha, digest_length, absorb_length _ _ H256_length]

/-- What is filled up behind r bytes left of a message of N bytes. -/
def tail2 (r : Nat) (N : BitVec 64) : List B8 := 0x80 :: (List.replicate (zeros r) 0 ++ be8 (N * 8))
theorem tail2_length (r : Nat) (N : BitVec 64) : (tail2 r N).length = 9 + zeros r := by simp [tail2, be8_length]; omega
theorem tail2_eq (n : Nat) : tail2 (n % 64) (BitVec.ofNat 64 n) = tail n := by
  unfold tail2 tail zeros; rw [Nat.mod_mod]
theorem digest_get (h : List W32) : ∀ (i r : Nat), i < h.length → r < 4 → (digest h).getD (4 * i + r) 0 = (w4 (h.getD i 0)).getD r 0 := by
  induction h with
  | nil => intro i r hi; simp at hi
  | cons x h ih =>
    intro i r hi hr
    have hd : digest (x :: h) = w4 x ++ digest h := rfl
    rw [hd, List.getD_eq_getElem?_getD]
    cases i with
    | zero => rw [List.getElem?_append_left (by simp [w4]; omega), Nat.mul_zero, Nat.zero_add, List.getD_eq_getElem?_getD]; rfl
    | succ i =>
      rw [List.getElem?_append_right (by simp [w4]; omega), show 4 * (i + 1) + r - (w4 x).length = 4 * i + r by simp [w4]; omega, ← List.getD_eq_getElem?_getD, ih i r (by simpa using hi) hr]
      rfl

theorem list_ext {α : Type} {a b : List α} (d : α) (hl : a.length = b.length) (h : ∀ i, i < a.length → a.getD i d = b.getD i d) : a = b := by
  apply List.ext_getElem hl
  intro i h1 h2
  have := h i h1
  simpa [List.getD_eq_getElem?_getD, h1, h2] using this
theorem getD_take {α : Type} (l : List α) (d : α) (n i : Nat) (h : i < n) : (l.take n).getD i d = l.getD i d := by
  rw [List.getD_eq_getElem?_getD, List.getD_eq_getElem?_getD, List.getElem?_take_of_lt h]
theorem getD_drop {α : Type} (l : List α) (d : α) (n i : Nat) : (l.drop n).getD i d = l.getD (n + i) d := by
  rw [List.getD_eq_getElem?_getD, List.getD_eq_getElem?_getD, List.getElem?_drop]

set_option maxRecDepth 100000 in
theorem sha_abc : ((sha [0x61, 0x62, 0x63]).getD 0 0, (sha [0x61, 0x62, 0x63]).getD 1 0, (sha [0x61, 0x62, 0x63]).getD 31 0) = (0xba, 0x78, 0xad) := by decide +kernel

end Go.Proofs.Ytogijkmflhjhkaa
