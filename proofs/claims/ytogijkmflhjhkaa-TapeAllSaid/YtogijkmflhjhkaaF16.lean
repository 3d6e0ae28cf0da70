/- Functions through the evaluator: the document's HKDF. No condition. -/
import Derived.Test.YtogijkmflhjhkaaSxT
import Derived.Test.YtogijkmflhjhkaaSxU
import Derived.Test.YtogijkmflhjhkaaF15
namespace Go.Proofs.Ytogijkmflhjhkaa
open Go.Sx Go.RowKit
set_option linter.unusedSimpArgs false
set_option maxRecDepth 100000
set_option linter.unusedVariables false

theorem cok16 : COk Try.prog (tab [(39, rhmacS)]) := cok_cons rhmacS_ok cok_nil
/-- indentureref1.Extract. -/
def rextractS : Summary := mkS false [.r .u8, .r .u8] fun
  | [.r nl g n, .r nl2 h m] => some ⟨.and (.p (R8 g n)) (.and (.p (n ≤ 900000)) (.and (.p (R8 h m)) (.p (m ≤ 800000)))), some (.sa (.agg [.ints .u8 (UL (hmac (L8 g n) (L8 h m))) 32])), [], 0⟩
  | _ => none
theorem rextractS_ok : SumOk Try.prog 43 rextractS := by
  unfold rextractS
  apply sum_ok
  intro vs A H n o r hb h
  split at h
  rotate_left
  · cases h
  rename_i nl g n0 nl2 h m
  injection h with h
  subst h
  cases hb
  refine fsound_of_run tt_ok cok16 mixed_ok Try.call43 Try.func43 rfl (rs := _) Try.results43 (size := 8) Try.ntmps43 (Nat.le_of_ble_eq_true rfl) rfl fun hp hfa hfh => ?_
  obtain ⟨hg, hn, hh, hm⟩ := hp
  have hg : R8 g n0 := hg
  have hn : n0 ≤ 900000 := hn
  have hh : R8 h m := hh
  have hm : m ≤ 800000 := hm
  repeat ((conv => whnf); (with_reducible refine And.intro ?_ ?_); · first | exact True.intro | (intro hg0; simp only [hg0, Bool.not_false, Bool.not_true]; done) | assumption | omega | (intro _; refine ⟨True.intro, ?_⟩; omega) | (intro _; refine ⟨?_, True.intro⟩; omega) | (intro _; refine ⟨decide_eq_true ?_, ?_⟩ <;> omega) | (intro _; refine ⟨?_, ?_⟩ <;> first | omega | (simp [appG, Cd.holds]; done) | (simp [appG, Cd.holds]; omega)) | (refine decide_eq_true ?_; omega) | (intro _; omega) | (simp only [w_i64, w_u64, w_u32, w_u8]; omega) | exact ⟨U_nonneg _, U_lt32 _⟩ | exact R8_UL _ _ | exact R32_UL _ _ | (intro hg0; (repeat ((conv => whnf); (with_reducible refine And.intro ?_ ?_); · first | assumption | omega | (intro _; refine ⟨?_, ?_⟩ <;> first | assumption | omega | exact True.intro | (refine decide_eq_true ?_; omega) | (simp [appG, Cd.holds]; omega)) | (intro _; refine ⟨And.intro ?_ ?_, ?_⟩ <;> first | assumption | omega | (refine decide_eq_true ?_; omega)) | (simp only [hg0, Bool.and_self, Bool.true_and]; done) | (intro hg1; simp only [hg0, hg1, Bool.and_self, Bool.true_and]; done) | (simp [hg0]; done))); (conv => whnf); exact True.intro))
  conv => whnf
  refine ⟨[], ?_⟩
  repeat ((conv => whnf); (with_reducible refine And.intro ?_ ?_); · first | with_reducible rfl | exact (Bool.and_false _).symm | (intro _ _; with_reducible rfl) | exact True.intro | assumption | (intro h; exact absurd h (by decide)) | omega | (intro _; omega) | (intro _; refine ⟨?_, True.intro⟩; omega) | (intro _; refine ⟨?_, True.intro⟩; intro _; omega) | (refine decide_eq_false ?_; omega) | (refine decide_eq_true ?_; omega) | (simp only [w_i64, w_u64, w_u32, w_u8]; omega) | exact fun j hj => (put_0 hj).symm | (intro j _; simp only [Nat.zero_add]; done) | (simp [appG]; done) | (simp [appG]; omega) | (intro hgd; (try replace hgd := of_decide_eq_true hgd); (repeat ((conv => whnf); (with_reducible refine And.intro ?_ ?_); · first | with_reducible rfl | exact (Bool.and_false _).symm | (intro _ _; with_reducible rfl) | exact True.intro | assumption | (intro h; exact absurd h (by decide)) | omega | (intro _; omega) | (intro _; refine ⟨?_, True.intro⟩; omega) | (intro _; refine ⟨?_, True.intro⟩; intro _; omega) | (refine decide_eq_false ?_; omega) | (refine decide_eq_true ?_; omega) | (simp only [w_i64, w_u64, w_u32, w_u8]; omega) | exact fun j hj => (put_0 hj).symm | (intro j _; simp only [Nat.zero_add]; done) | (simp [appG]; done) | (simp [appG]; omega))); (conv => whnf); exact True.intro))
  conv => whnf
  exact True.intro

/-- How long the last block is. -/
def lastN (i : Nat) : Nat := (hkT [] [] i).length
theorem hkT_len (k f : List B8) (i : Nat) : (hkT k f i).length = lastN i := by
  cases i with
  | zero => rfl
  | succ i => rw [hkT_length, lastN, hkT_length]
theorem lastN_le (i : Nat) : lastN i ≤ 32 := by
  cases i with
  | zero => exact Nat.zero_le _
  | succ i => rw [lastN, hkT_length]; omega
theorem lastN_succ (i : Nat) : lastN (i + 1) = 32 := hkT_length _ _ _
theorem R8_0 (n : Nat) : R8 (fun _ => 0) n := fun j _ => ⟨Int.le_refl 0, by show (0 : Int) < 256; omega⟩
theorem cat3L {T : List B8} {a m : Nat} {h : Nat → Int} {x : Int} (ha : a = T.length) :
    L8 (fun j => put_ (put_ (put_ (fun _ => 0) 0 a (fun j => UL T (0 + j))) (0 + a) m h) (0 + a + m) 1 (fun j => listI [x].reverse (0 + j)) (0 + j)) (0 + a + m + 1) = T ++ L8 h m ++ [BitVec.ofInt 8 x] := by
  simp only [Nat.zero_add]
  have e1 : L8 (put_ (fun _ => 0) 0 a (UL T)) a = T := (L8_congr fun j hj => put_0 hj).trans (L8_UL' ha)
  show L8 (put_ (put_ (put_ (fun _ => 0) 0 a (UL T)) a m h) (a + m) 1 (listI [x].reverse)) (a + m + 1) = _
  rw [L8_put, L8_put, e1]
  rfl
theorem R8_3c {T : List B8} {a m : Nat} {h : Nat → Int} {x : Int} (hh : R8 h m) (hx : 0 ≤ x ∧ x < 256) :
    R8 (fun j => put_ (put_ (put_ (fun _ => 0) 0 a (fun j => UL T (0 + j))) (0 + a) m h) (0 + a + m) 1 (fun j => listI [x].reverse (0 + j)) (0 + j)) (0 + a + m + 1) :=
  R8_put0 (R8_put (R8_put (R8_0 _) (R8_at _ _ _)) hh) (R8_b hx)
theorem u8_i (i : Nat) : BitVec.ofInt 8 (IntKind.u8.wrap ((i : Int) + 1)) = BitVec.ofNat 8 (i + 1) := by
  rw [show ((i : Int) + 1) = ((i + 1 : Nat) : Int) by omega, w8_cast, ofInt_toNat]
theorem u8_r (x : Int) : 0 ≤ IntKind.u8.wrap x ∧ IntKind.u8.wrap x < 256 := by rw [w_u8]; omega
theorem rnew {T : List B8} {h : Nat} (j : Nat) (hj : j < h) : UL T j = put_ (fun _ => 0) 0 h (fun j => UL T (0 + j)) j := by rw [put_0 hj, Nat.zero_add]
theorem rout {A T : List B8} {a b : Nat} (ha : a = A.length) (hb : b = T.length) (j : Nat) (hj : j < a + b) :
    UL (A ++ T) j = put_ (UL A) a (0 + b) (fun j => put_ (fun _ => 0) 0 b (fun j => UL T (0 + j)) (0 + j)) j := by
  rw [out_app ha hb j hj]
  unfold put_
  rw [Nat.zero_add]
  split
  · simp only [Nat.zero_add, Nat.sub_zero]
    rw [if_pos (by omega)]
  · rfl
/-- indentureref1.Expand. -/
def rexpandS : Summary := mkS false [.r .u8, .r .u8, .v] fun
  | [.r nl g n, .r nl2 h m, .v (.sc (.int .i64 N))] => some ⟨.and (.p (R8 g n)) (.and (.p (n ≤ 100000)) (.and (.p (R8 h m)) (.and (.p (m ≤ 100000)) (.p (-9223372036854775808 ≤ N ∧ N ≤ 9223372036854775807))))),
      some (.sa (.sc (.sl (xNil N) false false 0 0 0 (xLen N) (xLen N)))), [(0, .gd (decide (0 < xLen N)) (.own 5 [.ints .u8 (UL (hkO (L8 g n) (L8 h m) 255)) (xLen N)] true))], 1⟩
  | _ => none
theorem rexpandS_ok : SumOk Try.prog 44 rexpandS := by
  unfold rexpandS
  apply sum_ok
  intro vs A H n o r hb h
  split at h
  rotate_left
  · cases h
  rename_i nl g n0 nl2 h m N
  injection h with h
  subst h
  cases hb
  refine fsound_of_run tt_ok cok16 mixed_ok Try.call44 Try.func44 rfl (rs := _) Try.results44 (size := 41) Try.ntmps44 (Nat.le_of_ble_eq_true rfl) rfl fun hp hfa hfh => ?_
  obtain ⟨hg, hn, hh, hm, hN⟩ := hp
  have hg : R8 g n0 := hg
  have hn : n0 ≤ 100000 := hn
  have hh : R8 h m := hh
  have hm : m ≤ 100000 := hm
  repeat ((conv => whnf); (with_reducible refine And.intro ?_ ?_); · first | exact True.intro | (intro hg0; simp only [hg0, Bool.not_false, Bool.not_true]; done) | assumption | omega | (intro _; refine ⟨True.intro, ?_⟩; omega) | (intro _; refine ⟨?_, True.intro⟩; omega) | (intro _; refine ⟨decide_eq_true ?_, ?_⟩ <;> omega) | (intro _; refine ⟨?_, ?_⟩ <;> first | omega | (simp [appG, Cd.holds]; done) | (simp [appG, Cd.holds]; omega)) | (refine decide_eq_true ?_; omega) | (intro _; omega) | (simp only [w_i64, w_u64, w_u32, w_u8]; omega) | exact ⟨U_nonneg _, U_lt32 _⟩ | exact R8_UL _ _ | exact R32_UL _ _ | (intro hg0; (repeat ((conv => whnf); (with_reducible refine And.intro ?_ ?_); · first | assumption | omega | (intro _; refine ⟨?_, ?_⟩ <;> first | assumption | omega | exact True.intro | (refine decide_eq_true ?_; omega) | (simp [appG, Cd.holds]; omega)) | (intro _; refine ⟨And.intro ?_ ?_, ?_⟩ <;> first | assumption | omega | (refine decide_eq_true ?_; omega)) | (simp only [hg0, Bool.and_self, Bool.true_and]; done) | (intro hg1; simp only [hg0, hg1, Bool.and_self, Bool.true_and]; done) | (simp [hg0]; done))); (conv => whnf); exact True.intro))
  conv => whnf
  refine ⟨fun h1 => ?_, fun h1 => ?_⟩
  · have hx : N < 1 ∨ 8160 < N := by
      cases hq : decide (N < 1) with
      | true => exact .inl (of_decide_eq_true hq)
      | false => rw [hq] at h1; exact .inr (of_decide_eq_true h1)
    have e1 : xNil N = true := decide_eq_true hx
    have e2 : xLen N = 0 := if_pos hx
    repeat ((conv => whnf); (with_reducible refine And.intro ?_ ?_); · first | exact True.intro | (intro hg0; simp only [hg0, Bool.not_false, Bool.not_true]; done) | assumption | omega | (intro _; refine ⟨True.intro, ?_⟩; omega) | (intro _; refine ⟨?_, True.intro⟩; omega) | (intro _; refine ⟨decide_eq_true ?_, ?_⟩ <;> omega) | (intro _; refine ⟨?_, ?_⟩ <;> first | omega | (simp [appG, Cd.holds]; done) | (simp [appG, Cd.holds]; omega)) | (refine decide_eq_true ?_; omega) | (intro _; omega) | (simp only [w_i64, w_u64, w_u32, w_u8]; omega) | exact ⟨U_nonneg _, U_lt32 _⟩ | exact R8_UL _ _ | exact R32_UL _ _ | (intro hg0; (repeat ((conv => whnf); (with_reducible refine And.intro ?_ ?_); · first | assumption | omega | (intro _; refine ⟨?_, ?_⟩ <;> first | assumption | omega | exact True.intro | (refine decide_eq_true ?_; omega) | (simp [appG, Cd.holds]; omega)) | (intro _; refine ⟨And.intro ?_ ?_, ?_⟩ <;> first | assumption | omega | (refine decide_eq_true ?_; omega)) | (simp only [hg0, Bool.and_self, Bool.true_and]; done) | (intro hg1; simp only [hg0, hg1, Bool.and_self, Bool.true_and]; done) | (simp [hg0]; done))); (conv => whnf); exact True.intro))
    conv => whnf
    refine ⟨[], ?_⟩
    simp only [e1, e2]
    repeat ((conv => whnf); (with_reducible refine And.intro ?_ ?_); · first | with_reducible rfl | exact (Bool.and_false _).symm | (intro _ _; with_reducible rfl) | exact True.intro | assumption | (intro h; exact absurd h (by decide)) | omega | (intro _; omega) | (intro _; refine ⟨?_, True.intro⟩; omega) | (intro _; refine ⟨?_, True.intro⟩; intro _; omega) | (refine decide_eq_false ?_; omega) | (refine decide_eq_true ?_; omega) | (simp only [w_i64, w_u64, w_u32, w_u8]; omega) | exact fun j hj => (put_0 hj).symm | (intro j _; simp only [Nat.zero_add]; done) | (simp [appG]; done) | (simp [appG]; omega) | (intro hgd; (try replace hgd := of_decide_eq_true hgd); (repeat ((conv => whnf); (with_reducible refine And.intro ?_ ?_); · first | with_reducible rfl | exact (Bool.and_false _).symm | (intro _ _; with_reducible rfl) | exact True.intro | assumption | (intro h; exact absurd h (by decide)) | omega | (intro _; omega) | (intro _; refine ⟨?_, True.intro⟩; omega) | (intro _; refine ⟨?_, True.intro⟩; intro _; omega) | (refine decide_eq_false ?_; omega) | (refine decide_eq_true ?_; omega) | (simp only [w_i64, w_u64, w_u32, w_u8]; omega) | exact fun j hj => (put_0 hj).symm | (intro j _; simp only [Nat.zero_add]; done) | (simp [appG]; done) | (simp [appG]; omega))); (conv => whnf); exact True.intro))
    conv => whnf
    exact True.intro
  · have hx : ¬ (N < 1 ∨ 8160 < N) := by
      cases hq : decide (N < 1) with
      | true => rw [hq] at h1; cases h1
      | false =>
        rw [hq] at h1
        have q1 := of_decide_eq_false hq
        have q2 : ¬ N > 8160 := of_decide_eq_false h1
        omega
    have e1 : xNil N = false := decide_eq_false hx
    have e2 : xLen N = N.toNat := if_neg hx
    clear h1
    repeat ((conv => whnf); (with_reducible refine And.intro ?_ ?_); · first | exact True.intro | (intro hg0; simp only [hg0, Bool.not_false, Bool.not_true]; done) | assumption | omega | (intro _; refine ⟨True.intro, ?_⟩; omega) | (intro _; refine ⟨?_, True.intro⟩; omega) | (intro _; refine ⟨decide_eq_true ?_, ?_⟩ <;> omega) | (intro _; refine ⟨?_, ?_⟩ <;> first | omega | (simp [appG, Cd.holds]; done) | (simp [appG, Cd.holds]; omega)) | (refine decide_eq_true ?_; omega) | (intro _; omega) | (simp only [w_i64, w_u64, w_u32, w_u8]; omega) | exact ⟨U_nonneg _, U_lt32 _⟩ | exact R8_UL _ _ | exact R32_UL _ _ | (intro hg0; (repeat ((conv => whnf); (with_reducible refine And.intro ?_ ?_); · first | assumption | omega | (intro _; refine ⟨?_, ?_⟩ <;> first | assumption | omega | exact True.intro | (refine decide_eq_true ?_; omega) | (simp [appG, Cd.holds]; omega)) | (intro _; refine ⟨And.intro ?_ ?_, ?_⟩ <;> first | assumption | omega | (refine decide_eq_true ?_; omega)) | (simp only [hg0, Bool.and_self, Bool.true_and]; done) | (intro hg1; simp only [hg0, hg1, Bool.and_self, Bool.true_and]; done) | (simp [hg0]; done))); (conv => whnf); exact True.intro))
    conv => whnf
    refine ⟨0, Nat, fun i => ⟨41, [(0, .sa (.sc (.im nl .u8 g n0))), (1, .sa (.sc (.im nl2 .u8 h m))), (2, .sa (.sc (.int .i64 N))), (7, .sa (.sc (ownA (Nat.beq i 0) (32 * i) 0))), (8, .sa (.sc (ownA (Nat.beq i 0) (lastN i) 1))), (9, .sa (.sc (.int .i64 (i + 1))))],
      [(0, ownB 5 .u8 (UL (hkO (L8 g n0) (L8 h m) i)) (32 * i)), (1, ownB 5 .u8 (UL (hkT (L8 g n0) (L8 h m) i)) (lastN i))], 2⟩, fun i => (32 * i : Int) < N + 32, fun i => 255 - i, ⟨0, by show (32 * ((0 : Nat) : Int)) < N + 32; omega, le_of [] ?_⟩, fun i hi => ?_⟩
    · simp only [show lastN 0 = 0 from rfl]
      repeat ((conv => whnf); (with_reducible refine And.intro ?_ ?_); · first | with_reducible rfl | exact (Bool.and_false _).symm | (intro _ _; with_reducible rfl) | exact True.intro | assumption | (intro h; exact absurd h (by decide)) | omega | (intro _; omega) | (intro _; refine ⟨?_, True.intro⟩; omega) | (intro _; refine ⟨?_, True.intro⟩; intro _; omega) | (refine decide_eq_false ?_; omega) | (refine decide_eq_true ?_; omega) | (simp only [w_i64, w_u64, w_u32, w_u8]; omega) | exact fun j hj => (put_0 hj).symm | (intro j _; simp only [Nat.zero_add]; done) | (simp [appG]; done) | (simp [appG]; omega) | rfl | (intro hgd; (try replace hgd := of_decide_eq_true hgd); (repeat ((conv => whnf); (with_reducible refine And.intro ?_ ?_); · first | with_reducible rfl | exact (Bool.and_false _).symm | (intro _ _; with_reducible rfl) | exact True.intro | assumption | (intro h; exact absurd h (by decide)) | omega | (intro _; omega) | (intro _; refine ⟨?_, True.intro⟩; omega) | (intro _; refine ⟨?_, True.intro⟩; intro _; omega) | (refine decide_eq_false ?_; omega) | (refine decide_eq_true ?_; omega) | (simp only [w_i64, w_u64, w_u32, w_u8]; omega) | exact fun j hj => (put_0 hj).symm | (intro j _; simp only [Nat.zero_add]; done) | (simp [appG]; done) | (simp [appG]; omega) | rfl)); (conv => whnf); exact True.intro))
      conv => whnf
      exact True.intro
    have hi : (32 * i : Int) < N + 32 := hi
    have hl32 := lastN_le i
    have hnli : Nat.beq i 0 = true → i = 0 := fun h => by rw [Nat.beq_eq] at h; exact h
    have hnll : Nat.beq i 0 = true → lastN i = 0 := fun h => by rw [hnli h]; rfl
    have hnlo : Nat.beq i 0 = true → 32 * i = 0 := fun h => by rw [hnli h]
    repeat ((conv => whnf); (with_reducible refine And.intro ?_ ?_); · first | exact True.intro | (intro hg0; simp only [hg0, Bool.not_false, Bool.not_true]; done) | assumption | omega | (intro _; refine ⟨True.intro, ?_⟩; omega) | (intro _; refine ⟨?_, True.intro⟩; omega) | (intro _; refine ⟨decide_eq_true ?_, ?_⟩ <;> omega) | (intro _; refine ⟨?_, ?_⟩ <;> first | omega | (simp [appG, Cd.holds]; done) | (simp [appG, Cd.holds]; omega)) | (refine decide_eq_true ?_; omega) | (intro _; omega) | (simp only [w_i64, w_u64, w_u32, w_u8]; omega) | exact ⟨U_nonneg _, U_lt32 _⟩ | exact R8_UL _ _ | exact R32_UL _ _ | (intro hg0; (repeat ((conv => whnf); (with_reducible refine And.intro ?_ ?_); · first | assumption | omega | (intro _; refine ⟨?_, ?_⟩ <;> first | assumption | omega | exact True.intro | (refine decide_eq_true ?_; omega) | (simp [appG, Cd.holds]; omega)) | (intro _; refine ⟨And.intro ?_ ?_, ?_⟩ <;> first | assumption | omega | (refine decide_eq_true ?_; omega)) | (simp only [hg0, Bool.and_self, Bool.true_and]; done) | (intro hg1; simp only [hg0, hg1, Bool.and_self, Bool.true_and]; done) | (simp [hg0]; done))); (conv => whnf); exact True.intro))
    conv => whnf
    refine ⟨fun h3 => ?_, fun h3 => ?_⟩
    · replace h3 := of_decide_eq_true h3
      have hi3 : i ≤ 254 := by omega
      repeat ((conv => whnf); (with_reducible refine And.intro ?_ ?_); · first | exact True.intro | (intro hg0; simp only [hg0, Bool.not_false, Bool.not_true]; done) | assumption | omega | (intro _; refine ⟨True.intro, ?_⟩; omega) | (intro _; refine ⟨?_, True.intro⟩; omega) | (intro _; refine ⟨decide_eq_true ?_, ?_⟩ <;> omega) | (intro _; refine ⟨?_, ?_⟩ <;> first | omega | (simp [appG, Cd.holds]; done) | (simp [appG, Cd.holds]; omega)) | (refine decide_eq_true ?_; omega) | (intro _; omega) | (simp only [w_i64, w_u64, w_u32, w_u8]; omega) | exact ⟨U_nonneg _, U_lt32 _⟩ | exact R8_UL _ _ | exact R32_UL _ _ | (intro hg0; (repeat ((conv => whnf); (with_reducible refine And.intro ?_ ?_); · first | assumption | omega | (intro _; refine ⟨?_, ?_⟩ <;> first | assumption | omega | exact True.intro | (refine decide_eq_true ?_; omega) | (simp [appG, Cd.holds]; omega)) | (intro _; refine ⟨And.intro ?_ ?_, ?_⟩ <;> first | assumption | omega | (refine decide_eq_true ?_; omega)) | (simp only [hg0, Bool.and_self, Bool.true_and]; done) | (intro hg1; simp only [hg0, hg1, Bool.and_self, Bool.true_and]; done) | (simp [hg0]; done) | exact R8_3c hh (u8_r _))); (conv => whnf); exact True.intro) | exact R8_3c hh (u8_r _))
      conv => whnf
      refine ⟨i + 1, ⟨by show (32 * ((i + 1 : Nat) : Int)) < N + 32; omega, by show 255 - (i + 1) < 255 - i; omega⟩, le_of [(0, 8), (1, 7)] ?_⟩
      simp only [cat3L (hkT_len (L8 g n0) (L8 h m) i).symm, u8_i, lastN_succ]
      repeat ((conv => whnf); (with_reducible refine And.intro ?_ ?_); · first | with_reducible rfl | exact (Bool.and_false _).symm | (intro _ _; with_reducible rfl) | exact True.intro | assumption | (intro h; exact absurd h (by decide)) | omega | (intro _; omega) | (intro _; refine ⟨?_, True.intro⟩; omega) | (intro _; refine ⟨?_, True.intro⟩; intro _; omega) | (refine decide_eq_false ?_; omega) | (refine decide_eq_true ?_; omega) | (simp only [w_i64, w_u64, w_u32, w_u8]; omega) | exact fun j hj => (put_0 hj).symm | (intro j _; simp only [Nat.zero_add]; done) | (simp [appG]; done) | (simp [appG]; omega) | exact fun j hj => rnew (h := 32) j hj | (intro j hj; exact rout (hkO_length _ _ _).symm (hkT_length _ _ _).symm j (by omega)) | (intro hgd; (try replace hgd := of_decide_eq_true hgd); (repeat ((conv => whnf); (with_reducible refine And.intro ?_ ?_); · first | with_reducible rfl | exact (Bool.and_false _).symm | (intro _ _; with_reducible rfl) | exact True.intro | assumption | (intro h; exact absurd h (by decide)) | omega | (intro _; omega) | (intro _; refine ⟨?_, True.intro⟩; omega) | (intro _; refine ⟨?_, True.intro⟩; intro _; omega) | (refine decide_eq_false ?_; omega) | (refine decide_eq_true ?_; omega) | (simp only [w_i64, w_u64, w_u32, w_u8]; omega) | exact fun j hj => (put_0 hj).symm | (intro j _; simp only [Nat.zero_add]; done) | (simp [appG]; done) | (simp [appG]; omega) | exact fun j hj => rnew (h := 32) j hj | (intro j hj; exact rout (hkO_length _ _ _).symm (hkT_length _ _ _).symm j (by omega)))); (conv => whnf); exact True.intro))
      conv => whnf
      exact True.intro
    · replace h3 := of_decide_eq_false h3
      repeat ((conv => whnf); (with_reducible refine And.intro ?_ ?_); · first | exact True.intro | (intro hg0; simp only [hg0, Bool.not_false, Bool.not_true]; done) | assumption | omega | (intro _; refine ⟨True.intro, ?_⟩; omega) | (intro _; refine ⟨?_, True.intro⟩; omega) | (intro _; refine ⟨decide_eq_true ?_, ?_⟩ <;> omega) | (intro _; refine ⟨?_, ?_⟩ <;> first | omega | (simp [appG, Cd.holds]; done) | (simp [appG, Cd.holds]; omega)) | (refine decide_eq_true ?_; omega) | (intro _; omega) | (simp only [w_i64, w_u64, w_u32, w_u8]; omega) | exact ⟨U_nonneg _, U_lt32 _⟩ | exact R8_UL _ _ | exact R32_UL _ _ | (intro hg0; (repeat ((conv => whnf); (with_reducible refine And.intro ?_ ?_); · first | assumption | omega | (intro _; refine ⟨?_, ?_⟩ <;> first | assumption | omega | exact True.intro | (refine decide_eq_true ?_; omega) | (simp [appG, Cd.holds]; omega)) | (intro _; refine ⟨And.intro ?_ ?_, ?_⟩ <;> first | assumption | omega | (refine decide_eq_true ?_; omega)) | (simp only [hg0, Bool.and_self, Bool.true_and]; done) | (intro hg1; simp only [hg0, hg1, Bool.and_self, Bool.true_and]; done) | (simp [hg0]; done))); (conv => whnf); exact True.intro))
      conv => whnf
      refine ⟨[], ?_⟩
      simp only [e1, e2]
      have hi255 : i ≤ 255 := by omega
      have hf := hkO_front (L8 g n0) (L8 h m) i 255 hi255
      have hcont : ∀ j, j < N.toNat → UL (hkO (L8 g n0) (L8 h m) 255) j = UL (hkO (L8 g n0) (L8 h m) i) j := fun j hj => by
        rw [← hf, UL_take (by omega)]
      have hi0 : Nat.beq i 0 = false := by cases i with
        | zero => omega
        | succ i => rfl
      repeat ((conv => whnf); (with_reducible refine And.intro ?_ ?_); · first | with_reducible rfl | exact (Bool.and_false _).symm | (intro _ _; with_reducible rfl) | exact True.intro | assumption | (intro h; exact absurd h (by decide)) | omega | (intro _; omega) | (intro _; refine ⟨?_, True.intro⟩; omega) | (intro _; refine ⟨?_, True.intro⟩; intro _; omega) | (refine decide_eq_false ?_; omega) | (refine decide_eq_true ?_; omega) | (simp only [w_i64, w_u64, w_u32, w_u8]; omega) | exact fun j hj => (put_0 hj).symm | (intro j _; simp only [Nat.zero_add]; done) | (simp [appG]; done) | (simp [appG]; omega) | exact hcont | exact hi0.symm | (intro hgd; (try replace hgd := of_decide_eq_true hgd); (repeat ((conv => whnf); (with_reducible refine And.intro ?_ ?_); · first | with_reducible rfl | exact (Bool.and_false _).symm | (intro _ _; with_reducible rfl) | exact True.intro | assumption | (intro h; exact absurd h (by decide)) | omega | (intro _; omega) | (intro _; refine ⟨?_, True.intro⟩; omega) | (intro _; refine ⟨?_, True.intro⟩; intro _; omega) | (refine decide_eq_false ?_; omega) | (refine decide_eq_true ?_; omega) | (simp only [w_i64, w_u64, w_u32, w_u8]; omega) | exact fun j hj => (put_0 hj).symm | (intro j _; simp only [Nat.zero_add]; done) | (simp [appG]; done) | (simp [appG]; omega) | exact hcont | exact hi0.symm)); (conv => whnf); exact True.intro))
      conv => whnf
      exact True.intro
end Go.Proofs.Ytogijkmflhjhkaa
