/- Functions through the evaluator: copies of a tape, the document's tape. No condition. -/
import Derived.Test.YtogijkmflhjhkaaSxT
import Derived.Test.YtogijkmflhjhkaaSxU
import Derived.Test.YtogijkmflhjhkaaF20
import Derived.Test.YtogijkmflhjhkaaF16
namespace Go.Proofs.Ytogijkmflhjhkaa
open Go.Sx Go.RowKit
set_option linter.unusedSimpArgs false
set_option maxRecDepth 100000
set_option maxHeartbeats 1000000
set_option linter.unusedVariables false

/-! a tape's bytes, from its beginning on -/
def tBlk (p : Nat) : Nat := (p + 31) / 32
def tRest (seed : Int) (p : Nat) : List B8 := (tapF seed 0 (tBlk p)).drop p
def tAt (seed : Int) (p n : Nat) : List B8 := ((tapF seed 0 (tBlk (p + n))).drop p).take n
theorem tapF_add (seed : Int) (i a : Nat) : ∀ b, tapF seed i (a + b) = tapF seed i a ++ tapF seed (i + a) b
  | 0 => by rw [Nat.add_zero, tapF, List.append_nil]
  | b + 1 => by
    rw [← Nat.add_assoc, tapF, tapF_add seed i a b, tapF, List.append_assoc, ← Nat.add_assoc]
theorem tapF_pre (seed : Int) (i : Nat) {k m : Nat} (h : k ≤ m) : (tapF seed i m).take (32 * k) = tapF seed i k := by
  rw [show m = k + (m - k) by omega, tapF_add, List.take_left' (tapF_length _ _ _)]
theorem tRest_length (seed : Int) (p : Nat) : (tRest seed p).length = 32 * tBlk p - p := by rw [tRest, List.length_drop, tapF_length]
theorem tAt_length (seed : Int) (p n : Nat) : (tAt seed p n).length = n := by
  rw [tAt, List.length_take, List.length_drop, tapF_length]; unfold tBlk; omega
theorem tBlk_le (p n : Nat) : tBlk p ≤ tBlk (p + n) := by unfold tBlk; omega
theorem tBlk_ge (p : Nat) : p ≤ 32 * tBlk p := by unfold tBlk; omega
theorem tQ_blk (p n : Nat) : tQ (32 * tBlk p - p) (n : Int) = tBlk (p + n) - tBlk p := by unfold tQ tBlk; rw [Int.toNat_natCast]; omega
theorem nx_cat (seed : Int) (p n : Nat) : tRest seed p ++ tapF seed (tBlk p) (tBlk (p + n) - tBlk p) = (tapF seed 0 (tBlk (p + n))).drop p := by
  have h := tBlk_le p n
  have e : tapF seed 0 (tBlk (p + n)) = tapF seed 0 (tBlk p) ++ tapF seed (tBlk p) (tBlk (p + n) - tBlk p) := by
    have := tapF_add seed 0 (tBlk p) (tBlk (p + n) - tBlk p)
    rw [Nat.zero_add, show tBlk p + (tBlk (p + n) - tBlk p) = tBlk (p + n) by omega] at this
    exact this
  rw [e, List.drop_append_of_le_length (by rw [tapF_length]; exact tBlk_ge p)]
  rfl
theorem nx_take (seed : Int) (p n : Nat) : (tRest seed p ++ tapF seed (tBlk p) (tBlk (p + n) - tBlk p)).take n = tAt seed p n := by rw [nx_cat]; rfl
theorem nx_drop (seed : Int) (p n : Nat) : (tRest seed p ++ tapF seed (tBlk p) (tBlk (p + n) - tBlk p)).drop n = tRest seed (p + n) := by rw [nx_cat, List.drop_drop]; rfl
theorem nx_len (p n : Nat) : 32 * tBlk p - p + 32 * (tBlk (p + n) - tBlk p) - n = 32 * tBlk (p + n) - (p + n) := by
  have := tBlk_le p n
  have := tBlk_ge p
  have := tBlk_ge (p + n)
  omega
theorem nx_i (p n : Nat) : ((tBlk p : Nat) : Int) + ((tBlk (p + n) - tBlk p : Nat) : Int) = ((tBlk (p + n) : Nat) : Int) := by have := tBlk_le p n; omega
theorem nx_nl (p n : Nat) : (Nat.beq (tBlk p) 0 && Nat.beq (tBlk (p + n) - tBlk p) 0) = Nat.beq (tBlk (p + n)) 0 := by
  have := tBlk_le p n
  rw [beq_and, show tBlk p + (tBlk (p + n) - tBlk p) = tBlk (p + n) by omega]
theorem nx_rest (seed : Int) (p : Nat) : L8 (UL (tRest seed p)) (32 * tBlk p - p) = tRest seed p := L8_UL' (tRest_length _ _).symm
theorem tAt_append (seed : Int) (p n m : Nat) : tAt seed p n ++ tAt seed (p + n) m = tAt seed p (n + m) := by
  have h1 := tBlk_le (p + n) m
  have e : tAt seed p n = ((tapF seed 0 (tBlk (p + (n + m)))).drop p).take n := by
    rw [tAt, ← tapF_pre seed 0 (show tBlk (p + n) ≤ tBlk (p + (n + m)) by rw [← Nat.add_assoc]; exact h1), List.drop_take, List.take_take, Nat.min_eq_left (by have := tBlk_ge (p + n); omega)]
  rw [e]
  unfold tAt
  rw [Nat.add_assoc, ← List.drop_drop, List.take_add]
theorem rf_at (seed : Int) (a n : Nat) : ((tapF seed (a / 32) ((a % 32 + n + 31) / 32)).drop (a % 32)).take n = tAt seed a n := by
  have e : tapF seed 0 (tBlk (a + n)) = tapF seed 0 (a / 32) ++ tapF seed (a / 32) ((a % 32 + n + 31) / 32) := by
    have := tapF_add seed 0 (a / 32) ((a % 32 + n + 31) / 32)
    rw [Nat.zero_add, show a / 32 + (a % 32 + n + 31) / 32 = tBlk (a + n) by unfold tBlk; omega] at this
    exact this
  unfold tAt
  rw [e]
  congr 1
  have e2 : a = 32 * (a / 32) + a % 32 := by omega
  have e3 : (tapF seed 0 (a / 32)).length = 32 * (a / 32) := tapF_length _ _ _
  generalize tapF seed (a / 32) ((a % 32 + n + 31) / 32) = Y
  rw [show (tapF seed 0 (a / 32) ++ Y).drop a = ((tapF seed 0 (a / 32) ++ Y).drop (32 * (a / 32))).drop (a % 32) by rw [List.drop_drop]; congr 1, List.drop_left' e3]

def tnextS0 : Summary := mkS false [.v, .v] fun
  | [.v (.sc .nilp), .v (.sc (.int .i64 _))] => some ⟨.tt, some (.sa (.sc (.sl true false true 999999 0 0 0 0))), [], 0⟩
  | _ => none
theorem tnextS0_ok : SumOk Try.prog 47 tnextS0 := by
  unfold tnextS0
  apply sum_ok
  intro vs A H n o r hb h
  split at h
  rotate_left
  · cases h
  rename_i n0
  injection h with h
  subst h
  cases hb
  refine fsound_of_run tt_ok cokT mixed_ok Try.call47 Try.func47 rfl (rs := _) Try.results47 (size := 70) Try.ntmps47 (Nat.le_of_ble_eq_true rfl) rfl fun hp hfa hfh => ?_
  repeat ((conv => whnf); (with_reducible refine And.intro ?_ ?_); · first | exact True.intro | (intro hg0; simp only [hg0, Bool.not_false, Bool.not_true]; done) | assumption | omega | (intro _; refine ⟨True.intro, ?_⟩; omega) | (intro _; refine ⟨?_, True.intro⟩; omega) | (intro _; refine ⟨decide_eq_true ?_, ?_⟩ <;> omega) | (intro _; refine ⟨?_, ?_⟩ <;> first | omega | (simp [appG, Cd.holds]; done) | (simp [appG, Cd.holds]; omega)) | (refine decide_eq_true ?_; omega) | (intro _; omega) | (simp only [w_i64, w_u64, w_u32, w_u8]; omega) | exact ⟨U_nonneg _, U_lt32 _⟩ | exact R8_UL _ _ | exact R32_UL _ _ | (intro hg0; (repeat ((conv => whnf); (with_reducible refine And.intro ?_ ?_); · first | assumption | omega | (intro _; refine ⟨?_, ?_⟩ <;> first | assumption | omega | exact True.intro | (refine decide_eq_true ?_; omega) | (simp [appG, Cd.holds]; omega)) | (intro _; refine ⟨And.intro ?_ ?_, ?_⟩ <;> first | assumption | omega | (refine decide_eq_true ?_; omega)) | (simp only [hg0, Bool.and_self, Bool.true_and]; done) | (intro hg1; simp only [hg0, hg1, Bool.and_self, Bool.true_and]; done) | (simp [hg0]; done))); (conv => whnf); exact True.intro))
  conv => whnf
  refine ⟨fun h1 => ?_, fun h1 => ?_⟩
  · repeat ((conv => whnf); (with_reducible refine And.intro ?_ ?_); · first | exact True.intro | (intro hg0; simp only [hg0, Bool.not_false, Bool.not_true]; done) | assumption | omega | (intro _; refine ⟨True.intro, ?_⟩; omega) | (intro _; refine ⟨?_, True.intro⟩; omega) | (intro _; refine ⟨decide_eq_true ?_, ?_⟩ <;> omega) | (intro _; refine ⟨?_, ?_⟩ <;> first | omega | (simp [appG, Cd.holds]; done) | (simp [appG, Cd.holds]; omega)) | (refine decide_eq_true ?_; omega) | (intro _; omega) | (simp only [w_i64, w_u64, w_u32, w_u8]; omega) | exact ⟨U_nonneg _, U_lt32 _⟩ | exact R8_UL _ _ | exact R32_UL _ _ | (intro hg0; (repeat ((conv => whnf); (with_reducible refine And.intro ?_ ?_); · first | assumption | omega | (intro _; refine ⟨?_, ?_⟩ <;> first | assumption | omega | exact True.intro | (refine decide_eq_true ?_; omega) | (simp [appG, Cd.holds]; omega)) | (intro _; refine ⟨And.intro ?_ ?_, ?_⟩ <;> first | assumption | omega | (refine decide_eq_true ?_; omega)) | (simp only [hg0, Bool.and_self, Bool.true_and]; done) | (intro hg1; simp only [hg0, hg1, Bool.and_self, Bool.true_and]; done) | (simp [hg0]; done))); (conv => whnf); exact True.intro))
    conv => whnf
    refine ⟨[], ?_⟩
    repeat ((conv => whnf); (with_reducible refine And.intro ?_ ?_); · first | with_reducible rfl | exact (Bool.and_false _).symm | (intro _ _; with_reducible rfl) | exact True.intro | assumption | (intro h; exact absurd h (by decide)) | omega | (intro _; omega) | (intro _; refine ⟨?_, True.intro⟩; omega) | (intro _; refine ⟨?_, True.intro⟩; intro _; omega) | (refine decide_eq_false ?_; omega) | (refine decide_eq_true ?_; omega) | (simp only [w_i64, w_u64, w_u32, w_u8]; omega) | exact fun j hj => (put_0 hj).symm | (intro j _; simp only [Nat.zero_add]; done) | (simp [appG]; done) | (simp [appG]; omega) | (intro hgd; (try replace hgd := of_decide_eq_true hgd); (repeat ((conv => whnf); (with_reducible refine And.intro ?_ ?_); · first | with_reducible rfl | exact (Bool.and_false _).symm | (intro _ _; with_reducible rfl) | exact True.intro | assumption | (intro h; exact absurd h (by decide)) | omega | (intro _; omega) | (intro _; refine ⟨?_, True.intro⟩; omega) | (intro _; refine ⟨?_, True.intro⟩; intro _; omega) | (refine decide_eq_false ?_; omega) | (refine decide_eq_true ?_; omega) | (simp only [w_i64, w_u64, w_u32, w_u8]; omega) | exact fun j hj => (put_0 hj).symm | (intro j _; simp only [Nat.zero_add]; done) | (simp [appG]; done) | (simp [appG]; omega))); (conv => whnf); exact True.intro))
    conv => whnf
    exact True.intro
  · exact absurd h1 (by simp)
def tnextS : Summary := orS tnextS1 tnextS0
theorem tnextS_ok : SumOk Try.prog 47 tnextS := orS_ok tnextS1_ok tnextS0_ok

/-- (*tape.Tape).Copy. -/
def tcopyS1 : Summary := mkS false [tpM] fun
  | [.p [.s (.int .i64 seed), .s (.int .i64 i), .a nl f m]] => some ⟨.p (m ≤ 140737488355328), some (.sa (.sc (.ptr 2 0 0))), [(0, tpB seed i nl m 1), (1, ownB 5 .u8 f m), (2, tpB seed i nl m 3), (3, ownB 5 .u8 f m)], 4⟩
  | _ => none
theorem cokC : COk Try.prog (tab [(67, cloneS)]) := cok_cons cloneS_ok cok_nil
theorem tcopyS1_ok : SumOk Try.prog 49 tcopyS1 := by
  unfold tcopyS1
  apply sum_ok
  intro vs A H n o r hb h
  split at h
  rotate_left
  · cases h
  rename_i seed i nl f m
  injection h with h
  subst h
  cases hb
  refine fsound_of_run tt_ok cokC mixed_ok Try.call49 Try.func49 rfl (rs := _) Try.results49 (size := 20) Try.ntmps49 (Nat.le_of_ble_eq_true rfl) rfl fun hp hfa hfh => ?_
  have hm : m ≤ 140737488355328 := hp
  have hnl : nl = true → m = 0 := hfh.1.2.2.1.1
  repeat ((conv => whnf); (with_reducible refine And.intro ?_ ?_); · first | exact True.intro | (intro hg0; simp only [hg0, Bool.not_false, Bool.not_true]; done) | assumption | omega | (intro _; refine ⟨True.intro, ?_⟩; omega) | (intro _; refine ⟨?_, True.intro⟩; omega) | (intro _; refine ⟨decide_eq_true ?_, ?_⟩ <;> omega) | (intro _; refine ⟨?_, ?_⟩ <;> first | omega | (simp [appG, Cd.holds]; done) | (simp [appG, Cd.holds]; omega)) | (refine decide_eq_true ?_; omega) | (intro _; omega) | (simp only [w_i64, w_u64, w_u32, w_u8]; omega) | exact ⟨U_nonneg _, U_lt32 _⟩ | exact R8_UL _ _ | exact R32_UL _ _ | (intro hg0; (repeat ((conv => whnf); (with_reducible refine And.intro ?_ ?_); · first | assumption | omega | (intro _; refine ⟨?_, ?_⟩ <;> first | assumption | omega | exact True.intro | (refine decide_eq_true ?_; omega) | (simp [appG, Cd.holds]; omega)) | (intro _; refine ⟨And.intro ?_ ?_, ?_⟩ <;> first | assumption | omega | (refine decide_eq_true ?_; omega)) | (simp only [hg0, Bool.and_self, Bool.true_and]; done) | (intro hg1; simp only [hg0, hg1, Bool.and_self, Bool.true_and]; done) | (simp [hg0]; done))); (conv => whnf); exact True.intro))
  conv => whnf
  refine ⟨(fun h1 => nomatch h1), fun h1 => ?_⟩
  repeat ((conv => whnf); (with_reducible refine And.intro ?_ ?_); · first | exact True.intro | (intro hg0; simp only [hg0, Bool.not_false, Bool.not_true]; done) | assumption | omega | (intro _; refine ⟨True.intro, ?_⟩; omega) | (intro _; refine ⟨?_, True.intro⟩; omega) | (intro _; refine ⟨decide_eq_true ?_, ?_⟩ <;> omega) | (intro _; refine ⟨?_, ?_⟩ <;> first | omega | (simp [appG, Cd.holds]; done) | (simp [appG, Cd.holds]; omega)) | (refine decide_eq_true ?_; omega) | (intro _; omega) | (simp only [w_i64, w_u64, w_u32, w_u8]; omega) | exact ⟨U_nonneg _, U_lt32 _⟩ | exact R8_UL _ _ | exact R32_UL _ _ | (intro hg0; (repeat ((conv => whnf); (with_reducible refine And.intro ?_ ?_); · first | assumption | omega | (intro _; refine ⟨?_, ?_⟩ <;> first | assumption | omega | exact True.intro | (refine decide_eq_true ?_; omega) | (simp [appG, Cd.holds]; omega)) | (intro _; refine ⟨And.intro ?_ ?_, ?_⟩ <;> first | assumption | omega | (refine decide_eq_true ?_; omega)) | (simp only [hg0, Bool.and_self, Bool.true_and]; done) | (intro hg1; simp only [hg0, hg1, Bool.and_self, Bool.true_and]; done) | (simp [hg0]; done))); (conv => whnf); exact True.intro))
  conv => whnf
  refine ⟨[(0, ⟨0, some 5, []⟩), (1, ⟨1, some 6, []⟩), (2, ⟨3, some 7, []⟩), (3, ⟨7, some 8, []⟩), (4, ⟨0, some 9, []⟩), (5, ⟨16, some 10, []⟩), (6, ⟨48, some 11, []⟩), (7, ⟨112, some 12, []⟩), (8, ⟨0, some 13, []⟩), (9, ⟨256, some 14, []⟩), (10, ⟨768, some 15, []⟩), (11, ⟨1792, some 16, []⟩), (12, ⟨3840, some 17, [194]⟩), (13, ⟨8191, some 18, []⟩), (14, ⟨16383, some 19, [226]⟩), (15, ⟨32767, some 2, []⟩)], 258, ?_⟩
  repeat ((conv => whnf); (with_reducible refine And.intro ?_ ?_); · first | exact True.intro | (intro hg0; simp only [hg0, Bool.not_false, Bool.not_true]; done) | assumption | omega | (intro _; refine ⟨True.intro, ?_⟩; omega) | (intro _; refine ⟨?_, True.intro⟩; omega) | (intro _; refine ⟨decide_eq_true ?_, ?_⟩ <;> omega) | (intro _; refine ⟨?_, ?_⟩ <;> first | omega | (simp [appG, Cd.holds]; done) | (simp [appG, Cd.holds]; omega)) | (refine decide_eq_true ?_; omega) | (intro _; omega) | (simp only [w_i64, w_u64, w_u32, w_u8]; omega) | exact ⟨U_nonneg _, U_lt32 _⟩ | exact R8_UL _ _ | exact R32_UL _ _ | (intro hg0; (repeat ((conv => whnf); (with_reducible refine And.intro ?_ ?_); · first | assumption | omega | (intro _; refine ⟨?_, ?_⟩ <;> first | assumption | omega | exact True.intro | (refine decide_eq_true ?_; omega) | (simp [appG, Cd.holds]; omega)) | (intro _; refine ⟨And.intro ?_ ?_, ?_⟩ <;> first | assumption | omega | (refine decide_eq_true ?_; omega)) | (simp only [hg0, Bool.and_self, Bool.true_and]; done) | (intro hg1; simp only [hg0, hg1, Bool.and_self, Bool.true_and]; done) | (simp [hg0]; done))); (conv => whnf); exact True.intro))
  conv => whnf
  refine ⟨[(2, 226), (3, 194)], ?_⟩
  repeat ((conv => whnf); (with_reducible refine And.intro ?_ ?_); · first | with_reducible rfl | exact (Bool.and_false _).symm | (intro _ _; with_reducible rfl) | exact True.intro | assumption | (intro h; exact absurd h (by decide)) | omega | (intro _; omega) | (intro _; refine ⟨?_, True.intro⟩; omega) | (intro _; refine ⟨?_, True.intro⟩; intro _; omega) | (refine decide_eq_false ?_; omega) | (refine decide_eq_true ?_; omega) | (simp only [w_i64, w_u64, w_u32, w_u8]; omega) | exact fun j hj => (put_0 hj).symm | (intro j _; simp only [Nat.zero_add]; done) | (simp [appG]; done) | (simp [appG]; omega) | (intro hgd; (try replace hgd := of_decide_eq_true hgd); (repeat ((conv => whnf); (with_reducible refine And.intro ?_ ?_); · first | with_reducible rfl | exact (Bool.and_false _).symm | (intro _ _; with_reducible rfl) | exact True.intro | assumption | (intro h; exact absurd h (by decide)) | omega | (intro _; omega) | (intro _; refine ⟨?_, True.intro⟩; omega) | (intro _; refine ⟨?_, True.intro⟩; intro _; omega) | (refine decide_eq_false ?_; omega) | (refine decide_eq_true ?_; omega) | (simp only [w_i64, w_u64, w_u32, w_u8]; omega) | exact fun j hj => (put_0 hj).symm | (intro j _; simp only [Nat.zero_add]; done) | (simp [appG]; done) | (simp [appG]; omega))); (conv => whnf); exact True.intro))
  conv => whnf
  exact True.intro
def tcopyS0 : Summary := mkS false [.v] fun
  | [.v (.sc .nilp)] => some ⟨.tt, some (.sa (.sc .nilp)), [], 0⟩
  | _ => none
theorem tcopyS0_ok : SumOk Try.prog 49 tcopyS0 := by
  unfold tcopyS0
  apply sum_ok
  intro vs A H n o r hb h
  split at h
  rotate_left
  · cases h
  injection h with h
  subst h
  cases hb
  refine fsound_of_run tt_ok cokC mixed_ok Try.call49 Try.func49 rfl (rs := _) Try.results49 (size := 20) Try.ntmps49 (Nat.le_of_ble_eq_true rfl) rfl fun hp hfa hfh => ?_
  repeat ((conv => whnf); (with_reducible refine And.intro ?_ ?_); · first | exact True.intro | (intro hg0; simp only [hg0, Bool.not_false, Bool.not_true]; done) | assumption | omega | (intro _; refine ⟨True.intro, ?_⟩; omega) | (intro _; refine ⟨?_, True.intro⟩; omega) | (intro _; refine ⟨decide_eq_true ?_, ?_⟩ <;> omega) | (intro _; refine ⟨?_, ?_⟩ <;> first | omega | (simp [appG, Cd.holds]; done) | (simp [appG, Cd.holds]; omega)) | (refine decide_eq_true ?_; omega) | (intro _; omega) | (simp only [w_i64, w_u64, w_u32, w_u8]; omega) | exact ⟨U_nonneg _, U_lt32 _⟩ | exact R8_UL _ _ | exact R32_UL _ _ | (intro hg0; (repeat ((conv => whnf); (with_reducible refine And.intro ?_ ?_); · first | assumption | omega | (intro _; refine ⟨?_, ?_⟩ <;> first | assumption | omega | exact True.intro | (refine decide_eq_true ?_; omega) | (simp [appG, Cd.holds]; omega)) | (intro _; refine ⟨And.intro ?_ ?_, ?_⟩ <;> first | assumption | omega | (refine decide_eq_true ?_; omega)) | (simp only [hg0, Bool.and_self, Bool.true_and]; done) | (intro hg1; simp only [hg0, hg1, Bool.and_self, Bool.true_and]; done) | (simp [hg0]; done))); (conv => whnf); exact True.intro))
  conv => whnf
  refine ⟨fun h1 => ?_, (fun h1 => nomatch h1)⟩
  repeat ((conv => whnf); (with_reducible refine And.intro ?_ ?_); · first | exact True.intro | (intro hg0; simp only [hg0, Bool.not_false, Bool.not_true]; done) | assumption | omega | (intro _; refine ⟨True.intro, ?_⟩; omega) | (intro _; refine ⟨?_, True.intro⟩; omega) | (intro _; refine ⟨decide_eq_true ?_, ?_⟩ <;> omega) | (intro _; refine ⟨?_, ?_⟩ <;> first | omega | (simp [appG, Cd.holds]; done) | (simp [appG, Cd.holds]; omega)) | (refine decide_eq_true ?_; omega) | (intro _; omega) | (simp only [w_i64, w_u64, w_u32, w_u8]; omega) | exact ⟨U_nonneg _, U_lt32 _⟩ | exact R8_UL _ _ | exact R32_UL _ _ | (intro hg0; (repeat ((conv => whnf); (with_reducible refine And.intro ?_ ?_); · first | assumption | omega | (intro _; refine ⟨?_, ?_⟩ <;> first | assumption | omega | exact True.intro | (refine decide_eq_true ?_; omega) | (simp [appG, Cd.holds]; omega)) | (intro _; refine ⟨And.intro ?_ ?_, ?_⟩ <;> first | assumption | omega | (refine decide_eq_true ?_; omega)) | (simp only [hg0, Bool.and_self, Bool.true_and]; done) | (intro hg1; simp only [hg0, hg1, Bool.and_self, Bool.true_and]; done) | (simp [hg0]; done))); (conv => whnf); exact True.intro))
  conv => whnf
  refine ⟨[], ?_⟩
  repeat ((conv => whnf); (with_reducible refine And.intro ?_ ?_); · first | with_reducible rfl | exact (Bool.and_false _).symm | (intro _ _; with_reducible rfl) | exact True.intro | assumption | (intro h; exact absurd h (by decide)) | omega | (intro _; omega) | (intro _; refine ⟨?_, True.intro⟩; omega) | (intro _; refine ⟨?_, True.intro⟩; intro _; omega) | (refine decide_eq_false ?_; omega) | (refine decide_eq_true ?_; omega) | (simp only [w_i64, w_u64, w_u32, w_u8]; omega) | exact fun j hj => (put_0 hj).symm | (intro j _; simp only [Nat.zero_add]; done) | (simp [appG]; done) | (simp [appG]; omega) | (intro hgd; (try replace hgd := of_decide_eq_true hgd); (repeat ((conv => whnf); (with_reducible refine And.intro ?_ ?_); · first | with_reducible rfl | exact (Bool.and_false _).symm | (intro _ _; with_reducible rfl) | exact True.intro | assumption | (intro h; exact absurd h (by decide)) | omega | (intro _; omega) | (intro _; refine ⟨?_, True.intro⟩; omega) | (intro _; refine ⟨?_, True.intro⟩; intro _; omega) | (refine decide_eq_false ?_; omega) | (refine decide_eq_true ?_; omega) | (simp only [w_i64, w_u64, w_u32, w_u8]; omega) | exact fun j hj => (put_0 hj).symm | (intro j _; simp only [Nat.zero_add]; done) | (simp [appG]; done) | (simp [appG]; omega))); (conv => whnf); exact True.intro))
  conv => whnf
  exact True.intro
def tcopyS : Summary := orS tcopyS1 tcopyS0
theorem tcopyS_ok : SumOk Try.prog 49 tcopyS := orS_ok tcopyS1_ok tcopyS0_ok

theorem cokR : COk Try.prog (tab [(35, rsumS), (72, rputS)]) := cok_cons rsumS_ok (cok_cons rputS_ok cok_nil)
/-- How many blocks the document makes. -/
def rK (r n : Nat) : Nat := (r + n + 31) / 32
/-- indentureref4.Tape. -/
def rtapeS : Summary := mkS false [.v, .v, .v] fun
  | [.v (.sc (.int .i64 seed)), .v (.sc (.int .i64 a)), .v (.sc (.int .i64 n))] => some ⟨.and (.p (-9223372036854775808 ≤ seed ∧ seed ≤ 9223372036854775807)) (.and (.p (0 ≤ a ∧ a ≤ 100000)) (.p (0 ≤ n ∧ n ≤ 100000))),
      some (.sa (.sc (.sl (Nat.beq (rK (a.toNat % 32) n.toNat) 0) false false 0 0 (a.toNat % 32) n.toNat n.toNat))), [(0, ownB 5 .u8 (UL (tapF seed (a.toNat / 32) (rK (a.toNat % 32) n.toNat))) (32 * rK (a.toNat % 32) n.toNat))], 1⟩
  | _ => none
theorem rtapeS_ok : SumOk Try.prog 48 rtapeS := by
  unfold rtapeS
  apply sum_ok
  intro vs A H n o r hb h
  split at h
  rotate_left
  · cases h
  rename_i seed a n
  injection h with h
  subst h
  cases hb
  refine fsound_of_run tt_ok cokR mixed_ok Try.call48 Try.func48 rfl (rs := _) Try.results48 (size := 38) Try.ntmps48 (Nat.le_of_ble_eq_true rfl) rfl fun hp hfa hfh => ?_
  obtain ⟨hs, ha, hn⟩ := hp
  have hs : -9223372036854775808 ≤ seed ∧ seed ≤ 9223372036854775807 := hs
  have ha : 0 ≤ a ∧ a ≤ 100000 := ha
  have hn : 0 ≤ n ∧ n ≤ 100000 := hn
  obtain ⟨a, hae⟩ : ∃ a' : Nat, a = (a' : Int) := ⟨a.toNat, by omega⟩
  subst hae
  obtain ⟨n, hne⟩ : ∃ n' : Nat, n = (n' : Int) := ⟨n.toNat, by omega⟩
  subst hne
  have h1 : ((a : Int)).tmod 32 = ((a % 32 : Nat) : Int) := rfl
  have h2 : IntKind.i64.wrap (((a : Int)).tdiv 32) = ((a / 32 : Nat) : Int) := by rw [show ((a : Int)).tdiv 32 = ((a / 32 : Nat) : Int) from rfl, w_i64]; omega
  have h3 : IntKind.i64.wrap (((a % 32 : Nat) : Int) + (n : Int)) = ((a % 32 + n : Nat) : Int) := by rw [w_i64]; omega
  repeat ((conv => whnf); (with_reducible refine And.intro ?_ ?_); · first | exact True.intro | (intro hg0; simp only [hg0, Bool.not_false, Bool.not_true]; done) | assumption | omega | (intro _; refine ⟨True.intro, ?_⟩; omega) | (intro _; refine ⟨?_, True.intro⟩; omega) | (intro _; refine ⟨decide_eq_true ?_, ?_⟩ <;> omega) | (intro _; refine ⟨?_, ?_⟩ <;> first | omega | (simp [appG, Cd.holds]; done) | (simp [appG, Cd.holds]; omega)) | (refine decide_eq_true ?_; omega) | (intro _; omega) | (simp only [h1, h2, h3]; omega) | (simp only [h1, h2, h3]; intro _; refine ⟨?_, ?_⟩ <;> first | omega | (refine decide_eq_true ?_; omega)) | exact ⟨U_nonneg _, U_lt32 _⟩ | exact R8_UL _ _ | exact R32_UL _ _ | (intro hg0; (repeat ((conv => whnf); (with_reducible refine And.intro ?_ ?_); · first | assumption | omega | (intro _; refine ⟨?_, ?_⟩ <;> first | assumption | omega | exact True.intro | (refine decide_eq_true ?_; omega) | (simp [appG, Cd.holds]; omega)) | (intro _; refine ⟨And.intro ?_ ?_, ?_⟩ <;> first | assumption | omega | (refine decide_eq_true ?_; omega)) | (simp only [hg0, Bool.and_self, Bool.true_and]; done) | (intro hg1; simp only [hg0, hg1, Bool.and_self, Bool.true_and]; done) | (simp [hg0]; done))); (conv => whnf); exact True.intro))
  conv => whnf
  simp only [h1, h2, h3, Int.toNat_natCast]
  refine ⟨0, Nat, fun k => ⟨38, [(0, .sa (.sc (.int .i64 seed))), (1, .sa (.sc (.int .i64 a))), (2, .sa (.sc (.int .i64 n))), (7, .sa (.sc (ownA (Nat.beq k 0) (32 * k) 0))), (8, .sa (.sc (.int .i64 ((a / 32 + k : Nat) : Int))))],
    [(0, ownB 5 .u8 (UL (tapF seed (a / 32) k)) (32 * k))], 1⟩, fun k => 32 * k < a % 32 + n + 32, fun k => a % 32 + n + 32 - 32 * k, ⟨0, by show 32 * 0 < a % 32 + n + 32; omega, le_of [] ?_⟩, fun k hk => ?_⟩
  · repeat ((conv => whnf); (with_reducible refine And.intro ?_ ?_); · first | with_reducible rfl | exact (Bool.and_false _).symm | (intro _ _; with_reducible rfl) | exact True.intro | assumption | (intro h; exact absurd h (by decide)) | omega | (intro _; omega) | (intro _; refine ⟨?_, True.intro⟩; omega) | (intro _; refine ⟨?_, True.intro⟩; intro _; omega) | (refine decide_eq_false ?_; omega) | (refine decide_eq_true ?_; omega) | (simp only [w_i64, w_u64, w_u32, w_u8]; omega) | exact fun j hj => (put_0 hj).symm | (intro j _; simp only [Nat.zero_add]; done) | (simp [appG]; done) | (simp [appG]; omega) | rfl | (intro hgd; (try replace hgd := of_decide_eq_true hgd); (repeat ((conv => whnf); (with_reducible refine And.intro ?_ ?_); · first | with_reducible rfl | exact (Bool.and_false _).symm | (intro _ _; with_reducible rfl) | exact True.intro | assumption | (intro h; exact absurd h (by decide)) | omega | (intro _; omega) | (intro _; refine ⟨?_, True.intro⟩; omega) | (intro _; refine ⟨?_, True.intro⟩; intro _; omega) | (refine decide_eq_false ?_; omega) | (refine decide_eq_true ?_; omega) | (simp only [w_i64, w_u64, w_u32, w_u8]; omega) | exact fun j hj => (put_0 hj).symm | (intro j _; simp only [Nat.zero_add]; done) | (simp [appG]; done) | (simp [appG]; omega) | rfl)); (conv => whnf); exact True.intro))
    conv => whnf
    exact True.intro
  have hk : 32 * k < a % 32 + n + 32 := hk
  have hk0 : Nat.beq k 0 = true → 32 * k = 0 := fun h => by rw [Nat.beq_eq] at h; omega
  have hTl : (tapF seed (a / 32) k).length = 32 * k := tapF_length _ _ _
  repeat ((conv => whnf); (with_reducible refine And.intro ?_ ?_); · first | exact True.intro | (intro hg0; simp only [hg0, Bool.not_false, Bool.not_true]; done) | assumption | omega | (intro _; refine ⟨True.intro, ?_⟩; omega) | (intro _; refine ⟨?_, True.intro⟩; omega) | (intro _; refine ⟨decide_eq_true ?_, ?_⟩ <;> omega) | (intro _; refine ⟨?_, ?_⟩ <;> first | omega | (simp [appG, Cd.holds]; done) | (simp [appG, Cd.holds]; omega)) | (refine decide_eq_true ?_; omega) | (intro _; omega) | (simp only [h1, h2, h3]; omega) | (simp only [h1, h2, h3]; intro _; refine ⟨?_, ?_⟩ <;> first | omega | (refine decide_eq_true ?_; omega)) | exact ⟨U_nonneg _, U_lt32 _⟩ | exact R8_UL _ _ | exact R32_UL _ _ | (intro hg0; (repeat ((conv => whnf); (with_reducible refine And.intro ?_ ?_); · first | assumption | omega | (intro _; refine ⟨?_, ?_⟩ <;> first | assumption | omega | exact True.intro | (refine decide_eq_true ?_; omega) | (simp [appG, Cd.holds]; omega)) | (intro _; refine ⟨And.intro ?_ ?_, ?_⟩ <;> first | assumption | omega | (refine decide_eq_true ?_; omega)) | (simp only [hg0, Bool.and_self, Bool.true_and]; done) | (intro hg1; simp only [hg0, hg1, Bool.and_self, Bool.true_and]; done) | (simp [hg0]; done))); (conv => whnf); exact True.intro))
  conv => whnf
  simp only [h1, h2, h3]
  refine ⟨fun h4 => ?_, fun h4 => ?_⟩
  · replace h4 := of_decide_eq_true h4
    have hp1 := putL_le hs.1 hs.2
    have hp2 := putL_le (x := ((a / 32 + k : Nat) : Int)) (by omega) (by omega)
    have hp3 := putL_pos seed
    have hp4 := putL_pos ((a / 32 + k : Nat) : Int)
    repeat ((conv => whnf); (with_reducible refine And.intro ?_ ?_); · first | exact True.intro | (intro hg0; simp only [hg0, Bool.not_false, Bool.not_true]; done) | assumption | omega | (intro _; refine ⟨True.intro, ?_⟩; omega) | (intro _; refine ⟨?_, True.intro⟩; omega) | (intro _; refine ⟨decide_eq_true ?_, ?_⟩ <;> omega) | (intro _; refine ⟨?_, ?_⟩ <;> first | omega | (simp [appG, Cd.holds]; done) | (simp [appG, Cd.holds]; omega)) | (refine decide_eq_true ?_; omega) | (intro _; omega) | (simp only [w_i64, w_u64, w_u32, w_u8]; omega) | exact ⟨U_nonneg _, U_lt32 _⟩ | exact R8_UL _ _ | exact R32_UL _ _ | (intro hg0; (repeat ((conv => whnf); (with_reducible refine And.intro ?_ ?_); · first | assumption | omega | (intro _; refine ⟨?_, ?_⟩ <;> first | assumption | omega | exact True.intro | (refine decide_eq_true ?_; omega) | (simp [appG, Cd.holds]; omega)) | (intro _; refine ⟨And.intro ?_ ?_, ?_⟩ <;> first | assumption | omega | (refine decide_eq_true ?_; omega)) | (simp only [hg0, Bool.and_self, Bool.true_and]; done) | (intro hg1; simp only [hg0, hg1, Bool.and_self, Bool.true_and]; done) | (simp [hg0]; done) | exact R8_put0 (R8_UL _ _) (R8_z _ _))); (conv => whnf); exact True.intro) | exact R8_put0 (R8_UL _ _) (R8_z _ _))
    conv => whnf
    have hB1 : sha (L8 (fun j => put_ (UL (putL seed)) (putL seed).length (putL ((a / 32 + k : Nat) : Int)).length (fun j => UL (putL ((a / 32 + k : Nat) : Int)) (0 + j)) (0 + j)) ((putL seed).length + (putL ((a / 32 + k : Nat) : Int)).length)) = tapB seed ((a / 32 + k : Nat) : Int) := by
      simp only [Nat.zero_add]
      rw [L8_put, L8_UL, L8_UL]
      rfl
    have hw : IntKind.i64.wrap (((a / 32 + k : Nat) : Int) + 1) = ((a / 32 + (k + 1) : Nat) : Int) := by rw [w_i64]; omega
    simp only [hB1, hw]
    refine ⟨k + 1, ⟨(by show 32 * (k + 1) < a % 32 + n + 32; omega), (by show a % 32 + n + 32 - 32 * (k + 1) < a % 32 + n + 32 - 32 * k; omega)⟩, le_of [(0, 5)] ?_⟩
    repeat ((conv => whnf); (with_reducible refine And.intro ?_ ?_); · first | with_reducible rfl | exact (Bool.and_false _).symm | (intro _ _; with_reducible rfl) | exact True.intro | assumption | (intro h; exact absurd h (by decide)) | omega | (intro _; omega) | (intro _; refine ⟨?_, True.intro⟩; omega) | (intro _; refine ⟨?_, True.intro⟩; intro _; omega) | (refine decide_eq_false ?_; omega) | (refine decide_eq_true ?_; omega) | (simp only [w_i64, w_u64, w_u32, w_u8]; omega) | exact fun j hj => (put_0 hj).symm | (intro j _; simp only [Nat.zero_add]; done) | (simp [appG]; done) | (simp [appG]; omega) | (intro j hj; exact out_app (b := 32) hTl.symm (tapB_length _ _).symm j (by omega)) | rfl | (intro hgd; (try replace hgd := of_decide_eq_true hgd); (repeat ((conv => whnf); (with_reducible refine And.intro ?_ ?_); · first | with_reducible rfl | exact (Bool.and_false _).symm | (intro _ _; with_reducible rfl) | exact True.intro | assumption | (intro h; exact absurd h (by decide)) | omega | (intro _; omega) | (intro _; refine ⟨?_, True.intro⟩; omega) | (intro _; refine ⟨?_, True.intro⟩; intro _; omega) | (refine decide_eq_false ?_; omega) | (refine decide_eq_true ?_; omega) | (simp only [w_i64, w_u64, w_u32, w_u8]; omega) | exact fun j hj => (put_0 hj).symm | (intro j _; simp only [Nat.zero_add]; done) | (simp [appG]; done) | (simp [appG]; omega) | (intro j hj; exact out_app (b := 32) hTl.symm (tapB_length _ _).symm j (by omega)) | rfl)); (conv => whnf); exact True.intro))
    conv => whnf
    exact True.intro
  · replace h4 := of_decide_eq_false h4
    have hkk : k = rK (a % 32) n := by unfold rK; omega
    repeat ((conv => whnf); (with_reducible refine And.intro ?_ ?_); · first | exact True.intro | (intro hg0; simp only [hg0, Bool.not_false, Bool.not_true]; done) | assumption | omega | (intro _; refine ⟨True.intro, ?_⟩; omega) | (intro _; refine ⟨?_, True.intro⟩; omega) | (intro _; refine ⟨decide_eq_true ?_, ?_⟩ <;> omega) | (intro _; refine ⟨?_, ?_⟩ <;> first | omega | (simp [appG, Cd.holds]; done) | (simp [appG, Cd.holds]; omega)) | (refine decide_eq_true ?_; omega) | (intro _; omega) | (simp only [h1, h2, h3]; omega) | (simp only [h1, h2, h3]; intro _; refine ⟨?_, ?_⟩ <;> first | omega | (refine decide_eq_true ?_; omega)) | exact ⟨U_nonneg _, U_lt32 _⟩ | exact R8_UL _ _ | exact R32_UL _ _ | (intro hg0; (repeat ((conv => whnf); (with_reducible refine And.intro ?_ ?_); · first | assumption | omega | (intro _; refine ⟨?_, ?_⟩ <;> first | assumption | omega | exact True.intro | (refine decide_eq_true ?_; omega) | (simp [appG, Cd.holds]; omega)) | (intro _; refine ⟨And.intro ?_ ?_, ?_⟩ <;> first | assumption | omega | (refine decide_eq_true ?_; omega)) | (simp only [hg0, Bool.and_self, Bool.true_and]; done) | (intro hg1; simp only [hg0, hg1, Bool.and_self, Bool.true_and]; done) | (simp [hg0]; done))); (conv => whnf); exact True.intro))
    conv => whnf
    refine ⟨[], ?_⟩
    simp only [← hkk, h1, h3, Int.toNat_natCast]
    repeat ((conv => whnf); (with_reducible refine And.intro ?_ ?_); · first | with_reducible rfl | exact (Bool.and_false _).symm | (intro _ _; with_reducible rfl) | exact True.intro | assumption | (intro h; exact absurd h (by decide)) | omega | (intro _; omega) | (intro _; refine ⟨?_, True.intro⟩; omega) | (intro _; refine ⟨?_, True.intro⟩; intro _; omega) | (refine decide_eq_false ?_; omega) | (refine decide_eq_true ?_; omega) | (simp only [w_i64, w_u64, w_u32, w_u8]; omega) | exact fun j hj => (put_0 hj).symm | (intro j _; simp only [Nat.zero_add]; done) | (simp [appG]; done) | (simp [appG]; omega) | rfl | (intro hgd; (try replace hgd := of_decide_eq_true hgd); (repeat ((conv => whnf); (with_reducible refine And.intro ?_ ?_); · first | with_reducible rfl | exact (Bool.and_false _).symm | (intro _ _; with_reducible rfl) | exact True.intro | assumption | (intro h; exact absurd h (by decide)) | omega | (intro _; omega) | (intro _; refine ⟨?_, True.intro⟩; omega) | (intro _; refine ⟨?_, True.intro⟩; intro _; omega) | (refine decide_eq_false ?_; omega) | (refine decide_eq_true ?_; omega) | (simp only [w_i64, w_u64, w_u32, w_u8]; omega) | exact fun j hj => (put_0 hj).symm | (intro j _; simp only [Nat.zero_add]; done) | (simp [appG]; done) | (simp [appG]; omega) | rfl)); (conv => whnf); exact True.intro))
    conv => whnf
    exact True.intro
end Go.Proofs.Ytogijkmflhjhkaa
