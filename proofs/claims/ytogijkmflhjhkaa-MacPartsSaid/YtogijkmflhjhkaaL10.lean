/- The law of mac's parts, through the evaluator. No condition. -/
import Derived.Test.YtogijkmflhjhkaaSxT
import Derived.Test.YtogijkmflhjhkaaSxU
import Derived.Test.YtogijkmflhjhkaaL1
namespace Go.Proofs.Ytogijkmflhjhkaa
open Go.Sx Go.RowKit
set_option linter.unusedSimpArgs false
set_option maxRecDepth 100000
set_option maxHeartbeats 1000000
set_option linter.unusedVariables false

theorem cat_one (r : Row) : cat (fun _ => r) 1 = L8 r.f r.n := rfl
theorem macParts_law (nl1 : Bool) (k : Nat → Int) (nk : Nat) (nl2 : Bool) (b : Nat → Int) (nb : Nat) (cut : Int) (hk : R8 k nk) (hb : R8 b nb) (hcut : -9223372036854775808 ≤ cut ∧ cut ≤ 9223372036854775807) :
    FCalls Try.prog 14 [.sc (.im nl1 .u8 k nk), .sc (.im nl2 .u8 b nb), .sc (.int .i64 cut)] [] 0 isTrue := by
  refine fcalls_of_run tt_ok cokL3 mixed_ok Try.func14 rfl (rs := _) Try.results14 (size := 54) Try.ntmps14 (Nat.le_of_ble_eq_true rfl) rfl fun hp hfa hfh => ?_
  have hrk : R8 k (min nk (Int.toNat 80)) := R8_le hk (by omega)
  have hmk : min nk (Int.toNat 80) ≤ 80 := Nat.min_le_right _ _
  have hrb : R8 b (min nb (Int.toNat 150)) := R8_le hb (by omega)
  have hmb : min nb (Int.toNat 150) ≤ 150 := Nat.min_le_right _ _
  repeat ((conv => whnf); (with_reducible refine And.intro ?_ ?_); · first | exact True.intro | (intro hg0; simp only [hg0, Bool.not_false, Bool.not_true]; done) | assumption | omega | (intro _; refine ⟨True.intro, ?_⟩; omega) | (intro _; refine ⟨?_, True.intro⟩; omega) | (intro _; refine ⟨decide_eq_true ?_, ?_⟩ <;> omega) | (intro _; refine ⟨?_, ?_⟩ <;> first | omega | (simp [appG, Cd.holds]; done) | (simp [appG, Cd.holds]; omega)) | (refine decide_eq_true ?_; omega) | (intro _; omega) | (simp only [w_i64, w_u64, w_u32, w_u8]; omega) | exact ⟨U_nonneg _, U_lt32 _⟩ | exact R8_UL _ _ | exact R32_UL _ _ | (intro hg0; (repeat ((conv => whnf); (with_reducible refine And.intro ?_ ?_); · first | assumption | omega | (intro _; refine ⟨?_, ?_⟩ <;> first | assumption | omega | exact True.intro | (refine decide_eq_true ?_; omega) | (simp [appG, Cd.holds]; omega)) | (intro _; refine ⟨And.intro ?_ ?_, ?_⟩ <;> first | assumption | omega | (refine decide_eq_true ?_; omega)) | (simp only [hg0, Bool.and_self, Bool.true_and]; done) | (intro hg1; simp only [hg0, hg1, Bool.and_self, Bool.true_and]; done) | (simp [hg0]; done))); (conv => whnf); exact True.intro))
  conv => whnf
  refine ⟨fun h1 => (nomatch h1), fun h1 => ?_⟩
  repeat ((conv => whnf); (with_reducible refine And.intro ?_ ?_); · first | exact True.intro | (intro hg0; simp only [hg0, Bool.not_false, Bool.not_true]; done) | assumption | omega | (intro _; refine ⟨True.intro, ?_⟩; omega) | (intro _; refine ⟨?_, True.intro⟩; omega) | (intro _; refine ⟨decide_eq_true ?_, ?_⟩ <;> omega) | (intro _; refine ⟨?_, ?_⟩ <;> first | omega | (simp [appG, Cd.holds]; done) | (simp [appG, Cd.holds]; omega)) | (refine decide_eq_true ?_; omega) | (intro _; omega) | (simp only [w_i64, w_u64, w_u32, w_u8]; omega) | exact ⟨U_nonneg _, U_lt32 _⟩ | exact R8_UL _ _ | exact R32_UL _ _ | (intro hg0; (repeat ((conv => whnf); (with_reducible refine And.intro ?_ ?_); · first | assumption | omega | (intro _; refine ⟨?_, ?_⟩ <;> first | assumption | omega | exact True.intro | (refine decide_eq_true ?_; omega) | (simp [appG, Cd.holds]; omega)) | (intro _; refine ⟨And.intro ?_ ?_, ?_⟩ <;> first | assumption | omega | (refine decide_eq_true ?_; omega)) | (simp only [hg0, Bool.and_self, Bool.true_and]; done) | (intro hg1; simp only [hg0, hg1, Bool.and_self, Bool.true_and]; done) | (simp [hg0]; done))); (conv => whnf); exact True.intro))
  conv => whnf
  generalize min nk (Int.toNat 80) = m1 at *
  generalize min nb (Int.toNat 150) = m at *
  refine ⟨fun h2 => ?_, fun h2 => ?_⟩
  · repeat ((conv => whnf); (with_reducible refine And.intro ?_ ?_); · first | exact True.intro | (intro hg0; simp only [hg0, Bool.not_false, Bool.not_true]; done) | assumption | omega | (intro _; refine ⟨True.intro, ?_⟩; omega) | (intro _; refine ⟨?_, True.intro⟩; omega) | (intro _; refine ⟨decide_eq_true ?_, ?_⟩ <;> omega) | (intro _; refine ⟨?_, ?_⟩ <;> first | omega | (simp [appG, Cd.holds]; done) | (simp [appG, Cd.holds]; omega)) | (refine decide_eq_true ?_; omega) | (intro _; omega) | (simp only [w_i64, w_u64, w_u32, w_u8]; omega) | exact ⟨U_nonneg _, U_lt32 _⟩ | exact R8_UL _ _ | exact R32_UL _ _ | (intro hg0; (repeat ((conv => whnf); (with_reducible refine And.intro ?_ ?_); · first | assumption | omega | (intro _; refine ⟨?_, ?_⟩ <;> first | assumption | omega | exact True.intro | (refine decide_eq_true ?_; omega) | (simp [appG, Cd.holds]; omega)) | (intro _; refine ⟨And.intro ?_ ?_, ?_⟩ <;> first | assumption | omega | (refine decide_eq_true ?_; omega)) | (simp only [hg0, Bool.and_self, Bool.true_and]; done) | (intro hg1; simp only [hg0, hg1, Bool.and_self, Bool.true_and]; done) | (simp [hg0]; done))); (conv => whnf); exact True.intro))
    conv => whnf
    refine ⟨[], ?_⟩
    repeat ((conv => whnf); (with_reducible refine And.intro ?_ ?_); · first | with_reducible rfl | exact (Bool.and_false _).symm | (intro _ _; with_reducible rfl) | exact True.intro | assumption | (intro h; exact absurd h (by decide)) | omega | (intro _; omega) | (intro _; refine ⟨?_, True.intro⟩; omega) | (intro _; refine ⟨?_, True.intro⟩; intro _; omega) | (refine decide_eq_false ?_; omega) | (refine decide_eq_true ?_; omega) | (simp only [w_i64, w_u64, w_u32, w_u8]; omega) | exact fun j hj => (put_0 hj).symm | (intro j _; simp only [Nat.zero_add]; done) | (simp [appG]; done) | (simp [appG]; omega) | (intro hgd; (try replace hgd := of_decide_eq_true hgd); (repeat ((conv => whnf); (with_reducible refine And.intro ?_ ?_); · first | with_reducible rfl | exact (Bool.and_false _).symm | (intro _ _; with_reducible rfl) | exact True.intro | assumption | (intro h; exact absurd h (by decide)) | omega | (intro _; omega) | (intro _; refine ⟨?_, True.intro⟩; omega) | (intro _; refine ⟨?_, True.intro⟩; intro _; omega) | (refine decide_eq_false ?_; omega) | (refine decide_eq_true ?_; omega) | (simp only [w_i64, w_u64, w_u32, w_u8]; omega) | exact fun j hj => (put_0 hj).symm | (intro j _; simp only [Nat.zero_add]; done) | (simp [appG]; done) | (simp [appG]; omega))); (conv => whnf); exact True.intro))
    conv => whnf
    exact True.intro
  have hg : 0 ≤ cut ∧ cut ≤ (m : Int) := by
    obtain ⟨q1, q2⟩ := orF h2
    replace q1 := of_decide_eq_false q1
    replace q2 := of_decide_eq_false q2
    omega
  clear h2
  obtain ⟨c, hc⟩ : ∃ c : Nat, cut = (c : Int) := ⟨cut.toNat, by omega⟩
  subst hc
  refine ⟨[(0, ⟨0, some 23, []⟩), (1, ⟨0, some 24, []⟩), (2, ⟨0, some 25, []⟩), (3, ⟨6, some 26, []⟩), (4, ⟨0, some 27, []⟩), (5, ⟨0, some 28, []⟩), (6, ⟨48, some 29, []⟩), (7, ⟨126, some 30, [112]⟩), (8, ⟨255, some 31, []⟩), (9, ⟨0, some 32, []⟩), (10, ⟨0, some 33, []⟩), (11, ⟨1024, some 34, [176]⟩), (12, ⟨4095, some 35, []⟩), (13, ⟨8191, some 36, []⟩), (14, ⟨16383, some 37, []⟩), (15, ⟨32767, some 38, []⟩), (16, ⟨32767, some 39, []⟩), (17, ⟨98303, some 40, [272]⟩), (18, ⟨262143, some 41, []⟩), (19, ⟨32767, some 42, []⟩), (20, ⟨32767, some 43, []⟩), (21, ⟨2097151, some 44, []⟩), (22, ⟨4194303, some 45, []⟩), (23, ⟨8388607, some 46, []⟩), (24, ⟨16777215, some 47, []⟩), (25, ⟨33554431, some 48, []⟩), (26, ⟨67108863, some 49, []⟩), (27, ⟨33554431, some 50, []⟩), (28, ⟨268435455, some 51, []⟩), (29, ⟨536870911, some 52, []⟩), (30, ⟨1073741823, some 53, []⟩), (31, ⟨2147483647, some 6, []⟩)], 512, ?_⟩
  have hc3 : cat (putR (fun _ => ⟨nl2, fun j => b (Int.toNat 0 + j), (c : Int).toNat - Int.toNat 0⟩) 1 (putR (fun _ => ⟨true, fun _ => 0, 0⟩) 1 fun _ => ⟨nl2, fun j => b ((c : Int).toNat + j), m - (c : Int).toNat⟩)) 3 = L8 b m := by
    rw [cat3]
    have := cut_join b (c := c) (n := m) (by omega)
    simp only [Nat.zero_add] at this
    exact this
  have hl3 : (cat (putR (fun _ => ⟨nl2, fun j => b (Int.toNat 0 + j), (c : Int).toNat - Int.toNat 0⟩) 1 (putR (fun _ => ⟨true, fun _ => 0, 0⟩) 1 fun _ => ⟨nl2, fun j => b ((c : Int).toNat + j), m - (c : Int).toNat⟩)) 3).length ≤ 800000 := by
    rw [hc3, L8_length]; omega
  have hq1 : R8 (fun j => b (Int.toNat 0 + j)) ((c : Int).toNat - Int.toNat 0) := R8_shift hrb (by show 0 + (c - 0) ≤ m; omega)
  have hq2 : R8 (fun j => b ((c : Int).toNat + j)) (m - (c : Int).toNat) := R8_shift hrb (by show c + (m - c) ≤ m; omega)
  repeat ((conv => whnf); (with_reducible refine And.intro ?_ ?_); · first | exact True.intro | (intro hg0; simp only [hg0, Bool.not_false, Bool.not_true]; done) | assumption | omega | (intro _; refine ⟨True.intro, ?_⟩; omega) | (intro _; refine ⟨?_, True.intro⟩; omega) | (intro _; refine ⟨decide_eq_true ?_, ?_⟩ <;> omega) | (intro _; refine ⟨?_, ?_⟩ <;> first | omega | (simp [appG, Cd.holds]; done) | (simp [appG, Cd.holds]; omega)) | (refine decide_eq_true ?_; omega) | (intro _; omega) | (simp only [w_i64, w_u64, w_u32, w_u8]; omega) | exact ⟨U_nonneg _, U_lt32 _⟩ | exact R8_UL _ _ | exact R32_UL _ _ | (intro hg0; (repeat ((conv => whnf); (with_reducible refine And.intro ?_ ?_); · first | assumption | omega | (intro _; refine ⟨?_, ?_⟩ <;> first | assumption | omega | exact True.intro | (refine decide_eq_true ?_; omega) | (simp [appG, Cd.holds]; omega)) | (intro _; refine ⟨And.intro ?_ ?_, ?_⟩ <;> first | assumption | omega | (refine decide_eq_true ?_; omega)) | (simp only [hg0, Bool.and_self, Bool.true_and]; done) | (intro hg1; simp only [hg0, hg1, Bool.and_self, Bool.true_and]; done) | (simp [hg0]; done) | exact R8_3 hq1 (fun j hj => absurd hj (by show ¬ j < 0; omega)) hq2 | exact hl3 | exact Eq.refl 3 | exact Eq.refl 1 | exact fun j _ => hrb | exact fun _ => hg0 | (simp only [cat_one, L8_length]; omega) | exact R8_0 _)); (conv => whnf); exact True.intro) | exact R8_3 hq1 (fun j hj => absurd hj (by show ¬ j < 0; omega)) hq2 | exact hl3 | exact Eq.refl 3 | exact Eq.refl 1 | exact fun j _ => hrb | exact fun _ => hg0 | (simp only [cat_one, L8_length]; omega) | exact R8_0 _)
  conv => whnf
  refine ⟨[], ?_⟩
  simp only [hc3, cat_one, eqI_self]
  repeat ((conv => whnf); (with_reducible refine And.intro ?_ ?_); · first | with_reducible rfl | exact (Bool.and_false _).symm | (intro _ _; with_reducible rfl) | exact True.intro | assumption | (intro h; exact absurd h (by decide)) | omega | (intro _; omega) | (intro _; refine ⟨?_, True.intro⟩; omega) | (intro _; refine ⟨?_, True.intro⟩; intro _; omega) | (refine decide_eq_false ?_; omega) | (refine decide_eq_true ?_; omega) | (simp only [w_i64, w_u64, w_u32, w_u8]; omega) | exact fun j hj => (put_0 hj).symm | (intro j _; simp only [Nat.zero_add]; done) | (simp [appG]; done) | (simp [appG]; omega) | (intro hgd; (try replace hgd := of_decide_eq_true hgd); (repeat ((conv => whnf); (with_reducible refine And.intro ?_ ?_); · first | with_reducible rfl | exact (Bool.and_false _).symm | (intro _ _; with_reducible rfl) | exact True.intro | assumption | (intro h; exact absurd h (by decide)) | omega | (intro _; omega) | (intro _; refine ⟨?_, True.intro⟩; omega) | (intro _; refine ⟨?_, True.intro⟩; intro _; omega) | (refine decide_eq_false ?_; omega) | (refine decide_eq_true ?_; omega) | (simp only [w_i64, w_u64, w_u32, w_u8]; omega) | exact fun j hj => (put_0 hj).symm | (intro j _; simp only [Nat.zero_add]; done) | (simp [appG]; done) | (simp [appG]; omega))); (conv => whnf); exact True.intro))
  conv => whnf
  exact True.intro
end Go.Proofs.Ytogijkmflhjhkaa
