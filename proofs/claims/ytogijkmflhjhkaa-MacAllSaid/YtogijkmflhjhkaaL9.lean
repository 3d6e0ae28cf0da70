/- The law of all of mac, through the evaluator. No condition. -/
import Derived.Test.YtogijkmflhjhkaaSxT
import Derived.Test.YtogijkmflhjhkaaSxU
import Derived.Test.YtogijkmflhjhkaaL1
namespace Go.Proofs.Ytogijkmflhjhkaa
open Go.Sx Go.RowKit
set_option linter.unusedSimpArgs false
set_option maxRecDepth 100000
set_option maxHeartbeats 1000000
set_option linter.unusedVariables false

theorem cat_one (r : Row) : cat (fun _ => r) 1 = L8 r.f r.n := rfl
theorem macAll_law (nl1 : Bool) (k : Nat → Int) (nk : Nat) (nl2 : Bool) (a : Nat → Int) (na : Nat) (nl3 : Bool) (b : Nat → Int) (nb : Nat) (nl4 : Bool) (f : Nat → Int) (nf : Nat) (N : Int) (hk : R8 k nk) (ha : R8 a na) (hb : R8 b nb) (hf : R8 f nf) (hN : -9223372036854775808 ≤ N ∧ N ≤ 9223372036854775807) :
    FCalls Try.prog 13 [.sc (.im nl1 .u8 k nk), .sc (.im nl2 .u8 a na), .sc (.im nl3 .u8 b nb), .sc (.im nl4 .u8 f nf), .sc (.int .i64 N)] [] 0 isTrue := by
  refine fcalls_of_run tt_ok cokL3 mixed_ok Try.func13 rfl (rs := _) Try.results13 (size := 77) Try.ntmps13 (Nat.le_of_ble_eq_true rfl) rfl fun hp hfa hfh => ?_
  have hrk : R8 k (min nk (Int.toNat 150)) := R8_le hk (by omega)
  have hmk : min nk (Int.toNat 150) ≤ 150 := Nat.min_le_right _ _
  have hra : R8 a (min na (Int.toNat 80)) := R8_le ha (by omega)
  have hma : min na (Int.toNat 80) ≤ 80 := Nat.min_le_right _ _
  have hrb : R8 b (min nb (Int.toNat 80)) := R8_le hb (by omega)
  have hmb : min nb (Int.toNat 80) ≤ 80 := Nat.min_le_right _ _
  have hrf : R8 f (min nf (Int.toNat 40)) := R8_le hf (by omega)
  have hmf : min nf (Int.toNat 40) ≤ 40 := Nat.min_le_right _ _
  repeat ((conv => whnf); (with_reducible refine And.intro ?_ ?_); · first | exact True.intro | (intro hg0; simp only [hg0, Bool.not_false, Bool.not_true]; done) | assumption | omega | (intro _; refine ⟨True.intro, ?_⟩; omega) | (intro _; refine ⟨?_, True.intro⟩; omega) | (intro _; refine ⟨decide_eq_true ?_, ?_⟩ <;> omega) | (intro _; refine ⟨?_, ?_⟩ <;> first | omega | (simp [appG, Cd.holds]; done) | (simp [appG, Cd.holds]; omega)) | (refine decide_eq_true ?_; omega) | (intro _; omega) | (simp only [w_i64, w_u64, w_u32, w_u8]; omega) | exact ⟨U_nonneg _, U_lt32 _⟩ | exact R8_UL _ _ | exact R32_UL _ _ | (intro hg0; (repeat ((conv => whnf); (with_reducible refine And.intro ?_ ?_); · first | assumption | omega | (intro _; refine ⟨?_, ?_⟩ <;> first | assumption | omega | exact True.intro | (refine decide_eq_true ?_; omega) | (simp [appG, Cd.holds]; omega)) | (intro _; refine ⟨And.intro ?_ ?_, ?_⟩ <;> first | assumption | omega | (refine decide_eq_true ?_; omega)) | (simp only [hg0, Bool.and_self, Bool.true_and]; done) | (intro hg1; simp only [hg0, hg1, Bool.and_self, Bool.true_and]; done) | (simp [hg0]; done))); (conv => whnf); exact True.intro))
  conv => whnf
  refine ⟨fun h1 => (nomatch h1), fun h1 => ?_⟩
  have hc2 : cat (putR (fun _ => ⟨nl2, a, min na (Int.toNat 80)⟩) 1 (fun _ => ⟨nl3, b, min nb (Int.toNat 80)⟩)) 2 = L8 a (min na (Int.toNat 80)) ++ L8 b (min nb (Int.toNat 80)) := by
    rw [show (2 : Nat) = 1 + 1 from rfl, cat_put1]; rfl
  have hl2 : (cat (putR (fun _ => ⟨nl2, a, min na (Int.toNat 80)⟩) 1 (fun _ => ⟨nl3, b, min nb (Int.toNat 80)⟩)) 2).length ≤ 800000 := by
    rw [hc2, List.length_append, L8_length, L8_length]; omega
  have hc3 : L8 (fun j => put_ (put_ (fun _ => 0) 0 (min na (Int.toNat 80)) a) (0 + min na (Int.toNat 80)) (min nb (Int.toNat 80)) b (0 + j)) (0 + min na (Int.toNat 80) + min nb (Int.toNat 80)) = L8 a (min na (Int.toNat 80)) ++ L8 b (min nb (Int.toNat 80)) := by
    simp only [Nat.zero_add]
    rw [L8_put]
    exact congrArg (· ++ L8 b _) (L8_congr fun j hj => put_0 hj)
  repeat ((conv => whnf); (with_reducible refine And.intro ?_ ?_); · first | exact True.intro | (intro hg0; simp only [hg0, Bool.not_false, Bool.not_true]; done) | assumption | omega | (intro _; refine ⟨True.intro, ?_⟩; omega) | (intro _; refine ⟨?_, True.intro⟩; omega) | (intro _; refine ⟨decide_eq_true ?_, ?_⟩ <;> omega) | (intro _; refine ⟨?_, ?_⟩ <;> first | omega | (simp [appG, Cd.holds]; done) | (simp [appG, Cd.holds]; omega)) | (refine decide_eq_true ?_; omega) | (intro _; omega) | (simp only [w_i64, w_u64, w_u32, w_u8]; omega) | exact ⟨U_nonneg _, U_lt32 _⟩ | exact R8_UL _ _ | exact R32_UL _ _ | (intro hg0; (repeat ((conv => whnf); (with_reducible refine And.intro ?_ ?_); · first | assumption | omega | (intro _; refine ⟨?_, ?_⟩ <;> first | assumption | omega | exact True.intro | (refine decide_eq_true ?_; omega) | (simp [appG, Cd.holds]; omega)) | (intro _; refine ⟨And.intro ?_ ?_, ?_⟩ <;> first | assumption | omega | (refine decide_eq_true ?_; omega)) | (simp only [hg0, Bool.and_self, Bool.true_and]; done) | (intro hg1; simp only [hg0, hg1, Bool.and_self, Bool.true_and]; done) | (simp [hg0]; done) | exact Eq.refl 2 | exact put1_R8 (m := 1) hra (fun j _ => hrb) | exact hl2 | exact R8_put0 (R8_put (R8_0 _) hra) hrb)); (conv => whnf); exact True.intro) | exact Eq.refl 2 | exact put1_R8 (m := 1) hra (fun j _ => hrb) | exact hl2 | exact R8_put0 (R8_put (R8_0 _) hra) hrb)
  conv => whnf
  simp only [hc2, hc3, eqI_self, Bool.not_true]
  refine ⟨fun h2 => (nomatch h2), fun h2 => ?_⟩
  clear h1 h2 hc2 hl2 hc3
  repeat ((conv => whnf); (with_reducible refine And.intro ?_ ?_); · first | exact True.intro | (intro hg0; simp only [hg0, Bool.not_false, Bool.not_true]; done) | assumption | omega | (intro _; refine ⟨True.intro, ?_⟩; omega) | (intro _; refine ⟨?_, True.intro⟩; omega) | (intro _; refine ⟨decide_eq_true ?_, ?_⟩ <;> omega) | (intro _; refine ⟨?_, ?_⟩ <;> first | omega | (simp [appG, Cd.holds]; done) | (simp [appG, Cd.holds]; omega)) | (refine decide_eq_true ?_; omega) | (intro _; omega) | (simp only [w_i64, w_u64, w_u32, w_u8]; omega) | exact ⟨U_nonneg _, U_lt32 _⟩ | exact R8_UL _ _ | exact R32_UL _ _ | (intro hg0; (repeat ((conv => whnf); (with_reducible refine And.intro ?_ ?_); · first | assumption | omega | (intro _; refine ⟨?_, ?_⟩ <;> first | assumption | omega | exact True.intro | (refine decide_eq_true ?_; omega) | (simp [appG, Cd.holds]; omega)) | (intro _; refine ⟨And.intro ?_ ?_, ?_⟩ <;> first | assumption | omega | (refine decide_eq_true ?_; omega)) | (simp only [hg0, Bool.and_self, Bool.true_and]; done) | (intro hg1; simp only [hg0, hg1, Bool.and_self, Bool.true_and]; done) | (simp [hg0]; done))); (conv => whnf); exact True.intro))
  conv => whnf
  have hx : ∀ M : Int, xNil M = (bif decide (M < 1) then true else decide (M > 8160)) := fun M => by
    unfold xNil
    by_cases h : M < 1
    · rw [decide_eq_true h, decide_eq_true (Or.inl h)]; rfl
    · rw [decide_eq_false h]
      show _ = decide (M > 8160)
      by_cases h2 : M > 8160
      · rw [decide_eq_true h2, decide_eq_true (Or.inr h2)]
      · rw [decide_eq_false h2, decide_eq_false (by omega)]
  refine ⟨fun h1 => ?_, fun h1 => ?_⟩
  all_goals
    repeat ((conv => whnf); (with_reducible refine And.intro ?_ ?_); · first | exact True.intro | (intro hg0; simp only [hg0, Bool.not_false, Bool.not_true]; done) | assumption | omega | (intro _; refine ⟨True.intro, ?_⟩; omega) | (intro _; refine ⟨?_, True.intro⟩; omega) | (intro _; refine ⟨decide_eq_true ?_, ?_⟩ <;> omega) | (intro _; refine ⟨?_, ?_⟩ <;> first | omega | (simp [appG, Cd.holds]; done) | (simp [appG, Cd.holds]; omega)) | (refine decide_eq_true ?_; omega) | (intro _; omega) | (simp only [w_i64, w_u64, w_u32, w_u8]; omega) | exact ⟨U_nonneg _, U_lt32 _⟩ | exact R8_UL _ _ | exact R32_UL _ _ | (intro hg0; (repeat ((conv => whnf); (with_reducible refine And.intro ?_ ?_); · first | assumption | omega | (intro _; refine ⟨?_, ?_⟩ <;> first | assumption | omega | exact True.intro | (refine decide_eq_true ?_; omega) | (simp [appG, Cd.holds]; omega)) | (intro _; refine ⟨And.intro ?_ ?_, ?_⟩ <;> first | assumption | omega | (refine decide_eq_true ?_; omega)) | (simp only [hg0, Bool.and_self, Bool.true_and]; done) | (intro hg1; simp only [hg0, hg1, Bool.and_self, Bool.true_and]; done) | (simp [hg0]; done))); (conv => whnf); exact True.intro))
    conv => whnf
    refine ⟨[(0, ⟨0, some 52, []⟩), (1, ⟨0, some 53, []⟩), (2, ⟨0, some 54, []⟩), (3, ⟨7, some 55, [51]⟩), (4, ⟨15, some 56, []⟩), (5, ⟨0, some 57, []⟩), (6, ⟨0, some 58, []⟩), (7, ⟨0, some 59, []⟩), (8, ⟨239, some 60, [131]⟩), (9, ⟨495, some 61, []⟩), (10, ⟨1023, some 62, []⟩), (11, ⟨2047, some 63, []⟩), (12, ⟨4095, some 64, []⟩), (13, ⟨4095, some 65, []⟩), (14, ⟨4095, some 66, []⟩), (15, ⟨32767, some 67, [243]⟩), (16, ⟨65535, some 68, []⟩), (17, ⟨4095, some 69, []⟩), (18, ⟨135167, some 70, []⟩), (19, ⟨458751, some 71, []⟩), (20, ⟨983039, some 72, []⟩), (21, ⟨2031615, some 73, []⟩), (22, ⟨4128767, some 74, []⟩), (23, ⟨8388607, some 75, []⟩), (24, ⟨16777215, some 76, []⟩), (25, ⟨33554431, some 10, []⟩)], 419, ?_⟩
    repeat ((conv => whnf); (with_reducible refine And.intro ?_ ?_); · first | exact True.intro | (intro hg0; simp only [hg0, Bool.not_false, Bool.not_true]; done) | assumption | omega | (intro _; refine ⟨True.intro, ?_⟩; omega) | (intro _; refine ⟨?_, True.intro⟩; omega) | (intro _; refine ⟨decide_eq_true ?_, ?_⟩ <;> omega) | (intro _; refine ⟨?_, ?_⟩ <;> first | omega | (simp [appG, Cd.holds]; done) | (simp [appG, Cd.holds]; omega)) | (refine decide_eq_true ?_; omega) | (intro _; omega) | (simp only [w_i64, w_u64, w_u32, w_u8]; omega) | exact ⟨U_nonneg _, U_lt32 _⟩ | exact R8_UL _ _ | exact R32_UL _ _ | (intro hg0; (repeat ((conv => whnf); (with_reducible refine And.intro ?_ ?_); · first | assumption | omega | (intro _; refine ⟨?_, ?_⟩ <;> first | assumption | omega | exact True.intro | (refine decide_eq_true ?_; omega) | (simp [appG, Cd.holds]; omega)) | (intro _; refine ⟨And.intro ?_ ?_, ?_⟩ <;> first | assumption | omega | (refine decide_eq_true ?_; omega)) | (simp only [hg0, Bool.and_self, Bool.true_and]; done) | (intro hg1; simp only [hg0, hg1, Bool.and_self, Bool.true_and]; done) | (simp [hg0]; done))); (conv => whnf); exact True.intro))
    conv => whnf
    refine ⟨[], ?_⟩
    simp only [hx, beq_self_eq_true]
    repeat ((conv => whnf); (with_reducible refine And.intro ?_ ?_); · first | with_reducible rfl | exact (Bool.and_false _).symm | (intro _ _; with_reducible rfl) | exact True.intro | assumption | (intro h; exact absurd h (by decide)) | omega | (intro _; omega) | (intro _; refine ⟨?_, True.intro⟩; omega) | (intro _; refine ⟨?_, True.intro⟩; intro _; omega) | (refine decide_eq_false ?_; omega) | (refine decide_eq_true ?_; omega) | (simp only [w_i64, w_u64, w_u32, w_u8]; omega) | exact fun j hj => (put_0 hj).symm | (intro j _; simp only [Nat.zero_add]; done) | (simp [appG]; done) | (simp [appG]; omega) | (intro hgd; (try replace hgd := of_decide_eq_true hgd); (repeat ((conv => whnf); (with_reducible refine And.intro ?_ ?_); · first | with_reducible rfl | exact (Bool.and_false _).symm | (intro _ _; with_reducible rfl) | exact True.intro | assumption | (intro h; exact absurd h (by decide)) | omega | (intro _; omega) | (intro _; refine ⟨?_, True.intro⟩; omega) | (intro _; refine ⟨?_, True.intro⟩; intro _; omega) | (refine decide_eq_false ?_; omega) | (refine decide_eq_true ?_; omega) | (simp only [w_i64, w_u64, w_u32, w_u8]; omega) | exact fun j hj => (put_0 hj).symm | (intro j _; simp only [Nat.zero_add]; done) | (simp [appG]; done) | (simp [appG]; omega))); (conv => whnf); exact True.intro))
    conv => whnf
    exact True.intro
end Go.Proofs.Ytogijkmflhjhkaa
