/- The laws of sha, through the evaluator: parts, a bit. No condition. -/
import Derived.Test.YtogijkmflhjhkaaSxT
import Derived.Test.YtogijkmflhjhkaaSxU
import Derived.Test.YtogijkmflhjhkaaL1
namespace Go.Proofs.Ytogijkmflhjhkaa
open Go.Sx Go.RowKit
set_option linter.unusedSimpArgs false
set_option maxRecDepth 100000
set_option maxHeartbeats 1000000
set_option linter.unusedVariables false

theorem cat_one (r : Row) : cat (fun _ => r) 1 = L8 r.f r.n := rfl
theorem L8_join (b : Nat → Int) {a m : Nat} (h : a ≤ m) : L8 b a ++ L8 (fun j => b (a + j)) (m - a) = L8 b m := by
  rw [L8_take b m a h, L8_drop]; exact List.take_append_drop _ _
theorem beq_flag {a q c : Nat} (h : c = a + q) : Nat.beq c 0 = (Nat.beq a 0 && Nat.beq q 0) := by rw [h]; exact (beq_and _ _).symm
theorem tm70 {x : Int} (hx : -9223372036854775808 ≤ x ∧ x ≤ 9223372036854775807) : 0 ≤ (IntKind.i64.wrap (x.tmod 70 + 70)).tmod 70 ∧ (IntKind.i64.wrap (x.tmod 70 + 70)).tmod 70 < 70 := by
  have h1 : -70 < x.tmod 70 := by have := Int.lt_tmod_of_pos x (show (0 : Int) < 70 by omega); omega
  have h2 : x.tmod 70 < 70 := Int.tmod_lt_of_pos x (by omega)
  have h3 : IntKind.i64.wrap (x.tmod 70 + 70) = x.tmod 70 + 70 := by rw [w_i64, Int.emod_eq_of_lt (by omega) (by omega)]; omega
  rw [h3]
  exact ⟨Int.tmod_nonneg _ (by omega), Int.tmod_lt_of_pos _ (by omega)⟩
theorem shaParts_law (nl : Bool) (b : Nat → Int) (nb : Nat) (nl2 : Bool) (c : Nat → Int) (nc : Nat) (hb : R8 b nb) (hc : ∀ j, j < nc → -9223372036854775808 ≤ c j ∧ c j ≤ 9223372036854775807) :
    FCalls Try.prog 10 [.sc (.im nl .u8 b nb), .sc (.im nl2 .i64 c nc)] [] 0 isTrue := by
  refine fcalls_of_run tt_ok cokL3 mixed_ok Try.func10 rfl (rs := _) Try.results10 (size := 74) Try.ntmps10 (Nat.le_of_ble_eq_true rfl) rfl fun hp hfa hfh => ?_
  have hrb : R8 b (min nb (Int.toNat 200)) := R8_le hb (by omega)
  have hmb : min nb (Int.toNat 200) ≤ 200 := Nat.min_le_right _ _
  have hnc : nc ≤ 9223372036854775807 := hfa.2.1.2
  repeat ((conv => whnf); (with_reducible refine And.intro ?_ ?_); · first | exact True.intro | (intro hg0; simp only [hg0, Bool.not_false, Bool.not_true]; done) | assumption | omega | (intro _; refine ⟨True.intro, ?_⟩; omega) | (intro _; refine ⟨?_, True.intro⟩; omega) | (intro _; refine ⟨decide_eq_true ?_, ?_⟩ <;> omega) | (intro _; refine ⟨?_, ?_⟩ <;> first | omega | (simp [appG, Cd.holds]; done) | (simp [appG, Cd.holds]; omega)) | (refine decide_eq_true ?_; omega) | (intro _; omega) | (simp only [w_i64, w_u64, w_u32, w_u8]; omega) | exact ⟨U_nonneg _, U_lt32 _⟩ | exact R8_UL _ _ | exact R32_UL _ _ | (intro hg0; (repeat ((conv => whnf); (with_reducible refine And.intro ?_ ?_); · first | assumption | omega | (intro _; refine ⟨?_, ?_⟩ <;> first | assumption | omega | exact True.intro | (refine decide_eq_true ?_; omega) | (simp [appG, Cd.holds]; omega)) | (intro _; refine ⟨And.intro ?_ ?_, ?_⟩ <;> first | assumption | omega | (refine decide_eq_true ?_; omega)) | (simp only [hg0, Bool.and_self, Bool.true_and]; done) | (intro hg1; simp only [hg0, hg1, Bool.and_self, Bool.true_and]; done) | (simp [hg0]; done))); (conv => whnf); exact True.intro))
  conv => whnf
  refine ⟨fun h1 => (nomatch h1), fun h1 => ?_⟩
  repeat ((conv => whnf); (with_reducible refine And.intro ?_ ?_); · first | exact True.intro | (intro hg0; simp only [hg0, Bool.not_false, Bool.not_true]; done) | assumption | omega | (intro _; refine ⟨True.intro, ?_⟩; omega) | (intro _; refine ⟨?_, True.intro⟩; omega) | (intro _; refine ⟨decide_eq_true ?_, ?_⟩ <;> omega) | (intro _; refine ⟨?_, ?_⟩ <;> first | omega | (simp [appG, Cd.holds]; done) | (simp [appG, Cd.holds]; omega)) | (refine decide_eq_true ?_; omega) | (intro _; omega) | (simp only [w_i64, w_u64, w_u32, w_u8]; omega) | exact ⟨U_nonneg _, U_lt32 _⟩ | exact R8_UL _ _ | exact R32_UL _ _ | (intro hg0; (repeat ((conv => whnf); (with_reducible refine And.intro ?_ ?_); · first | assumption | omega | (intro _; refine ⟨?_, ?_⟩ <;> first | assumption | omega | exact True.intro | (refine decide_eq_true ?_; omega) | (simp [appG, Cd.holds]; omega)) | (intro _; refine ⟨And.intro ?_ ?_, ?_⟩ <;> first | assumption | omega | (refine decide_eq_true ?_; omega)) | (simp only [hg0, Bool.and_self, Bool.true_and]; done) | (intro hg1; simp only [hg0, hg1, Bool.and_self, Bool.true_and]; done) | (simp [hg0]; done))); (conv => whnf); exact True.intro))
  conv => whnf
  generalize min nb (Int.toNat 200) = m at *
  refine ⟨0, Nat × Nat, fun e => ⟨74, [(0, .sa (.sc (.im nl .u8 b m))), (1, .sa (.sc (.im nl2 .i64 c nc))), (6, .sa (.sc (.ptr 0 0 0))), (7, .sa (.sc (.int .i64 e.2))), (8, .sa (.sc (.int .i64 e.1)))],
    [(0, .own 82 [.ints .u32 (UL (absorb H256 (L8 b e.2))) 8, .one (ownA (Nat.beq e.2 0) (e.2 % 64) 1), .one (.int .u64 (e.2 : Int))] false),
     (1, ownB 5 .u8 (UL (rest (L8 b e.2))) (e.2 % 64))], 2⟩,
    fun e => e.1 ≤ nc ∧ e.1 ≤ 20 ∧ e.2 ≤ m, fun e => 20 - e.1, ⟨(0, 0), ⟨by show 0 ≤ nc; omega, by show 0 ≤ 20; omega, by show 0 ≤ m; omega⟩, le_of [] ?_⟩, fun e he => ?_⟩
  · repeat ((conv => whnf); (with_reducible refine And.intro ?_ ?_); · first | with_reducible rfl | exact (Bool.and_false _).symm | (intro _ _; with_reducible rfl) | exact True.intro | assumption | (intro h; exact absurd h (by decide)) | omega | (intro _; omega) | (intro _; refine ⟨?_, True.intro⟩; omega) | (intro _; refine ⟨?_, True.intro⟩; intro _; omega) | (refine decide_eq_false ?_; omega) | (refine decide_eq_true ?_; omega) | (simp only [w_i64, w_u64, w_u32, w_u8]; omega) | exact fun j hj => (put_0 hj).symm | (intro j _; simp only [Nat.zero_add]; done) | (simp [appG]; done) | (simp [appG]; omega) | (intro j _; rw [show absorb H256 (L8 b 0) = H256 from absorb_small _ _ (show 0 < 64 by omega)]; done) | (intro hgd; (try replace hgd := of_decide_eq_true hgd); (repeat ((conv => whnf); (with_reducible refine And.intro ?_ ?_); · first | with_reducible rfl | exact (Bool.and_false _).symm | (intro _ _; with_reducible rfl) | exact True.intro | assumption | (intro h; exact absurd h (by decide)) | omega | (intro _; omega) | (intro _; refine ⟨?_, True.intro⟩; omega) | (intro _; refine ⟨?_, True.intro⟩; intro _; omega) | (refine decide_eq_false ?_; omega) | (refine decide_eq_true ?_; omega) | (simp only [w_i64, w_u64, w_u32, w_u8]; omega) | exact fun j hj => (put_0 hj).symm | (intro j _; simp only [Nat.zero_add]; done) | (simp [appG]; done) | (simp [appG]; omega) | (intro j _; rw [show absorb H256 (L8 b 0) = H256 from absorb_small _ _ (show 0 < 64 by omega)]; done))); (conv => whnf); exact True.intro))
    conv => whnf
    exact True.intro
  obtain ⟨i, at_⟩ := e
  obtain ⟨h2, h3, h4⟩ := he
  have h2 : i ≤ nc := h2
  have h3 : i ≤ 20 := h3
  have h4 : at_ ≤ m := h4
  have hb0 : Nat.beq at_ 0 = true → at_ = 0 := fun h => by rw [Nat.beq_eq] at h; exact h
  have hb1 : Nat.beq at_ 0 = true → at_ % 64 = 0 := fun h => by rw [hb0 h]
  have hal : (L8 b at_).length = at_ := L8_length _ _
  have hr1 : L8 (UL (rest (L8 b at_))) (at_ % 64) = rest (L8 b at_) := L8_rest (by rw [hal])
  repeat ((conv => whnf); (with_reducible refine And.intro ?_ ?_); · first | exact True.intro | (intro hg0; simp only [hg0, Bool.not_false, Bool.not_true]; done) | assumption | omega | (intro _; refine ⟨True.intro, ?_⟩; omega) | (intro _; refine ⟨?_, True.intro⟩; omega) | (intro _; refine ⟨decide_eq_true ?_, ?_⟩ <;> omega) | (intro _; refine ⟨?_, ?_⟩ <;> first | omega | (simp [appG, Cd.holds]; done) | (simp [appG, Cd.holds]; omega)) | (refine decide_eq_true ?_; omega) | (intro _; omega) | (simp only [w_i64, w_u64, w_u32, w_u8]; omega) | exact ⟨U_nonneg _, U_lt32 _⟩ | exact R8_UL _ _ | exact R32_UL _ _ | (intro hg0; (repeat ((conv => whnf); (with_reducible refine And.intro ?_ ?_); · first | assumption | omega | (intro _; refine ⟨?_, ?_⟩ <;> first | assumption | omega | exact True.intro | (refine decide_eq_true ?_; omega) | (simp [appG, Cd.holds]; omega)) | (intro _; refine ⟨And.intro ?_ ?_, ?_⟩ <;> first | assumption | omega | (refine decide_eq_true ?_; omega)) | (simp only [hg0, Bool.and_self, Bool.true_and]; done) | (intro hg1; simp only [hg0, hg1, Bool.and_self, Bool.true_and]; done) | (simp [hg0]; done))); (conv => whnf); exact True.intro))
  conv => whnf
  refine ⟨fun h5 => ?_, fun h5 => ?_⟩
  · obtain ⟨h5, h7⟩ := andT h5
    obtain ⟨h5, h6⟩ := andT h5
    replace h5 := of_decide_eq_true h5
    replace h6 := of_decide_eq_true h6
    replace h7 := of_decide_eq_true h7
    have hci := hc i (by omega)
    obtain ⟨x, hx⟩ : ∃ x, x = c i := ⟨_, rfl⟩
    have hx1 : c i = x := hx.symm
    rw [← hx] at hci
    have hy := tm70 hci
    have hz : IntKind.i64.wrap ((m : Int) - (at_ : Int)) = ((m - at_ : Nat) : Int) := by rw [w_i64, Int.emod_eq_of_lt (by omega) (by omega)]; omega
    obtain ⟨y, hyy⟩ : ∃ y : Nat, (IntKind.i64.wrap (x.tmod 70 + 70)).tmod 70 = (y : Int) := ⟨((IntKind.i64.wrap (x.tmod 70 + 70)).tmod 70).toNat, by omega⟩
    have hm0 : m - at_ ≤ 200 := by omega
    obtain ⟨q, hq, hqm⟩ : ∃ q : Nat, (if (y : Int) < ((m - at_ : Nat) : Int) then (y : Int) else ((m - at_ : Nat) : Int)) = (q : Int) ∧ q ≤ m - at_ := by
      by_cases h : (y : Int) < ((m - at_ : Nat) : Int)
      · exact ⟨y, if_pos h, by omega⟩
      · exact ⟨m - at_, if_neg h, by omega⟩
    have hw : IntKind.i64.wrap ((at_ : Int) + (q : Int)) = ((at_ + q : Nat) : Int) := by rw [w_i64, Int.emod_eq_of_lt (by omega) (by omega)]; omega
    have hs : R8 (fun j => b (at_ + j)) (at_ + q - at_) := R8_shift hrb (by omega)
    repeat ((conv => whnf); (with_reducible refine And.intro ?_ ?_); · first | exact True.intro | (intro hg0; simp only [hg0, Bool.not_false, Bool.not_true]; done) | assumption | omega | (intro _; refine ⟨True.intro, ?_⟩; omega) | (intro _; refine ⟨?_, True.intro⟩; omega) | (intro _; refine ⟨decide_eq_true ?_, ?_⟩ <;> omega) | (intro _; refine ⟨?_, ?_⟩ <;> first | omega | (simp [appG, Cd.holds]; done) | (simp [appG, Cd.holds]; omega)) | (refine decide_eq_true ?_; omega) | (intro _; omega) | (simp only [hx1, hyy, hz, hq, hw, Int.toNat_natCast]; omega) | (simp only [hx1, hyy, hz, hq, hw, Int.toNat_natCast]; intro _; refine ⟨?_, ?_⟩ <;> first | omega | (refine decide_eq_true ?_; omega)) | exact ⟨U_nonneg _, U_lt32 _⟩ | exact R8_UL _ _ | exact R32_UL _ _ | (intro hg0; (repeat ((conv => whnf); (with_reducible refine And.intro ?_ ?_); · first | assumption | omega | (intro _; refine ⟨?_, ?_⟩ <;> first | assumption | omega | exact True.intro | (refine decide_eq_true ?_; omega) | (simp [appG, Cd.holds]; omega)) | (intro _; refine ⟨And.intro ?_ ?_, ?_⟩ <;> first | assumption | omega | (refine decide_eq_true ?_; omega)) | (simp only [hg0, Bool.and_self, Bool.true_and]; done) | (intro hg1; simp only [hg0, hg1, Bool.and_self, Bool.true_and]; done) | (simp [hg0]; done) | (simp only [hx1, hyy, hz, hq, hw, Int.toNat_natCast]; exact hs))); (conv => whnf); exact True.intro) | (simp only [hx1, hyy, hz, hq, hw, Int.toNat_natCast]; exact hs))
    conv => whnf
    refine ⟨(i + 1, at_ + q), ⟨⟨by show i + 1 ≤ nc; omega, by show i + 1 ≤ 20; omega, by show at_ + q ≤ m; omega⟩, by show 20 - (i + 1) < 20 - i; omega⟩, le_of [(1, 2)] ?_⟩
    have hj := L8_join b (show at_ ≤ at_ + q by omega)
    simp only [hx1, hyy, hz, hq, hw, Int.toNat_natCast, L32_ab, hr1, absW, rstW, hj]
    repeat ((conv => whnf); (with_reducible refine And.intro ?_ ?_); · first | with_reducible rfl | exact (Bool.and_false _).symm | (intro _ _; with_reducible rfl) | exact True.intro | assumption | (intro h; exact absurd h (by decide)) | omega | (intro _; omega) | (intro _; refine ⟨?_, True.intro⟩; omega) | (intro _; refine ⟨?_, True.intro⟩; intro _; omega) | (refine decide_eq_false ?_; omega) | (refine decide_eq_true ?_; omega) | (simp only [w_i64, w_u64, w_u32, w_u8]; omega) | exact fun j hj => (put_0 hj).symm | (intro j _; simp only [Nat.zero_add]; done) | (simp [appG]; done) | (simp [appG]; omega) | exact beq_flag (by omega) | (intro h; rw [Nat.beq_eq] at h; omega) | (simp only [w_u64]; omega) | (intro hgd; (try replace hgd := of_decide_eq_true hgd); (repeat ((conv => whnf); (with_reducible refine And.intro ?_ ?_); · first | with_reducible rfl | exact (Bool.and_false _).symm | (intro _ _; with_reducible rfl) | exact True.intro | assumption | (intro h; exact absurd h (by decide)) | omega | (intro _; omega) | (intro _; refine ⟨?_, True.intro⟩; omega) | (intro _; refine ⟨?_, True.intro⟩; intro _; omega) | (refine decide_eq_false ?_; omega) | (refine decide_eq_true ?_; omega) | (simp only [w_i64, w_u64, w_u32, w_u8]; omega) | exact fun j hj => (put_0 hj).symm | (intro j _; simp only [Nat.zero_add]; done) | (simp [appG]; done) | (simp [appG]; omega) | exact beq_flag (by omega) | (intro h; rw [Nat.beq_eq] at h; omega) | (simp only [w_u64]; omega))); (conv => whnf); exact True.intro))
    conv => whnf
    exact True.intro
  · have hj := L8_join b h4
    have hml : (L8 b m).length = m := L8_length _ _
    have hs : R8 (fun j => b (at_ + j)) (m - at_) := R8_shift hrb (by omega)
    have hr2 : L8 (UL (rest (L8 b m))) ((at_ % 64 + (m - at_)) % 64) = rest (L8 b m) := L8_rest (by rw [hml]; omega)
    have hE := shaE' (l := L8 b m) (n := (at_ % 64 + (m - at_)) % 64) (N := IntKind.u64.wrap ((at_ : Int) + IntKind.u64.wrap ((m - at_ : Nat) : Int))) (by rw [hml]; omega) (by rw [hml]; simp only [w_u64]; omega)
    repeat ((conv => whnf); (with_reducible refine And.intro ?_ ?_); · first | exact True.intro | (intro hg0; simp only [hg0, Bool.not_false, Bool.not_true]; done) | assumption | omega | (intro _; refine ⟨True.intro, ?_⟩; omega) | (intro _; refine ⟨?_, True.intro⟩; omega) | (intro _; refine ⟨decide_eq_true ?_, ?_⟩ <;> omega) | (intro _; refine ⟨?_, ?_⟩ <;> first | omega | (simp [appG, Cd.holds]; done) | (simp [appG, Cd.holds]; omega)) | (refine decide_eq_true ?_; omega) | (intro _; omega) | (simp only [w_i64, w_u64, w_u32, w_u8]; omega) | exact ⟨U_nonneg _, U_lt32 _⟩ | exact R8_UL _ _ | exact R32_UL _ _ | (intro hg0; (repeat ((conv => whnf); (with_reducible refine And.intro ?_ ?_); · first | assumption | omega | (intro _; refine ⟨?_, ?_⟩ <;> first | assumption | omega | exact True.intro | (refine decide_eq_true ?_; omega) | (simp [appG, Cd.holds]; omega)) | (intro _; refine ⟨And.intro ?_ ?_, ?_⟩ <;> first | assumption | omega | (refine decide_eq_true ?_; omega)) | (simp only [hg0, Bool.and_self, Bool.true_and]; done) | (intro hg1; simp only [hg0, hg1, Bool.and_self, Bool.true_and]; done) | (simp [hg0]; done) | (simp only [Int.toNat_natCast]; exact hs) | exact fun j _ => hrb | exact fun _ => hg0 | exact Eq.refl 1 | (simp only [cat_one, L8_length]; omega))); (conv => whnf); exact True.intro) | (simp only [Int.toNat_natCast]; exact hs) | exact fun j _ => hrb | exact fun _ => hg0 | exact Eq.refl 1 | (simp only [cat_one, L8_length]; omega))
    conv => whnf
    refine ⟨[], ?_⟩
    simp only [Int.toNat_natCast, L32_ab, hr1, absW, rstW, hj, hr2, hE, cat_one, eqI_self]
    repeat ((conv => whnf); (with_reducible refine And.intro ?_ ?_); · first | with_reducible rfl | exact (Bool.and_false _).symm | (intro _ _; with_reducible rfl) | exact True.intro | assumption | (intro h; exact absurd h (by decide)) | omega | (intro _; omega) | (intro _; refine ⟨?_, True.intro⟩; omega) | (intro _; refine ⟨?_, True.intro⟩; intro _; omega) | (refine decide_eq_false ?_; omega) | (refine decide_eq_true ?_; omega) | (simp only [w_i64, w_u64, w_u32, w_u8]; omega) | exact fun j hj => (put_0 hj).symm | (intro j _; simp only [Nat.zero_add]; done) | (simp [appG]; done) | (simp [appG]; omega) | (intro hgd; (try replace hgd := of_decide_eq_true hgd); (repeat ((conv => whnf); (with_reducible refine And.intro ?_ ?_); · first | with_reducible rfl | exact (Bool.and_false _).symm | (intro _ _; with_reducible rfl) | exact True.intro | assumption | (intro h; exact absurd h (by decide)) | omega | (intro _; omega) | (intro _; refine ⟨?_, True.intro⟩; omega) | (intro _; refine ⟨?_, True.intro⟩; intro _; omega) | (refine decide_eq_false ?_; omega) | (refine decide_eq_true ?_; omega) | (simp only [w_i64, w_u64, w_u32, w_u8]; omega) | exact fun j hj => (put_0 hj).symm | (intro j _; simp only [Nat.zero_add]; done) | (simp [appG]; done) | (simp [appG]; omega))); (conv => whnf); exact True.intro))
    conv => whnf
    exact True.intro
end Go.Proofs.Ytogijkmflhjhkaa
