/- Functions through the evaluator: the document's padding. No condition. -/
import Derived.Test.YtogijkmflhjhkaaSxT
import Derived.Test.YtogijkmflhjhkaaSxU
import Derived.Test.YtogijkmflhjhkaaF10
namespace Go.Proofs.Ytogijkmflhjhkaa
open Go.Sx Go.RowKit
set_option linter.unusedSimpArgs false
set_option maxRecDepth 100000
set_option linter.unusedVariables false

/-- The last k of eight bytes. -/
def bkF (w : BitVec 64) (k j : Nat) : Int := if 8 - k ≤ j then UL (be8 w) j else 0
theorem be8_at (w : BitVec 64) {k : Nat} (hk : k < 8) : UL (be8 w) (7 - k) = ((w.toNat / 256 ^ k % 256 : Nat) : Int) := by
  have e : (be8 w).getD (7 - k) 0 = (w >>> (56 - 8 * (7 - k))).setWidth 8 := by
    have : 7 - k < 8 := by omega
    simp [be8, this]
  unfold UL U
  rw [e, BitVec.toNat_setWidth, BitVec.toNat_ushiftRight, Nat.shiftRight_eq_div_pow, show 56 - 8 * (7 - k) = 8 * k by omega, Nat.pow_mul]
theorem bk_step (w : BitVec 64) {k : Nat} (hk : k < 8) (j : Nat) (hj : j < 8) : bkF w (k + 1) j = upd (bkF w k) (7 - k) ((w.toNat / 256 ^ k % 256 : Nat) : Int) j := by
  unfold upd bkF
  by_cases h : j = 7 - k
  · subst h; rw [if_pos (by omega), if_pos rfl, be8_at w hk]
  · rw [if_neg h]
    by_cases h2 : 8 - k ≤ j
    · rw [if_pos (by omega), if_pos h2]
    · rw [if_neg (by omega), if_neg h2]
theorem app1g {f g : Nat → Int} {n : Nat} {b : B8} (hf : R8 f n) (hz : g 0 = U b) (j : Nat) (hj : j < n + 1) : UL (L8 f n ++ [b]) j = put_ (put_ (fun _ => 0) 0 n f) (0 + n) 1 g j := by
  rw [Nat.zero_add, app1 (L8_length f n).symm hz j hj]
  by_cases h : n ≤ j
  · unfold put_; rw [if_pos ⟨h, by omega⟩, if_pos ⟨h, by omega⟩]
  · unfold put_; rw [if_neg (by omega), if_neg (by omega), if_pos (by omega), Nat.sub_zero, UL_L8 hf j (by omega)]
def padS : Summary := mkS false [.r .u8, .v, .v] fun
  | [.r nl g n, .v (.sc (.int .i64 b)), .v (.sc (.int .i64 y))] => some ⟨.and (.p (R8 g n)) (.and (.p (n ≤ 1000000)) (.p (b = 64 ∧ y = 8))),
      some (.sa (.sc (ownA false (n + (9 + zeros n)) 0))), [(0, ownB 5 .u8 (UL (L8 g n ++ tail n)) (n + (9 + zeros n)))], 1⟩
  | _ => none
theorem padS_ok : SumOk Try.prog 91 padS := by
  unfold padS
  apply sum_ok
  intro vs A H n o r hb h
  split at h
  rotate_left
  · cases h
  rename_i nl g n0 b y
  injection h with h
  subst h
  cases hb
  refine fsound_of_run tt_ok cok_nil mixed_ok Try.call91 Try.func91 rfl (rs := _) Try.results91 (size := 50) Try.ntmps91 (Nat.le_of_ble_eq_true rfl) rfl fun hp hfa hfh => ?_
  obtain ⟨hg, hn, hb⟩ := hp
  have hg : R8 g n0 := hg
  have hn : n0 ≤ 1000000 := hn
  obtain ⟨hb1, hb2⟩ := hb
  subst hb1
  subst hb2
  have hz64 : zeros n0 < 64 := by unfold zeros; omega
  have hzd : zeros n0 = (119 - n0 % 64) % 64 := rfl
  repeat ((conv => whnf); (with_reducible refine And.intro ?_ ?_); · first | exact True.intro | (intro hg0; simp only [hg0, Bool.not_false, Bool.not_true]; done) | assumption | omega | (intro _; refine ⟨True.intro, ?_⟩; omega) | (intro _; refine ⟨?_, True.intro⟩; omega) | (intro _; refine ⟨decide_eq_true ?_, ?_⟩ <;> omega) | (intro _; refine ⟨?_, ?_⟩ <;> first | omega | (simp [appG, Cd.holds]; done) | (simp [appG, Cd.holds]; omega)) | (refine decide_eq_true ?_; omega) | (intro _; omega) | (simp only [w_i64, w_u64, w_u32, w_u8]; omega) | exact ⟨U_nonneg _, U_lt32 _⟩ | exact R8_UL _ _ | exact R32_UL _ _ | (intro hg0; (repeat ((conv => whnf); (with_reducible refine And.intro ?_ ?_); · first | assumption | omega | (intro _; refine ⟨?_, ?_⟩ <;> first | assumption | omega | exact True.intro | (refine decide_eq_true ?_; omega) | (simp [appG, Cd.holds]; omega)) | (intro _; refine ⟨And.intro ?_ ?_, ?_⟩ <;> first | assumption | omega | (refine decide_eq_true ?_; omega)) | (simp only [hg0, Bool.and_self, Bool.true_and]; done) | (intro hg1; simp only [hg0, hg1, Bool.and_self, Bool.true_and]; done) | (simp [hg0]; done))); (conv => whnf); exact True.intro))
  conv => whnf
  refine ⟨0, Nat, fun k => ⟨50, [(0, .sa (.sc (.im nl .u8 g n0))), (1, .sa (.sc (.int .i64 64))), (2, .sa (.sc (.int .i64 8))), (7, .sa (.sc (ownA false (n0 + (1 + k)) 0)))],
    [(0, ownB 5 .u8 (UL (L8 g n0 ++ padL k)) (n0 + (1 + k)))], 1⟩, fun k => k ≤ zeros n0, fun k => zeros n0 - k, ⟨0, by omega, le_of [(0, 2)] ?_⟩, fun k hk => ?_⟩
  · repeat ((conv => whnf); (with_reducible refine And.intro ?_ ?_); · first | with_reducible rfl | exact (Bool.and_false _).symm | (intro _ _; with_reducible rfl) | exact True.intro | assumption | (intro h; exact absurd h (by decide)) | omega | (intro _; omega) | (intro _; refine ⟨?_, True.intro⟩; omega) | (intro _; refine ⟨?_, True.intro⟩; intro _; omega) | (refine decide_eq_false ?_; omega) | (refine decide_eq_true ?_; omega) | (simp only [w_i64, w_u64, w_u32, w_u8]; omega) | exact fun j hj => (put_0 hj).symm | (intro j _; simp only [Nat.zero_add]; done) | (simp [appG]; done) | (simp [appG]; omega) | exact app1g hg rfl | (intro j hj; exact app1g hg rfl j (by omega)) | (intro hgd; (try replace hgd := of_decide_eq_true hgd); (repeat ((conv => whnf); (with_reducible refine And.intro ?_ ?_); · first | with_reducible rfl | exact (Bool.and_false _).symm | (intro _ _; with_reducible rfl) | exact True.intro | assumption | (intro h; exact absurd h (by decide)) | omega | (intro _; omega) | (intro _; refine ⟨?_, True.intro⟩; omega) | (intro _; refine ⟨?_, True.intro⟩; intro _; omega) | (refine decide_eq_false ?_; omega) | (refine decide_eq_true ?_; omega) | (simp only [w_i64, w_u64, w_u32, w_u8]; omega) | exact fun j hj => (put_0 hj).symm | (intro j _; simp only [Nat.zero_add]; done) | (simp [appG]; done) | (simp [appG]; omega) | exact app1g hg rfl | (intro j hj; exact app1g hg rfl j (by omega)))); (conv => whnf); exact True.intro))
    conv => whnf
    exact True.intro
  have hk : k ≤ zeros n0 := hk
  have hlen : (L8 g n0 ++ padL k).length = n0 + (1 + k) := by rw [List.length_append, L8_length, padL_length]
  have hmod : (((n0 + (1 + k) : Nat) : Int)).tmod 64 = (((n0 + (1 + k)) % 64 : Nat) : Int) := rfl
  have h56 : IntKind.i64.wrap (64 - 8) = 56 := by decide
  repeat ((conv => whnf); (with_reducible refine And.intro ?_ ?_); · first | exact True.intro | (intro hg0; simp only [hg0, Bool.not_false, Bool.not_true]; done) | assumption | omega | (intro _; refine ⟨True.intro, ?_⟩; omega) | (intro _; refine ⟨?_, True.intro⟩; omega) | (intro _; refine ⟨decide_eq_true ?_, ?_⟩ <;> omega) | (intro _; refine ⟨?_, ?_⟩ <;> first | omega | (simp [appG, Cd.holds]; done) | (simp [appG, Cd.holds]; omega)) | (refine decide_eq_true ?_; omega) | (intro _; omega) | (simp only [w_i64, w_u64, w_u32, w_u8]; omega) | exact ⟨U_nonneg _, U_lt32 _⟩ | exact R8_UL _ _ | exact R32_UL _ _ | (intro hg0; (repeat ((conv => whnf); (with_reducible refine And.intro ?_ ?_); · first | assumption | omega | (intro _; refine ⟨?_, ?_⟩ <;> first | assumption | omega | exact True.intro | (refine decide_eq_true ?_; omega) | (simp [appG, Cd.holds]; omega)) | (intro _; refine ⟨And.intro ?_ ?_, ?_⟩ <;> first | assumption | omega | (refine decide_eq_true ?_; omega)) | (simp only [hg0, Bool.and_self, Bool.true_and]; done) | (intro hg1; simp only [hg0, hg1, Bool.and_self, Bool.true_and]; done) | (simp [hg0]; done))); (conv => whnf); exact True.intro))
  conv => whnf
  refine ⟨fun h2 => ?_, fun h2 => ?_⟩
  · rw [hmod, h56, bne_iff_ne] at h2
    repeat ((conv => whnf); (with_reducible refine And.intro ?_ ?_); · first | exact True.intro | (intro hg0; simp only [hg0, Bool.not_false, Bool.not_true]; done) | assumption | omega | (intro _; refine ⟨True.intro, ?_⟩; omega) | (intro _; refine ⟨?_, True.intro⟩; omega) | (intro _; refine ⟨decide_eq_true ?_, ?_⟩ <;> omega) | (intro _; refine ⟨?_, ?_⟩ <;> first | omega | (simp [appG, Cd.holds]; done) | (simp [appG, Cd.holds]; omega)) | (refine decide_eq_true ?_; omega) | (intro _; omega) | (simp only [w_i64, w_u64, w_u32, w_u8]; omega) | exact ⟨U_nonneg _, U_lt32 _⟩ | exact R8_UL _ _ | exact R32_UL _ _ | (intro hg0; (repeat ((conv => whnf); (with_reducible refine And.intro ?_ ?_); · first | assumption | omega | (intro _; refine ⟨?_, ?_⟩ <;> first | assumption | omega | exact True.intro | (refine decide_eq_true ?_; omega) | (simp [appG, Cd.holds]; omega)) | (intro _; refine ⟨And.intro ?_ ?_, ?_⟩ <;> first | assumption | omega | (refine decide_eq_true ?_; omega)) | (simp only [hg0, Bool.and_self, Bool.true_and]; done) | (intro hg1; simp only [hg0, hg1, Bool.and_self, Bool.true_and]; done) | (simp [hg0]; done))); (conv => whnf); exact True.intro))
    conv => whnf
    refine ⟨k + 1, ⟨by show k + 1 ≤ zeros n0; omega, by show zeros n0 - (k + 1) < zeros n0 - k; omega⟩, le_of [(0, 2)] ?_⟩
    simp only [padL_succ, ← List.append_assoc]
    repeat ((conv => whnf); (with_reducible refine And.intro ?_ ?_); · first | with_reducible rfl | exact (Bool.and_false _).symm | (intro _ _; with_reducible rfl) | exact True.intro | assumption | (intro h; exact absurd h (by decide)) | omega | (intro _; omega) | (intro _; refine ⟨?_, True.intro⟩; omega) | (intro _; refine ⟨?_, True.intro⟩; intro _; omega) | (refine decide_eq_false ?_; omega) | (refine decide_eq_true ?_; omega) | (simp only [w_i64, w_u64, w_u32, w_u8]; omega) | exact fun j hj => (put_0 hj).symm | (intro j _; simp only [Nat.zero_add]; done) | (simp [appG]; done) | (simp [appG]; omega) | (intro j hj; exact app1 hlen.symm rfl j (by omega)) | (intro hgd; (try replace hgd := of_decide_eq_true hgd); (repeat ((conv => whnf); (with_reducible refine And.intro ?_ ?_); · first | with_reducible rfl | exact (Bool.and_false _).symm | (intro _ _; with_reducible rfl) | exact True.intro | assumption | (intro h; exact absurd h (by decide)) | omega | (intro _; omega) | (intro _; refine ⟨?_, True.intro⟩; omega) | (intro _; refine ⟨?_, True.intro⟩; intro _; omega) | (refine decide_eq_false ?_; omega) | (refine decide_eq_true ?_; omega) | (simp only [w_i64, w_u64, w_u32, w_u8]; omega) | exact fun j hj => (put_0 hj).symm | (intro j _; simp only [Nat.zero_add]; done) | (simp [appG]; done) | (simp [appG]; omega) | (intro j hj; exact app1 hlen.symm rfl j (by omega)))); (conv => whnf); exact True.intro))
    conv => whnf
    exact True.intro
  · rw [hmod, h56, bne_eq_false_iff_eq] at h2
    have hkz : k = zeros n0 := by omega
    subst hkz
    have hW : IntKind.u64.wrap (IntKind.u64.wrap (n0 : Int) * 8) = (((BitVec.ofNat 64 n0 * 8).toNat / 256 ^ 0 : Nat) : Int) := by
      have := mul8 (N := (n0 : Int)) (by omega)
      rw [BitVec.ofInt_natCast] at this
      rw [show IntKind.u64.wrap (n0 : Int) = n0 by rw [w_u64]; omega, this]
      simp [U]
    have h7 : IntKind.i64.wrap (8 - 1) = 7 := by decide
    repeat ((conv => whnf); (with_reducible refine And.intro ?_ ?_); · first | exact True.intro | (intro hg0; simp only [hg0, Bool.not_false, Bool.not_true]; done) | assumption | omega | (intro _; refine ⟨True.intro, ?_⟩; omega) | (intro _; refine ⟨?_, True.intro⟩; omega) | (intro _; refine ⟨decide_eq_true ?_, ?_⟩ <;> omega) | (intro _; refine ⟨?_, ?_⟩ <;> first | omega | (simp [appG, Cd.holds]; done) | (simp [appG, Cd.holds]; omega)) | (refine decide_eq_true ?_; omega) | (intro _; omega) | (simp only [w_i64, w_u64, w_u32, w_u8]; omega) | exact ⟨U_nonneg _, U_lt32 _⟩ | exact R8_UL _ _ | exact R32_UL _ _ | (intro hg0; (repeat ((conv => whnf); (with_reducible refine And.intro ?_ ?_); · first | assumption | omega | (intro _; refine ⟨?_, ?_⟩ <;> first | assumption | omega | exact True.intro | (refine decide_eq_true ?_; omega) | (simp [appG, Cd.holds]; omega)) | (intro _; refine ⟨And.intro ?_ ?_, ?_⟩ <;> first | assumption | omega | (refine decide_eq_true ?_; omega)) | (simp only [hg0, Bool.and_self, Bool.true_and]; done) | (intro hg1; simp only [hg0, hg1, Bool.and_self, Bool.true_and]; done) | (simp [hg0]; done))); (conv => whnf); exact True.intro))
    conv => whnf
    refine ⟨0, Nat, fun i => ⟨50, [(7, .sa (.sc (ownA false (n0 + (1 + zeros n0)) 0))), (8, .sa (.sc (.int .u64 ((BitVec.ofNat 64 n0 * 8).toNat / 256 ^ i : Nat)))), (9, .sa (.sc (.sl false true false 1 0 0 8 8))), (10, .sa (.sc (.int .i64 (7 - i))))],
      [(0, ownB 5 .u8 (UL (L8 g n0 ++ padL (zeros n0))) (n0 + (1 + zeros n0))), (1, .own 5 [.ints .u8 (bkF (BitVec.ofNat 64 n0 * 8) i) 8] false)], 2⟩, fun i => i ≤ 8, fun i => 8 - i, ⟨0, by omega, le_of [] ?_⟩, fun i hi => ?_⟩
    · simp only [hW, h7]
      repeat ((conv => whnf); (with_reducible refine And.intro ?_ ?_); · first | with_reducible rfl | exact (Bool.and_false _).symm | (intro _ _; with_reducible rfl) | exact True.intro | assumption | (intro h; exact absurd h (by decide)) | omega | (intro _; omega) | (intro _; refine ⟨?_, True.intro⟩; omega) | (intro _; refine ⟨?_, True.intro⟩; intro _; omega) | (refine decide_eq_false ?_; omega) | (refine decide_eq_true ?_; omega) | (simp only [w_i64, w_u64, w_u32, w_u8]; omega) | exact fun j hj => (put_0 hj).symm | (intro j _; simp only [Nat.zero_add]; done) | (simp [appG]; done) | (simp [appG]; omega) | (intro j hj; exact if_neg (by omega)) | (intro hgd; (try replace hgd := of_decide_eq_true hgd); (repeat ((conv => whnf); (with_reducible refine And.intro ?_ ?_); · first | with_reducible rfl | exact (Bool.and_false _).symm | (intro _ _; with_reducible rfl) | exact True.intro | assumption | (intro h; exact absurd h (by decide)) | omega | (intro _; omega) | (intro _; refine ⟨?_, True.intro⟩; omega) | (intro _; refine ⟨?_, True.intro⟩; intro _; omega) | (refine decide_eq_false ?_; omega) | (refine decide_eq_true ?_; omega) | (simp only [w_i64, w_u64, w_u32, w_u8]; omega) | exact fun j hj => (put_0 hj).symm | (intro j _; simp only [Nat.zero_add]; done) | (simp [appG]; done) | (simp [appG]; omega) | (intro j hj; exact if_neg (by omega)))); (conv => whnf); exact True.intro))
      conv => whnf
      exact True.intro
    have hi : i ≤ 8 := hi
    repeat ((conv => whnf); (with_reducible refine And.intro ?_ ?_); · first | exact True.intro | (intro hg0; simp only [hg0, Bool.not_false, Bool.not_true]; done) | assumption | omega | (intro _; refine ⟨True.intro, ?_⟩; omega) | (intro _; refine ⟨?_, True.intro⟩; omega) | (intro _; refine ⟨decide_eq_true ?_, ?_⟩ <;> omega) | (intro _; refine ⟨?_, ?_⟩ <;> first | omega | (simp [appG, Cd.holds]; done) | (simp [appG, Cd.holds]; omega)) | (refine decide_eq_true ?_; omega) | (intro _; omega) | (simp only [w_i64, w_u64, w_u32, w_u8]; omega) | exact ⟨U_nonneg _, U_lt32 _⟩ | exact R8_UL _ _ | exact R32_UL _ _ | (intro hg0; (repeat ((conv => whnf); (with_reducible refine And.intro ?_ ?_); · first | assumption | omega | (intro _; refine ⟨?_, ?_⟩ <;> first | assumption | omega | exact True.intro | (refine decide_eq_true ?_; omega) | (simp [appG, Cd.holds]; omega)) | (intro _; refine ⟨And.intro ?_ ?_, ?_⟩ <;> first | assumption | omega | (refine decide_eq_true ?_; omega)) | (simp only [hg0, Bool.and_self, Bool.true_and]; done) | (intro hg1; simp only [hg0, hg1, Bool.and_self, Bool.true_and]; done) | (simp [hg0]; done))); (conv => whnf); exact True.intro))
    conv => whnf
    refine ⟨fun h3 => ?_, fun h3 => ?_⟩
    · replace h3 := of_decide_eq_true h3
      have hi7 : i ≤ 7 := by omega
      have hwl := (BitVec.ofNat 64 n0 * 8).isLt
      have hv : IntKind.u8.wrap ((((BitVec.ofNat 64 n0 * 8).toNat / 256 ^ i : Nat) : Int).tmod 256) = (((BitVec.ofNat 64 n0 * 8).toNat / 256 ^ i % 256 : Nat) : Int) := by
        rw [show (((BitVec.ofNat 64 n0 * 8).toNat / 256 ^ i : Nat) : Int).tmod 256 = (((BitVec.ofNat 64 n0 * 8).toNat / 256 ^ i % 256 : Nat) : Int) from rfl, w_u8]; omega
      have hq : IntKind.u64.wrap ((((BitVec.ofNat 64 n0 * 8).toNat / 256 ^ i : Nat) : Int).tdiv 256) = (((BitVec.ofNat 64 n0 * 8).toNat / 256 ^ (i + 1) : Nat) : Int) := by
        rw [show (((BitVec.ofNat 64 n0 * 8).toNat / 256 ^ i : Nat) : Int).tdiv 256 = (((BitVec.ofNat 64 n0 * 8).toNat / 256 ^ i / 256 : Nat) : Int) from rfl, Nat.div_div_eq_div_mul, ← Nat.pow_succ, w_u64]
        have := Nat.div_le_self (BitVec.ofNat 64 n0 * 8).toNat (256 ^ i.succ)
        show _ = (((BitVec.ofNat 64 n0 * 8).toNat / 256 ^ i.succ : Nat) : Int)
        generalize (BitVec.ofNat 64 n0 * 8).toNat / 256 ^ i.succ = q at *
        have e2 : (2 : Nat) ^ 64 = 18446744073709551616 := by decide
        omega
      have hix : (7 - (i : Int)).toNat = 7 - i := by omega
      have hw : IntKind.i64.wrap (7 - (i : Int) - 1) = 7 - ((i + 1 : Nat) : Int) := by rw [w_i64, Int.emod_eq_of_lt (by omega) (by omega)]; omega
      repeat ((conv => whnf); (with_reducible refine And.intro ?_ ?_); · first | exact True.intro | (intro hg0; simp only [hg0, Bool.not_false, Bool.not_true]; done) | assumption | omega | (intro _; refine ⟨True.intro, ?_⟩; omega) | (intro _; refine ⟨?_, True.intro⟩; omega) | (intro _; refine ⟨decide_eq_true ?_, ?_⟩ <;> omega) | (intro _; refine ⟨?_, ?_⟩ <;> first | omega | (simp [appG, Cd.holds]; done) | (simp [appG, Cd.holds]; omega)) | (refine decide_eq_true ?_; omega) | (intro _; omega) | (simp only [w_i64, w_u64, w_u32, w_u8]; omega) | exact ⟨U_nonneg _, U_lt32 _⟩ | exact R8_UL _ _ | exact R32_UL _ _ | (intro hg0; (repeat ((conv => whnf); (with_reducible refine And.intro ?_ ?_); · first | assumption | omega | (intro _; refine ⟨?_, ?_⟩ <;> first | assumption | omega | exact True.intro | (refine decide_eq_true ?_; omega) | (simp [appG, Cd.holds]; omega)) | (intro _; refine ⟨And.intro ?_ ?_, ?_⟩ <;> first | assumption | omega | (refine decide_eq_true ?_; omega)) | (simp only [hg0, Bool.and_self, Bool.true_and]; done) | (intro hg1; simp only [hg0, hg1, Bool.and_self, Bool.true_and]; done) | (simp [hg0]; done))); (conv => whnf); exact True.intro))
      conv => whnf
      refine ⟨i + 1, ⟨by show i + 1 ≤ 8; omega, by show 8 - (i + 1) < 8 - i; omega⟩, le_of [] ?_⟩
      simp only [hv, hq, hix, hw, Nat.zero_add]
      repeat ((conv => whnf); (with_reducible refine And.intro ?_ ?_); · first | with_reducible rfl | exact (Bool.and_false _).symm | (intro _ _; with_reducible rfl) | exact True.intro | assumption | (intro h; exact absurd h (by decide)) | omega | (intro _; omega) | (intro _; refine ⟨?_, True.intro⟩; omega) | (intro _; refine ⟨?_, True.intro⟩; intro _; omega) | (refine decide_eq_false ?_; omega) | (refine decide_eq_true ?_; omega) | (simp only [w_i64, w_u64, w_u32, w_u8]; omega) | exact fun j hj => (put_0 hj).symm | (intro j _; simp only [Nat.zero_add]; done) | (simp [appG]; done) | (simp [appG]; omega) | exact bk_step _ (by omega) | (intro hgd; (try replace hgd := of_decide_eq_true hgd); (repeat ((conv => whnf); (with_reducible refine And.intro ?_ ?_); · first | with_reducible rfl | exact (Bool.and_false _).symm | (intro _ _; with_reducible rfl) | exact True.intro | assumption | (intro h; exact absurd h (by decide)) | omega | (intro _; omega) | (intro _; refine ⟨?_, True.intro⟩; omega) | (intro _; refine ⟨?_, True.intro⟩; intro _; omega) | (refine decide_eq_false ?_; omega) | (refine decide_eq_true ?_; omega) | (simp only [w_i64, w_u64, w_u32, w_u8]; omega) | exact fun j hj => (put_0 hj).symm | (intro j _; simp only [Nat.zero_add]; done) | (simp [appG]; done) | (simp [appG]; omega) | exact bk_step _ (by omega))); (conv => whnf); exact True.intro))
      conv => whnf
      exact True.intro
    · replace h3 := of_decide_eq_false h3
      have hi8 : i = 8 := by omega
      subst hi8
      have ht : L8 g n0 ++ tail n0 = (L8 g n0 ++ padL (zeros n0)) ++ be8 (BitVec.ofNat 64 n0 * 8) := by rw [List.append_assoc]; rfl
      have hc : ∀ j, j < n0 + (9 + zeros n0) → UL (L8 g n0 ++ tail n0) j = put_ (UL (L8 g n0 ++ padL (zeros n0))) (n0 + (1 + zeros n0)) 8 (fun j => bkF (BitVec.ofNat 64 n0 * 8) 8 (0 + j)) j := fun j hj => by
        rw [ht, ← UL_app (L8 g n0 ++ padL (zeros n0)) (be8 (BitVec.ofNat 64 n0 * 8)) j (by rw [hlen, be8_length]; omega), hlen, be8_length]
        unfold put_
        split
        · show _ = bkF _ 8 (0 + _)
          unfold bkF
          rw [if_pos (by omega), Nat.zero_add]
        · rfl
      repeat ((conv => whnf); (with_reducible refine And.intro ?_ ?_); · first | exact True.intro | (intro hg0; simp only [hg0, Bool.not_false, Bool.not_true]; done) | assumption | omega | (intro _; refine ⟨True.intro, ?_⟩; omega) | (intro _; refine ⟨?_, True.intro⟩; omega) | (intro _; refine ⟨decide_eq_true ?_, ?_⟩ <;> omega) | (intro _; refine ⟨?_, ?_⟩ <;> first | omega | (simp [appG, Cd.holds]; done) | (simp [appG, Cd.holds]; omega)) | (refine decide_eq_true ?_; omega) | (intro _; omega) | (simp only [w_i64, w_u64, w_u32, w_u8]; omega) | exact ⟨U_nonneg _, U_lt32 _⟩ | exact R8_UL _ _ | exact R32_UL _ _ | (intro hg0; (repeat ((conv => whnf); (with_reducible refine And.intro ?_ ?_); · first | assumption | omega | (intro _; refine ⟨?_, ?_⟩ <;> first | assumption | omega | exact True.intro | (refine decide_eq_true ?_; omega) | (simp [appG, Cd.holds]; omega)) | (intro _; refine ⟨And.intro ?_ ?_, ?_⟩ <;> first | assumption | omega | (refine decide_eq_true ?_; omega)) | (simp only [hg0, Bool.and_self, Bool.true_and]; done) | (intro hg1; simp only [hg0, hg1, Bool.and_self, Bool.true_and]; done) | (simp [hg0]; done))); (conv => whnf); exact True.intro))
      conv => whnf
      refine ⟨[(0, 2)], ?_⟩
      repeat ((conv => whnf); (with_reducible refine And.intro ?_ ?_); · first | with_reducible rfl | exact (Bool.and_false _).symm | (intro _ _; with_reducible rfl) | exact True.intro | assumption | (intro h; exact absurd h (by decide)) | omega | (intro _; omega) | (intro _; refine ⟨?_, True.intro⟩; omega) | (intro _; refine ⟨?_, True.intro⟩; intro _; omega) | (refine decide_eq_false ?_; omega) | (refine decide_eq_true ?_; omega) | (simp only [w_i64, w_u64, w_u32, w_u8]; omega) | exact fun j hj => (put_0 hj).symm | (intro j _; simp only [Nat.zero_add]; done) | (simp [appG]; done) | (simp [appG]; omega) | exact hc | (intro hgd; (try replace hgd := of_decide_eq_true hgd); (repeat ((conv => whnf); (with_reducible refine And.intro ?_ ?_); · first | with_reducible rfl | exact (Bool.and_false _).symm | (intro _ _; with_reducible rfl) | exact True.intro | assumption | (intro h; exact absurd h (by decide)) | omega | (intro _; omega) | (intro _; refine ⟨?_, True.intro⟩; omega) | (intro _; refine ⟨?_, True.intro⟩; intro _; omega) | (refine decide_eq_false ?_; omega) | (refine decide_eq_true ?_; omega) | (simp only [w_i64, w_u64, w_u32, w_u8]; omega) | exact fun j hj => (put_0 hj).symm | (intro j _; simp only [Nat.zero_add]; done) | (simp [appG]; done) | (simp [appG]; omega) | exact hc)); (conv => whnf); exact True.intro))
      conv => whnf
      exact True.intro
end Go.Proofs.Ytogijkmflhjhkaa
