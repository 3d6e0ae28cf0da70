/- Functions through the evaluator: the sum of parts. No condition. -/
import Derived.Test.YtogijkmflhjhkaaSxT
import Derived.Test.YtogijkmflhjhkaaSxU
import Derived.Test.YtogijkmflhjhkaaF4
namespace Go.Proofs.Ytogijkmflhjhkaa
open Go.Sx Go.RowKit
set_option linter.unusedSimpArgs false
set_option maxRecDepth 100000
set_option linter.unusedVariables false

/-- Parts, one behind the other. -/
def cat (g : Nat → Row) : Nat → List B8
  | 0 => []
  | k + 1 => cat g k ++ L8 (g k).f (g k).n
theorem cat_mono (g : Nat → Row) (k : Nat) : ∀ n, k ≤ n → (cat g k).length ≤ (cat g n).length
  | 0, h => by rw [Nat.le_zero.1 h]; exact Nat.le_refl _
  | n + 1, h => by
    by_cases e : k = n + 1
    · rw [e]; exact Nat.le_refl _
    · have := cat_mono g k n (by omega)
      rw [cat, List.length_append]; omega
theorem cok5 : COk Try.prog (tab [(32, newS), (33, writeS), (34, sumS)]) := cok_cons newS_ok (cok_cons (orS_ok writeS1_ok writeS0_ok) (cok_cons sumS_ok cok_nil))
theorem beq_and (a m : Nat) : (Nat.beq a 0 && Nat.beq m 0) = Nat.beq (a + m) 0 := by
  cases a with
  | zero => simp
  | succ a => rw [Nat.succ_add]; rfl
/-- What a state holds that has taken in l. -/
def stL (l : List B8) : SB := stB (UL (absorb H256 l)) (Nat.beq l.length 0) (l.length % 64) 2 (l.length : Int)
/-- sha.Sum. -/
def sumVS : Summary := mkS false [.rr .u8] fun
  | [.rr nl g n] => some ⟨.and (.p (∀ j, j < n → R8 (g j).f (g j).n)) (.p ((cat g n).length ≤ 900000)), some (.sa (.agg [.ints .u8 (UL (sha (cat g n))) 32])), [], 0⟩
  | _ => none
theorem sumVS_ok : SumOk Try.prog 37 sumVS := by
  unfold sumVS
  apply sum_ok
  intro vs A H n o r hb h
  split at h
  rotate_left
  · cases h
  rename_i nl g n0
  injection h with h
  subst h
  cases hb
  refine fsound_of_run tt_ok cok5 mixed_ok Try.call37 Try.func37 rfl (rs := _) Try.results37 (size := 19) Try.ntmps37 (Nat.le_of_ble_eq_true rfl) rfl fun hp hfa hfh => ?_
  obtain ⟨hg, hl⟩ := hp
  have hg : ∀ j, j < n0 → R8 (g j).f (g j).n := hg
  have hl : (cat g n0).length ≤ 900000 := hl
  have hn63 : n0 ≤ 9223372036854775807 := hfa.1.2
  repeat ((conv => whnf); (with_reducible refine And.intro ?_ ?_); · first | exact True.intro | (intro hg0; simp only [hg0, Bool.not_false, Bool.not_true]; done) | assumption | omega | (intro _; refine ⟨True.intro, ?_⟩; omega) | (intro _; refine ⟨?_, True.intro⟩; omega) | (intro _; refine ⟨decide_eq_true ?_, ?_⟩ <;> omega) | (intro _; refine ⟨?_, ?_⟩ <;> first | omega | (simp [appG, Cd.holds]; done) | (simp [appG, Cd.holds]; omega)) | (refine decide_eq_true ?_; omega) | (intro _; omega) | (simp only [w_i64, w_u64, w_u32, w_u8]; omega) | exact ⟨U_nonneg _, U_lt32 _⟩ | exact R8_UL _ _ | exact R32_UL _ _ | (intro hg0; (repeat ((conv => whnf); (with_reducible refine And.intro ?_ ?_); · first | assumption | omega | (intro _; refine ⟨?_, ?_⟩ <;> first | assumption | omega | exact True.intro | (refine decide_eq_true ?_; omega) | (simp [appG, Cd.holds]; omega)) | (intro _; refine ⟨And.intro ?_ ?_, ?_⟩ <;> first | assumption | omega | (refine decide_eq_true ?_; omega)) | (simp only [hg0, Bool.and_self, Bool.true_and]; done) | (intro hg1; simp only [hg0, hg1, Bool.and_self, Bool.true_and]; done) | (simp [hg0]; done))); (conv => whnf); exact True.intro))
  conv => whnf
  refine ⟨0, Nat, fun k => ⟨19, [(3, .sa (.sc (.ptr 1 0 0))), (2, .sa (.sc (.ptr 0 0 0))), (7, .sa (.sc (.rows nl .u8 g n0))), (8, .sa (.sc (.int .i64 n0))), (9, .sa (.sc (.int .i64 k)))],
    [(0, .own 30 [.ints .u8 (fun _ => 0) 32] false), (1, .own 82 [.ints .u32 (UL (absorb H256 (cat g k))) 8, .one (ownA (Nat.beq (cat g k).length 0) ((cat g k).length % 64) 2), .one (.int .u64 ((cat g k).length : Int))] false), (2, ownB 5 .u8 (UL (rest (cat g k))) ((cat g k).length % 64))], 3⟩,
    fun k => k ≤ n0, fun k => n0 - k, ⟨0, by omega, le_of [] ?_⟩, fun k hk => ?_⟩
  · simp only [show (cat g 0).length = 0 from rfl]
    repeat ((conv => whnf); (with_reducible refine And.intro ?_ ?_); · first | with_reducible rfl | exact (Bool.and_false _).symm | (intro _ _; with_reducible rfl) | exact True.intro | assumption | (intro h; exact absurd h (by decide)) | omega | (intro _; omega) | (intro _; refine ⟨?_, True.intro⟩; omega) | (intro _; refine ⟨?_, True.intro⟩; intro _; omega) | (refine decide_eq_false ?_; omega) | (refine decide_eq_true ?_; omega) | (simp only [w_i64, w_u64, w_u32, w_u8]; omega) | exact fun j hj => (put_0 hj).symm | (intro j _; simp only [Nat.zero_add]; done) | (simp [appG]; done) | (simp [appG]; omega) | (intro j _; rw [show absorb H256 (cat g 0) = H256 from absorb_small _ _ (show 0 < 64 by omega)]; done) | (intro hgd; (try replace hgd := of_decide_eq_true hgd); (repeat ((conv => whnf); (with_reducible refine And.intro ?_ ?_); · first | with_reducible rfl | exact (Bool.and_false _).symm | (intro _ _; with_reducible rfl) | exact True.intro | assumption | (intro h; exact absurd h (by decide)) | omega | (intro _; omega) | (intro _; refine ⟨?_, True.intro⟩; omega) | (intro _; refine ⟨?_, True.intro⟩; intro _; omega) | (refine decide_eq_false ?_; omega) | (refine decide_eq_true ?_; omega) | (simp only [w_i64, w_u64, w_u32, w_u8]; omega) | exact fun j hj => (put_0 hj).symm | (intro j _; simp only [Nat.zero_add]; done) | (simp [appG]; done) | (simp [appG]; omega) | (intro j _; rw [show absorb H256 (cat g 0) = H256 from absorb_small _ _ (show 0 < 64 by omega)]; done))); (conv => whnf); exact True.intro))
    conv => whnf
    exact True.intro
  have hk : k ≤ n0 := hk
  have hkl := cat_mono g k n0 hk
  have hx1 : L32 (UL (absorb H256 (cat g k))) 8 = absorb H256 (cat g k) := L32_UL' (absorb_length _ _ H256_length).symm
  have hx2 : L8 (UL (rest (cat g k))) ((cat g k).length % 64) = rest (cat g k) := L8_UL' (rest_length _).symm
  repeat ((conv => whnf); (with_reducible refine And.intro ?_ ?_); · first | exact True.intro | (intro hg0; simp only [hg0, Bool.not_false, Bool.not_true]; done) | assumption | omega | (intro _; refine ⟨True.intro, ?_⟩; omega) | (intro _; refine ⟨?_, True.intro⟩; omega) | (intro _; refine ⟨decide_eq_true ?_, ?_⟩ <;> omega) | (intro _; refine ⟨?_, ?_⟩ <;> first | omega | (simp [appG, Cd.holds]; done) | (simp [appG, Cd.holds]; omega)) | (refine decide_eq_true ?_; omega) | (intro _; omega) | (simp only [w_i64, w_u64, w_u32, w_u8]; omega) | exact ⟨U_nonneg _, U_lt32 _⟩ | exact R8_UL _ _ | exact R32_UL _ _ | (intro hg0; (repeat ((conv => whnf); (with_reducible refine And.intro ?_ ?_); · first | assumption | omega | (intro _; refine ⟨?_, ?_⟩ <;> first | assumption | omega | exact True.intro | (refine decide_eq_true ?_; omega) | (simp [appG, Cd.holds]; omega)) | (intro _; refine ⟨And.intro ?_ ?_, ?_⟩ <;> first | assumption | omega | (refine decide_eq_true ?_; omega)) | (simp only [hg0, Bool.and_self, Bool.true_and]; done) | (intro hg1; simp only [hg0, hg1, Bool.and_self, Bool.true_and]; done) | (simp [hg0]; done))); (conv => whnf); exact True.intro))
  conv => whnf
  refine ⟨fun h1 => ?_, fun h1 => ?_⟩
  · replace h1 := of_decide_eq_true h1
    have hgk := hg k (by omega)
    have hlen : (cat g (k + 1)).length = (cat g k).length + (g k).n := by rw [cat, List.length_append, L8_length]
    have hkl1 := cat_mono g (k + 1) n0 (by omega)
    have hgn : (g (k : Int).toNat).n ≤ 900000 := by rw [Int.toNat_natCast]; omega
    have e1 : absorb (absorb H256 (cat g k)) (rest (cat g k) ++ L8 (g k).f (g k).n) = absorb H256 (cat g (k + 1)) := (absorb_append _ _ _).symm
    have e2 : rest (rest (cat g k) ++ L8 (g k).f (g k).n) = rest (cat g (k + 1)) := (rest_append _ _).symm
    repeat ((conv => whnf); (with_reducible refine And.intro ?_ ?_); · first | exact True.intro | (intro hg0; simp only [hg0, Bool.not_false, Bool.not_true]; done) | assumption | omega | (intro _; refine ⟨True.intro, ?_⟩; omega) | (intro _; refine ⟨?_, True.intro⟩; omega) | (intro _; refine ⟨decide_eq_true ?_, ?_⟩ <;> omega) | (intro _; refine ⟨?_, ?_⟩ <;> first | omega | (simp [appG, Cd.holds]; done) | (simp [appG, Cd.holds]; omega)) | (refine decide_eq_true ?_; omega) | (intro _; omega) | (simp only [w_i64, w_u64, w_u32, w_u8]; omega) | exact ⟨U_nonneg _, U_lt32 _⟩ | exact R8_UL _ _ | exact R32_UL _ _ | (intro hg0; (repeat ((conv => whnf); (with_reducible refine And.intro ?_ ?_); · first | assumption | omega | (intro _; refine ⟨?_, ?_⟩ <;> first | assumption | omega | exact True.intro | (refine decide_eq_true ?_; omega) | (simp [appG, Cd.holds]; omega)) | (intro _; refine ⟨And.intro ?_ ?_, ?_⟩ <;> first | assumption | omega | (refine decide_eq_true ?_; omega)) | (simp only [hg0, Bool.and_self, Bool.true_and]; done) | (intro hg1; simp only [hg0, hg1, Bool.and_self, Bool.true_and]; done) | (simp [hg0]; done))); (conv => whnf); exact True.intro))
    conv => whnf
    refine ⟨k + 1, ⟨by show k + 1 ≤ n0; omega, by show n0 - (k + 1) < n0 - k; omega⟩, le_of [(2, 3)] ?_⟩
    simp only [Int.toNat_natCast, hx1, hx2, e1, e2, hlen]
    repeat ((conv => whnf); (with_reducible refine And.intro ?_ ?_); · first | with_reducible rfl | exact (Bool.and_false _).symm | (intro _ _; with_reducible rfl) | exact True.intro | assumption | (intro h; exact absurd h (by decide)) | omega | (intro _; omega) | (intro _; refine ⟨?_, True.intro⟩; omega) | (intro _; refine ⟨?_, True.intro⟩; intro _; omega) | (refine decide_eq_false ?_; omega) | (refine decide_eq_true ?_; omega) | (simp only [w_i64, w_u64, w_u32, w_u8]; omega) | exact fun j hj => (put_0 hj).symm | (intro j _; simp only [Nat.zero_add]; done) | (simp [appG]; done) | (simp [appG]; omega) | exact (beq_and _ _).symm | (intro h; rw [Nat.beq_eq] at h; omega) | (intro hgd; (try replace hgd := of_decide_eq_true hgd); (repeat ((conv => whnf); (with_reducible refine And.intro ?_ ?_); · first | with_reducible rfl | exact (Bool.and_false _).symm | (intro _ _; with_reducible rfl) | exact True.intro | assumption | (intro h; exact absurd h (by decide)) | omega | (intro _; omega) | (intro _; refine ⟨?_, True.intro⟩; omega) | (intro _; refine ⟨?_, True.intro⟩; intro _; omega) | (refine decide_eq_false ?_; omega) | (refine decide_eq_true ?_; omega) | (simp only [w_i64, w_u64, w_u32, w_u8]; omega) | exact fun j hj => (put_0 hj).symm | (intro j _; simp only [Nat.zero_add]; done) | (simp [appG]; done) | (simp [appG]; omega) | exact (beq_and _ _).symm | (intro h; rw [Nat.beq_eq] at h; omega))); (conv => whnf); exact True.intro))
    conv => whnf
    exact True.intro
  · replace h1 := of_decide_eq_false h1
    have hkn : k = n0 := by omega
    subst hkn
    have e3 : digest (absorb (absorb H256 (cat g k)) (rest (cat g k) ++ tail2 ((cat g k).length % 64) (BitVec.ofInt 64 ((cat g k).length : Int)))) = sha (cat g k) := by
      rw [BitVec.ofInt_natCast, tail2_eq, ← absorb_append]; rfl
    repeat ((conv => whnf); (with_reducible refine And.intro ?_ ?_); · first | exact True.intro | (intro hg0; simp only [hg0, Bool.not_false, Bool.not_true]; done) | assumption | omega | (intro _; refine ⟨True.intro, ?_⟩; omega) | (intro _; refine ⟨?_, True.intro⟩; omega) | (intro _; refine ⟨decide_eq_true ?_, ?_⟩ <;> omega) | (intro _; refine ⟨?_, ?_⟩ <;> first | omega | (simp [appG, Cd.holds]; done) | (simp [appG, Cd.holds]; omega)) | (refine decide_eq_true ?_; omega) | (intro _; omega) | (simp only [w_i64, w_u64, w_u32, w_u8]; omega) | exact ⟨U_nonneg _, U_lt32 _⟩ | exact R8_UL _ _ | exact R32_UL _ _ | (intro hg0; (repeat ((conv => whnf); (with_reducible refine And.intro ?_ ?_); · first | assumption | omega | (intro _; refine ⟨?_, ?_⟩ <;> first | assumption | omega | exact True.intro | (refine decide_eq_true ?_; omega) | (simp [appG, Cd.holds]; omega)) | (intro _; refine ⟨And.intro ?_ ?_, ?_⟩ <;> first | assumption | omega | (refine decide_eq_true ?_; omega)) | (simp only [hg0, Bool.and_self, Bool.true_and]; done) | (intro hg1; simp only [hg0, hg1, Bool.and_self, Bool.true_and]; done) | (simp [hg0]; done))); (conv => whnf); exact True.intro))
    conv => whnf
    refine ⟨[], ?_⟩
    simp only [hx1, hx2, e3]
    repeat ((conv => whnf); (with_reducible refine And.intro ?_ ?_); · first | with_reducible rfl | exact (Bool.and_false _).symm | (intro _ _; with_reducible rfl) | exact True.intro | assumption | (intro h; exact absurd h (by decide)) | omega | (intro _; omega) | (intro _; refine ⟨?_, True.intro⟩; omega) | (intro _; refine ⟨?_, True.intro⟩; intro _; omega) | (refine decide_eq_false ?_; omega) | (refine decide_eq_true ?_; omega) | (simp only [w_i64, w_u64, w_u32, w_u8]; omega) | exact fun j hj => (put_0 hj).symm | (intro j _; simp only [Nat.zero_add]; done) | (simp [appG]; done) | (simp [appG]; omega) | (intro hgd; (try replace hgd := of_decide_eq_true hgd); (repeat ((conv => whnf); (with_reducible refine And.intro ?_ ?_); · first | with_reducible rfl | exact (Bool.and_false _).symm | (intro _ _; with_reducible rfl) | exact True.intro | assumption | (intro h; exact absurd h (by decide)) | omega | (intro _; omega) | (intro _; refine ⟨?_, True.intro⟩; omega) | (intro _; refine ⟨?_, True.intro⟩; intro _; omega) | (refine decide_eq_false ?_; omega) | (refine decide_eq_true ?_; omega) | (simp only [w_i64, w_u64, w_u32, w_u8]; omega) | exact fun j hj => (put_0 hj).symm | (intro j _; simp only [Nat.zero_add]; done) | (simp [appG]; done) | (simp [appG]; omega))); (conv => whnf); exact True.intro))
    conv => whnf
    exact True.intro
end Go.Proofs.Ytogijkmflhjhkaa
