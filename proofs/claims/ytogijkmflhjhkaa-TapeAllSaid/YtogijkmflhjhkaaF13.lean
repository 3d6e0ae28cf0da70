/- Functions through the evaluator: numbers put. No condition. -/
import Derived.Test.YtogijkmflhjhkaaSxT
import Derived.Test.YtogijkmflhjhkaaSxU
import Derived.Test.YtogijkmflhjhkaaNum
import Derived.Test.YtogijkmflhjhkaaF12
namespace Go.Proofs.Ytogijkmflhjhkaa
open Go.Sx Go.RowKit
set_option linter.unusedSimpArgs false
set_option maxRecDepth 100000
set_option linter.unusedVariables false

theorem put_start {x : Int} (h0 : -9223372036854775808 ≤ x) (h1 : x ≤ 9223372036854775807) :
    (if x < 0 then bits .xor .u64 (if IntKind.u64.signed = true then -1 else IntKind.u64.max) (IntKind.u64.wrap (IntKind.u64.wrap x * 2 ^ min (Int.toNat 1) IntKind.u64.bits)) else IntKind.u64.wrap (IntKind.u64.wrap x * 2 ^ min (Int.toNat 1) IntKind.u64.bits)) = (zz x : Int) := by
  have e : min (Int.toNat 1) IntKind.u64.bits = 1 := rfl
  rw [e]
  unfold zz
  split
  · rw [show (if IntKind.u64.signed = true then -1 else IntKind.u64.max) = (18446744073709551615 : Int) by decide, xor_u64 (by simp only [w_u64]; omega) (by simp only [w_u64]; omega)]
    simp only [w_u64]
    omega
  · simp only [w_u64]
    omega
theorem app1f {f g : Nat → Int} {m : Nat} {b : B8} (hf : R8 f m) (hz : g 0 = U b) (j : Nat) (hj : j < m + 1) : UL (L8 f m ++ [b]) j = put_ f m 1 g j := by
  rw [app1 (L8_length f m).symm hz j hj]
  simp only [put_]
  split
  · rfl
  · exact UL_L8 hf j (by omega)
theorem byte_u {u : Nat} (h : u < 2 ^ 64) : bits .or .u8 (IntKind.u8.wrap (u : Int)) 128 = U (BitVec.ofNat 8 (u % 128 + 128)) := by
  rw [w_u8, show ((u : Int) % 256) = ((u % 256 : Nat) : Int) by omega, or8_128 (by omega)]
  unfold U
  rw [BitVec.toNat_ofNat]
  omega
theorem byte_v (u : Nat) : IntKind.u8.wrap (u : Int) = U (BitVec.ofNat 8 u) := by
  rw [w_u8]; unfold U; rw [BitVec.toNat_ofNat]; omega
theorem sh7 : min (Int.toNat 7) IntKind.u64.bits = 7 := rfl
/-- num.Put. -/
def putS : Summary := mkS false [.a 5 .u8, .v] fun
  | [.a nl f n, .v (.sc (.int .i64 x))] => some ⟨.and (.p (R8 f n)) (.and (.p (n ≤ 1000000)) (.p (-9223372036854775808 ≤ x ∧ x ≤ 9223372036854775807))),
      some (.sa (.sc (ownA false (n + (putL x).length) 1))), [(0, .dead), (1, ownB 5 .u8 (UL (L8 f n ++ putL x)) (n + (putL x).length))], 2⟩
  | _ => none
theorem putS_ok : SumOk Try.prog 71 putS := by
  unfold putS
  apply sum_ok
  intro vs A H n o r hb h
  split at h
  rotate_left
  · cases h
  rename_i nl f n0 x
  injection h with h
  subst h
  cases hb
  refine fsound_of_run tt_ok cok_nil mixed_ok Try.call71 Try.func71 rfl (rs := _) Try.results71 (size := 28) Try.ntmps71 (Nat.le_of_ble_eq_true rfl) rfl fun hp hfa hfh => ?_
  obtain ⟨hf, hn, hx⟩ := hp
  have hf : R8 f n0 := hf
  have hn : n0 ≤ 1000000 := hn
  have hx : -9223372036854775808 ≤ x ∧ x ≤ 9223372036854775807 := hx
  have hnl : nl = true → n0 = 0 := hfa.1.1
  have hs := put_start hx.1 hx.2
  have hz := zz_lt hx.1 hx.2
  have e64 : (2 : Nat) ^ 64 = 18446744073709551616 := by decide
  have h10 := putL_le hx.1 hx.2
  repeat ((conv => whnf); (with_reducible refine And.intro ?_ ?_); · first | exact True.intro | (intro hg0; simp only [hg0, Bool.not_false, Bool.not_true]; done) | assumption | omega | (intro _; refine ⟨True.intro, ?_⟩; omega) | (intro _; refine ⟨?_, True.intro⟩; omega) | (intro _; refine ⟨decide_eq_true ?_, ?_⟩ <;> omega) | (intro _; refine ⟨?_, ?_⟩ <;> first | omega | (simp [appG, Cd.holds]; done) | (simp [appG, Cd.holds]; omega)) | (refine decide_eq_true ?_; omega) | (intro _; omega) | (simp only [w_i64, w_u64, w_u32, w_u8]; omega) | exact ⟨U_nonneg _, U_lt32 _⟩ | exact R8_UL _ _ | exact R32_UL _ _ | (intro hg0; (repeat ((conv => whnf); (with_reducible refine And.intro ?_ ?_); · first | assumption | omega | (intro _; refine ⟨?_, ?_⟩ <;> first | assumption | omega | exact True.intro | (refine decide_eq_true ?_; omega) | (simp [appG, Cd.holds]; omega)) | (intro _; refine ⟨And.intro ?_ ?_, ?_⟩ <;> first | assumption | omega | (refine decide_eq_true ?_; omega)) | (simp only [hg0, Bool.and_self, Bool.true_and]; done) | (intro hg1; simp only [hg0, hg1, Bool.and_self, Bool.true_and]; done) | (simp [hg0]; done))); (conv => whnf); exact True.intro))
  conv => whnf
  refine ⟨fun h1 => ?_, fun h1 => ?_⟩
  all_goals
    first | (rw [if_pos (of_decide_eq_true h1)] at hs) | (rw [if_neg (of_decide_eq_false h1)] at hs)
    repeat ((conv => whnf); (with_reducible refine And.intro ?_ ?_); · first | exact True.intro | (intro hg0; simp only [hg0, Bool.not_false, Bool.not_true]; done) | assumption | omega | (intro _; refine ⟨True.intro, ?_⟩; omega) | (intro _; refine ⟨?_, True.intro⟩; omega) | (intro _; refine ⟨decide_eq_true ?_, ?_⟩ <;> omega) | (intro _; refine ⟨?_, ?_⟩ <;> first | omega | (simp [appG, Cd.holds]; done) | (simp [appG, Cd.holds]; omega)) | (refine decide_eq_true ?_; omega) | (intro _; omega) | (simp only [w_i64, w_u64, w_u32, w_u8]; omega) | exact ⟨U_nonneg _, U_lt32 _⟩ | exact R8_UL _ _ | exact R32_UL _ _ | (intro hg0; (repeat ((conv => whnf); (with_reducible refine And.intro ?_ ?_); · first | assumption | omega | (intro _; refine ⟨?_, ?_⟩ <;> first | assumption | omega | exact True.intro | (refine decide_eq_true ?_; omega) | (simp [appG, Cd.holds]; omega)) | (intro _; refine ⟨And.intro ?_ ?_, ?_⟩ <;> first | assumption | omega | (refine decide_eq_true ?_; omega)) | (simp only [hg0, Bool.and_self, Bool.true_and]; done) | (intro hg1; simp only [hg0, hg1, Bool.and_self, Bool.true_and]; done) | (simp [hg0]; done))); (conv => whnf); exact True.intro))
    conv => whnf
    refine ⟨1, ?_⟩
    repeat ((conv => whnf); (with_reducible refine And.intro ?_ ?_); · first | exact True.intro | (intro hg0; simp only [hg0, Bool.not_false, Bool.not_true]; done) | assumption | omega | (intro _; refine ⟨True.intro, ?_⟩; omega) | (intro _; refine ⟨?_, True.intro⟩; omega) | (intro _; refine ⟨decide_eq_true ?_, ?_⟩ <;> omega) | (intro _; refine ⟨?_, ?_⟩ <;> first | omega | (simp [appG, Cd.holds]; done) | (simp [appG, Cd.holds]; omega)) | (refine decide_eq_true ?_; omega) | (intro _; omega) | (simp only [w_i64, w_u64, w_u32, w_u8]; omega) | exact ⟨U_nonneg _, U_lt32 _⟩ | exact R8_UL _ _ | exact R32_UL _ _ | (intro hg0; (repeat ((conv => whnf); (with_reducible refine And.intro ?_ ?_); · first | assumption | omega | (intro _; refine ⟨?_, ?_⟩ <;> first | assumption | omega | exact True.intro | (refine decide_eq_true ?_; omega) | (simp [appG, Cd.holds]; omega)) | (intro _; refine ⟨And.intro ?_ ?_, ?_⟩ <;> first | assumption | omega | (refine decide_eq_true ?_; omega)) | (simp only [hg0, Bool.and_self, Bool.true_and]; done) | (intro hg1; simp only [hg0, hg1, Bool.and_self, Bool.true_and]; done) | (simp [hg0]; done))); (conv => whnf); exact True.intro))
    conv => whnf
    refine ⟨fun h2 => ?_, fun h2 => ?_⟩
    · replace h2 := of_decide_eq_true h2
      rw [hs] at h2
      repeat ((conv => whnf); (with_reducible refine And.intro ?_ ?_); · first | exact True.intro | (intro hg0; simp only [hg0, Bool.not_false, Bool.not_true]; done) | assumption | omega | (intro _; refine ⟨True.intro, ?_⟩; omega) | (intro _; refine ⟨?_, True.intro⟩; omega) | (intro _; refine ⟨decide_eq_true ?_, ?_⟩ <;> omega) | (intro _; refine ⟨?_, ?_⟩ <;> first | omega | (simp [appG, Cd.holds]; done) | (simp [appG, Cd.holds]; omega)) | (refine decide_eq_true ?_; omega) | (intro _; omega) | (simp only [w_i64, w_u64, w_u32, w_u8]; omega) | exact ⟨U_nonneg _, U_lt32 _⟩ | exact R8_UL _ _ | exact R32_UL _ _ | (intro hg0; (repeat ((conv => whnf); (with_reducible refine And.intro ?_ ?_); · first | assumption | omega | (intro _; refine ⟨?_, ?_⟩ <;> first | assumption | omega | exact True.intro | (refine decide_eq_true ?_; omega) | (simp [appG, Cd.holds]; omega)) | (intro _; refine ⟨And.intro ?_ ?_, ?_⟩ <;> first | assumption | omega | (refine decide_eq_true ?_; omega)) | (simp only [hg0, Bool.and_self, Bool.true_and]; done) | (intro hg1; simp only [hg0, hg1, Bool.and_self, Bool.true_and]; done) | (simp [hg0]; done))); (conv => whnf); exact True.intro))
      conv => whnf
      refine ⟨List B8 × Nat, fun e => ⟨28, [(0, .sa (.sc (ownA false (n0 + e.1.length) 1))), (5, .sa (.sc (.int .u64 e.2)))],
        [(0, .dead), (1, ownB 5 .u8 (UL (L8 f n0 ++ e.1)) (n0 + e.1.length))], 2⟩, fun e => e.1 ++ putN e.2 = putL x ∧ e.2 < 2 ^ 64, fun e => e.2,
        ⟨([BitVec.ofNat 8 (zz x % 128 + 128)], zz x / 128), ⟨?_, ?_⟩, le_of [(1, 2)] ?_⟩, fun e he => ?_⟩
      · show [_] ++ putN (zz x / 128) = putN (zz x)
        rw [putN_ge (by omega : ¬ zz x < 128)]
        rfl
      · show zz x / 128 < 2 ^ 64
        omega
      · simp only [hs]
        repeat ((conv => whnf); (with_reducible refine And.intro ?_ ?_); · first | with_reducible rfl | exact (Bool.and_false _).symm | (intro _ _; with_reducible rfl) | exact True.intro | assumption | (intro h; exact absurd h (by decide)) | omega | (intro _; omega) | (intro _; refine ⟨?_, True.intro⟩; omega) | (intro _; refine ⟨?_, True.intro⟩; intro _; omega) | (refine decide_eq_false ?_; omega) | (refine decide_eq_true ?_; omega) | (simp only [w_i64, w_u64, w_u32, w_u8]; omega) | exact fun j hj => (put_0 hj).symm | (intro j _; simp only [Nat.zero_add]; done) | (simp [appG]; done) | (simp [appG]; omega) | exact app1f hf (byte_u hz) | (rw [sh7]; omega) | (intro hgd; (try replace hgd := of_decide_eq_true hgd); (repeat ((conv => whnf); (with_reducible refine And.intro ?_ ?_); · first | with_reducible rfl | exact (Bool.and_false _).symm | (intro _ _; with_reducible rfl) | exact True.intro | assumption | (intro h; exact absurd h (by decide)) | omega | (intro _; omega) | (intro _; refine ⟨?_, True.intro⟩; omega) | (intro _; refine ⟨?_, True.intro⟩; intro _; omega) | (refine decide_eq_false ?_; omega) | (refine decide_eq_true ?_; omega) | (simp only [w_i64, w_u64, w_u32, w_u8]; omega) | exact fun j hj => (put_0 hj).symm | (intro j _; simp only [Nat.zero_add]; done) | (simp [appG]; done) | (simp [appG]; omega) | exact app1f hf (byte_u hz) | (rw [sh7]; omega))); (conv => whnf); exact True.intro))
        conv => whnf
        exact True.intro
      · obtain ⟨h3, h4⟩ := he
        have h3 : e.1 ++ putN e.2 = putL x := h3
        have h4 : e.2 < 2 ^ 64 := h4
        have hp1 := putN_pos e.2
        have hlen : e.1.length + (putN e.2).length ≤ 10 := by rw [← List.length_append, h3]; exact h10
        repeat ((conv => whnf); (with_reducible refine And.intro ?_ ?_); · first | exact True.intro | (intro hg0; simp only [hg0, Bool.not_false, Bool.not_true]; done) | assumption | omega | (intro _; refine ⟨True.intro, ?_⟩; omega) | (intro _; refine ⟨?_, True.intro⟩; omega) | (intro _; refine ⟨decide_eq_true ?_, ?_⟩ <;> omega) | (intro _; refine ⟨?_, ?_⟩ <;> first | omega | (simp [appG, Cd.holds]; done) | (simp [appG, Cd.holds]; omega)) | (refine decide_eq_true ?_; omega) | (intro _; omega) | (simp only [w_i64, w_u64, w_u32, w_u8]; omega) | exact ⟨U_nonneg _, U_lt32 _⟩ | exact R8_UL _ _ | exact R32_UL _ _ | (intro hg0; (repeat ((conv => whnf); (with_reducible refine And.intro ?_ ?_); · first | assumption | omega | (intro _; refine ⟨?_, ?_⟩ <;> first | assumption | omega | exact True.intro | (refine decide_eq_true ?_; omega) | (simp [appG, Cd.holds]; omega)) | (intro _; refine ⟨And.intro ?_ ?_, ?_⟩ <;> first | assumption | omega | (refine decide_eq_true ?_; omega)) | (simp only [hg0, Bool.and_self, Bool.true_and]; done) | (intro hg1; simp only [hg0, hg1, Bool.and_self, Bool.true_and]; done) | (simp [hg0]; done))); (conv => whnf); exact True.intro))
        conv => whnf
        refine ⟨fun h5 => ?_, fun h5 => ?_⟩
        · replace h5 := of_decide_eq_true h5
          repeat ((conv => whnf); (with_reducible refine And.intro ?_ ?_); · first | exact True.intro | (intro hg0; simp only [hg0, Bool.not_false, Bool.not_true]; done) | assumption | omega | (intro _; refine ⟨True.intro, ?_⟩; omega) | (intro _; refine ⟨?_, True.intro⟩; omega) | (intro _; refine ⟨decide_eq_true ?_, ?_⟩ <;> omega) | (intro _; refine ⟨?_, ?_⟩ <;> first | omega | (simp [appG, Cd.holds]; done) | (simp [appG, Cd.holds]; omega)) | (refine decide_eq_true ?_; omega) | (intro _; omega) | (simp only [w_i64, w_u64, w_u32, w_u8]; omega) | exact ⟨U_nonneg _, U_lt32 _⟩ | exact R8_UL _ _ | exact R32_UL _ _ | (intro hg0; (repeat ((conv => whnf); (with_reducible refine And.intro ?_ ?_); · first | assumption | omega | (intro _; refine ⟨?_, ?_⟩ <;> first | assumption | omega | exact True.intro | (refine decide_eq_true ?_; omega) | (simp [appG, Cd.holds]; omega)) | (intro _; refine ⟨And.intro ?_ ?_, ?_⟩ <;> first | assumption | omega | (refine decide_eq_true ?_; omega)) | (simp only [hg0, Bool.and_self, Bool.true_and]; done) | (intro hg1; simp only [hg0, hg1, Bool.and_self, Bool.true_and]; done) | (simp [hg0]; done))); (conv => whnf); exact True.intro))
          conv => whnf
          refine ⟨(e.1 ++ [BitVec.ofNat 8 (e.2 % 128 + 128)], e.2 / 128), ⟨⟨?_, ?_⟩, ?_⟩, le_of [(1, 3)] ?_⟩
          · show (e.1 ++ [_]) ++ putN (e.2 / 128) = putL x
            rw [← h3, putN_ge (by omega : ¬ e.2 < 128)]
            simp
          · show e.2 / 128 < 2 ^ 64
            omega
          · show e.2 / 128 < e.2
            omega
          · simp only [List.length_append, List.length_singleton, ← List.append_assoc, ← Nat.add_assoc]
            repeat ((conv => whnf); (with_reducible refine And.intro ?_ ?_); · first | with_reducible rfl | exact (Bool.and_false _).symm | (intro _ _; with_reducible rfl) | exact True.intro | assumption | (intro h; exact absurd h (by decide)) | omega | (intro _; omega) | (intro _; refine ⟨?_, True.intro⟩; omega) | (intro _; refine ⟨?_, True.intro⟩; intro _; omega) | (refine decide_eq_false ?_; omega) | (refine decide_eq_true ?_; omega) | (simp only [w_i64, w_u64, w_u32, w_u8]; omega) | exact fun j hj => (put_0 hj).symm | (intro j _; simp only [Nat.zero_add]; done) | (simp [appG]; done) | (simp [appG]; omega) | exact app1 (by rw [List.length_append, L8_length]) (byte_u h4) | (rw [sh7]; omega) | (intro hgd; (try replace hgd := of_decide_eq_true hgd); (repeat ((conv => whnf); (with_reducible refine And.intro ?_ ?_); · first | with_reducible rfl | exact (Bool.and_false _).symm | (intro _ _; with_reducible rfl) | exact True.intro | assumption | (intro h; exact absurd h (by decide)) | omega | (intro _; omega) | (intro _; refine ⟨?_, True.intro⟩; omega) | (intro _; refine ⟨?_, True.intro⟩; intro _; omega) | (refine decide_eq_false ?_; omega) | (refine decide_eq_true ?_; omega) | (simp only [w_i64, w_u64, w_u32, w_u8]; omega) | exact fun j hj => (put_0 hj).symm | (intro j _; simp only [Nat.zero_add]; done) | (simp [appG]; done) | (simp [appG]; omega) | exact app1 (by rw [List.length_append, L8_length]) (byte_u h4) | (rw [sh7]; omega))); (conv => whnf); exact True.intro))
            conv => whnf
            exact True.intro
        · replace h5 := of_decide_eq_false h5
          have hl : putL x = e.1 ++ [BitVec.ofNat 8 e.2] := by rw [← h3, putN_lt (by omega : e.2 < 128)]
          repeat ((conv => whnf); (with_reducible refine And.intro ?_ ?_); · first | exact True.intro | (intro hg0; simp only [hg0, Bool.not_false, Bool.not_true]; done) | assumption | omega | (intro _; refine ⟨True.intro, ?_⟩; omega) | (intro _; refine ⟨?_, True.intro⟩; omega) | (intro _; refine ⟨decide_eq_true ?_, ?_⟩ <;> omega) | (intro _; refine ⟨?_, ?_⟩ <;> first | omega | (simp [appG, Cd.holds]; done) | (simp [appG, Cd.holds]; omega)) | (refine decide_eq_true ?_; omega) | (intro _; omega) | (simp only [w_i64, w_u64, w_u32, w_u8]; omega) | exact ⟨U_nonneg _, U_lt32 _⟩ | exact R8_UL _ _ | exact R32_UL _ _ | (intro hg0; (repeat ((conv => whnf); (with_reducible refine And.intro ?_ ?_); · first | assumption | omega | (intro _; refine ⟨?_, ?_⟩ <;> first | assumption | omega | exact True.intro | (refine decide_eq_true ?_; omega) | (simp [appG, Cd.holds]; omega)) | (intro _; refine ⟨And.intro ?_ ?_, ?_⟩ <;> first | assumption | omega | (refine decide_eq_true ?_; omega)) | (simp only [hg0, Bool.and_self, Bool.true_and]; done) | (intro hg1; simp only [hg0, hg1, Bool.and_self, Bool.true_and]; done) | (simp [hg0]; done))); (conv => whnf); exact True.intro))
          conv => whnf
          refine ⟨[(1, 3)], ?_⟩
          simp only [hl, List.length_append, List.length_singleton, ← List.append_assoc, ← Nat.add_assoc]
          repeat ((conv => whnf); (with_reducible refine And.intro ?_ ?_); · first | with_reducible rfl | exact (Bool.and_false _).symm | (intro _ _; with_reducible rfl) | exact True.intro | assumption | (intro h; exact absurd h (by decide)) | omega | (intro _; omega) | (intro _; refine ⟨?_, True.intro⟩; omega) | (intro _; refine ⟨?_, True.intro⟩; intro _; omega) | (refine decide_eq_false ?_; omega) | (refine decide_eq_true ?_; omega) | (simp only [w_i64, w_u64, w_u32, w_u8]; omega) | exact fun j hj => (put_0 hj).symm | (intro j _; simp only [Nat.zero_add]; done) | (simp [appG]; done) | (simp [appG]; omega) | exact app1 (by rw [List.length_append, L8_length]) (byte_v _) | (intro hgd; (try replace hgd := of_decide_eq_true hgd); (repeat ((conv => whnf); (with_reducible refine And.intro ?_ ?_); · first | with_reducible rfl | exact (Bool.and_false _).symm | (intro _ _; with_reducible rfl) | exact True.intro | assumption | (intro h; exact absurd h (by decide)) | omega | (intro _; omega) | (intro _; refine ⟨?_, True.intro⟩; omega) | (intro _; refine ⟨?_, True.intro⟩; intro _; omega) | (refine decide_eq_false ?_; omega) | (refine decide_eq_true ?_; omega) | (simp only [w_i64, w_u64, w_u32, w_u8]; omega) | exact fun j hj => (put_0 hj).symm | (intro j _; simp only [Nat.zero_add]; done) | (simp [appG]; done) | (simp [appG]; omega) | exact app1 (by rw [List.length_append, L8_length]) (byte_v _))); (conv => whnf); exact True.intro))
          conv => whnf
          exact True.intro
    · replace h2 := of_decide_eq_false h2
      rw [hs] at h2
      have hl : putL x = [BitVec.ofNat 8 (zz x)] := putN_lt (by omega : zz x < 128)
      repeat ((conv => whnf); (with_reducible refine And.intro ?_ ?_); · first | exact True.intro | (intro hg0; simp only [hg0, Bool.not_false, Bool.not_true]; done) | assumption | omega | (intro _; refine ⟨True.intro, ?_⟩; omega) | (intro _; refine ⟨?_, True.intro⟩; omega) | (intro _; refine ⟨decide_eq_true ?_, ?_⟩ <;> omega) | (intro _; refine ⟨?_, ?_⟩ <;> first | omega | (simp [appG, Cd.holds]; done) | (simp [appG, Cd.holds]; omega)) | (refine decide_eq_true ?_; omega) | (intro _; omega) | (simp only [w_i64, w_u64, w_u32, w_u8]; omega) | exact ⟨U_nonneg _, U_lt32 _⟩ | exact R8_UL _ _ | exact R32_UL _ _ | (intro hg0; (repeat ((conv => whnf); (with_reducible refine And.intro ?_ ?_); · first | assumption | omega | (intro _; refine ⟨?_, ?_⟩ <;> first | assumption | omega | exact True.intro | (refine decide_eq_true ?_; omega) | (simp [appG, Cd.holds]; omega)) | (intro _; refine ⟨And.intro ?_ ?_, ?_⟩ <;> first | assumption | omega | (refine decide_eq_true ?_; omega)) | (simp only [hg0, Bool.and_self, Bool.true_and]; done) | (intro hg1; simp only [hg0, hg1, Bool.and_self, Bool.true_and]; done) | (simp [hg0]; done))); (conv => whnf); exact True.intro))
      conv => whnf
      refine ⟨[(1, 2)], ?_⟩
      simp only [hl, hs, List.length_singleton]
      repeat ((conv => whnf); (with_reducible refine And.intro ?_ ?_); · first | with_reducible rfl | exact (Bool.and_false _).symm | (intro _ _; with_reducible rfl) | exact True.intro | assumption | (intro h; exact absurd h (by decide)) | omega | (intro _; omega) | (intro _; refine ⟨?_, True.intro⟩; omega) | (intro _; refine ⟨?_, True.intro⟩; intro _; omega) | (refine decide_eq_false ?_; omega) | (refine decide_eq_true ?_; omega) | (simp only [w_i64, w_u64, w_u32, w_u8]; omega) | exact fun j hj => (put_0 hj).symm | (intro j _; simp only [Nat.zero_add]; done) | (simp [appG]; done) | (simp [appG]; omega) | exact app1f hf (byte_v _) | (intro hgd; (try replace hgd := of_decide_eq_true hgd); (repeat ((conv => whnf); (with_reducible refine And.intro ?_ ?_); · first | with_reducible rfl | exact (Bool.and_false _).symm | (intro _ _; with_reducible rfl) | exact True.intro | assumption | (intro h; exact absurd h (by decide)) | omega | (intro _; omega) | (intro _; refine ⟨?_, True.intro⟩; omega) | (intro _; refine ⟨?_, True.intro⟩; intro _; omega) | (refine decide_eq_false ?_; omega) | (refine decide_eq_true ?_; omega) | (simp only [w_i64, w_u64, w_u32, w_u8]; omega) | exact fun j hj => (put_0 hj).symm | (intro j _; simp only [Nat.zero_add]; done) | (simp [appG]; done) | (simp [appG]; omega) | exact app1f hf (byte_v _))); (conv => whnf); exact True.intro))
      conv => whnf
      exact True.intro
theorem rput_start {x : Int} (h0 : -9223372036854775808 ≤ x) (h1 : x ≤ 9223372036854775807) :
    (if x < 0 then bits .xor .u64 (if IntKind.u64.signed = true then -1 else IntKind.u64.max) (IntKind.u64.wrap (IntKind.u64.wrap x * 2)) else IntKind.u64.wrap (IntKind.u64.wrap x * 2)) = (zz x : Int) := by
  unfold zz
  split
  · rw [show (if IntKind.u64.signed = true then -1 else IntKind.u64.max) = (18446744073709551615 : Int) by decide, xor_u64 (by simp only [w_u64]; omega) (by simp only [w_u64]; omega)]
    simp only [w_u64]
    omega
  · simp only [w_u64]
    omega
theorem byte_w {u : Nat} (h : u < 2 ^ 64) : IntKind.u8.wrap (IntKind.u64.wrap (IntKind.u64.wrap ((u : Int).tmod 128 + 128))) = U (BitVec.ofNat 8 (u % 128 + 128)) := by
  rw [show ((u : Int).tmod 128) = ((u % 128 : Nat) : Int) from rfl]
  simp only [w_u8, w_u64]
  unfold U
  rw [BitVec.toNat_ofNat]
  omega
theorem byte_w' {u : Nat} : IntKind.u8.wrap (IntKind.u64.wrap ((u : Int).tmod 128 + 128)) = U (BitVec.ofNat 8 (u % 128 + 128)) := by
  rw [show ((u : Int).tmod 128) = ((u % 128 : Nat) : Int) from rfl]
  simp only [w_u8, w_u64]
  unfold U
  rw [BitVec.toNat_ofNat]
  omega
theorem quo128 {u : Nat} (h : u < 2 ^ 64) : IntKind.u64.wrap ((u : Int).tdiv 128) = ((u / 128 : Nat) : Int) := by
  rw [show ((u : Int).tdiv 128) = ((u / 128 : Nat) : Int) from rfl, w_u64]
  have e64 : (2 : Nat) ^ 64 = 18446744073709551616 := by decide
  omega
/-- indentureref1.Put. -/
def rputS : Summary := mkS false [.v] fun
  | [.v (.sc (.int .i64 x))] => some ⟨.p (-9223372036854775808 ≤ x ∧ x ≤ 9223372036854775807),
      some (.sa (.sc (ownA false (putL x).length 0))), [(0, ownB 5 .u8 (UL (putL x)) (putL x).length)], 1⟩
  | _ => none
theorem rputS_ok : SumOk Try.prog 72 rputS := by
  unfold rputS
  apply sum_ok
  intro vs A H n o r hb h
  split at h
  rotate_left
  · cases h
  rename_i x
  injection h with h
  subst h
  cases hb
  refine fsound_of_run tt_ok cok_nil mixed_ok Try.call72 Try.func72 rfl (rs := _) Try.results72 (size := 28) Try.ntmps72 (Nat.le_of_ble_eq_true rfl) rfl fun hp hfa hfh => ?_
  have hx : -9223372036854775808 ≤ x ∧ x ≤ 9223372036854775807 := hp
  have hs := rput_start hx.1 hx.2
  have hz := zz_lt hx.1 hx.2
  have e64 : (2 : Nat) ^ 64 = 18446744073709551616 := by decide
  have h10 := putL_le hx.1 hx.2
  repeat ((conv => whnf); (with_reducible refine And.intro ?_ ?_); · first | exact True.intro | (intro hg0; simp only [hg0, Bool.not_false, Bool.not_true]; done) | assumption | omega | (intro _; refine ⟨True.intro, ?_⟩; omega) | (intro _; refine ⟨?_, True.intro⟩; omega) | (intro _; refine ⟨decide_eq_true ?_, ?_⟩ <;> omega) | (intro _; refine ⟨?_, ?_⟩ <;> first | omega | (simp [appG, Cd.holds]; done) | (simp [appG, Cd.holds]; omega)) | (refine decide_eq_true ?_; omega) | (intro _; omega) | (simp only [w_i64, w_u64, w_u32, w_u8]; omega) | exact ⟨U_nonneg _, U_lt32 _⟩ | exact R8_UL _ _ | exact R32_UL _ _ | (intro hg0; (repeat ((conv => whnf); (with_reducible refine And.intro ?_ ?_); · first | assumption | omega | (intro _; refine ⟨?_, ?_⟩ <;> first | assumption | omega | exact True.intro | (refine decide_eq_true ?_; omega) | (simp [appG, Cd.holds]; omega)) | (intro _; refine ⟨And.intro ?_ ?_, ?_⟩ <;> first | assumption | omega | (refine decide_eq_true ?_; omega)) | (simp only [hg0, Bool.and_self, Bool.true_and]; done) | (intro hg1; simp only [hg0, hg1, Bool.and_self, Bool.true_and]; done) | (simp [hg0]; done))); (conv => whnf); exact True.intro))
  conv => whnf
  refine ⟨fun h1 => ?_, fun h1 => ?_⟩
  all_goals
    first | (rw [if_pos (of_decide_eq_true h1)] at hs) | (rw [if_neg (of_decide_eq_false h1)] at hs)
    repeat ((conv => whnf); (with_reducible refine And.intro ?_ ?_); · first | exact True.intro | (intro hg0; simp only [hg0, Bool.not_false, Bool.not_true]; done) | assumption | omega | (intro _; refine ⟨True.intro, ?_⟩; omega) | (intro _; refine ⟨?_, True.intro⟩; omega) | (intro _; refine ⟨decide_eq_true ?_, ?_⟩ <;> omega) | (intro _; refine ⟨?_, ?_⟩ <;> first | omega | (simp [appG, Cd.holds]; done) | (simp [appG, Cd.holds]; omega)) | (refine decide_eq_true ?_; omega) | (intro _; omega) | (simp only [w_i64, w_u64, w_u32, w_u8]; omega) | exact ⟨U_nonneg _, U_lt32 _⟩ | exact R8_UL _ _ | exact R32_UL _ _ | (intro hg0; (repeat ((conv => whnf); (with_reducible refine And.intro ?_ ?_); · first | assumption | omega | (intro _; refine ⟨?_, ?_⟩ <;> first | assumption | omega | exact True.intro | (refine decide_eq_true ?_; omega) | (simp [appG, Cd.holds]; omega)) | (intro _; refine ⟨And.intro ?_ ?_, ?_⟩ <;> first | assumption | omega | (refine decide_eq_true ?_; omega)) | (simp only [hg0, Bool.and_self, Bool.true_and]; done) | (intro hg1; simp only [hg0, hg1, Bool.and_self, Bool.true_and]; done) | (simp [hg0]; done))); (conv => whnf); exact True.intro))
    conv => whnf
    refine ⟨1, ?_⟩
    repeat ((conv => whnf); (with_reducible refine And.intro ?_ ?_); · first | exact True.intro | (intro hg0; simp only [hg0, Bool.not_false, Bool.not_true]; done) | assumption | omega | (intro _; refine ⟨True.intro, ?_⟩; omega) | (intro _; refine ⟨?_, True.intro⟩; omega) | (intro _; refine ⟨decide_eq_true ?_, ?_⟩ <;> omega) | (intro _; refine ⟨?_, ?_⟩ <;> first | omega | (simp [appG, Cd.holds]; done) | (simp [appG, Cd.holds]; omega)) | (refine decide_eq_true ?_; omega) | (intro _; omega) | (simp only [w_i64, w_u64, w_u32, w_u8]; omega) | exact ⟨U_nonneg _, U_lt32 _⟩ | exact R8_UL _ _ | exact R32_UL _ _ | (intro hg0; (repeat ((conv => whnf); (with_reducible refine And.intro ?_ ?_); · first | assumption | omega | (intro _; refine ⟨?_, ?_⟩ <;> first | assumption | omega | exact True.intro | (refine decide_eq_true ?_; omega) | (simp [appG, Cd.holds]; omega)) | (intro _; refine ⟨And.intro ?_ ?_, ?_⟩ <;> first | assumption | omega | (refine decide_eq_true ?_; omega)) | (simp only [hg0, Bool.and_self, Bool.true_and]; done) | (intro hg1; simp only [hg0, hg1, Bool.and_self, Bool.true_and]; done) | (simp [hg0]; done))); (conv => whnf); exact True.intro))
    conv => whnf
    refine ⟨fun h2 => ?_, fun h2 => ?_⟩
    · replace h2 := of_decide_eq_true h2
      rw [hs] at h2
      repeat ((conv => whnf); (with_reducible refine And.intro ?_ ?_); · first | exact True.intro | (intro hg0; simp only [hg0, Bool.not_false, Bool.not_true]; done) | assumption | omega | (intro _; refine ⟨True.intro, ?_⟩; omega) | (intro _; refine ⟨?_, True.intro⟩; omega) | (intro _; refine ⟨decide_eq_true ?_, ?_⟩ <;> omega) | (intro _; refine ⟨?_, ?_⟩ <;> first | omega | (simp [appG, Cd.holds]; done) | (simp [appG, Cd.holds]; omega)) | (refine decide_eq_true ?_; omega) | (intro _; omega) | (simp only [w_i64, w_u64, w_u32, w_u8]; omega) | exact ⟨U_nonneg _, U_lt32 _⟩ | exact R8_UL _ _ | exact R32_UL _ _ | (intro hg0; (repeat ((conv => whnf); (with_reducible refine And.intro ?_ ?_); · first | assumption | omega | (intro _; refine ⟨?_, ?_⟩ <;> first | assumption | omega | exact True.intro | (refine decide_eq_true ?_; omega) | (simp [appG, Cd.holds]; omega)) | (intro _; refine ⟨And.intro ?_ ?_, ?_⟩ <;> first | assumption | omega | (refine decide_eq_true ?_; omega)) | (simp only [hg0, Bool.and_self, Bool.true_and]; done) | (intro hg1; simp only [hg0, hg1, Bool.and_self, Bool.true_and]; done) | (simp [hg0]; done))); (conv => whnf); exact True.intro))
      conv => whnf
      refine ⟨List B8 × Nat, fun e => ⟨28, [(4, .sa (.sc (ownA false e.1.length 0))), (3, .sa (.sc (.int .u64 e.2)))],
        [(0, ownB 5 .u8 (UL e.1) e.1.length)], 1⟩, fun e => e.1 ++ putN e.2 = putL x ∧ e.2 < 2 ^ 64, fun e => e.2,
        ⟨([BitVec.ofNat 8 (zz x % 128 + 128)], zz x / 128), ⟨?_, ?_⟩, le_of [(0, 1)] ?_⟩, fun e he => ?_⟩
      · show [_] ++ putN (zz x / 128) = putN (zz x)
        rw [putN_ge (by omega : ¬ zz x < 128)]
        rfl
      · show zz x / 128 < 2 ^ 64
        omega
      · simp only [hs, quo128 hz]
        repeat ((conv => whnf); (with_reducible refine And.intro ?_ ?_); · first | with_reducible rfl | exact (Bool.and_false _).symm | (intro _ _; with_reducible rfl) | exact True.intro | assumption | (intro h; exact absurd h (by decide)) | omega | (intro _; omega) | (intro _; refine ⟨?_, True.intro⟩; omega) | (intro _; refine ⟨?_, True.intro⟩; intro _; omega) | (refine decide_eq_false ?_; omega) | (refine decide_eq_true ?_; omega) | (simp only [w_i64, w_u64, w_u32, w_u8]; omega) | exact fun j hj => (put_0 hj).symm | (intro j _; simp only [Nat.zero_add]; done) | (simp [appG]; done) | (simp [appG]; omega) | exact app1 (l := []) rfl byte_w' | (intro hgd; (try replace hgd := of_decide_eq_true hgd); (repeat ((conv => whnf); (with_reducible refine And.intro ?_ ?_); · first | with_reducible rfl | exact (Bool.and_false _).symm | (intro _ _; with_reducible rfl) | exact True.intro | assumption | (intro h; exact absurd h (by decide)) | omega | (intro _; omega) | (intro _; refine ⟨?_, True.intro⟩; omega) | (intro _; refine ⟨?_, True.intro⟩; intro _; omega) | (refine decide_eq_false ?_; omega) | (refine decide_eq_true ?_; omega) | (simp only [w_i64, w_u64, w_u32, w_u8]; omega) | exact fun j hj => (put_0 hj).symm | (intro j _; simp only [Nat.zero_add]; done) | (simp [appG]; done) | (simp [appG]; omega) | exact app1 (l := []) rfl byte_w')); (conv => whnf); exact True.intro))
        conv => whnf
        exact True.intro
      · obtain ⟨h3, h4⟩ := he
        have h3 : e.1 ++ putN e.2 = putL x := h3
        have h4 : e.2 < 2 ^ 64 := h4
        have hp1 := putN_pos e.2
        have hlen : e.1.length + (putN e.2).length ≤ 10 := by rw [← List.length_append, h3]; exact h10
        repeat ((conv => whnf); (with_reducible refine And.intro ?_ ?_); · first | exact True.intro | (intro hg0; simp only [hg0, Bool.not_false, Bool.not_true]; done) | assumption | omega | (intro _; refine ⟨True.intro, ?_⟩; omega) | (intro _; refine ⟨?_, True.intro⟩; omega) | (intro _; refine ⟨decide_eq_true ?_, ?_⟩ <;> omega) | (intro _; refine ⟨?_, ?_⟩ <;> first | omega | (simp [appG, Cd.holds]; done) | (simp [appG, Cd.holds]; omega)) | (refine decide_eq_true ?_; omega) | (intro _; omega) | (simp only [w_i64, w_u64, w_u32, w_u8]; omega) | exact ⟨U_nonneg _, U_lt32 _⟩ | exact R8_UL _ _ | exact R32_UL _ _ | (intro hg0; (repeat ((conv => whnf); (with_reducible refine And.intro ?_ ?_); · first | assumption | omega | (intro _; refine ⟨?_, ?_⟩ <;> first | assumption | omega | exact True.intro | (refine decide_eq_true ?_; omega) | (simp [appG, Cd.holds]; omega)) | (intro _; refine ⟨And.intro ?_ ?_, ?_⟩ <;> first | assumption | omega | (refine decide_eq_true ?_; omega)) | (simp only [hg0, Bool.and_self, Bool.true_and]; done) | (intro hg1; simp only [hg0, hg1, Bool.and_self, Bool.true_and]; done) | (simp [hg0]; done))); (conv => whnf); exact True.intro))
        conv => whnf
        refine ⟨fun h5 => ?_, fun h5 => ?_⟩
        · replace h5 := of_decide_eq_true h5
          repeat ((conv => whnf); (with_reducible refine And.intro ?_ ?_); · first | exact True.intro | (intro hg0; simp only [hg0, Bool.not_false, Bool.not_true]; done) | assumption | omega | (intro _; refine ⟨True.intro, ?_⟩; omega) | (intro _; refine ⟨?_, True.intro⟩; omega) | (intro _; refine ⟨decide_eq_true ?_, ?_⟩ <;> omega) | (intro _; refine ⟨?_, ?_⟩ <;> first | omega | (simp [appG, Cd.holds]; done) | (simp [appG, Cd.holds]; omega)) | (refine decide_eq_true ?_; omega) | (intro _; omega) | (simp only [w_i64, w_u64, w_u32, w_u8]; omega) | exact ⟨U_nonneg _, U_lt32 _⟩ | exact R8_UL _ _ | exact R32_UL _ _ | (intro hg0; (repeat ((conv => whnf); (with_reducible refine And.intro ?_ ?_); · first | assumption | omega | (intro _; refine ⟨?_, ?_⟩ <;> first | assumption | omega | exact True.intro | (refine decide_eq_true ?_; omega) | (simp [appG, Cd.holds]; omega)) | (intro _; refine ⟨And.intro ?_ ?_, ?_⟩ <;> first | assumption | omega | (refine decide_eq_true ?_; omega)) | (simp only [hg0, Bool.and_self, Bool.true_and]; done) | (intro hg1; simp only [hg0, hg1, Bool.and_self, Bool.true_and]; done) | (simp [hg0]; done))); (conv => whnf); exact True.intro))
          conv => whnf
          refine ⟨(e.1 ++ [BitVec.ofNat 8 (e.2 % 128 + 128)], e.2 / 128), ⟨⟨?_, ?_⟩, ?_⟩, le_of [(0, 2)] ?_⟩
          · show (e.1 ++ [_]) ++ putN (e.2 / 128) = putL x
            rw [← h3, putN_ge (by omega : ¬ e.2 < 128)]
            simp
          · show e.2 / 128 < 2 ^ 64
            omega
          · show e.2 / 128 < e.2
            omega
          · simp only [List.length_append, List.length_singleton, quo128 h4]
            repeat ((conv => whnf); (with_reducible refine And.intro ?_ ?_); · first | with_reducible rfl | exact (Bool.and_false _).symm | (intro _ _; with_reducible rfl) | exact True.intro | assumption | (intro h; exact absurd h (by decide)) | omega | (intro _; omega) | (intro _; refine ⟨?_, True.intro⟩; omega) | (intro _; refine ⟨?_, True.intro⟩; intro _; omega) | (refine decide_eq_false ?_; omega) | (refine decide_eq_true ?_; omega) | (simp only [w_i64, w_u64, w_u32, w_u8]; omega) | exact fun j hj => (put_0 hj).symm | (intro j _; simp only [Nat.zero_add]; done) | (simp [appG]; done) | (simp [appG]; omega) | exact app1 rfl byte_w' | (intro hgd; (try replace hgd := of_decide_eq_true hgd); (repeat ((conv => whnf); (with_reducible refine And.intro ?_ ?_); · first | with_reducible rfl | exact (Bool.and_false _).symm | (intro _ _; with_reducible rfl) | exact True.intro | assumption | (intro h; exact absurd h (by decide)) | omega | (intro _; omega) | (intro _; refine ⟨?_, True.intro⟩; omega) | (intro _; refine ⟨?_, True.intro⟩; intro _; omega) | (refine decide_eq_false ?_; omega) | (refine decide_eq_true ?_; omega) | (simp only [w_i64, w_u64, w_u32, w_u8]; omega) | exact fun j hj => (put_0 hj).symm | (intro j _; simp only [Nat.zero_add]; done) | (simp [appG]; done) | (simp [appG]; omega) | exact app1 rfl byte_w')); (conv => whnf); exact True.intro))
            conv => whnf
            exact True.intro
        · replace h5 := of_decide_eq_false h5
          have hl : putL x = e.1 ++ [BitVec.ofNat 8 e.2] := by rw [← h3, putN_lt (by omega : e.2 < 128)]
          repeat ((conv => whnf); (with_reducible refine And.intro ?_ ?_); · first | exact True.intro | (intro hg0; simp only [hg0, Bool.not_false, Bool.not_true]; done) | assumption | omega | (intro _; refine ⟨True.intro, ?_⟩; omega) | (intro _; refine ⟨?_, True.intro⟩; omega) | (intro _; refine ⟨decide_eq_true ?_, ?_⟩ <;> omega) | (intro _; refine ⟨?_, ?_⟩ <;> first | omega | (simp [appG, Cd.holds]; done) | (simp [appG, Cd.holds]; omega)) | (refine decide_eq_true ?_; omega) | (intro _; omega) | (simp only [w_i64, w_u64, w_u32, w_u8]; omega) | exact ⟨U_nonneg _, U_lt32 _⟩ | exact R8_UL _ _ | exact R32_UL _ _ | (intro hg0; (repeat ((conv => whnf); (with_reducible refine And.intro ?_ ?_); · first | assumption | omega | (intro _; refine ⟨?_, ?_⟩ <;> first | assumption | omega | exact True.intro | (refine decide_eq_true ?_; omega) | (simp [appG, Cd.holds]; omega)) | (intro _; refine ⟨And.intro ?_ ?_, ?_⟩ <;> first | assumption | omega | (refine decide_eq_true ?_; omega)) | (simp only [hg0, Bool.and_self, Bool.true_and]; done) | (intro hg1; simp only [hg0, hg1, Bool.and_self, Bool.true_and]; done) | (simp [hg0]; done))); (conv => whnf); exact True.intro))
          conv => whnf
          refine ⟨[(0, 2)], ?_⟩
          simp only [hl, List.length_append, List.length_singleton]
          repeat ((conv => whnf); (with_reducible refine And.intro ?_ ?_); · first | with_reducible rfl | exact (Bool.and_false _).symm | (intro _ _; with_reducible rfl) | exact True.intro | assumption | (intro h; exact absurd h (by decide)) | omega | (intro _; omega) | (intro _; refine ⟨?_, True.intro⟩; omega) | (intro _; refine ⟨?_, True.intro⟩; intro _; omega) | (refine decide_eq_false ?_; omega) | (refine decide_eq_true ?_; omega) | (simp only [w_i64, w_u64, w_u32, w_u8]; omega) | exact fun j hj => (put_0 hj).symm | (intro j _; simp only [Nat.zero_add]; done) | (simp [appG]; done) | (simp [appG]; omega) | exact app1 rfl (byte_v _) | (intro hgd; (try replace hgd := of_decide_eq_true hgd); (repeat ((conv => whnf); (with_reducible refine And.intro ?_ ?_); · first | with_reducible rfl | exact (Bool.and_false _).symm | (intro _ _; with_reducible rfl) | exact True.intro | assumption | (intro h; exact absurd h (by decide)) | omega | (intro _; omega) | (intro _; refine ⟨?_, True.intro⟩; omega) | (intro _; refine ⟨?_, True.intro⟩; intro _; omega) | (refine decide_eq_false ?_; omega) | (refine decide_eq_true ?_; omega) | (simp only [w_i64, w_u64, w_u32, w_u8]; omega) | exact fun j hj => (put_0 hj).symm | (intro j _; simp only [Nat.zero_add]; done) | (simp [appG]; done) | (simp [appG]; omega) | exact app1 rfl (byte_v _))); (conv => whnf); exact True.intro))
          conv => whnf
          exact True.intro
    · replace h2 := of_decide_eq_false h2
      rw [hs] at h2
      have hl : putL x = [BitVec.ofNat 8 (zz x)] := putN_lt (by omega : zz x < 128)
      repeat ((conv => whnf); (with_reducible refine And.intro ?_ ?_); · first | exact True.intro | (intro hg0; simp only [hg0, Bool.not_false, Bool.not_true]; done) | assumption | omega | (intro _; refine ⟨True.intro, ?_⟩; omega) | (intro _; refine ⟨?_, True.intro⟩; omega) | (intro _; refine ⟨decide_eq_true ?_, ?_⟩ <;> omega) | (intro _; refine ⟨?_, ?_⟩ <;> first | omega | (simp [appG, Cd.holds]; done) | (simp [appG, Cd.holds]; omega)) | (refine decide_eq_true ?_; omega) | (intro _; omega) | (simp only [w_i64, w_u64, w_u32, w_u8]; omega) | exact ⟨U_nonneg _, U_lt32 _⟩ | exact R8_UL _ _ | exact R32_UL _ _ | (intro hg0; (repeat ((conv => whnf); (with_reducible refine And.intro ?_ ?_); · first | assumption | omega | (intro _; refine ⟨?_, ?_⟩ <;> first | assumption | omega | exact True.intro | (refine decide_eq_true ?_; omega) | (simp [appG, Cd.holds]; omega)) | (intro _; refine ⟨And.intro ?_ ?_, ?_⟩ <;> first | assumption | omega | (refine decide_eq_true ?_; omega)) | (simp only [hg0, Bool.and_self, Bool.true_and]; done) | (intro hg1; simp only [hg0, hg1, Bool.and_self, Bool.true_and]; done) | (simp [hg0]; done))); (conv => whnf); exact True.intro))
      conv => whnf
      refine ⟨[(0, 1)], ?_⟩
      simp only [hl, hs, List.length_singleton]
      repeat ((conv => whnf); (with_reducible refine And.intro ?_ ?_); · first | with_reducible rfl | exact (Bool.and_false _).symm | (intro _ _; with_reducible rfl) | exact True.intro | assumption | (intro h; exact absurd h (by decide)) | omega | (intro _; omega) | (intro _; refine ⟨?_, True.intro⟩; omega) | (intro _; refine ⟨?_, True.intro⟩; intro _; omega) | (refine decide_eq_false ?_; omega) | (refine decide_eq_true ?_; omega) | (simp only [w_i64, w_u64, w_u32, w_u8]; omega) | exact fun j hj => (put_0 hj).symm | (intro j _; simp only [Nat.zero_add]; done) | (simp [appG]; done) | (simp [appG]; omega) | exact app1 (l := []) rfl (byte_v _) | (intro hgd; (try replace hgd := of_decide_eq_true hgd); (repeat ((conv => whnf); (with_reducible refine And.intro ?_ ?_); · first | with_reducible rfl | exact (Bool.and_false _).symm | (intro _ _; with_reducible rfl) | exact True.intro | assumption | (intro h; exact absurd h (by decide)) | omega | (intro _; omega) | (intro _; refine ⟨?_, True.intro⟩; omega) | (intro _; refine ⟨?_, True.intro⟩; intro _; omega) | (refine decide_eq_false ?_; omega) | (refine decide_eq_true ?_; omega) | (simp only [w_i64, w_u64, w_u32, w_u8]; omega) | exact fun j hj => (put_0 hj).symm | (intro j _; simp only [Nat.zero_add]; done) | (simp [appG]; done) | (simp [appG]; omega) | exact app1 (l := []) rfl (byte_v _))); (conv => whnf); exact True.intro))
      conv => whnf
      exact True.intro

end Go.Proofs.Ytogijkmflhjhkaa
