/- Many texts in one: F32, F42, Dg, F43, F44, F45, F46, F47, Aea, F2, F3, F4, F5, F6, F7, F8. No condition. -/
import Derived.Test.YtogijkmflhjhkaaKG3

/- Functions through the evaluator: bytes by ChaCha20's blocks. No condition. -/
namespace Go.Proofs.Ytogijkmflhjhkaa
open Go.Sx Go.RowKit
set_option maxRecDepth 100000
set_option maxHeartbeats 2000000
set_option linter.unusedVariables false
set_option linter.unusedSimpArgs false

theorem cok34 : COk Try.prog (tab [(55, blockS)]) := cok_cons blockS_ok cok_nil
/-- The first i bytes are out. -/
def xoF (X : List B8) (i j : Nat) : Int := if j < i then UL X j else 0
theorem xoF_step {X : List B8} {i : Nat} {v : Int} (hv : v = UL X i) (j : Nat) : xoF X (i + 1) j = upd (xoF X i) i v j := by
  unfold upd xoF
  by_cases h : j = i
  · subst h; rw [if_pos (by omega), if_pos rfl, hv]
  · rw [if_neg h]
    by_cases h2 : j < i
    · rw [if_pos (by omega), if_pos h2]
    · rw [if_neg (by omega), if_neg h2]
theorem one32 (x : BitVec 32) : IntKind.u32.wrap (U x + 1) = U (x + 1) := add32 x 1
theorem ctr_succ (C : BitVec 32) (q : Nat) : C + BitVec.ofNat 32 q + 1 = C + BitVec.ofNat 32 (q + 1) := by
  rw [BitVec.add_assoc, BitVec.ofNat_add]; rfl
theorem chXor_at {K : List B8} {C : BitVec 32} {N : List B8} {g : Nat → Int} {m q i : Nat} (hg : R8 g m) (h1 : 64 * q ≤ i) (h2 : i < 64 * q + 64) (h3 : i < m) :
    bits .xor .u8 (g i) (UL (chBlock K (C + BitVec.ofNat 32 q) N) (i - 64 * q)) = UL (chXor K C N (L8 g m)) i := by
  rw [UL_getD, UL_getD, chXor_get _ _ _ _ _ (by rw [L8_length]; exact h3), L8_get _ _ _ h3]
  unfold chKs
  rw [show i / 64 = q by omega, show i % 64 = i - 64 * q by omega]
  have e : g i = U (BitVec.ofInt 8 (g i)) := (U_ofInt8 (hg i h3).1 (hg i h3).2).symm
  rw [e, xor8, ofInt_U]
/-- chacha.Xor. -/
noncomputable def xorS : Summary := mkS false [.v, .v, .v, .r .u8] fun
  | [.v (.agg [.ints .u8 k 32]), .v (.sc (.int .u32 c)), .v (.agg [.ints .u8 n 12]), .r nl g m] => some ⟨.and (.p (R8 k 32)) (.and (.p (u32R c)) (.and (.p (R8 n 12)) (.and (.p (R8 g m)) (.p (m ≤ 100000))))),
      some (.sa (.sc (.sl false true false 0 0 0 m m))), [(0, .own 5 [.ints .u8 (UL (chXor (L8 k 32) (BitVec.ofInt 32 c) (L8 n 12) (L8 g m))) m] false)], 1⟩
  | _ => none
theorem xorS_ok : SumOk Try.prog 57 xorS := by
  unfold xorS
  apply sum_ok
  intro vs A H n o r hb h
  split at h
  rotate_left
  · cases h
  rename_i k c n nl g m
  injection h with h
  subst h
  cases hb
  refine fsound_of_run tt_ok cok34 mixed_ok Try.call57 Try.func57 rfl (rs := _) Try.results57 (size := 52) Try.ntmps57 (Nat.le_of_ble_eq_true rfl) rfl fun hp hfa hfh => ?_
  obtain ⟨hk, hc, hn, hg, hm⟩ := hp
  have hk : R8 k 32 := hk
  have hn : R8 n 12 := hn
  have hg : R8 g m := hg
  have hm : m ≤ 100000 := hm
  obtain ⟨C, rfl⟩ := u32_ex hc
  rw [ofInt_U]
  obtain ⟨K, hK⟩ : ∃ K, K = L8 k 32 := ⟨_, rfl⟩
  obtain ⟨N, hN⟩ : ∃ N, N = L8 n 12 := ⟨_, rfl⟩
  rw [← hK, ← hN]
  obtain ⟨X, hX⟩ : ∃ X, X = chXor K C N (L8 g m) := ⟨_, rfl⟩
  rw [← hX]
  repeat ((conv => whnf); (with_reducible refine And.intro ?_ ?_); · omega)
  conv => whnf
  refine ⟨0, Nat, fun q => ⟨52, [(1, .sa (.sc (.int .u32 (U (C + BitVec.ofNat 32 q))))), (3, .sa (.sc (.im nl .u8 g m))), (4, .sa (.sc (.ptr 0 0 0))), (6, .sa (.sc (.ptr 1 0 0))), (9, .sa (.sc (.sl false true false 2 0 0 m m))), (10, .sa (.sc (.int .i64 ((64 * q : Nat) : Int))))],
    [(0, .own 29 [.ints .u8 k 32] false), (1, .own 61 [.ints .u8 n 12] false), (2, .own 5 [.ints .u8 (xoF X (min (64 * q) m)) m] false)], 3⟩, fun q => 64 * q < m + 64, fun q => m + 64 - 64 * q, ⟨0, by show 64 * 0 < m + 64; omega, le_of [] ?_⟩, fun q hq => ?_⟩
  · repeat ((conv => whnf); (with_reducible refine And.intro ?_ ?_); · first | with_reducible rfl | (intro _ _; with_reducible rfl) | (intro h; exact absurd h (by decide)) | omega | (intro _; refine ⟨?_, True.intro⟩; omega) | (simp [appG]; done) | exact fun j _ => if_neg (by omega))
    conv => whnf
    exact True.intro
  have hq : 64 * q < m + 64 := hq
  repeat ((conv => whnf); (with_reducible refine And.intro ?_ ?_); · omega)
  conv => whnf
  refine ⟨fun h1 => ?_, fun h1 => ?_⟩
  · replace h1 := of_decide_eq_true h1
    have h64 : 64 * q < m := by omega
    repeat ((conv => whnf); (with_reducible refine And.intro ?_ ?_); · first | with_reducible assumption | exact ⟨U_nonneg _, U_lt32 _⟩)
    conv => whnf
    simp only [ofInt_U, ← hK, ← hN, one32, ctr_succ]
    obtain ⟨Bq, hB⟩ : ∃ Bq, Bq = chBlock K (C + BitVec.ofNat 32 q) N := ⟨_, rfl⟩
    rw [← hB]
    have w1 : IntKind.i64.wrap (((64 * q : Nat) : Int) + 64) = ((64 * q + 64 : Nat) : Int) := by rw [w_i64]; omega
    have wm : (if ((m : Nat) : Int) < ((64 * q + 64 : Nat) : Int) then ((m : Nat) : Int) else ((64 * q + 64 : Nat) : Int)) = ((min (64 * q + 64) m : Nat) : Int) := by
      split <;> omega
    refine ⟨0, Nat, fun i => ⟨52, [(1, .sa (.sc (.int .u32 (U (C + BitVec.ofNat 32 (q + 1)))))), (3, .sa (.sc (.im nl .u8 g m))), (4, .sa (.sc (.ptr 0 0 0))), (6, .sa (.sc (.ptr 1 0 0))), (9, .sa (.sc (.sl false true false 2 0 0 m m))), (10, .sa (.sc (.int .i64 ((64 * q : Nat) : Int)))), (11, .sa (.sc (.ptr 3 0 0))), (12, .sa (.sc (.int .i64 i)))],
      [(0, .own 29 [.ints .u8 k 32] false), (1, .own 61 [.ints .u8 n 12] false), (2, .own 5 [.ints .u8 (xoF X i) m] false), (3, .own 63 [.ints .u8 (UL Bq) 64] false)], 4⟩, fun i => 64 * q ≤ i ∧ i ≤ min (64 * q + 64) m, fun i => m - i, ⟨64 * q, ⟨by omega, by omega⟩, le_of [] ?_⟩, fun i hi => ?_⟩
    · simp only [show min (64 * q) m = 64 * q by omega]
      repeat ((conv => whnf); (with_reducible refine And.intro ?_ ?_); · first | with_reducible rfl | (intro _ _; with_reducible rfl) | (intro h; exact absurd h (by decide)) | (intro _; refine ⟨?_, True.intro⟩; omega))
      conv => whnf
      exact True.intro
    obtain ⟨hi1, hi2⟩ := hi
    have hi1 : 64 * q ≤ i := hi1
    have hi2 : i ≤ min (64 * q + 64) m := hi2
    repeat ((conv => whnf); (with_reducible refine And.intro ?_ ?_); · omega)
    conv => whnf
    simp only [w1, wm]
    refine ⟨fun h2 => ?_, fun h2 => ?_⟩
    · replace h2 := of_decide_eq_true h2
      have hi3 : i < 64 * q + 64 ∧ i < m := by omega
      have w2 : IntKind.i64.wrap ((i : Int) - ((64 * q : Nat) : Int)) = ((i - 64 * q : Nat) : Int) := by rw [w_i64]; omega
      refine ⟨[(0, ⟨0, some 38, []⟩), (1, ⟨0, some 39, []⟩), (2, ⟨0, some 40, []⟩), (3, ⟨0, some 41, []⟩), (4, ⟨12, some 42, []⟩), (5, ⟨28, some 43, []⟩), (6, ⟨0, some 44, []⟩), (7, ⟨0, some 45, []⟩), (8, ⟨192, some 46, []⟩), (9, ⟨448, some 47, []⟩), (10, ⟨960, some 48, []⟩), (11, ⟨2044, some 49, []⟩), (12, ⟨4095, some 50, []⟩), (13, ⟨8191, none, [2]⟩)], 228, ?_⟩
      repeat ((conv => whnf); (with_reducible refine And.intro ?_ ?_); · omega)
      conv => whnf
      refine ⟨i + 1, ⟨⟨by omega, by show i + 1 ≤ min (64 * q + 64) m; omega⟩, by show m - (i + 1) < m - i; omega⟩, le_of [] ?_⟩
      have hv := chXor_at (K := K) (C := C) (N := N) hg hi1 hi3.1 hi3.2
      rw [← hX, ← hB] at hv
      simp only [w2, Int.toNat_natCast, Nat.zero_add]
      repeat ((conv => whnf); (with_reducible refine And.intro ?_ ?_); · first | with_reducible rfl | (intro _ _; with_reducible rfl) | (intro h; exact absurd h (by decide)) | (intro _; refine ⟨?_, True.intro⟩; omega) | (simp only [w_i64, w_u64, w_u32, w_u8]; omega) | exact fun j _ => xoF_step hv j)
      conv => whnf
      exact True.intro
    · replace h2 := of_decide_eq_false h2
      have hie : i = min (64 * q + 64) m := by omega
      repeat ((conv => whnf); (with_reducible refine And.intro ?_ ?_); · omega)
      conv => whnf
      refine ⟨q + 1, ⟨by show 64 * (q + 1) < m + 64; omega, by show m + 64 - 64 * (q + 1) < m + 64 - 64 * q; omega⟩, le_of [] ?_⟩
      simp only [w1, show min (64 * (q + 1)) m = i by omega]
      repeat ((conv => whnf); (with_reducible refine And.intro ?_ ?_); · first | with_reducible rfl | (intro _ _; with_reducible rfl) | (intro h; exact absurd h (by decide)) | omega | (intro _; refine ⟨?_, True.intro⟩; omega))
      conv => whnf
      exact True.intro
  · replace h1 := of_decide_eq_false h1
    have hqm : min (64 * q) m = m := by omega
    simp only [hqm]
    repeat ((conv => whnf); (with_reducible refine And.intro ?_ ?_); · omega)
    conv => whnf
    refine ⟨[(0, 2)], ?_⟩
    repeat ((conv => whnf); (with_reducible refine And.intro ?_ ?_); · first | with_reducible rfl | (intro h; exact absurd h (by decide)) | (intro _; refine ⟨?_, True.intro⟩; omega) | (intro j hj; unfold xoF; rw [if_pos hj]))
    conv => whnf
    exact True.intro
end Go.Proofs.Ytogijkmflhjhkaa

/- Functions through the evaluator: the document's bytes by ChaCha20's blocks. No condition. -/
namespace Go.Proofs.Ytogijkmflhjhkaa
open Go.Sx Go.RowKit
set_option maxRecDepth 100000
set_option maxHeartbeats 2000000
set_option linter.unusedVariables false
set_option linter.unusedSimpArgs false

theorem cok44 : COk Try.prog (tab [(56, rblockS)]) := cok_cons rblockS_ok cok_nil
/-- What is there of the blocks before byte i is turned: turned bytes, then the block's. -/
def xoB (X : List B8) (B : Nat → Int) (i j : Nat) : Int := if j < i then UL X j else B j
/-- How many bytes are there before byte i. -/
def xoL (i m : Nat) : Nat := min (64 * ((i + 63) / 64)) m
/-- Byte j of the blocks. -/
noncomputable def ksF (K : List B8) (C : W32) (N : List B8) (j : Nat) : Int := U (chKs K C N j)
theorem ks_xor {K : List B8} {C : W32} {N : List B8} {g : Nat → Int} {m i : Nat} (hg : R8 g m) (him : i < m) : bits .xor .u8 (ksF K C N i) (g i) = UL (chXor K C N (L8 g m)) i := by
  rw [UL_getD, chXor_get _ _ _ _ _ (by rw [L8_length]; exact him), L8_get _ _ _ him]
  have e : g i = U (BitVec.ofInt 8 (g i)) := (U_ofInt8 (hg i him).1 (hg i him).2).symm
  rw [e, ofInt_U]
  unfold ksF
  rw [xor8, BitVec.xor_comm]
theorem xoB_step {X : List B8} {B P : Nat → Int} {i L : Nat} {y : Int} (hP : ∀ j, j < L → P j = xoB X B i j) (hi : i < L) (hy : bits .xor .u8 (B i) y = UL X i) (j : Nat) (hj : j < L) :
    xoB X B (i + 1) j = upd P i (bits .xor .u8 (P i) y) j := by
  have hPi : P i = B i := by rw [hP i hi]; exact if_neg (by omega)
  rw [hPi, hy]
  unfold upd
  by_cases h : j = i
  · subst h; rw [if_pos rfl]; exact if_pos (by omega)
  · rw [if_neg h, hP j hj]
    unfold xoB
    by_cases h2 : j < i
    · rw [if_pos h2, if_pos (by omega)]
    · rw [if_neg h2, if_neg (by omega)]
/-- indentureref4.Xor. -/
noncomputable def rxorS : Summary := mkS false [.v, .v, .v, .r .u8] fun
  | [.v (.agg [.ints .u8 k 32]), .v (.sc (.int .u32 c)), .v (.agg [.ints .u8 n 12]), .r nl g m] => some ⟨.and (.p (R8 k 32)) (.and (.p (u32R c)) (.and (.p (R8 n 12)) (.and (.p (R8 g m)) (.p (m ≤ 100000))))),
      some (.sa (.sc (ownA (Nat.beq m 0) m 0))), [(0, ownB 5 .u8 (UL (chXor (L8 k 32) (BitVec.ofInt 32 c) (L8 n 12) (L8 g m))) m)], 1⟩
  | _ => none
theorem rxorS_ok : SumOk Try.prog 58 rxorS := by
  unfold rxorS
  apply sum_ok
  intro vs A H n o r hb h
  split at h
  rotate_left
  · cases h
  rename_i k c n nl g m
  injection h with h
  subst h
  cases hb
  refine fsound_of_run tt_ok cok44 mixed_ok Try.call58 Try.func58 rfl (rs := _) Try.results58 (size := 46) Try.ntmps58 (Nat.le_of_ble_eq_true rfl) rfl fun hp hfa hfh => ?_
  obtain ⟨hk, hc, hn, hg, hm⟩ := hp
  have hk : R8 k 32 := hk
  have hn : R8 n 12 := hn
  have hg : R8 g m := hg
  have hm : m ≤ 100000 := hm
  obtain ⟨C, rfl⟩ := u32_ex hc
  rw [ofInt_U]
  obtain ⟨K, hK⟩ : ∃ K, K = L8 k 32 := ⟨_, rfl⟩
  obtain ⟨N, hN⟩ : ∃ N, N = L8 n 12 := ⟨_, rfl⟩
  rw [← hK, ← hN]
  obtain ⟨X, hX⟩ : ∃ X, X = chXor K C N (L8 g m) := ⟨_, rfl⟩
  rw [← hX]
  repeat ((conv => whnf); (with_reducible refine And.intro ?_ ?_); · omega)
  conv => whnf
  refine ⟨0, Nat, fun i => ⟨46, [(1, .sa (.sc (.int .u32 (U (C + BitVec.ofNat 32 ((i + 63) / 64)))))), (3, .sa (.sc (.im nl .u8 g m))), (4, .sa (.sc (.ptr 0 0 0))), (6, .sa (.sc (.ptr 1 0 0))), (9, .sa (.sc (ownA (Nat.beq (xoL i m) 0) (xoL i m) 2))), (10, .sa (.sc (.int .i64 i)))],
    [(0, .own 29 [.ints .u8 k 32] false), (1, .own 61 [.ints .u8 n 12] false), (2, ownB 5 .u8 (xoB X (ksF K C N) i) (xoL i m))], 3⟩, fun i => i ≤ m, fun i => m - i, ⟨0, by show 0 ≤ m; omega, le_of [] ?_⟩, fun i hi => ?_⟩
  · simp only [show xoL 0 m = 0 from by unfold xoL; omega, show (0 + 63) / 64 = 0 from rfl, show C + BitVec.ofNat 32 0 = C by simp]
    repeat ((conv => whnf); (with_reducible refine And.intro ?_ ?_); · first | with_reducible rfl | (intro _ _; with_reducible rfl) | (intro h; exact absurd h (by decide)) | omega | (refine decide_eq_false ?_; omega) | (simp [appG]; done))
    conv => whnf
    exact True.intro
  have hi : i ≤ m := hi
  have hb0 : Nat.beq (xoL i m) 0 = true → xoL i m = 0 := fun h => by rw [Nat.beq_eq] at h; exact h
  repeat ((conv => whnf); (with_reducible refine And.intro ?_ ?_); · omega)
  conv => whnf
  refine ⟨fun h1 => ?_, fun h1 => ?_⟩
  · replace h1 := of_decide_eq_true h1
    have him : i < m := by omega
    repeat ((conv => whnf); (with_reducible refine And.intro ?_ ?_); · omega)
    conv => whnf
    refine ⟨fun h2 => ?_, fun h2 => ?_⟩
    · have h2 := eq_of_beq h2
      have h3 : ((i : Nat) : Int).tmod 64 = ((i % 64 : Nat) : Int) := rfl
      rw [h3] at h2
      have h64 : i % 64 = 0 := by omega
      have hl0 : xoL i m = i := by unfold xoL; omega
      have hq : (i + 63) / 64 = i / 64 := by omega
      have wd : IntKind.i64.wrap ((m : Int) - (i : Int)) = ((m - i : Nat) : Int) := by rw [w_i64]; omega
      have mn : (if ((m - i : Nat) : Int) < 64 then ((m - i : Nat) : Int) else 64) = ((min (m - i) 64 : Nat) : Int) := by split <;> omega
      have hL1 : xoL (i + 1) m = i + min (m - i) 64 := by unfold xoL; omega
      repeat ((conv => whnf); (with_reducible refine And.intro ?_ ?_); · first | with_reducible assumption | omega | (intro _; refine ⟨True.intro, ?_⟩; omega) | (intro _; refine ⟨decide_eq_true ?_, ?_⟩ <;> omega) | exact ⟨U_nonneg _, U_lt32 _⟩)
      conv => whnf
      obtain ⟨Bq, hB⟩ : ∃ Bq, Bq = chBlock K (C + BitVec.ofNat 32 ((i + 63) / 64)) N := ⟨_, rfl⟩
      have hBk : ∀ j, i ≤ j → j < xoL (i + 1) m → UL Bq (j - i) = ksF K C N j := fun j hj1 hj2 => by
        rw [hL1] at hj2
        rw [hB, UL_getD]
        unfold ksF chKs
        rw [show j / 64 = (i + 63) / 64 by omega, show j % 64 = j - i by omega]
      have z0 : Int.toNat 0 = 0 := rfl
      simp only [wd, mn, Int.toNat_natCast, z0, Nat.sub_zero, Nat.zero_add, ofInt_U, ← hK, ← hN, ← hB, hl0]
      have hP : ∀ j, j < xoL (i + 1) m → put_ (xoB X (ksF K C N) i) i (min (m - i) 64) (fun j => UL Bq j) j = xoB X (ksF K C N) i j := fun j hj => by
        unfold put_
        split
        · rename_i h
          show UL Bq (j - i) = _
          rw [hBk j h.1 hj]
          unfold xoB
          rw [if_neg (by omega)]
        · rfl
      generalize hPe : put_ (xoB X (ksF K C N) i) i (min (m - i) 64) (fun j => UL Bq j) = P at hP ⊢
      have hiL : i < xoL (i + 1) m := by omega
      have hfin := xoB_step (X := X) (y := g i) hP hiL (by rw [hX]; exact ks_xor hg him)
      rw [hL1] at hfin
      refine ⟨[(0, ⟨0, some 35, []⟩), (1, ⟨0, some 36, []⟩), (2, ⟨3, some 37, []⟩), (3, ⟨7, some 38, []⟩), (4, ⟨0, some 39, []⟩), (5, ⟨0, some 40, []⟩), (6, ⟨48, some 41, []⟩), (7, ⟨112, some 42, []⟩), (8, ⟨255, some 43, []⟩), (9, ⟨511, some 44, []⟩), (10, ⟨1023, none, [4]⟩)], 181, ?_⟩
      repeat (first | ((with_reducible refine (Cd.then_iff _ _).2 (And.intro ?_ ?_)); · repeat' ((conv => arg 1; whnf); (refine Cd.holds_p ?_; omega))) | ((conv => whnf); (with_reducible refine And.intro ?_ ?_); · first | omega | (refine decide_eq_true ?_; omega)))
      conv => whnf
      refine ⟨i + 1, ⟨by show i + 1 ≤ m; omega, by show m - (i + 1) < m - i; omega⟩, le_of [(2, 4)] ?_⟩
      have hone : IntKind.u32.wrap (U (C + BitVec.ofNat 32 ((i + 63) / 64)) + 1) = U (C + BitVec.ofNat 32 ((i + 1 + 63) / 64)) := by rw [one32, ctr_succ]; congr 3; omega
      have f1 : Nat.beq (i + min (m - i) 64) 0 = false := by
        cases e : Nat.beq (i + min (m - i) 64) 0 with
        | false => rfl
        | true => rw [Nat.beq_eq] at e; omega
      have f2 : Nat.beq (min (m - i) 64) 0 = false := by
        cases e : Nat.beq (min (m - i) 64) 0 with
        | false => rfl
        | true => rw [Nat.beq_eq] at e; omega
      simp only [hL1, Int.toNat_natCast, Nat.zero_add, hone, f1, f2, Bool.and_false]
      repeat ((conv => whnf); (with_reducible refine And.intro ?_ ?_); · first | with_reducible rfl | (intro _ _; with_reducible rfl) | (intro h; exact absurd h (by decide)) | (intro _; refine ⟨?_, True.intro⟩; omega) | (simp only [w_i64, w_u64, w_u32, w_u8]; omega) | (intro hgd; (try replace hgd := of_decide_eq_true hgd); (repeat ((conv => whnf); (with_reducible refine And.intro ?_ ?_); · first | with_reducible assumption | omega)); (conv => whnf); exact True.intro))
      conv => whnf
      exact True.intro
    · have h2 := ne_of_beq_false h2
      have h3 : ((i : Nat) : Int).tmod 64 = ((i % 64 : Nat) : Int) := rfl
      rw [h3] at h2
      have h64 : i % 64 ≠ 0 := by omega
      have hL1 : xoL (i + 1) m = xoL i m := by unfold xoL; omega
      have hiL : i < xoL i m := by unfold xoL; omega
      have hfin := xoB_step (X := X) (P := xoB X (ksF K C N) i) (B := ksF K C N) (L := xoL i m) (y := g i) (fun _ _ => rfl) hiL (by rw [hX]; exact ks_xor hg him)
      refine ⟨[(0, ⟨0, some 35, []⟩), (1, ⟨0, some 36, []⟩), (2, ⟨3, some 37, []⟩), (3, ⟨7, some 38, []⟩), (4, ⟨0, some 39, []⟩), (5, ⟨0, some 40, []⟩), (6, ⟨48, some 41, []⟩), (7, ⟨112, some 42, []⟩), (8, ⟨255, some 43, []⟩), (9, ⟨511, some 44, []⟩), (10, ⟨1023, none, [2]⟩)], 179, ?_⟩
      repeat (first | ((with_reducible refine (Cd.then_iff _ _).2 (And.intro ?_ ?_)); · repeat' ((conv => arg 1; whnf); (refine Cd.holds_p ?_; omega))) | ((conv => whnf); (with_reducible refine And.intro ?_ ?_); · first | omega | (refine decide_eq_true ?_; omega)))
      conv => whnf
      refine ⟨i + 1, ⟨by show i + 1 ≤ m; omega, by show m - (i + 1) < m - i; omega⟩, le_of [] ?_⟩
      simp only [hL1, Int.toNat_natCast, Nat.zero_add, show (i + 1 + 63) / 64 = (i + 63) / 64 by omega]
      repeat ((conv => whnf); (with_reducible refine And.intro ?_ ?_); · first | with_reducible rfl | (intro _ _; with_reducible rfl) | with_reducible assumption | (intro _; refine ⟨?_, True.intro⟩; omega) | (simp only [w_i64, w_u64, w_u32, w_u8]; omega) | (intro hgd; (try replace hgd := of_decide_eq_true hgd); (repeat ((conv => whnf); (with_reducible refine And.intro ?_ ?_); · first | with_reducible assumption | omega)); (conv => whnf); exact True.intro))
      conv => whnf
      exact True.intro
  · replace h1 := of_decide_eq_false h1
    have him : i = m := by omega
    subst him
    have hL : xoL i i = i := by unfold xoL; omega
    simp only [hL]
    repeat ((conv => whnf); (with_reducible refine And.intro ?_ ?_); · omega)
    conv => whnf
    refine ⟨[(0, 2)], ?_⟩
    repeat ((conv => whnf); (with_reducible refine And.intro ?_ ?_); · first | with_reducible rfl | (intro _; refine ⟨?_, True.intro⟩; omega) | (simp [appG]; done) | (intro hgd; (try replace hgd := of_decide_eq_true hgd); (repeat ((conv => whnf); (with_reducible refine And.intro ?_ ?_); · first | with_reducible assumption | (refine decide_eq_true ?_; omega) | (intro j hj; unfold xoB; rw [if_pos hj]))); (conv => whnf); exact True.intro))
    conv => whnf
    exact True.intro
end Go.Proofs.Ytogijkmflhjhkaa

/- Numbers by digits of eight bits, as the document's Poly1305 reckons them. Plain definitions and lemmas: no program, no condition. -/
namespace Go.Proofs.Ytogijkmflhjhkaa
open Go.Sx Go.RowKit
set_option linter.unusedSimpArgs false
set_option linter.unusedVariables false
set_option maxRecDepth 100000

theorem vN_block (B c : Nat) (G : Nat → Nat) (i : Nat) : ∀ k n, i + k ≤ n → vN B (fun j => if i ≤ j ∧ j < i + k then c * G (j - i) else 0) n = c * vN B G k * B ^ i
  | 0, n, h => by
    rw [vN_zero fun j hj => if_neg (by omega)]
    simp [vN]
  | k + 1, n, h => by
    have ih := vN_block B c G i k n (by omega)
    have hu := vN_upd B (fun j => if i ≤ j ∧ j < i + k then c * G (j - i) else 0) (i + k) (c * G k) n (by omega)
    have hc : ∀ j, j < n → (if i ≤ j ∧ j < i + (k + 1) then c * G (j - i) else 0) = updN (fun j => if i ≤ j ∧ j < i + k then c * G (j - i) else 0) (i + k) (c * G k) j := fun j hj => by
      unfold updN
      by_cases e : j = i + k
      · rw [if_pos e, if_pos (by omega), e, Nat.add_sub_cancel_left]
      · rw [if_neg e]
        show _ = if i ≤ j ∧ j < i + k then c * G (j - i) else 0
        by_cases e2 : i ≤ j ∧ j < i + k
        · rw [if_pos e2, if_pos (by omega)]
        · rw [if_neg e2, if_neg (by omega)]
    rw [vN_congr hc]
    rw [ih] at hu
    simp only [show ¬ (i ≤ i + k ∧ i + k < i + k) from by omega, if_false, Nat.zero_mul, Nat.add_zero] at hu
    rw [hu, vN, Nat.mul_add, Nat.add_mul, Nat.pow_add, Nat.mul_comm (B ^ i), ← Nat.mul_assoc, ← Nat.mul_assoc]
theorem vN_split (B : Nat) (f : Nat → Nat) (i : Nat) : ∀ n, i ≤ n → ∃ q, vN B f n = vN B f i + q * B ^ i
  | 0, h => ⟨0, by rw [Nat.le_zero.1 h]; omega⟩
  | n + 1, h => by
    by_cases e : i = n + 1
    · exact ⟨0, by rw [e]; omega⟩
    · obtain ⟨q, hq⟩ := vN_split B f i n (by omega)
      refine ⟨q + f n * B ^ (n - i), ?_⟩
      rw [vN, hq, Nat.add_mul, Nat.mul_assoc, ← Nat.pow_add, show n - i + i = n by omega]
      omega
theorem vN_div {B : Nat} (hB : 0 < B) (f : Nat → Nat) (i : Nat) : vN B f (i + 1) / B ^ i = f i + vN B f i / B ^ i := by
  rw [vN, Nat.add_mul_div_right _ _ (Nat.pow_pos hB), Nat.add_comm]
theorem dg_car {B : Nat} (hB : 0 < B) (f : Nat → Nat) {i n : Nat} (h : i < n) : dg B (vN B f n) i = (f i + vN B f i / B ^ i) % B := by
  obtain ⟨q, hq⟩ := vN_split B f (i + 1) n h
  rw [dg, hq, Nat.pow_succ, Nat.mul_comm (B ^ i) B, ← Nat.mul_assoc, Nat.add_mul_div_right _ _ (Nat.pow_pos hB), Nat.add_mul_mod_self_right, vN_div hB]
theorem vN_le_mul {f : Nat → Nat} {M : Nat} : ∀ {i : Nat}, (∀ j, j < i → f j ≤ M) → vN 256 f i ≤ M * 256 ^ i
  | 0, _ => Nat.zero_le _
  | i + 1, h => by
    have h1 := vN_le_mul (i := i) fun j hj => h j (by omega)
    have h2 : f i * 256 ^ i ≤ M * 256 ^ i := Nat.mul_le_mul_right _ (h i (by omega))
    rw [vN, Nat.pow_succ, ← Nat.mul_assoc]
    omega
theorem vN_quo {f : Nat → Nat} {M i : Nat} (h : ∀ j, j < i → f j ≤ M) : vN 256 f i / 256 ^ i ≤ M := by
  refine Nat.div_le_of_le_mul ?_
  rw [Nat.mul_comm]
  exact vN_le_mul h
/-- Digits, the first i of them carried. -/
def carF (f : Nat → Nat) (V i j : Nat) : Nat := if j < i then dg 256 V j else if j = i then f i + vN 256 f i / 256 ^ i else f j
theorem carF_zero (f : Nat → Nat) (V j : Nat) : carF f V 0 j = f j := by
  unfold carF
  rw [if_neg (by omega)]
  split
  · subst j; simp [vN]
  · rfl
theorem car_step {f : Nat → Nat} {n i : Nat} (h : i + 1 < n) (j : Nat) :
    updN (updN (carF f (vN 256 f n) i) (i + 1) (f (i + 1) + (f i + vN 256 f i / 256 ^ i) / 256)) i ((f i + vN 256 f i / 256 ^ i) % 256) j = carF f (vN 256 f n) (i + 1) j := by
  unfold updN carF
  by_cases h1 : j = i
  · subst h1
    rw [if_pos rfl, if_pos (by omega), dg_car (by omega) f (by omega)]
  rw [if_neg h1]
  by_cases h2 : j = i + 1
  · subst h2
    rw [if_pos rfl, if_neg (by omega), if_pos rfl, Nat.pow_succ, ← Nat.div_div_eq_div_mul, vN_div (by omega)]
  rw [if_neg h2, if_neg h2]
  by_cases h3 : j < i
  · rw [if_pos h3, if_pos (by omega)]
  · rw [if_neg h3, if_neg (by omega), if_neg (by omega)]
theorem car_last {f : Nat → Nat} {m : Nat} (hV : vN 256 f (m + 1) < 256 ^ (m + 1)) (j : Nat) (hj : j < m + 1) : carF f (vN 256 f (m + 1)) m j = dg 256 (vN 256 f (m + 1)) j := by
  unfold carF
  by_cases h1 : j < m
  · rw [if_pos h1]
  · have e : j = m := by omega
    subst e
    rw [if_neg h1, if_pos rfl, dg_car (by omega) f (by omega), Nat.mod_eq_of_lt]
    rw [← vN_div (by omega)]
    rw [Nat.pow_succ] at hV
    exact Nat.div_lt_of_lt_mul hV
theorem car_top {f : Nat → Nat} {m : Nat} (hV : vN 256 f (m + 1) < 256 ^ (m + 1)) : f m + vN 256 f m / 256 ^ m < 256 := by
  rw [← vN_div (by omega)]
  rw [Nat.pow_succ] at hV
  exact Nat.div_lt_of_lt_mul hV

/-! what stands below 130 bits, and above -/
theorem dg_low {A j : Nat} (hj : j < 16) : dg 256 (A % 1361129467683753853853498429727072845824) j = dg 256 A j := by
  unfold dg
  rcases sixteen hj with rfl | rfl | rfl | rfl | rfl | rfl | rfl | rfl | rfl | rfl | rfl | rfl | rfl | rfl | rfl | rfl <;> (simp only [Nat.reducePow]; omega)
theorem dg_low16 (A : Nat) : dg 256 (A % 1361129467683753853853498429727072845824) 16 = dg 256 A 16 % 4 := by
  unfold dg
  simp only [Nat.reducePow]; omega
theorem quo130 (A m : Nat) : A / 1361129467683753853853498429727072845824 / 256 ^ m = A / 256 ^ (16 + m) / 4 := by
  rw [Nat.div_div_eq_div_mul, Nat.div_div_eq_div_mul, Nat.pow_add, show (256 : Nat) ^ 16 = 340282366920938463463374607431768211456 from rfl]
  congr 1
  omega
theorem dg_high (A m : Nat) : dg 256 (A / 1361129467683753853853498429727072845824) m = dg 256 A (16 + m) / 4 + dg 256 A (16 + m + 1) % 4 * 64 := by
  unfold dg
  rw [quo130, Nat.pow_succ, ← Nat.div_div_eq_div_mul]
  omega
theorem dg_0 {V n : Nat} (h : V < 256 ^ n) : dg 256 V n = 0 := dg_big h
theorem vN_dgV {V n : Nat} (h : V < 256 ^ n) : vN 256 (dg 256 V) n = V := by rw [vN_dg, Nat.mod_eq_of_lt h]
def D8 (f : Nat → Int) (n : Nat) : Prop := ∀ j, j < n → 0 ≤ f j ∧ f j < 256
theorem D8_dg (V n : Nat) : D8 (NI (dg 256 V)) n := fun j _ => by
  have := dg_lt (B := 256) (by omega) V j
  unfold NI; omega
theorem D8_eq {f : Nat → Int} {n : Nat} (h : D8 f n) (j : Nat) (hj : j < n) : f j = NI (dg 256 (vN 256 (toN f) n)) j := by
  unfold NI
  rw [dg_val (by omega) (fun i hi => by have := h i hi; unfold toN; omega) hj]
  have := h j hj
  unfold toN; omega
theorem D8_lt {f : Nat → Int} {n : Nat} (h : D8 f n) : vN 256 (toN f) n < 256 ^ n := vN_lt fun j hj => by have := h j hj; unfold toN; omega
end Go.Proofs.Ytogijkmflhjhkaa

/- Functions through the evaluator: the document's digits. No condition. -/
namespace Go.Proofs.Ytogijkmflhjhkaa
open Go.Sx Go.RowKit
set_option maxRecDepth 100000
set_option maxHeartbeats 1000000
set_option linter.unusedVariables false
set_option linter.unusedSimpArgs false

theorem put1 {g h : Nat → Int} {i : Nat} (hz : h 0 = g i) (j : Nat) (hj : j < i + 1) : g j = put_ g i 1 h j := by
  unfold put_
  split
  · rename_i e
    have : j = i := by omega
    subst this
    rw [Nat.sub_self, hz]
  · rfl
/-- indentureref4.digits. -/
def digitsS : Summary := mkS false [.r .u8] fun
  | [.r nl g n] => some ⟨.and (.p (R8 g n)) (.p (n ≤ 1000000)), some (.sa (.sc (ownA (Nat.beq n 0) n 0))), [(0, ownB 3 .i64 g n)], 1⟩
  | _ => none
theorem digitsS_ok : SumOk Try.prog 82 digitsS := by
  unfold digitsS
  apply sum_ok
  intro vs A H n o r hb h
  split at h
  rotate_left
  · cases h
  rename_i nl g n0
  injection h with h
  subst h
  cases hb
  refine fsound_of_run tt_ok cok_nil mixed_ok Try.call82 Try.func82 rfl (rs := _) Try.results82 (size := 20) Try.ntmps82 (Nat.le_of_ble_eq_true rfl) rfl fun hp hfa hfh => ?_
  obtain ⟨hg, hn⟩ := hp
  have hg : R8 g n0 := hg
  have hn : n0 ≤ 1000000 := hn
  repeat ((conv => whnf); (with_reducible refine And.intro ?_ ?_); · omega)
  conv => whnf
  refine ⟨0, Nat, fun i => ⟨20, [(0, .sa (.sc (.im nl .u8 g n0))), (3, .sa (.sc (ownA (Nat.beq i 0) i 0))), (4, .sa (.sc (.int .i64 i)))],
    [(0, ownB 3 .i64 g i)], 1⟩, fun i => i ≤ n0, fun i => n0 - i, ⟨0, by omega, le_of [] ?_⟩, fun i hi => ?_⟩
  · repeat ((conv => whnf); (with_reducible refine And.intro ?_ ?_); · first | with_reducible rfl | (intro _ _; with_reducible rfl) | (intro h; exact absurd h (by decide)) | omega | (refine decide_eq_false ?_; omega) | (simp [appG]; done))
    conv => whnf
    exact True.intro
  have hi : i ≤ n0 := hi
  have hb0 : Nat.beq i 0 = true → i = 0 := fun h => by rw [Nat.beq_eq] at h; exact h
  repeat ((conv => whnf); (with_reducible refine And.intro ?_ ?_); · omega)
  conv => whnf
  refine ⟨fun h1 => ?_, fun h1 => ?_⟩
  · replace h1 := of_decide_eq_true h1
    have hgi := hg i (by omega)
    have hw : IntKind.i64.wrap (g i) = g i := by rw [w_i64]; omega
    repeat ((conv => whnf); (with_reducible refine And.intro ?_ ?_); · first | omega | (intro _; refine ⟨True.intro, ?_⟩; omega) | (intro _; refine ⟨decide_eq_true ?_, ?_⟩ <;> omega))
    conv => whnf
    refine ⟨i + 1, ⟨by show i + 1 ≤ n0; omega, by show n0 - (i + 1) < n0 - i; omega⟩, le_of [(0, 2)] ?_⟩
    simp only [Int.toNat_natCast, hw]
    have hfin : ∀ j, j < i + 1 → g j = put_ g i 1 (fun j => listI [g i].reverse (0 + j)) j := fun j hj => put1 (i := i) (h := fun j => listI [g i].reverse (0 + j)) rfl j hj
    repeat ((conv => whnf); (with_reducible refine And.intro ?_ ?_); · first | with_reducible rfl | exact (Bool.and_false _).symm | (intro _ _; with_reducible rfl) | (intro _; refine ⟨?_, True.intro⟩; omega) | (simp only [w_i64, w_u64, w_u32, w_u8]; omega) | (simp [appG]; done) | (intro hgd; (try replace hgd := of_decide_eq_true hgd); (repeat ((conv => whnf); (with_reducible refine And.intro ?_ ?_); · first | assumption | omega | (simp [appG]; done))); (conv => whnf); exact True.intro))
    conv => whnf
    exact True.intro
  · replace h1 := of_decide_eq_false h1
    have hin : i = n0 := by omega
    subst hin
    repeat ((conv => whnf); (with_reducible refine And.intro ?_ ?_); · omega)
    conv => whnf
    refine ⟨[], ?_⟩
    repeat ((conv => whnf); (with_reducible refine And.intro ?_ ?_); · first | with_reducible rfl | assumption | (intro _; refine ⟨?_, True.intro⟩; omega) | (intro hgd; (try replace hgd := of_decide_eq_true hgd); (repeat ((conv => whnf); (with_reducible refine And.intro ?_ ?_); · first | (intro _ _; with_reducible rfl) | assumption | (refine decide_eq_true ?_; omega))); (conv => whnf); exact True.intro))
    conv => whnf
    exact True.intro

/-- indentureref4.zero. -/
def zeroS : Summary := mkS false [.r .i64] fun
  | [.r nl g n] => some ⟨.and (.p (D8 g n)) (.p (n ≤ 1000000)), some (.sa (.sc (.bool (Nat.beq (vN 256 (toN g) n) 0)))), [], 0⟩
  | _ => none
theorem zeroS_ok : SumOk Try.prog 99 zeroS := by
  unfold zeroS
  apply sum_ok
  intro vs A H n o r hb h
  split at h
  rotate_left
  · cases h
  rename_i nl g n0
  injection h with h
  subst h
  cases hb
  refine fsound_of_run tt_ok cok_nil mixed_ok Try.call99 Try.func99 rfl (rs := _) Try.results99 (size := 15) Try.ntmps99 (Nat.le_of_ble_eq_true rfl) rfl fun hp hfa hfh => ?_
  obtain ⟨hg, hn⟩ := hp
  have hg : D8 g n0 := hg
  have hn : n0 ≤ 1000000 := hn
  obtain ⟨B, hB⟩ : ∃ B, B = Nat.beq (vN 256 (toN g) n0) 0 := ⟨_, rfl⟩
  rw [← hB]
  repeat ((conv => whnf); (with_reducible refine And.intro ?_ ?_); · omega)
  conv => whnf
  refine ⟨0, Nat, fun i => ⟨15, [(0, .sa (.sc (.im nl .i64 g n0))), (3, .sa (.sc (.int .i64 i)))], [], 0⟩, fun i => i ≤ n0 ∧ ∀ j, j < i → g j = 0, fun i => n0 - i, ⟨0, ⟨by omega, fun j hj => by omega⟩, le_of [] ?_⟩, fun i hi => ?_⟩
  · repeat ((conv => whnf); (with_reducible refine And.intro ?_ ?_); · first | with_reducible rfl | (intro _ _; with_reducible rfl) | omega)
    conv => whnf
    exact True.intro
  obtain ⟨hi, hz⟩ := hi
  have hi : i ≤ n0 := hi
  have hz : ∀ j, j < i → g j = 0 := hz
  repeat ((conv => whnf); (with_reducible refine And.intro ?_ ?_); · omega)
  conv => whnf
  refine ⟨fun h1 => ?_, fun h1 => ?_⟩
  · replace h1 := of_decide_eq_true h1
    repeat ((conv => whnf); (with_reducible refine And.intro ?_ ?_); · omega)
    conv => whnf
    refine ⟨fun h2 => ?_, fun h2 => ?_⟩
    · have hBf : B = false := by
        cases e : B with
        | false => rfl
        | true =>
          rw [e] at hB
          have h3 := vN_pos (B := 256) (by omega) (Nat.eq_of_beq_eq_true hB.symm) i (by omega)
          have h4 := hg i (by omega)
          have h5 : g i = 0 := by unfold toN at h3; omega
          have h6 : (!(g i == 0)) = true := h2
          rw [h5] at h6
          cases h6
      repeat ((conv => whnf); (with_reducible refine And.intro ?_ ?_); · omega)
      conv => whnf
      refine ⟨[], ?_⟩
      simp only [hBf]
      repeat ((conv => whnf); (with_reducible refine And.intro ?_ ?_); · with_reducible rfl)
      conv => whnf
      exact True.intro
    · have h6 : (!(g i == 0)) = false := h2
      have h7 : g i = 0 := by rw [Bool.not_eq_false'] at h6; exact eq_of_beq h6
      repeat ((conv => whnf); (with_reducible refine And.intro ?_ ?_); · omega)
      conv => whnf
      refine ⟨i + 1, ⟨⟨by show i + 1 ≤ n0; omega, fun j hj => ?_⟩, by show n0 - (i + 1) < n0 - i; omega⟩, le_of [] ?_⟩
      · by_cases e : j = i
        · rw [e]; exact h7
        · exact hz j (by have : j < i + 1 := hj; omega)
      · repeat ((conv => whnf); (with_reducible refine And.intro ?_ ?_); · first | with_reducible rfl | (intro _ _; with_reducible rfl) | (simp only [w_i64, w_u64, w_u32, w_u8]; omega))
        conv => whnf
        exact True.intro
  · replace h1 := of_decide_eq_false h1
    have hin : i = n0 := by omega
    subst hin
    have hBt : B = true := by
      rw [hB, vN_zero fun j hj => by unfold toN; rw [hz j hj]; rfl]
      rfl
    repeat ((conv => whnf); (with_reducible refine And.intro ?_ ?_); · omega)
    conv => whnf
    refine ⟨[], ?_⟩
    simp only [hBt]
    repeat ((conv => whnf); (with_reducible refine And.intro ?_ ?_); · with_reducible rfl)
    conv => whnf
    exact True.intro

/-- Digits, not carried yet, all of them in reach. -/
def Dbig (f : Nat → Int) (n : Nat) : Prop := ∀ j, j < n → 0 ≤ f j ∧ f j ≤ 1099511627776
/-- indentureref4.carry of a number that its digits hold. -/
def carryS : Summary := mkS false [.a 3 .i64] fun
  | [.a nl f n] => some ⟨.and (.p (Dbig f n)) (.p (vN 256 (toN f) n < 256 ^ n ∧ 1 ≤ n ∧ n ≤ 1000 ∧ nl = false)), some (.sa (.sc (ownA nl n 0))), [(0, ownB 3 .i64 (NI (dg 256 (vN 256 (toN f) n))) n)], 1⟩
  | _ => none
theorem carryS_ok : SumOk Try.prog 100 carryS := by
  unfold carryS
  apply sum_ok
  intro vs A H n o r hb h
  split at h
  rotate_left
  · cases h
  rename_i nl f n0
  injection h with h
  subst h
  cases hb
  refine fsound_of_run tt_ok cok_nil mixed_ok Try.call100 Try.func100 rfl (rs := _) Try.results100 (size := 66) Try.ntmps100 (Nat.le_of_ble_eq_true rfl) rfl fun hp hfa hfh => ?_
  obtain ⟨hf, hV, hn1, hn2, hnl⟩ := hp
  have hf : Dbig f n0 := hf
  have hnl : nl = false := hnl
  subst hnl
  obtain ⟨F, hF⟩ : ∃ F, F = toN f := ⟨_, rfl⟩
  have hFj : ∀ j, j < n0 → f j = (F j : Int) ∧ F j ≤ 1099511627776 := fun j hj => by
    have := hf j hj
    rw [hF]; unfold toN; omega
  rw [← hF] at hV ⊢
  obtain ⟨V, hVe⟩ : ∃ V, V = vN 256 F n0 := ⟨_, rfl⟩
  rw [← hVe] at hV ⊢
  have hq : ∀ i, i ≤ n0 → vN 256 F i / 256 ^ i ≤ 1099511627776 := fun i hi => vN_quo fun j hj => (hFj j (by omega)).2
  repeat ((conv => whnf); (with_reducible refine And.intro ?_ ?_); · omega)
  conv => whnf
  refine ⟨0, Nat, fun i => ⟨66, [(0, .sa (.sc (ownA false n0 0))), (3, .sa (.sc (.int .i64 i)))], [(0, ownB 3 .i64 (NI (carF F V i)) n0)], 1⟩, fun i => i + 1 ≤ n0, fun i => n0 - i, ⟨0, by show 0 + 1 ≤ n0; omega, le_of [] ?_⟩, fun i hi => ?_⟩
  · have h0 : ∀ j, j < n0 → NI (carF F V 0) j = f j := fun j hj => by
      unfold NI
      rw [carF_zero, (hFj j hj).1]
    repeat ((conv => whnf); (with_reducible refine And.intro ?_ ?_); · first | with_reducible rfl | (intro h; exact absurd h (by decide)) | omega | (intro _; refine ⟨?_, True.intro⟩; omega) | (intro hgd; (try replace hgd := of_decide_eq_true hgd); (repeat ((conv => whnf); (with_reducible refine And.intro ?_ ?_); · first | assumption | omega | (refine decide_eq_true ?_; omega))); (conv => whnf); exact True.intro))
    conv => whnf
    exact True.intro
  have hi : i + 1 ≤ n0 := hi
  have w0 : IntKind.i64.wrap ((n0 : Int) - 1) = ((n0 - 1 : Nat) : Int) := by rw [w_i64]; omega
  repeat ((conv => whnf); (with_reducible refine And.intro ?_ ?_); · omega)
  conv => whnf
  simp only [w0]
  refine ⟨fun h1 => ?_, fun h1 => ?_⟩
  · replace h1 := of_decide_eq_true h1
    have hi2 : i + 1 < n0 := by omega
    have w1 : IntKind.i64.wrap ((i : Int) + 1) = ((i + 1 : Nat) : Int) := by rw [w_i64]; omega
    obtain ⟨s, hs⟩ : ∃ s, s = F i + vN 256 F i / 256 ^ i := ⟨_, rfl⟩
    have hsb : s ≤ 2199023255552 := by have := (hFj i (by omega)).2; have := hq i (by omega); omega
    have ci : NI (carF F V i) i = (s : Int) := by unfold NI carF; rw [if_neg (by omega), if_pos rfl, hs]
    have ci1 : NI (carF F V i) (i + 1) = (F (i + 1) : Int) := by unfold NI carF; rw [if_neg (by omega), if_neg (by omega)]
    have hF1 := (hFj (i + 1) hi2).2
    have v1 : IntKind.i64.wrap ((s : Int).tdiv 256) = ((s / 256 : Nat) : Int) := by rw [show ((s : Nat) : Int).tdiv 256 = ((s / 256 : Nat) : Int) from rfl, w_i64]; omega
    have v2 : IntKind.i64.wrap ((F (i + 1) : Int) + ((s / 256 : Nat) : Int)) = ((F (i + 1) + s / 256 : Nat) : Int) := by rw [w_i64]; omega
    have v3 : ((s : Nat) : Int).tmod 256 = ((s % 256 : Nat) : Int) := rfl
    have hst := fun j => car_step (f := F) (n := n0) (i := i) hi2 j
    rw [← hVe, ← hs] at hst
    refine ⟨[(0, ⟨0, some 12, []⟩), (1, ⟨0, some 13, []⟩), (2, ⟨2, some 14, []⟩), (3, ⟨7, some 15, []⟩), (4, ⟨15, some 16, []⟩), (5, ⟨0, some 17, []⟩), (6, ⟨0, some 18, []⟩), (7, ⟨96, some 19, []⟩), (8, ⟨224, some 20, []⟩), (9, ⟨480, some 21, []⟩), (10, ⟨1023, some 22, []⟩), (11, ⟨2047, some 23, []⟩), (12, ⟨4095, none, [0]⟩)], 209, ?_⟩
    repeat ((conv => whnf); (with_reducible refine And.intro ?_ ?_); · first | omega | (refine decide_eq_true ?_; omega))
    conv => whnf
    simp only [w1, Int.toNat_natCast, Nat.zero_add, ci, ci1, v1, v2, NI_upd]
    have ci2 : NI (updN (carF F V i) (i + 1) (F (i + 1) + s / 256)) i = (s : Int) := by
      unfold NI updN
      rw [if_neg (by omega)]
      exact ci
    simp only [ci2, v3, NI_upd]
    refine ⟨i + 1, ⟨by show i + 1 + 1 ≤ n0; omega, by show n0 - (i + 1) < n0 - i; omega⟩, le_of [] ?_⟩
    have hfin : ∀ j, j < n0 → NI (carF F V (i + 1)) j = NI (updN (updN (carF F V i) (i + 1) (F (i + 1) + s / 256)) i (s % 256)) j := fun j _ => by unfold NI; rw [hst j]
    repeat ((conv => whnf); (with_reducible refine And.intro ?_ ?_); · first | with_reducible rfl | (intro h; exact absurd h (by decide)) | (intro _; refine ⟨?_, True.intro⟩; omega) | (intro hgd; (try replace hgd := of_decide_eq_true hgd); (repeat ((conv => whnf); (with_reducible refine And.intro ?_ ?_); · first | assumption | omega)); (conv => whnf); exact True.intro))
    conv => whnf
    exact True.intro
  · replace h1 := of_decide_eq_false h1
    have hie : i = n0 - 1 := by omega
    obtain ⟨M, hM⟩ : ∃ M, n0 = M + 1 := ⟨n0 - 1, by omega⟩
    subst hM
    have hie : i = M := by omega
    subst hie
    have hlast : ∀ j, j < i + 1 → NI (dg 256 V) j = NI (carF F V i) j := fun j hj => by
      unfold NI
      rw [hVe, car_last (by rw [← hVe]; exact hV) j hj]
    repeat ((conv => whnf); (with_reducible refine And.intro ?_ ?_); · omega)
    conv => whnf
    refine ⟨0, Unit, fun _ => ⟨66, [(0, .sa (.sc (ownA false (i + 1) 0)))], [(0, ownB 3 .i64 (NI (dg 256 V)) (i + 1))], 1⟩, fun _ => True, fun _ => 0, ⟨(), trivial, le_of [] ?_⟩, fun _ _ => ?_⟩
    · repeat ((conv => whnf); (with_reducible refine And.intro ?_ ?_); · first | with_reducible rfl | (intro h; exact absurd h (by decide)) | (intro _; refine ⟨?_, True.intro⟩; omega) | (intro hgd; (try replace hgd := of_decide_eq_true hgd); (repeat ((conv => whnf); (with_reducible refine And.intro ?_ ?_); · first | assumption | (refine decide_eq_true ?_; omega))); (conv => whnf); exact True.intro))
      conv => whnf
      exact True.intro
    repeat ((conv => whnf); (with_reducible refine And.intro ?_ ?_); · first | (intro hg0; simp only [hg0, Bool.not_false, Bool.not_true]; done) | (intro _; refine ⟨?_, True.intro⟩; omega) | (intro hg0; (repeat ((conv => whnf); (with_reducible refine And.intro ?_ ?_); · first | with_reducible assumption | omega | (simp [hg0]; done))); (conv => whnf); exact True.intro))
    conv => whnf
    have hle : ∀ j, NI (dg 256 V) j ≤ 255 := fun j => by have := (D8_dg V (j + 1) j (by omega)).2; omega
    refine ⟨fun h2 => ?_, fun h2 => ?_⟩
    · obtain ⟨_, h3⟩ := andT h2
      have h4 := of_decide_eq_true h3
      have h5 := hle (0 + (IntKind.i64.wrap (((i + 1 : Nat) : Int) - 1)).toNat)
      exact absurd h4 (by omega)
    · repeat ((conv => whnf); (with_reducible refine And.intro ?_ ?_); · omega)
      conv => whnf
      refine ⟨[], ?_⟩
      repeat ((conv => whnf); (with_reducible refine And.intro ?_ ?_); · first | with_reducible rfl | (intro h; exact absurd h (by decide)) | (intro _; refine ⟨?_, True.intro⟩; omega) | (intro hgd; (try replace hgd := of_decide_eq_true hgd); (repeat ((conv => whnf); (with_reducible refine And.intro ?_ ?_); · first | (intro _ _; with_reducible rfl) | assumption | (refine decide_eq_true ?_; omega))); (conv => whnf); exact True.intro))
      conv => whnf
      exact True.intro
end Go.Proofs.Ytogijkmflhjhkaa

/- Functions through the evaluator: the document's products and sums of digits. No condition. -/
namespace Go.Proofs.Ytogijkmflhjhkaa
open Go.Sx Go.RowKit
set_option maxRecDepth 100000
set_option maxHeartbeats 1000000
set_option linter.unusedVariables false
set_option linter.unusedSimpArgs false

/-- Digits of W, with k digits of a product more from place i on. -/
def tmF (A B : Nat → Nat) (W i k j : Nat) : Nat := dg 256 W j + if i ≤ j ∧ j < i + k then A i * B (j - i) else 0
theorem tmF_zero (A B : Nat → Nat) (W i j : Nat) : tmF A B W i 0 j = dg 256 W j := by
  unfold tmF; rw [if_neg (by omega), Nat.add_zero]
theorem tmF_at (A B : Nat → Nat) (W i k : Nat) : tmF A B W i k (i + k) = dg 256 W (i + k) := by
  unfold tmF; rw [if_neg (by omega), Nat.add_zero]
theorem tmF_step (A B : Nat → Nat) (W i k j : Nat) : tmF A B W i (k + 1) j = updN (tmF A B W i k) (i + k) (dg 256 W (i + k) + A i * B k) j := by
  unfold updN tmF
  by_cases h : j = i + k
  · rw [if_pos h, if_pos (by omega), h, Nat.add_sub_cancel_left]
  · rw [if_neg h]
    by_cases h2 : i ≤ j ∧ j < i + k
    · rw [if_pos h2, if_pos (by omega)]
    · rw [if_neg h2, if_neg (by omega)]
theorem tmF_le {A B : Nat → Nat} {W i nb : Nat} (hA : A i < 256) (hB : ∀ j, j < nb → B j < 256) (j : Nat) : tmF A B W i nb j ≤ 65280 := by
  unfold tmF
  have h1 := dg_lt (B := 256) (by omega) W j
  split
  · rename_i h
    have h2 := hB (j - i) (by omega)
    have h3 : A i * B (j - i) ≤ 255 * 255 := Nat.mul_le_mul (by omega) (by omega)
    omega
  · omega
theorem tmF_val {A B : Nat → Nat} {W i nb n : Nat} (hW : W < 256 ^ n) (hi : i + nb ≤ n) : vN 256 (tmF A B W i nb) n = W + A i * vN 256 B nb * 256 ^ i := by
  have h := vN_add 256 (dg 256 W) (fun j => if i ≤ j ∧ j < i + nb then A i * B (j - i) else 0) n
  rw [vN_dgV hW, vN_block 256 (A i) B i nb n hi] at h
  exact h
theorem prod_lt {A B : Nat → Nat} {i na nb : Nat} (hA : ∀ j, j < na → A j < 256) (hB : ∀ j, j < nb → B j < 256) (hi : i ≤ na) : vN 256 A i * vN 256 B nb < 256 ^ (na + nb) := by
  have h1 := vN_lt (B := 256) (g := A) (n := i) fun j hj => hA j (by omega)
  have h2 := vN_lt (B := 256) (g := B) (n := nb) hB
  have h3 := Nat.pow_le_pow_right (n := 256) (by omega) hi
  rw [Nat.pow_add]
  exact Nat.mul_lt_mul'' (by omega) h2
theorem cok45 : COk Try.prog (tab [(100, carryS)]) := cok_cons carryS_ok cok_nil
/-- indentureref4.times. -/
def rtimesS : Summary := mkS false [.r .i64, .r .i64] fun
  | [.r nl1 a na, .r nl2 b nb] => some ⟨.and (.and (.p (D8 a na)) (.p (D8 b nb))) (.p (na ≤ 100 ∧ nb ≤ 100 ∧ 1 ≤ na + nb)), some (.sa (.sc (.sl false false false 0 0 0 (na + nb) (na + nb)))), [(0, ownB 3 .i64 (NI (dg 256 (vN 256 (toN a) na * vN 256 (toN b) nb))) (na + nb))], 1⟩
  | _ => none
theorem rtimesS_ok : SumOk Try.prog 84 rtimesS := by
  unfold rtimesS
  apply sum_ok
  intro vs A H n o r hb h
  split at h
  rotate_left
  · cases h
  rename_i nl1 a na nl2 b nb
  injection h with h
  subst h
  cases hb
  refine fsound_of_run tt_ok cok45 mixed_ok Try.call84 Try.func84 rfl (rs := _) Try.results84 (size := 46) Try.ntmps84 (Nat.le_of_ble_eq_true rfl) rfl fun hp hfa hfh => ?_
  obtain ⟨⟨ha, hb⟩, hna, hnb, hn1⟩ := hp
  have ha : D8 a na := ha
  have hb : D8 b nb := hb
  obtain ⟨A, hA⟩ : ∃ A, A = toN a := ⟨_, rfl⟩
  obtain ⟨B, hB⟩ : ∃ B, B = toN b := ⟨_, rfl⟩
  have hAj : ∀ j, j < na → a j = (A j : Int) := fun j hj => by rw [hA]; exact (Int.toNat_of_nonneg (ha j hj).1).symm
  have hBj : ∀ j, j < nb → b j = (B j : Int) := fun j hj => by rw [hB]; exact (Int.toNat_of_nonneg (hb j hj).1).symm
  have hAl : ∀ j, j < na → A j < 256 := fun j hj => by have := ha j hj; have := hAj j hj; omega
  have hBl : ∀ j, j < nb → B j < 256 := fun j hj => by have := hb j hj; have := hBj j hj; omega
  rw [← hA, ← hB]
  have wn : IntKind.i64.wrap ((na : Int) + (nb : Int)) = ((na + nb : Nat) : Int) := by rw [w_i64]; omega
  repeat ((conv => whnf); (with_reducible refine And.intro ?_ ?_); · omega)
  conv => whnf
  simp only [wn, Int.toNat_natCast]
  refine ⟨0, Nat, fun i => ⟨46, [(0, .sa (.sc (.im nl1 .i64 a na))), (1, .sa (.sc (.im nl2 .i64 b nb))), (5, .sa (.sc (.sl false false false 0 0 0 (na + nb) (na + nb)))), (6, .sa (.sc (.int .i64 i)))],
    [(0, ownB 3 .i64 (NI (dg 256 (vN 256 A i * vN 256 B nb))) (na + nb))], 1⟩, fun i => i ≤ na, fun i => na - i, ⟨0, by show 0 ≤ na; omega, le_of [] ?_⟩, fun i hi => ?_⟩
  · have h0 : ∀ j, j < na + nb → NI (dg 256 (vN 256 A 0 * vN 256 B nb)) j = 0 := fun j _ => by
      unfold NI dg
      rw [show vN 256 A 0 = 0 from rfl, Nat.zero_mul, Nat.zero_div]; rfl
    repeat ((conv => whnf); (with_reducible refine And.intro ?_ ?_); · first | with_reducible rfl | (intro _ _; with_reducible rfl) | (intro h; exact absurd h (by decide)) | omega | (intro _; refine ⟨?_, True.intro⟩; omega) | (intro hgd; (try replace hgd := of_decide_eq_true hgd); (repeat ((conv => whnf); (with_reducible refine And.intro ?_ ?_); · first | assumption | omega)); (conv => whnf); exact True.intro))
    conv => whnf
    exact True.intro
  have hi : i ≤ na := hi
  repeat ((conv => whnf); (with_reducible refine And.intro ?_ ?_); · omega)
  conv => whnf
  refine ⟨fun h1 => ?_, fun h1 => ?_⟩
  · replace h1 := of_decide_eq_true h1
    have hi2 : i < na := by omega
    obtain ⟨W, hW⟩ : ∃ W, W = vN 256 A i * vN 256 B nb := ⟨_, rfl⟩
    have hWl : W < 256 ^ (na + nb) := by rw [hW]; exact prod_lt hAl hBl hi
    rw [← hW]
    repeat ((conv => whnf); (with_reducible refine And.intro ?_ ?_); · omega)
    conv => whnf
    refine ⟨0, Nat, fun k => ⟨46, [(0, .sa (.sc (.im nl1 .i64 a na))), (1, .sa (.sc (.im nl2 .i64 b nb))), (5, .sa (.sc (.sl false false false 0 0 0 (na + nb) (na + nb)))), (6, .sa (.sc (.int .i64 i))), (7, .sa (.sc (.int .i64 k)))],
      [(0, ownB 3 .i64 (NI (tmF A B W i k)) (na + nb))], 1⟩, fun k => k ≤ nb, fun k => nb - k, ⟨0, by show 0 ≤ nb; omega, le_of [] ?_⟩, fun k hk => ?_⟩
    · have h0 : ∀ j, j < na + nb → NI (tmF A B W i 0) j = NI (dg 256 W) j := fun j _ => by unfold NI; rw [tmF_zero]
      repeat ((conv => whnf); (with_reducible refine And.intro ?_ ?_); · first | with_reducible rfl | (intro _ _; with_reducible rfl) | (intro h; exact absurd h (by decide)) | omega | (intro _; refine ⟨?_, True.intro⟩; omega) | (intro hgd; (try replace hgd := of_decide_eq_true hgd); (repeat ((conv => whnf); (with_reducible refine And.intro ?_ ?_); · first | assumption | omega | (refine decide_eq_true ?_; omega))); (conv => whnf); exact True.intro))
      conv => whnf
      exact True.intro
    have hk : k ≤ nb := hk
    repeat ((conv => whnf); (with_reducible refine And.intro ?_ ?_); · omega)
    conv => whnf
    refine ⟨fun h2 => ?_, fun h2 => ?_⟩
    · replace h2 := of_decide_eq_true h2
      have hk2 : k < nb := by omega
      have wk : IntKind.i64.wrap ((i : Int) + (k : Int)) = ((i + k : Nat) : Int) := by rw [w_i64]; omega
      have hAi := hAl i hi2
      have hBk := hBl k hk2
      have hd := dg_lt (B := 256) (by omega) W (i + k)
      have hm : A i * B k ≤ 255 * 255 := Nat.mul_le_mul (by omega) (by omega)
      have hp : IntKind.i64.wrap (a i * b k) = ((A i * B k : Nat) : Int) := by rw [hAj i hi2, hBj k hk2, ← Int.natCast_mul, w_i64]; omega
      have hs : IntKind.i64.wrap (NI (tmF A B W i k) (i + k) + ((A i * B k : Nat) : Int)) = ((dg 256 W (i + k) + A i * B k : Nat) : Int) := by
        unfold NI
        rw [tmF_at, w_i64]; omega
      refine ⟨[(0, ⟨0, some 26, []⟩), (1, ⟨0, some 27, []⟩), (2, ⟨0, some 28, []⟩), (3, ⟨6, some 29, []⟩), (4, ⟨15, some 30, []⟩), (5, ⟨31, some 31, []⟩), (6, ⟨0, some 32, []⟩), (7, ⟨0, some 33, []⟩), (8, ⟨192, some 34, []⟩), (9, ⟨448, some 35, []⟩), (10, ⟨0, some 36, []⟩), (11, ⟨0, some 37, []⟩), (12, ⟨3072, some 38, []⟩), (13, ⟨7168, some 39, []⟩), (14, ⟨16320, some 40, []⟩), (15, ⟨32767, some 41, []⟩), (16, ⟨65535, some 42, []⟩), (17, ⟨131071, none, [0]⟩)], 289, ?_⟩
      repeat ((conv => whnf); (with_reducible refine And.intro ?_ ?_); · first | omega | (refine decide_eq_true ?_; omega))
      conv => whnf
      simp only [wk, Int.toNat_natCast, Nat.zero_add, hp, hs, NI_upd]
      refine ⟨k + 1, ⟨by show k + 1 ≤ nb; omega, by show nb - (k + 1) < nb - k; omega⟩, le_of [] ?_⟩
      have hfin : ∀ j, j < na + nb → NI (tmF A B W i (k + 1)) j = NI (updN (tmF A B W i k) (i + k) (dg 256 W (i + k) + A i * B k)) j := fun j _ => by unfold NI; rw [tmF_step]
      repeat ((conv => whnf); (with_reducible refine And.intro ?_ ?_); · first | with_reducible rfl | (intro _ _; with_reducible rfl) | (intro h; exact absurd h (by decide)) | (intro _; refine ⟨?_, True.intro⟩; omega) | (simp only [w_i64, w_u64, w_u32, w_u8]; omega) | (intro hgd; (try replace hgd := of_decide_eq_true hgd); (repeat ((conv => whnf); (with_reducible refine And.intro ?_ ?_); · first | assumption | omega)); (conv => whnf); exact True.intro))
      conv => whnf
      exact True.intro
    · replace h2 := of_decide_eq_false h2
      have hkn : k = nb := by omega
      subst hkn
      have hbig : Dbig (NI (tmF A B W i k)) (na + k) := fun j hj => by
        have := tmF_le (W := W) (hAl i hi2) hBl j
        unfold NI; omega
      have hval : vN 256 (toN (NI (tmF A B W i k))) (na + k) = vN 256 A (i + 1) * vN 256 B k := by
        rw [toN_NI, tmF_val hWl (by omega), hW, show vN 256 A (i + 1) = vN 256 A i + A i * 256 ^ i from rfl, Nat.add_mul, Nat.mul_right_comm]
      have hlt := prod_lt (i := i + 1) hAl hBl (by omega)
      repeat (first | ((with_reducible refine (Cd.then_iff _ _).2 (And.intro ?_ ?_)); · repeat' ((conv => arg 1; whnf); first | exact Cd.holds_tt | (refine Cd.holds_p ?_; first | exact hbig | (rw [hval]; exact ⟨hlt, by omega, by omega, rfl⟩) | omega) | refine Cd.holds_and ?_ ?_)) | ((conv => whnf); (with_reducible refine And.intro ?_ ?_); · (intro _; refine ⟨decide_eq_true ?_, ?_⟩ <;> omega)))
      conv => whnf
      simp only [hval]
      refine ⟨i + 1, ⟨by show i + 1 ≤ na; omega, by show na - (i + 1) < na - i; omega⟩, le_of [] ?_⟩
      repeat ((conv => whnf); (with_reducible refine And.intro ?_ ?_); · first | with_reducible rfl | (intro _ _; with_reducible rfl) | (intro h; exact absurd h (by decide)) | (intro _; refine ⟨?_, True.intro⟩; omega) | (simp only [w_i64, w_u64, w_u32, w_u8]; omega) | (intro hgd; (try replace hgd := of_decide_eq_true hgd); (repeat ((conv => whnf); (with_reducible refine And.intro ?_ ?_); · first | (intro _ _; with_reducible rfl) | omega | (refine decide_eq_true ?_; omega))); (conv => whnf); exact True.intro))
      conv => whnf
      exact True.intro
  · replace h1 := of_decide_eq_false h1
    have hin : i = na := by omega
    subst hin
    repeat ((conv => whnf); (with_reducible refine And.intro ?_ ?_); · omega)
    conv => whnf
    refine ⟨[], ?_⟩
    repeat ((conv => whnf); (with_reducible refine And.intro ?_ ?_); · first | with_reducible rfl | (intro h; exact absurd h (by decide)) | (intro _; refine ⟨?_, True.intro⟩; omega) | (intro hgd; (try replace hgd := of_decide_eq_true hgd); (repeat ((conv => whnf); (with_reducible refine And.intro ?_ ?_); · first | (intro _ _; with_reducible rfl) | omega | (refine decide_eq_true ?_; omega))); (conv => whnf); exact True.intro))
    conv => whnf
    exact True.intro
end Go.Proofs.Ytogijkmflhjhkaa

/- Functions through the evaluator: the document's sums of digits. No condition. -/
namespace Go.Proofs.Ytogijkmflhjhkaa
open Go.Sx Go.RowKit
set_option maxRecDepth 100000
set_option maxHeartbeats 1000000
set_option linter.unusedVariables false
set_option linter.unusedSimpArgs false

/-- The first i digits' sums. -/
def plF (A B : Nat → Nat) (na nb i j : Nat) : Nat := if j < i then cutN A na j + cutN B nb j else 0
theorem plF_at (A B : Nat → Nat) (na nb i : Nat) : plF A B na nb i i = 0 := if_neg (by omega)
theorem plF_step {A B : Nat → Nat} {na nb i x : Nat} (hx : x = cutN A na i + cutN B nb i) (j : Nat) : plF A B na nb (i + 1) j = updN (plF A B na nb i) i x j := by
  unfold updN plF
  by_cases h : j = i
  · subst h; rw [if_pos (by omega), if_pos rfl, hx]
  · rw [if_neg h]
    by_cases h2 : j < i
    · rw [if_pos h2, if_pos (by omega)]
    · rw [if_neg h2, if_neg (by omega)]
theorem updN_updN (g : Nat → Nat) (i x y : Nat) : updN (updN g i x) i y = updN g i y := by
  funext j; unfold updN; split <;> rfl
theorem plF_le {A B : Nat → Nat} {na nb i : Nat} (hA : ∀ j, j < na → A j < 256) (hB : ∀ j, j < nb → B j < 256) (j : Nat) : plF A B na nb i j ≤ 510 := by
  unfold plF cutN
  split
  · split
    · have := hA j (by omega)
      split
      · have := hB j (by omega); omega
      · omega
    · split
      · have := hB j (by omega); omega
      · omega
  · omega
theorem plF_val {A B : Nat → Nat} {na nb n : Nat} (h1 : na ≤ n) (h2 : nb ≤ n) : vN 256 (plF A B na nb n) n = vN 256 A na + vN 256 B nb := by
  rw [vN_congr (g := plF A B na nb n) (h := fun j => cutN A na j + cutN B nb j) fun j hj => if_pos hj, vN_add, vN_cut 256 A na n h1, vN_cut 256 B nb n h2]
/-- indentureref4.plus. -/
def rplusS : Summary := mkS false [.r .i64, .r .i64] fun
  | [.r nl1 a na, .r nl2 b nb] => some ⟨.and (.and (.p (D8 a na)) (.p (D8 b nb))) (.p (na ≤ 200 ∧ nb ≤ 200)), some (.sa (.sc (.sl false false false 0 0 0 (max na nb + 1) (max na nb + 1)))), [(0, ownB 3 .i64 (NI (dg 256 (vN 256 (toN a) na + vN 256 (toN b) nb))) (max na nb + 1))], 1⟩
  | _ => none
theorem rplusS_ok : SumOk Try.prog 85 rplusS := by
  unfold rplusS
  apply sum_ok
  intro vs A H n o r hb h
  split at h
  rotate_left
  · cases h
  rename_i nl1 a na nl2 b nb
  injection h with h
  subst h
  cases hb
  refine fsound_of_run tt_ok cok45 mixed_ok Try.call85 Try.func85 rfl (rs := _) Try.results85 (size := 50) Try.ntmps85 (Nat.le_of_ble_eq_true rfl) rfl fun hp hfa hfh => ?_
  obtain ⟨⟨ha, hb⟩, hna, hnb⟩ := hp
  have ha : D8 a na := ha
  have hb : D8 b nb := hb
  obtain ⟨A, hA⟩ : ∃ A, A = toN a := ⟨_, rfl⟩
  obtain ⟨B, hB⟩ : ∃ B, B = toN b := ⟨_, rfl⟩
  have hAj : ∀ j, j < na → a j = (A j : Int) := fun j hj => by rw [hA]; exact (Int.toNat_of_nonneg (ha j hj).1).symm
  have hBj : ∀ j, j < nb → b j = (B j : Int) := fun j hj => by rw [hB]; exact (Int.toNat_of_nonneg (hb j hj).1).symm
  have hAl : ∀ j, j < na → A j < 256 := fun j hj => by have := ha j hj; have := hAj j hj; omega
  have hBl : ∀ j, j < nb → B j < 256 := fun j hj => by have := hb j hj; have := hBj j hj; omega
  rw [← hA, ← hB]
  have wm : (if (nb : Int) > (na : Int) then (nb : Int) else (na : Int)) = ((max na nb : Nat) : Int) := by split <;> omega
  have wn : IntKind.i64.wrap (((max na nb : Nat) : Int) + 1) = ((max na nb + 1 : Nat) : Int) := by rw [w_i64]; omega
  have hLa : na < max na nb + 1 := by omega
  have hLb : nb < max na nb + 1 := by omega
  have hL9 : max na nb + 1 ≤ 201 := by omega
  have hVl : vN 256 A na + vN 256 B nb < 256 ^ (max na nb + 1) := by
    have h1 := vN_lt (B := 256) (g := A) (n := na) hAl
    have h2 := vN_lt (B := 256) (g := B) (n := nb) hBl
    have h3 := Nat.pow_le_pow_right (n := 256) (by omega) (show na ≤ max na nb by omega)
    have h4 := Nat.pow_le_pow_right (n := 256) (by omega) (show nb ≤ max na nb by omega)
    rw [Nat.pow_succ]
    omega
  repeat ((conv => whnf); (with_reducible refine And.intro ?_ ?_); · (simp only [wm, wn, Int.toNat_natCast]; omega))
  conv => whnf
  simp only [wm, wn, Int.toNat_natCast]
  have hLe : ∃ L, L = max na nb + 1 := ⟨_, rfl⟩
  obtain ⟨L, hL⟩ := hLe
  rw [← hL] at hLa hLb hL9 hVl
  simp only [← hL]
  refine ⟨0, Nat, fun i => ⟨50, [(0, .sa (.sc (.im nl1 .i64 a na))), (1, .sa (.sc (.im nl2 .i64 b nb))), (5, .sa (.sc (.sl false true false 0 0 0 L L))), (6, .sa (.sc (.int .i64 i)))],
    [(0, .own 3 [.ints .i64 (NI (plF A B na nb i)) L] false)], 1⟩, fun i => i ≤ L, fun i => L - i, ⟨0, by show 0 ≤ L; omega, le_of [] ?_⟩, fun i hi => ?_⟩
  · have h0 : ∀ j, j < L → NI (plF A B na nb 0) j = 0 := fun j _ => by unfold NI; rw [show plF A B na nb 0 j = 0 from if_neg (by omega)]; rfl
    repeat ((conv => whnf); (with_reducible refine And.intro ?_ ?_); · first | with_reducible rfl | (intro _ _; with_reducible rfl) | assumption | (intro h; exact absurd h (by decide)) | omega | (intro _; refine ⟨?_, True.intro⟩; omega))
    conv => whnf
    exact True.intro
  have hi : i ≤ L := hi
  repeat ((conv => whnf); (with_reducible refine And.intro ?_ ?_); · omega)
  conv => whnf
  refine ⟨fun h1 => ?_, fun h1 => ?_⟩
  · replace h1 := of_decide_eq_true h1
    have hi2 : i < L := by omega
    have ci : NI (plF A B na nb i) i = 0 := by unfold NI; rw [plF_at]; rfl
    repeat ((conv => whnf); (with_reducible refine And.intro ?_ ?_); · omega)
    conv => whnf
    refine ⟨fun h2 => ?_, fun h2 => ?_⟩
    · replace h2 := of_decide_eq_true h2
      have h3 : i < na := by omega
      have s1 : IntKind.i64.wrap (0 + a i) = (A i : Int) := by have := hAl i h3; rw [hAj i h3, w_i64]; omega
      refine ⟨[(0, ⟨0, some 24, []⟩), (1, ⟨0, some 25, []⟩), (2, ⟨3, some 26, []⟩), (3, ⟨7, some 27, []⟩), (4, ⟨0, some 28, []⟩), (5, ⟨0, some 29, []⟩), (6, ⟨48, some 30, []⟩), (7, ⟨112, some 31, []⟩), (8, ⟨255, some 32, []⟩), (9, ⟨511, some 33, []⟩), (10, ⟨1023, none, [0]⟩)], 177, ?_⟩
      repeat (((conv => whnf); (with_reducible refine And.intro ?_ ?_); · omega))
      conv => whnf
      simp only [Int.toNat_natCast, Nat.zero_add, ci, s1, NI_upd]
      have cx : NI (updN (plF A B na nb i) i (A i)) i = (A i : Int) := by unfold NI updN; rw [if_pos rfl]
      refine ⟨fun h4 => ?_, fun h4 => ?_⟩
      · replace h4 := of_decide_eq_true h4
        have h5 : i < nb := by omega
        have s2 : IntKind.i64.wrap ((A i : Int) + b i) = ((A i + B i : Nat) : Int) := by have := hAl i h3; have := hBl i h5; rw [hBj i h5, w_i64]; omega
        refine ⟨[(0, ⟨0, some 38, []⟩), (1, ⟨0, some 39, []⟩), (2, ⟨3, some 40, []⟩), (3, ⟨7, some 41, []⟩), (4, ⟨0, some 42, []⟩), (5, ⟨0, some 43, []⟩), (6, ⟨48, some 44, []⟩), (7, ⟨112, some 45, []⟩), (8, ⟨255, some 46, []⟩), (9, ⟨511, some 47, []⟩), (10, ⟨1023, none, [0]⟩)], 353, ?_⟩
        repeat (((conv => whnf); (with_reducible refine And.intro ?_ ?_); · omega))
        conv => whnf
        simp only [Int.toNat_natCast, Nat.zero_add, cx, s2, NI_upd, updN_updN]
        refine ⟨i + 1, ⟨by show i + 1 ≤ L; omega, by show L - (i + 1) < L - i; omega⟩, le_of [] ?_⟩
        have hst := plF_step (A := A) (B := B) (na := na) (nb := nb) (i := i) (x := A i + B i) (by unfold cutN; rw [if_pos h3, if_pos h5])
        have hfin : ∀ j, j < L → NI (plF A B na nb (i + 1)) j = NI (updN (plF A B na nb i) i (A i + B i)) j := fun j _ => by unfold NI; rw [hst]
        repeat ((conv => whnf); (with_reducible refine And.intro ?_ ?_); · first | with_reducible rfl | (intro _ _; with_reducible rfl) | assumption | (intro h; exact absurd h (by decide)) | (intro _; refine ⟨?_, True.intro⟩; omega) | (simp only [w_i64, w_u64, w_u32, w_u8]; omega))
        conv => whnf
        exact True.intro
      · replace h4 := of_decide_eq_false h4
        have h5 : ¬ i < nb := by omega
        repeat ((conv => whnf); (with_reducible refine And.intro ?_ ?_); · omega)
        conv => whnf
        refine ⟨i + 1, ⟨by show i + 1 ≤ L; omega, by show L - (i + 1) < L - i; omega⟩, le_of [] ?_⟩
        have hst := plF_step (A := A) (B := B) (na := na) (nb := nb) (i := i) (x := A i) (by unfold cutN; rw [if_pos h3, if_neg h5, Nat.add_zero])
        have hfin : ∀ j, j < L → NI (plF A B na nb (i + 1)) j = NI (updN (plF A B na nb i) i (A i)) j := fun j _ => by unfold NI; rw [hst]
        repeat ((conv => whnf); (with_reducible refine And.intro ?_ ?_); · first | with_reducible rfl | (intro _ _; with_reducible rfl) | assumption | (intro h; exact absurd h (by decide)) | (intro _; refine ⟨?_, True.intro⟩; omega) | (simp only [w_i64, w_u64, w_u32, w_u8]; omega))
        conv => whnf
        exact True.intro
    · replace h2 := of_decide_eq_false h2
      have h3 : ¬ i < na := by omega
      repeat ((conv => whnf); (with_reducible refine And.intro ?_ ?_); · omega)
      conv => whnf
      refine ⟨fun h4 => ?_, fun h4 => ?_⟩
      · replace h4 := of_decide_eq_true h4
        have h5 : i < nb := by omega
        have s2 : IntKind.i64.wrap (0 + b i) = (B i : Int) := by have := hBl i h5; rw [hBj i h5, w_i64]; omega
        refine ⟨[(0, ⟨0, some 38, []⟩), (1, ⟨0, some 39, []⟩), (2, ⟨3, some 40, []⟩), (3, ⟨7, some 41, []⟩), (4, ⟨0, some 42, []⟩), (5, ⟨0, some 43, []⟩), (6, ⟨48, some 44, []⟩), (7, ⟨112, some 45, []⟩), (8, ⟨255, some 46, []⟩), (9, ⟨511, some 47, []⟩), (10, ⟨1023, none, [0]⟩)], 177, ?_⟩
        repeat (((conv => whnf); (with_reducible refine And.intro ?_ ?_); · omega))
        conv => whnf
        simp only [Int.toNat_natCast, Nat.zero_add, ci, s2, NI_upd]
        refine ⟨i + 1, ⟨by show i + 1 ≤ L; omega, by show L - (i + 1) < L - i; omega⟩, le_of [] ?_⟩
        have hst := plF_step (A := A) (B := B) (na := na) (nb := nb) (i := i) (x := B i) (by unfold cutN; rw [if_neg h3, if_pos h5, Nat.zero_add])
        have hfin : ∀ j, j < L → NI (plF A B na nb (i + 1)) j = NI (updN (plF A B na nb i) i (B i)) j := fun j _ => by unfold NI; rw [hst]
        repeat ((conv => whnf); (with_reducible refine And.intro ?_ ?_); · first | with_reducible rfl | (intro _ _; with_reducible rfl) | assumption | (intro h; exact absurd h (by decide)) | (intro _; refine ⟨?_, True.intro⟩; omega) | (simp only [w_i64, w_u64, w_u32, w_u8]; omega))
        conv => whnf
        exact True.intro
      · replace h4 := of_decide_eq_false h4
        have h5 : ¬ i < nb := by omega
        repeat ((conv => whnf); (with_reducible refine And.intro ?_ ?_); · omega)
        conv => whnf
        refine ⟨i + 1, ⟨by show i + 1 ≤ L; omega, by show L - (i + 1) < L - i; omega⟩, le_of [] ?_⟩
        have hst := plF_step (A := A) (B := B) (na := na) (nb := nb) (i := i) (x := 0) (by unfold cutN; rw [if_neg h3, if_neg h5])
        have hfin : ∀ j, j < L → NI (plF A B na nb (i + 1)) j = NI (plF A B na nb i) j := fun j _ => by
          unfold NI
          rw [hst]
          unfold updN
          split
          · rename_i e; rw [e, plF_at]
          · rfl
        repeat ((conv => whnf); (with_reducible refine And.intro ?_ ?_); · first | with_reducible rfl | (intro _ _; with_reducible rfl) | assumption | (intro h; exact absurd h (by decide)) | (intro _; refine ⟨?_, True.intro⟩; omega) | (simp only [w_i64, w_u64, w_u32, w_u8]; omega))
        conv => whnf
        exact True.intro
  · replace h1 := of_decide_eq_false h1
    have hiL : i = L := by omega
    subst hiL
    have hbig : Dbig (NI (plF A B na nb i)) i := fun j hj => by
      have := plF_le (i := i) hAl hBl j
      unfold NI; omega
    have hval : vN 256 (toN (NI (plF A B na nb i))) i = vN 256 A na + vN 256 B nb := by
      rw [toN_NI, plF_val (by omega) (by omega)]
    repeat (first | ((with_reducible refine (Cd.then_iff _ _).2 (And.intro ?_ ?_)); · repeat' ((conv => arg 1; whnf); first | exact Cd.holds_tt | (refine Cd.holds_p ?_; first | exact hbig | (rw [hval]; exact ⟨hVl, by omega, by omega, rfl⟩) | omega) | refine Cd.holds_and ?_ ?_)) | ((conv => whnf); (with_reducible refine And.intro ?_ ?_); · (intro _; refine ⟨True.intro, ?_⟩; omega)))
    conv => whnf
    simp only [hval]
    refine ⟨[], ?_⟩
    repeat ((conv => whnf); (with_reducible refine And.intro ?_ ?_); · first | with_reducible rfl | (intro h; exact absurd h (by decide)) | (intro _; refine ⟨?_, True.intro⟩; omega) | (intro hgd; (try replace hgd := of_decide_eq_true hgd); (repeat ((conv => whnf); (with_reducible refine And.intro ?_ ?_); · first | (intro _ _; with_reducible rfl) | assumption | (refine decide_eq_true ?_; omega))); (conv => whnf); exact True.intro))
    conv => whnf
    exact True.intro
end Go.Proofs.Ytogijkmflhjhkaa

/- Functions through the evaluator: the document's digits modulo 2^130 - 5, nearly. No condition. -/
namespace Go.Proofs.Ytogijkmflhjhkaa
open Go.Sx Go.RowKit
set_option maxRecDepth 100000
set_option maxHeartbeats 2000000
set_option linter.unusedVariables false
set_option linter.unusedSimpArgs false

theorem cok46 : COk Try.prog (tab [(99, zeroS), (84, rtimesS), (85, rplusS)]) := cok_cons zeroS_ok (cok_cons rtimesS_ok (cok_cons rplusS_ok cok_nil))
theorem hi_val {V n i : Nat} (h : 16 ≤ i) : dg 256 (V / 1361129467683753853853498429727072845824) (i - 16) = dg 256 V i / 4 + dg 256 V (i + 1) % 4 * 64 := by
  have := dg_high V (i - 16)
  rw [show 16 + (i - 16) = i by omega] at this
  exact this
theorem quo_lt {V n : Nat} (hV : V < 256 ^ n) (hn : 17 ≤ n) : V / 1361129467683753853853498429727072845824 < 256 ^ (n - 16) := by
  refine Nat.div_lt_of_lt_mul (Nat.lt_of_lt_of_le hV ?_)
  have e : 256 ^ n = 256 ^ 16 * 256 ^ (n - 16) := by rw [← Nat.pow_add]; congr 1; omega
  rw [e]
  exact Nat.mul_le_mul_right _ (by decide)
/-- The number of digits behind a round. -/
def foN (n : Nat) : Nat := max 17 (n - 16 + 1) + 1
theorem fold_next {V n : Nat} (hV : V < 256 ^ n) (hn : 17 ≤ n) : V % 1361129467683753853853498429727072845824 + 5 * (V / 1361129467683753853853498429727072845824) < 256 ^ foN n := by
  have h1 := quo_lt hV hn
  have h2 : (256 : Nat) ^ 17 ≤ 256 ^ (max 17 (n - 16 + 1)) := Nat.pow_le_pow_right (by omega) (by omega)
  have h3 : (256 : Nat) ^ (n - 16 + 1) ≤ 256 ^ (max 17 (n - 16 + 1)) := Nat.pow_le_pow_right (by omega) (by omega)
  have h4 : V % 1361129467683753853853498429727072845824 < 256 ^ 17 := Nat.lt_of_lt_of_le (Nat.mod_lt _ (by omega)) (by decide)
  unfold foN
  rw [Nat.pow_succ]
  rw [Nat.pow_succ] at h3
  omega
theorem ne_of_beq_falseF {a b : Int} (h : (a == b) = false) : a ≠ b := fun e => by subst e; simp at h
/-- indentureref4.fold. -/
noncomputable def foldS : Summary := mkS false [.r .i64] fun
  | [.r nl f n] => some ⟨.and (.p (D8 f n)) (.p (17 ≤ n ∧ n ≤ 100)), some (.sa (.sc (ownA false 17 0))), [(0, ownB 3 .i64 (NI (dg 256 (foldV (vN 256 (toN f) n)))) 17)], 1⟩
  | _ => none
theorem foldS_ok : SumOk Try.prog 83 foldS := by
  unfold foldS
  apply sum_ok
  intro vs A H n o r hb h
  split at h
  rotate_left
  · cases h
  rename_i nl f n
  injection h with h
  subst h
  cases hb
  refine fsound_of_run tt_ok cok46 mixed_ok Try.call83 Try.func83 rfl (rs := _) Try.results83 (size := 67) Try.ntmps83 (Nat.le_of_ble_eq_true rfl) rfl fun hp hfa hfh => ?_
  obtain ⟨hf, hn17, hn100⟩ := hp
  have hf : D8 f n := hf
  have hn17 : 17 ≤ n := hn17
  have hn100 : n ≤ 100 := hn100
  obtain ⟨V, hVe⟩ : ∃ V, V = vN 256 (toN f) n := ⟨_, rfl⟩
  have hV : V < 256 ^ n := by rw [hVe]; exact D8_lt hf
  have hf0 : ∀ j, j < n → NI (dg 256 V) j = f j := fun j hj => by rw [hVe]; exact (D8_eq hf j hj).symm
  rw [← hVe]
  obtain ⟨R, hR⟩ : ∃ R, R = foldV V := ⟨_, rfl⟩
  rw [← hR]
  have hfo : foldV V = R := hR.symm
  repeat ((conv => whnf); (with_reducible refine And.intro ?_ ?_); · omega)
  conv => whnf
  refine ⟨1, ?_⟩
  repeat ((conv => whnf); (with_reducible refine And.intro ?_ ?_); · omega)
  conv => whnf
  refine ⟨0, Nat, fun i => ⟨67, [(0, .sa (.sc (.im nl .i64 (NI (dg 256 V)) n))), (3, .sa (.sc (ownA (Nat.beq (min i 17) 0) (min i 17) 0))), (4, .sa (.sc (ownA (Nat.beq (i - 16) 0) (i - 16) 1))), (5, .sa (.sc (.int .i64 i)))],
    [(0, ownB 3 .i64 (NI (dg 256 (V % 1361129467683753853853498429727072845824))) (min i 17)), (1, ownB 3 .i64 (NI (dg 256 (V / 1361129467683753853853498429727072845824))) (i - 16))], 2⟩, fun i => i ≤ n, fun i => n - i, ⟨0, by show 0 ≤ n; omega, le_of [] ?_⟩, fun i hi => ?_⟩
  · simp only [show min 0 17 = 0 from rfl, show 0 - 16 = 0 from rfl]
    repeat ((conv => whnf); (with_reducible refine And.intro ?_ ?_); · first | with_reducible rfl | assumption | (intro h; exact absurd h (by decide)) | omega | (refine decide_eq_false ?_; omega) | (simp [appG]; done))
    conv => whnf
    exact True.intro
  have hi : i ≤ n := hi
  have hb0 : Nat.beq (min i 17) 0 = true → min i 17 = 0 := fun h => by rw [Nat.beq_eq] at h; exact h
  have hb1 : Nat.beq (i - 16) 0 = true → i - 16 = 0 := fun h => by rw [Nat.beq_eq] at h; exact h
  repeat ((conv => whnf); (with_reducible refine And.intro ?_ ?_); · omega)
  conv => whnf
  refine ⟨fun h1 => ?_, fun h1 => ?_⟩
  · replace h1 := of_decide_eq_true h1
    have hin : i < n := by omega
    have hd0 := dg_lt (B := 256) (by omega) V i
    have hd1 := dg_lt (B := 256) (by omega) V (i + 1)
    have v1 : ((NI (dg 256 V) i : Int)).tmod 4 = ((dg 256 V i % 4 : Nat) : Int) := rfl
    have v2 : IntKind.i64.wrap ((NI (dg 256 V) i : Int).tdiv 4) = ((dg 256 V i / 4 : Nat) : Int) := by rw [show (NI (dg 256 V) i : Int).tdiv 4 = ((dg 256 V i / 4 : Nat) : Int) from rfl, w_i64]; omega
    have v3 : IntKind.i64.wrap ((i : Int) + 1) = ((i + 1 : Nat) : Int) := by rw [w_i64]; omega
    have v4 : ((NI (dg 256 V) (i + 1) : Int)).tmod 4 = ((dg 256 V (i + 1) % 4 : Nat) : Int) := rfl
    have v5 : IntKind.i64.wrap (((dg 256 V (i + 1) % 4 : Nat) : Int) * 64) = ((dg 256 V (i + 1) % 4 * 64 : Nat) : Int) := by rw [w_i64]; omega
    have v6 : IntKind.i64.wrap (((dg 256 V i / 4 : Nat) : Int) + ((dg 256 V (i + 1) % 4 * 64 : Nat) : Int)) = ((dg 256 V i / 4 + dg 256 V (i + 1) % 4 * 64 : Nat) : Int) := by rw [w_i64]; omega
    repeat ((conv => whnf); (with_reducible refine And.intro ?_ ?_); · omega)
    conv => whnf
    refine ⟨fun h2 => ?_, fun h2 => ?_⟩
    · replace h2 := of_decide_eq_true h2
      have h16 : i < 16 := by omega
      repeat ((conv => whnf); (with_reducible refine And.intro ?_ ?_); · first | omega | (intro _; refine ⟨True.intro, ?_⟩; omega) | (intro _; refine ⟨decide_eq_true ?_, ?_⟩ <;> omega))
      conv => whnf
      refine ⟨fun h3 => absurd (of_decide_eq_true h3) (by omega), fun h3 => ?_⟩
      repeat ((conv => whnf); (with_reducible refine And.intro ?_ ?_); · omega)
      conv => whnf
      refine ⟨i + 1, ⟨by show i + 1 ≤ n; omega, by show n - (i + 1) < n - i; omega⟩, le_of [(0, 3)] ?_⟩
      have hg : NI (dg 256 V) i = NI (dg 256 (V % 1361129467683753853853498429727072845824)) i := by unfold NI; rw [dg_low h16]
      have hfin : ∀ j, j < i + 1 → NI (dg 256 (V % 1361129467683753853853498429727072845824)) j = put_ (NI (dg 256 (V % 1361129467683753853853498429727072845824))) i 1 (fun j => listI [NI (dg 256 V) i].reverse j) j := fun j hj => put1 (i := i) (h := fun j => listI [NI (dg 256 V) i].reverse j) hg j hj
      simp only [Int.toNat_natCast, Nat.zero_add, show min (i + 1) 17 = i + 1 by omega, show min i 17 = i by omega, show i + 1 - 16 = 0 by omega, show i - 16 = 0 by omega]
      repeat ((conv => whnf); (with_reducible refine And.intro ?_ ?_); · first | with_reducible rfl | exact (Bool.and_false _).symm | (intro _ _; with_reducible rfl) | (intro h; exact absurd h (by decide)) | omega | (intro _; refine ⟨?_, True.intro⟩; omega) | (simp [appG]; done) | (intro hgd; (try replace hgd := of_decide_eq_true hgd); (repeat ((conv => whnf); (with_reducible refine And.intro ?_ ?_); · first | assumption | omega | (simp [appG]; done))); (conv => whnf); exact True.intro))
      conv => whnf
      exact True.intro
    · replace h2 := of_decide_eq_false h2
      have h16 : 16 ≤ i := by omega
      have hhv := hi_val (V := V) (n := n) h16
      have hL1 : i + 1 - 16 = i - 16 + 1 := by omega
      repeat ((conv => whnf); (with_reducible refine And.intro ?_ ?_); · omega)
      conv => whnf
      refine ⟨fun h3 => ?_, fun h3 => ?_⟩
      · have h3 := eq_of_beq h3
        have hi16 : i = 16 := by omega
        repeat ((conv => whnf); (with_reducible refine And.intro ?_ ?_); · first | omega | (intro _; refine ⟨True.intro, ?_⟩; omega) | (intro _; refine ⟨decide_eq_true ?_, ?_⟩ <;> omega))
        conv => whnf
        refine ⟨fun h4 => ?_, fun h4 => absurd h4 (by rw [decide_eq_true (by omega)]; decide)⟩
        repeat ((conv => whnf); (with_reducible refine And.intro ?_ ?_); · omega)
        conv => whnf
        simp only [Int.toNat_natCast, Nat.zero_add, v1, v2, v3]
        have hg1 : ((dg 256 V i % 4 : Nat) : Int) = NI (dg 256 (V % 1361129467683753853853498429727072845824)) 16 := by unfold NI; rw [hi16, dg_low16]
        have hfin1 : ∀ j, j < 16 + 1 → NI (dg 256 (V % 1361129467683753853853498429727072845824)) j = put_ (NI (dg 256 (V % 1361129467683753853853498429727072845824))) 16 1 (fun j => listI [((dg 256 V i % 4 : Nat) : Int)].reverse j) j := fun j hj => put1 (i := 16) (h := fun j => listI [((dg 256 V i % 4 : Nat) : Int)].reverse j) hg1 j hj
        refine ⟨fun h5 => ?_, fun h5 => ?_⟩
        · replace h5 := of_decide_eq_true h5
          repeat ((conv => whnf); (with_reducible refine And.intro ?_ ?_); · first | omega | (intro _; refine ⟨True.intro, ?_⟩; omega))
          conv => whnf
          simp only [Int.toNat_natCast, Nat.zero_add, v3, v4, v5, v6]
          have hg2 : ((dg 256 V i / 4 + dg 256 V (i + 1) % 4 * 64 : Nat) : Int) = NI (dg 256 (V / 1361129467683753853853498429727072845824)) 0 := by unfold NI; rw [← hhv, hi16]
          have hfin2 : ∀ j, j < 0 + 1 → NI (dg 256 (V / 1361129467683753853853498429727072845824)) j = put_ (NI (dg 256 (V / 1361129467683753853853498429727072845824))) 0 1 (fun j => listI [((dg 256 V i / 4 + dg 256 V (i + 1) % 4 * 64 : Nat) : Int)].reverse j) j := fun j hj => put1 (i := 0) (h := fun j => listI [((dg 256 V i / 4 + dg 256 V (i + 1) % 4 * 64 : Nat) : Int)].reverse j) hg2 j hj
          repeat ((conv => whnf); (with_reducible refine And.intro ?_ ?_); · omega)
          conv => whnf
          refine ⟨i + 1, ⟨by show i + 1 ≤ n; omega, by show n - (i + 1) < n - i; omega⟩, le_of [(0, 3), (1, 5)] ?_⟩
          simp only [show min (i + 1) 17 = 16 + 1 by omega, show min i 17 = 16 by omega, show i + 1 - 16 = 0 + 1 by omega, show i - 16 = 0 by omega]
          repeat ((conv => whnf); (with_reducible refine And.intro ?_ ?_); · first | with_reducible rfl | exact (Bool.and_false _).symm | (intro _ _; with_reducible rfl) | (intro h; exact absurd h (by decide)) | (intro _; refine ⟨?_, True.intro⟩; omega) | (intro hgd; (try replace hgd := of_decide_eq_true hgd); (repeat ((conv => whnf); (with_reducible refine And.intro ?_ ?_); · first | assumption | omega | (simp [appG]; done))); (conv => whnf); exact True.intro))
          conv => whnf
          exact True.intro
        · replace h5 := of_decide_eq_false h5
          have hz : dg 256 V (i + 1) = 0 := dg_0 (by rw [show i + 1 = n by omega]; exact hV)
          have hg2 : ((dg 256 V i / 4 : Nat) : Int) = NI (dg 256 (V / 1361129467683753853853498429727072845824)) 0 := by unfold NI; rw [hz] at hhv; rw [hi16] at hhv ⊢; rw [hhv]; omega
          have hfin2 : ∀ j, j < 0 + 1 → NI (dg 256 (V / 1361129467683753853853498429727072845824)) j = put_ (NI (dg 256 (V / 1361129467683753853853498429727072845824))) 0 1 (fun j => listI [((dg 256 V i / 4 : Nat) : Int)].reverse (0 + j)) j := fun j hj => put1 (i := 0) (h := fun j => listI [((dg 256 V i / 4 : Nat) : Int)].reverse (0 + j)) hg2 j hj
          repeat ((conv => whnf); (with_reducible refine And.intro ?_ ?_); · first | omega | (intro _; refine ⟨True.intro, ?_⟩; omega))
          conv => whnf
          refine ⟨i + 1, ⟨by show i + 1 ≤ n; omega, by show n - (i + 1) < n - i; omega⟩, le_of [(0, 3), (1, 5)] ?_⟩
          simp only [show min (i + 1) 17 = 16 + 1 by omega, show min i 17 = 16 by omega, show i + 1 - 16 = 0 + 1 by omega, show i - 16 = 0 by omega]
          repeat ((conv => whnf); (with_reducible refine And.intro ?_ ?_); · first | with_reducible rfl | exact (Bool.and_false _).symm | (intro _ _; with_reducible rfl) | (intro h; exact absurd h (by decide)) | omega | (intro _; refine ⟨?_, True.intro⟩; omega) | (intro hgd; (try replace hgd := of_decide_eq_true hgd); (repeat ((conv => whnf); (with_reducible refine And.intro ?_ ?_); · first | assumption | omega | (simp [appG]; done))); (conv => whnf); exact True.intro))
          conv => whnf
          exact True.intro
      · have h3 := ne_of_beq_falseF h3
        have hi16 : 16 < i := by omega
        repeat ((conv => whnf); (with_reducible refine And.intro ?_ ?_); · omega)
        conv => whnf
        refine ⟨fun h4 => ?_, fun h4 => absurd h4 (by rw [decide_eq_true (by omega)]; decide)⟩
        repeat ((conv => whnf); (with_reducible refine And.intro ?_ ?_); · omega)
        conv => whnf
        simp only [Int.toNat_natCast, Nat.zero_add, v1, v2, v3]
        refine ⟨fun h5 => ?_, fun h5 => ?_⟩
        · replace h5 := of_decide_eq_true h5
          repeat ((conv => whnf); (with_reducible refine And.intro ?_ ?_); · first | omega | (intro _; refine ⟨True.intro, ?_⟩; omega) | (intro _; refine ⟨decide_eq_true ?_, ?_⟩ <;> omega))
          conv => whnf
          simp only [Int.toNat_natCast, Nat.zero_add, v3, v4, v5, v6]
          have hg2 : ((dg 256 V i / 4 + dg 256 V (i + 1) % 4 * 64 : Nat) : Int) = NI (dg 256 (V / 1361129467683753853853498429727072845824)) (i - 16) := by unfold NI; rw [← hhv]
          have hfin2 : ∀ j, j < i - 16 + 1 → NI (dg 256 (V / 1361129467683753853853498429727072845824)) j = put_ (NI (dg 256 (V / 1361129467683753853853498429727072845824))) (i - 16) 1 (fun j => listI [((dg 256 V i / 4 + dg 256 V (i + 1) % 4 * 64 : Nat) : Int)].reverse j) j := fun j hj => put1 (i := i - 16) (h := fun j => listI [((dg 256 V i / 4 + dg 256 V (i + 1) % 4 * 64 : Nat) : Int)].reverse j) hg2 j hj
          repeat ((conv => whnf); (with_reducible refine And.intro ?_ ?_); · omega)
          conv => whnf
          refine ⟨i + 1, ⟨by show i + 1 ≤ n; omega, by show n - (i + 1) < n - i; omega⟩, le_of [(1, 3)] ?_⟩
          simp only [show min (i + 1) 17 = 17 by omega, show min i 17 = 17 by omega, hL1]
          repeat ((conv => whnf); (with_reducible refine And.intro ?_ ?_); · first | with_reducible rfl | exact (Bool.and_false _).symm | (intro _ _; with_reducible rfl) | (intro h; exact absurd h (by decide)) | (intro _; refine ⟨?_, True.intro⟩; omega) | (simp [appG]; done) | (intro hgd; (try replace hgd := of_decide_eq_true hgd); (repeat ((conv => whnf); (with_reducible refine And.intro ?_ ?_); · first | (intro _ _; with_reducible rfl) | assumption | omega | (refine decide_eq_true ?_; omega) | (simp [appG]; done))); (conv => whnf); exact True.intro))
          conv => whnf
          exact True.intro
        · replace h5 := of_decide_eq_false h5
          have hz : dg 256 V (i + 1) = 0 := dg_0 (by rw [show i + 1 = n by omega]; exact hV)
          have hg2 : ((dg 256 V i / 4 : Nat) : Int) = NI (dg 256 (V / 1361129467683753853853498429727072845824)) (i - 16) := by unfold NI; rw [hhv, hz]; omega
          have hfin2 : ∀ j, j < i - 16 + 1 → NI (dg 256 (V / 1361129467683753853853498429727072845824)) j = put_ (NI (dg 256 (V / 1361129467683753853853498429727072845824))) (i - 16) 1 (fun j => listI [((dg 256 V i / 4 : Nat) : Int)].reverse (0 + j)) j := fun j hj => put1 (i := i - 16) (h := fun j => listI [((dg 256 V i / 4 : Nat) : Int)].reverse (0 + j)) hg2 j hj
          repeat ((conv => whnf); (with_reducible refine And.intro ?_ ?_); · first | omega | (intro _; refine ⟨True.intro, ?_⟩; omega) | (intro _; refine ⟨decide_eq_true ?_, ?_⟩ <;> omega))
          conv => whnf
          refine ⟨i + 1, ⟨by show i + 1 ≤ n; omega, by show n - (i + 1) < n - i; omega⟩, le_of [(1, 3)] ?_⟩
          simp only [show min (i + 1) 17 = 17 by omega, show min i 17 = 17 by omega, hL1]
          repeat ((conv => whnf); (with_reducible refine And.intro ?_ ?_); · first | with_reducible rfl | exact (Bool.and_false _).symm | (intro _ _; with_reducible rfl) | (intro h; exact absurd h (by decide)) | omega | (intro _; refine ⟨?_, True.intro⟩; omega) | (simp [appG]; done) | (intro hgd; (try replace hgd := of_decide_eq_true hgd); (repeat ((conv => whnf); (with_reducible refine And.intro ?_ ?_); · first | (intro _ _; with_reducible rfl) | assumption | omega | (refine decide_eq_true ?_; omega) | (simp [appG]; done))); (conv => whnf); exact True.intro))
          conv => whnf
          exact True.intro
  · replace h1 := of_decide_eq_false h1
    have hin : i = n := by omega
    subst hin
    simp only [show min i 17 = 17 by omega]
    have hz1 : vN 256 (toN fun j => NI (dg 256 (V / 1361129467683753853853498429727072845824)) (0 + j)) (i - 16) = V / 1361129467683753853853498429727072845824 := by
      rw [show (fun j => NI (dg 256 (V / 1361129467683753853853498429727072845824)) (0 + j)) = NI (dg 256 (V / 1361129467683753853853498429727072845824)) from funext fun j => by rw [Nat.zero_add], toN_NI, vN_dgV (quo_lt hV hn17)]
    have hz2 : vN 256 (toN fun j => NI (dg 256 (V % 1361129467683753853853498429727072845824)) (0 + j)) 17 = V % 1361129467683753853853498429727072845824 := by
      rw [show (fun j => NI (dg 256 (V % 1361129467683753853853498429727072845824)) (0 + j)) = NI (dg 256 (V % 1361129467683753853853498429727072845824)) from funext fun j => by rw [Nat.zero_add], toN_NI, vN_dgV (Nat.lt_of_lt_of_le (Nat.mod_lt _ (by omega)) (by decide))]
    have d1 : D8 (fun j => NI (dg 256 (V / 1361129467683753853853498429727072845824)) (0 + j)) (i - 16) := fun j hj => D8_dg _ (0 + j + 1) (0 + j) (by omega)
    have d2 : D8 (fun j => NI (dg 256 (V % 1361129467683753853853498429727072845824)) (0 + j)) 17 := fun j hj => D8_dg _ (0 + j + 1) (0 + j) (by omega)
    repeat (first | ((with_reducible refine (Cd.then_iff _ _).2 (And.intro ?_ ?_)); · repeat' ((conv => arg 1; whnf); first | exact Cd.holds_tt | (refine Cd.holds_p ?_; first | exact d1 | omega) | refine Cd.holds_and ?_ ?_)) | ((conv => whnf); (with_reducible refine And.intro ?_ ?_); · (intro _; refine ⟨decide_eq_true ?_, ?_⟩ <;> omega)))
    conv => whnf
    simp only [hz1]
    refine ⟨fun h2 => ?_, fun h2 => ?_⟩
    · have hq0 : V / 1361129467683753853853498429727072845824 = 0 := Nat.eq_of_beq_eq_true h2
      have hVE : V < 1361129467683753853853498429727072845824 := by omega
      have hfv : foldV V = V % 1361129467683753853853498429727072845824 := by rw [foldV_small hVE, Nat.mod_eq_of_lt hVE]
      repeat ((conv => whnf); (with_reducible refine And.intro ?_ ?_); · omega)
      conv => whnf
      refine ⟨[(0, 0)], ?_⟩
      simp only [← hfo, hfv]
      repeat ((conv => whnf); (with_reducible refine And.intro ?_ ?_); · first | with_reducible rfl | (intro h; exact absurd h (by decide)) | (intro _; refine ⟨?_, True.intro⟩; omega) | rfl | (intro hgd; (try replace hgd := of_decide_eq_true hgd); (repeat ((conv => whnf); (with_reducible refine And.intro ?_ ?_); · first | (intro _ _; with_reducible rfl) | omega | (refine decide_eq_true ?_; omega))); (conv => whnf); exact True.intro))
      conv => whnf
      exact True.intro
    · have hq0 : ¬ V / 1361129467683753853853498429727072845824 = 0 := fun e => by rw [e] at h2; cases h2
      have hVE : ¬ V < 1361129467683753853853498429727072845824 := fun e => hq0 (Nat.div_eq_of_lt e)
      have hfv := foldV_big hVE
      have hnx := fold_next hV hn17
      have hnl := quo_lt hV hn17
      have d5 : D8 (fun j => listI [5].reverse (0 + j)) 1 := fun j hj => by rw [show j = 0 by omega]; exact ⟨by decide, by decide⟩
      have hv5 : vN 256 (toN fun j => listI [5].reverse (0 + j)) 1 = 5 := rfl
      have hW : V / 1361129467683753853853498429727072845824 * 5 < 256 ^ (i - 16 + 1) := by rw [Nat.pow_succ]; omega
      have d3 : D8 (fun j => NI (dg 256 (V / 1361129467683753853853498429727072845824 * 5)) (0 + j)) (i - 16 + 1) := fun j hj => D8_dg _ (0 + j + 1) (0 + j) (by omega)
      have hz3 : vN 256 (toN fun j => NI (dg 256 (V / 1361129467683753853853498429727072845824 * 5)) (0 + j)) (i - 16 + 1) = V / 1361129467683753853853498429727072845824 * 5 := by
        rw [show (fun j => NI (dg 256 (V / 1361129467683753853853498429727072845824 * 5)) (0 + j)) = NI (dg 256 (V / 1361129467683753853853498429727072845824 * 5)) from funext fun j => by rw [Nat.zero_add], toN_NI, vN_dgV hW]
      have hnx2 : V % 1361129467683753853853498429727072845824 + V / 1361129467683753853853498429727072845824 * 5 < 256 ^ foN i := by rw [Nat.mul_comm (V / 1361129467683753853853498429727072845824)]; exact hnx
      have hfo2 : foldV (V % 1361129467683753853853498429727072845824 + V / 1361129467683753853853498429727072845824 * 5) = R := by rw [Nat.mul_comm (V / 1361129467683753853853498429727072845824), ← hfv]; exact hfo
      have hfn : max 17 (i - 16 + 1) + 1 = foN i := rfl
      have hfn1 : 17 ≤ foN i ∧ foN i ≤ 100 := by unfold foN; omega
      repeat (first | ((with_reducible refine (Cd.then_iff _ _).2 (And.intro ?_ ?_)); · repeat' ((conv => arg 1; whnf); first | exact Cd.holds_tt | (refine Cd.holds_p ?_; first | exact d1 | exact d5 | (refine ⟨?_, ?_, ?_⟩ <;> omega) | with_reducible assumption | omega | (intro _; refine ⟨True.intro, ?_⟩; omega) | (intro _; refine ⟨decide_eq_true ?_, ?_⟩ <;> omega)) | refine Cd.holds_and ?_ ?_)) | ((conv => whnf); (with_reducible refine And.intro ?_ ?_); · first | with_reducible assumption | (intro _; refine ⟨decide_eq_true ?_, ?_⟩ <;> omega)))
      conv => whnf
      simp only [hz1, hv5]
      repeat (first | ((with_reducible refine (Cd.then_iff _ _).2 (And.intro ?_ ?_)); · repeat' ((conv => arg 1; whnf); (refine Cd.holds_p ?_; (refine ⟨?_, ?_⟩ <;> omega)))) | ((conv => whnf); (with_reducible refine And.intro ?_ ?_); · exact d3))
      conv => whnf
      simp only [hz2, hz3, hfn]
      refine ⟨Nat × Nat, fun e => ⟨67, [(0, .sa (.sc (.sl false false false 0 0 0 e.2 e.2)))], [(0, ownB 3 .i64 (NI (dg 256 e.1)) e.2)], 1⟩, fun e => e.1 < 256 ^ e.2 ∧ 17 ≤ e.2 ∧ e.2 ≤ 100 ∧ foldV e.1 = R, fun e => e.1,
        ⟨(V % 1361129467683753853853498429727072845824 + V / 1361129467683753853853498429727072845824 * 5, foN i), ⟨hnx2, hfn1.1, hfn1.2, hfo2⟩, le_of [(0, 4)] ?_⟩, fun e he => ?_⟩
      · repeat ((conv => whnf); (with_reducible refine And.intro ?_ ?_); · first | with_reducible rfl | (intro h; exact absurd h (by decide)) | (intro _; refine ⟨?_, True.intro⟩; omega) | (intro hgd; (try replace hgd := of_decide_eq_true hgd); (repeat ((conv => whnf); (with_reducible refine And.intro ?_ ?_); · first | (intro _ _; with_reducible rfl) | omega | (refine decide_eq_true ?_; omega))); (conv => whnf); exact True.intro))
        conv => whnf
        exact True.intro
      clear hz1 hz2 hz3 d1 d2 d3 d5 hv5 hW hnx2 hfo2 hfn hfn1 hnx hnl hfv hVE hq0 h2 hb0 hb1 h1 hf0 hfo hR hV hVe hf hn17 hn100
      obtain ⟨hV, hn17, hn100, hfo⟩ := he
      have hV : e.1 < 256 ^ e.2 := hV
      have hn17 : 17 ≤ e.2 := hn17
      have hn100 : e.2 ≤ 100 := hn100
      have hfo : foldV e.1 = R := hfo
      repeat ((conv => whnf); (with_reducible refine And.intro ?_ ?_); · omega)
      conv => whnf
      clear V
      obtain ⟨V, hWe⟩ : ∃ V, V = e.1 := ⟨_, rfl⟩
      simp only [← hWe] at hV hfo ⊢
      obtain ⟨n, hne⟩ : ∃ n, n = e.2 := ⟨_, rfl⟩
      simp only [← hne] at hV hn17 hn100 hfo ⊢
      repeat ((conv => whnf); (with_reducible refine And.intro ?_ ?_); · omega)
      conv => whnf

      refine ⟨0, Nat, fun i => ⟨67, [(0, .sa (.sc (.sl false false false 0 0 0 n n))), (3, .sa (.sc (ownA (Nat.beq (min i 17) 0) (min i 17) 1))), (4, .sa (.sc (ownA (Nat.beq (i - 16) 0) (i - 16) 2))), (5, .sa (.sc (.int .i64 i)))],
        [(0, ownB 3 .i64 (NI (dg 256 V)) n), (1, ownB 3 .i64 (NI (dg 256 (V % 1361129467683753853853498429727072845824))) (min i 17)), (2, ownB 3 .i64 (NI (dg 256 (V / 1361129467683753853853498429727072845824))) (i - 16))], 3⟩, fun i => i ≤ n, fun i => n - i, ⟨0, by show 0 ≤ n; omega, le_of [] ?_⟩, fun i hi => ?_⟩
      · simp only [show min 0 17 = 0 from rfl, show 0 - 16 = 0 from rfl]
        repeat ((conv => whnf); (with_reducible refine And.intro ?_ ?_); · first | with_reducible rfl | (intro h; exact absurd h (by decide)) | omega | (intro _; refine ⟨?_, True.intro⟩; omega) | (refine decide_eq_false ?_; omega) | (simp [appG]; done) | (intro hgd; (try replace hgd := of_decide_eq_true hgd); (repeat ((conv => whnf); (with_reducible refine And.intro ?_ ?_); · first | (intro _ _; with_reducible rfl) | omega | (refine decide_eq_true ?_; omega))); (conv => whnf); exact True.intro))
        conv => whnf
        exact True.intro
      have hi : i ≤ n := hi
      have hb0 : Nat.beq (min i 17) 0 = true → min i 17 = 0 := fun h => by rw [Nat.beq_eq] at h; exact h
      have hb1 : Nat.beq (i - 16) 0 = true → i - 16 = 0 := fun h => by rw [Nat.beq_eq] at h; exact h
      repeat ((conv => whnf); (with_reducible refine And.intro ?_ ?_); · omega)
      conv => whnf
      refine ⟨fun h1 => ?_, fun h1 => ?_⟩
      · replace h1 := of_decide_eq_true h1
        have hin : i < n := by omega
        have hd0 := dg_lt (B := 256) (by omega) V i
        have hd1 := dg_lt (B := 256) (by omega) V (i + 1)
        have v1 : ((NI (dg 256 V) i : Int)).tmod 4 = ((dg 256 V i % 4 : Nat) : Int) := rfl
        have v2 : IntKind.i64.wrap ((NI (dg 256 V) i : Int).tdiv 4) = ((dg 256 V i / 4 : Nat) : Int) := by rw [show (NI (dg 256 V) i : Int).tdiv 4 = ((dg 256 V i / 4 : Nat) : Int) from rfl, w_i64]; omega
        have v3 : IntKind.i64.wrap ((i : Int) + 1) = ((i + 1 : Nat) : Int) := by rw [w_i64]; omega
        have v4 : ((NI (dg 256 V) (i + 1) : Int)).tmod 4 = ((dg 256 V (i + 1) % 4 : Nat) : Int) := rfl
        have v5 : IntKind.i64.wrap (((dg 256 V (i + 1) % 4 : Nat) : Int) * 64) = ((dg 256 V (i + 1) % 4 * 64 : Nat) : Int) := by rw [w_i64]; omega
        have v6 : IntKind.i64.wrap (((dg 256 V i / 4 : Nat) : Int) + ((dg 256 V (i + 1) % 4 * 64 : Nat) : Int)) = ((dg 256 V i / 4 + dg 256 V (i + 1) % 4 * 64 : Nat) : Int) := by rw [w_i64]; omega
        repeat ((conv => whnf); (with_reducible refine And.intro ?_ ?_); · omega)
        conv => whnf
        refine ⟨fun h2 => ?_, fun h2 => ?_⟩
        · replace h2 := of_decide_eq_true h2
          have h16 : i < 16 := by omega
          repeat ((conv => whnf); (with_reducible refine And.intro ?_ ?_); · first | omega | (intro _; refine ⟨True.intro, ?_⟩; omega) | (refine decide_eq_true ?_; omega) | (intro _; refine ⟨decide_eq_true ?_, ?_⟩ <;> omega))
          conv => whnf
          refine ⟨fun h3 => absurd (of_decide_eq_true h3) (by omega), fun h3 => ?_⟩
          repeat ((conv => whnf); (with_reducible refine And.intro ?_ ?_); · omega)
          conv => whnf
          refine ⟨i + 1, ⟨by show i + 1 ≤ n; omega, by show n - (i + 1) < n - i; omega⟩, le_of [(1, 4)] ?_⟩
          have hg : NI (dg 256 V) i = NI (dg 256 (V % 1361129467683753853853498429727072845824)) i := by unfold NI; rw [dg_low h16]
          have hfin : ∀ j, j < i + 1 → NI (dg 256 (V % 1361129467683753853853498429727072845824)) j = put_ (NI (dg 256 (V % 1361129467683753853853498429727072845824))) i 1 (fun j => listI [NI (dg 256 V) i].reverse j) j := fun j hj => put1 (i := i) (h := fun j => listI [NI (dg 256 V) i].reverse j) hg j hj
          simp only [Int.toNat_natCast, Nat.zero_add, show min (i + 1) 17 = i + 1 by omega, show min i 17 = i by omega, show i + 1 - 16 = 0 by omega, show i - 16 = 0 by omega]
          repeat ((conv => whnf); (with_reducible refine And.intro ?_ ?_); · first | with_reducible rfl | exact (Bool.and_false _).symm | (intro h; exact absurd h (by decide)) | omega | (intro _; refine ⟨?_, True.intro⟩; omega) | (simp [appG]; done) | (intro hgd; (try replace hgd := of_decide_eq_true hgd); (repeat ((conv => whnf); (with_reducible refine And.intro ?_ ?_); · first | (intro _ _; with_reducible rfl) | assumption | omega | (refine decide_eq_true ?_; omega) | (simp [appG]; done))); (conv => whnf); exact True.intro))
          conv => whnf
          exact True.intro
        · replace h2 := of_decide_eq_false h2
          have h16 : 16 ≤ i := by omega
          have hhv := hi_val (V := V) (n := n) h16
          have hL1 : i + 1 - 16 = i - 16 + 1 := by omega
          repeat ((conv => whnf); (with_reducible refine And.intro ?_ ?_); · omega)
          conv => whnf
          refine ⟨fun h3 => ?_, fun h3 => ?_⟩
          · have h3 := eq_of_beq h3
            have hi16 : i = 16 := by omega
            repeat ((conv => whnf); (with_reducible refine And.intro ?_ ?_); · first | omega | (intro _; refine ⟨True.intro, ?_⟩; omega) | (refine decide_eq_true ?_; omega) | (intro _; refine ⟨decide_eq_true ?_, ?_⟩ <;> omega))
            conv => whnf
            refine ⟨fun h4 => ?_, fun h4 => absurd h4 (by rw [decide_eq_true (by omega)]; decide)⟩
            repeat ((conv => whnf); (with_reducible refine And.intro ?_ ?_); · first | omega | (refine decide_eq_true ?_; omega))
            conv => whnf
            simp only [Int.toNat_natCast, Nat.zero_add, v1, v2, v3]
            have hg1 : ((dg 256 V i % 4 : Nat) : Int) = NI (dg 256 (V % 1361129467683753853853498429727072845824)) 16 := by unfold NI; rw [hi16, dg_low16]
            have hfin1 : ∀ j, j < 16 + 1 → NI (dg 256 (V % 1361129467683753853853498429727072845824)) j = put_ (NI (dg 256 (V % 1361129467683753853853498429727072845824))) 16 1 (fun j => listI [((dg 256 V i % 4 : Nat) : Int)].reverse j) j := fun j hj => put1 (i := 16) (h := fun j => listI [((dg 256 V i % 4 : Nat) : Int)].reverse j) hg1 j hj
            refine ⟨fun h5 => ?_, fun h5 => ?_⟩
            · replace h5 := of_decide_eq_true h5
              repeat ((conv => whnf); (with_reducible refine And.intro ?_ ?_); · first | omega | (intro _; refine ⟨True.intro, ?_⟩; omega) | (refine decide_eq_true ?_; omega))
              conv => whnf
              simp only [Int.toNat_natCast, Nat.zero_add, v3, v4, v5, v6]
              have hg2 : ((dg 256 V i / 4 + dg 256 V (i + 1) % 4 * 64 : Nat) : Int) = NI (dg 256 (V / 1361129467683753853853498429727072845824)) 0 := by unfold NI; rw [← hhv, hi16]
              have hfin2 : ∀ j, j < 0 + 1 → NI (dg 256 (V / 1361129467683753853853498429727072845824)) j = put_ (NI (dg 256 (V / 1361129467683753853853498429727072845824))) 0 1 (fun j => listI [((dg 256 V i / 4 + dg 256 V (i + 1) % 4 * 64 : Nat) : Int)].reverse j) j := fun j hj => put1 (i := 0) (h := fun j => listI [((dg 256 V i / 4 + dg 256 V (i + 1) % 4 * 64 : Nat) : Int)].reverse j) hg2 j hj
              repeat ((conv => whnf); (with_reducible refine And.intro ?_ ?_); · omega)
              conv => whnf
              refine ⟨i + 1, ⟨by show i + 1 ≤ n; omega, by show n - (i + 1) < n - i; omega⟩, le_of [(1, 4), (2, 6)] ?_⟩
              simp only [show min (i + 1) 17 = 16 + 1 by omega, show min i 17 = 16 by omega, show i + 1 - 16 = 0 + 1 by omega, show i - 16 = 0 by omega]
              repeat ((conv => whnf); (with_reducible refine And.intro ?_ ?_); · first | with_reducible rfl | exact (Bool.and_false _).symm | (intro h; exact absurd h (by decide)) | (intro _; refine ⟨?_, True.intro⟩; omega) | (intro hgd; (try replace hgd := of_decide_eq_true hgd); (repeat ((conv => whnf); (with_reducible refine And.intro ?_ ?_); · first | (intro _ _; with_reducible rfl) | assumption | omega | (refine decide_eq_true ?_; omega) | (simp [appG]; done))); (conv => whnf); exact True.intro))
              conv => whnf
              exact True.intro
            · replace h5 := of_decide_eq_false h5
              have hz : dg 256 V (i + 1) = 0 := dg_0 (by rw [show i + 1 = n by omega]; exact hV)
              have hg2 : ((dg 256 V i / 4 : Nat) : Int) = NI (dg 256 (V / 1361129467683753853853498429727072845824)) 0 := by unfold NI; rw [hz] at hhv; rw [hi16] at hhv ⊢; rw [hhv]; omega
              have hfin2 : ∀ j, j < 0 + 1 → NI (dg 256 (V / 1361129467683753853853498429727072845824)) j = put_ (NI (dg 256 (V / 1361129467683753853853498429727072845824))) 0 1 (fun j => listI [((dg 256 V i / 4 : Nat) : Int)].reverse (0 + j)) j := fun j hj => put1 (i := 0) (h := fun j => listI [((dg 256 V i / 4 : Nat) : Int)].reverse (0 + j)) hg2 j hj
              repeat ((conv => whnf); (with_reducible refine And.intro ?_ ?_); · first | omega | (intro _; refine ⟨True.intro, ?_⟩; omega))
              conv => whnf
              refine ⟨i + 1, ⟨by show i + 1 ≤ n; omega, by show n - (i + 1) < n - i; omega⟩, le_of [(1, 4), (2, 6)] ?_⟩
              simp only [show min (i + 1) 17 = 16 + 1 by omega, show min i 17 = 16 by omega, show i + 1 - 16 = 0 + 1 by omega, show i - 16 = 0 by omega]
              repeat ((conv => whnf); (with_reducible refine And.intro ?_ ?_); · first | with_reducible rfl | exact (Bool.and_false _).symm | (intro h; exact absurd h (by decide)) | omega | (intro _; refine ⟨?_, True.intro⟩; omega) | (intro hgd; (try replace hgd := of_decide_eq_true hgd); (repeat ((conv => whnf); (with_reducible refine And.intro ?_ ?_); · first | (intro _ _; with_reducible rfl) | assumption | omega | (refine decide_eq_true ?_; omega) | (simp [appG]; done))); (conv => whnf); exact True.intro))
              conv => whnf
              exact True.intro
          · have h3 := ne_of_beq_falseF h3
            have hi16 : 16 < i := by omega
            repeat ((conv => whnf); (with_reducible refine And.intro ?_ ?_); · omega)
            conv => whnf
            refine ⟨fun h4 => ?_, fun h4 => absurd h4 (by rw [decide_eq_true (by omega)]; decide)⟩
            repeat ((conv => whnf); (with_reducible refine And.intro ?_ ?_); · first | omega | (refine decide_eq_true ?_; omega))
            conv => whnf
            simp only [Int.toNat_natCast, Nat.zero_add, v1, v2, v3]
            refine ⟨fun h5 => ?_, fun h5 => ?_⟩
            · replace h5 := of_decide_eq_true h5
              repeat ((conv => whnf); (with_reducible refine And.intro ?_ ?_); · first | omega | (intro _; refine ⟨True.intro, ?_⟩; omega) | (refine decide_eq_true ?_; omega) | (intro _; refine ⟨decide_eq_true ?_, ?_⟩ <;> omega))
              conv => whnf
              simp only [Int.toNat_natCast, Nat.zero_add, v3, v4, v5, v6]
              have hg2 : ((dg 256 V i / 4 + dg 256 V (i + 1) % 4 * 64 : Nat) : Int) = NI (dg 256 (V / 1361129467683753853853498429727072845824)) (i - 16) := by unfold NI; rw [← hhv]
              have hfin2 : ∀ j, j < i - 16 + 1 → NI (dg 256 (V / 1361129467683753853853498429727072845824)) j = put_ (NI (dg 256 (V / 1361129467683753853853498429727072845824))) (i - 16) 1 (fun j => listI [((dg 256 V i / 4 + dg 256 V (i + 1) % 4 * 64 : Nat) : Int)].reverse j) j := fun j hj => put1 (i := i - 16) (h := fun j => listI [((dg 256 V i / 4 + dg 256 V (i + 1) % 4 * 64 : Nat) : Int)].reverse j) hg2 j hj
              repeat ((conv => whnf); (with_reducible refine And.intro ?_ ?_); · omega)
              conv => whnf
              refine ⟨i + 1, ⟨by show i + 1 ≤ n; omega, by show n - (i + 1) < n - i; omega⟩, le_of [(2, 4)] ?_⟩
              simp only [show min (i + 1) 17 = 17 by omega, show min i 17 = 17 by omega, hL1]
              repeat ((conv => whnf); (with_reducible refine And.intro ?_ ?_); · first | with_reducible rfl | exact (Bool.and_false _).symm | (intro h; exact absurd h (by decide)) | (intro _; refine ⟨?_, True.intro⟩; omega) | (simp [appG]; done) | (intro hgd; (try replace hgd := of_decide_eq_true hgd); (repeat ((conv => whnf); (with_reducible refine And.intro ?_ ?_); · first | (intro _ _; with_reducible rfl) | assumption | omega | (refine decide_eq_true ?_; omega) | (simp [appG]; done))); (conv => whnf); exact True.intro))
              conv => whnf
              exact True.intro
            · replace h5 := of_decide_eq_false h5
              have hz : dg 256 V (i + 1) = 0 := dg_0 (by rw [show i + 1 = n by omega]; exact hV)
              have hg2 : ((dg 256 V i / 4 : Nat) : Int) = NI (dg 256 (V / 1361129467683753853853498429727072845824)) (i - 16) := by unfold NI; rw [hhv, hz]; omega
              have hfin2 : ∀ j, j < i - 16 + 1 → NI (dg 256 (V / 1361129467683753853853498429727072845824)) j = put_ (NI (dg 256 (V / 1361129467683753853853498429727072845824))) (i - 16) 1 (fun j => listI [((dg 256 V i / 4 : Nat) : Int)].reverse (0 + j)) j := fun j hj => put1 (i := i - 16) (h := fun j => listI [((dg 256 V i / 4 : Nat) : Int)].reverse (0 + j)) hg2 j hj
              repeat ((conv => whnf); (with_reducible refine And.intro ?_ ?_); · first | omega | (intro _; refine ⟨True.intro, ?_⟩; omega) | (intro _; refine ⟨decide_eq_true ?_, ?_⟩ <;> omega))
              conv => whnf
              refine ⟨i + 1, ⟨by show i + 1 ≤ n; omega, by show n - (i + 1) < n - i; omega⟩, le_of [(2, 4)] ?_⟩
              simp only [show min (i + 1) 17 = 17 by omega, show min i 17 = 17 by omega, hL1]
              repeat ((conv => whnf); (with_reducible refine And.intro ?_ ?_); · first | with_reducible rfl | exact (Bool.and_false _).symm | (intro h; exact absurd h (by decide)) | omega | (intro _; refine ⟨?_, True.intro⟩; omega) | (simp [appG]; done) | (intro hgd; (try replace hgd := of_decide_eq_true hgd); (repeat ((conv => whnf); (with_reducible refine And.intro ?_ ?_); · first | (intro _ _; with_reducible rfl) | assumption | omega | (refine decide_eq_true ?_; omega) | (simp [appG]; done))); (conv => whnf); exact True.intro))
              conv => whnf
              exact True.intro
      · replace h1 := of_decide_eq_false h1
        have hin : i = n := by omega
        subst hin
        simp only [show min i 17 = 17 by omega]
        have hz1 : vN 256 (toN fun j => NI (dg 256 (V / 1361129467683753853853498429727072845824)) (0 + j)) (i - 16) = V / 1361129467683753853853498429727072845824 := by
          rw [show (fun j => NI (dg 256 (V / 1361129467683753853853498429727072845824)) (0 + j)) = NI (dg 256 (V / 1361129467683753853853498429727072845824)) from funext fun j => by rw [Nat.zero_add], toN_NI, vN_dgV (quo_lt hV hn17)]
        have hz2 : vN 256 (toN fun j => NI (dg 256 (V % 1361129467683753853853498429727072845824)) (0 + j)) 17 = V % 1361129467683753853853498429727072845824 := by
          rw [show (fun j => NI (dg 256 (V % 1361129467683753853853498429727072845824)) (0 + j)) = NI (dg 256 (V % 1361129467683753853853498429727072845824)) from funext fun j => by rw [Nat.zero_add], toN_NI, vN_dgV (Nat.lt_of_lt_of_le (Nat.mod_lt _ (by omega)) (by decide))]
        have d1 : D8 (fun j => NI (dg 256 (V / 1361129467683753853853498429727072845824)) (0 + j)) (i - 16) := fun j hj => D8_dg _ (0 + j + 1) (0 + j) (by omega)
        have d2 : D8 (fun j => NI (dg 256 (V % 1361129467683753853853498429727072845824)) (0 + j)) 17 := fun j hj => D8_dg _ (0 + j + 1) (0 + j) (by omega)
        repeat (first | ((with_reducible refine (Cd.then_iff _ _).2 (And.intro ?_ ?_)); · repeat' ((conv => arg 1; whnf); first | exact Cd.holds_tt | (refine Cd.holds_p ?_; first | exact d1 | omega) | refine Cd.holds_and ?_ ?_)) | ((conv => whnf); (with_reducible refine And.intro ?_ ?_); · (intro _; refine ⟨decide_eq_true ?_, ?_⟩ <;> omega)))
        conv => whnf
        simp only [hz1]
        refine ⟨fun h2 => ?_, fun h2 => ?_⟩
        · have hq0 : V / 1361129467683753853853498429727072845824 = 0 := Nat.eq_of_beq_eq_true h2
          have hVE : V < 1361129467683753853853498429727072845824 := by omega
          have hfv : foldV V = V % 1361129467683753853853498429727072845824 := by rw [foldV_small hVE, Nat.mod_eq_of_lt hVE]
          repeat ((conv => whnf); (with_reducible refine And.intro ?_ ?_); · omega)
          conv => whnf
          refine ⟨[(0, 1)], ?_⟩
          simp only [← hfo, hfv]
          repeat ((conv => whnf); (with_reducible refine And.intro ?_ ?_); · first | with_reducible rfl | (intro h; exact absurd h (by decide)) | (intro _; refine ⟨?_, True.intro⟩; omega) | rfl | (intro hgd; (try replace hgd := of_decide_eq_true hgd); (repeat ((conv => whnf); (with_reducible refine And.intro ?_ ?_); · first | (intro _ _; with_reducible rfl) | omega | (refine decide_eq_true ?_; omega))); (conv => whnf); exact True.intro))
          conv => whnf
          exact True.intro
        · have hq0 : ¬ V / 1361129467683753853853498429727072845824 = 0 := fun e => by rw [e] at h2; cases h2
          have hVE : ¬ V < 1361129467683753853853498429727072845824 := fun e => hq0 (Nat.div_eq_of_lt e)
          have hfv := foldV_big hVE
          have hnx := fold_next hV hn17
          have hnl := quo_lt hV hn17
          have d5 : D8 (fun j => listI [5].reverse (0 + j)) 1 := fun j hj => by rw [show j = 0 by omega]; exact ⟨by decide, by decide⟩
          have hv5 : vN 256 (toN fun j => listI [5].reverse (0 + j)) 1 = 5 := rfl
          have hW : V / 1361129467683753853853498429727072845824 * 5 < 256 ^ (i - 16 + 1) := by rw [Nat.pow_succ]; omega
          have d3 : D8 (fun j => NI (dg 256 (V / 1361129467683753853853498429727072845824 * 5)) (0 + j)) (i - 16 + 1) := fun j hj => D8_dg _ (0 + j + 1) (0 + j) (by omega)
          have hz3 : vN 256 (toN fun j => NI (dg 256 (V / 1361129467683753853853498429727072845824 * 5)) (0 + j)) (i - 16 + 1) = V / 1361129467683753853853498429727072845824 * 5 := by
            rw [show (fun j => NI (dg 256 (V / 1361129467683753853853498429727072845824 * 5)) (0 + j)) = NI (dg 256 (V / 1361129467683753853853498429727072845824 * 5)) from funext fun j => by rw [Nat.zero_add], toN_NI, vN_dgV hW]
          have hnx2 : V % 1361129467683753853853498429727072845824 + V / 1361129467683753853853498429727072845824 * 5 < 256 ^ foN i := by rw [Nat.mul_comm (V / 1361129467683753853853498429727072845824)]; exact hnx
          have hfo2 : foldV (V % 1361129467683753853853498429727072845824 + V / 1361129467683753853853498429727072845824 * 5) = R := by rw [Nat.mul_comm (V / 1361129467683753853853498429727072845824), ← hfv]; exact hfo
          have hfn : max 17 (i - 16 + 1) + 1 = foN i := rfl
          have hfn1 : 17 ≤ foN i ∧ foN i ≤ 100 := by unfold foN; omega
          repeat (first | ((with_reducible refine (Cd.then_iff _ _).2 (And.intro ?_ ?_)); · repeat' ((conv => arg 1; whnf); first | exact Cd.holds_tt | (refine Cd.holds_p ?_; first | exact d1 | exact d5 | (refine ⟨?_, ?_, ?_⟩ <;> omega) | with_reducible assumption | omega | (intro _; refine ⟨True.intro, ?_⟩; omega) | (intro _; refine ⟨decide_eq_true ?_, ?_⟩ <;> omega)) | refine Cd.holds_and ?_ ?_)) | ((conv => whnf); (with_reducible refine And.intro ?_ ?_); · first | with_reducible assumption | (intro _; refine ⟨decide_eq_true ?_, ?_⟩ <;> omega)))
          conv => whnf
          simp only [hz1, hv5]
          repeat (first | ((with_reducible refine (Cd.then_iff _ _).2 (And.intro ?_ ?_)); · repeat' ((conv => arg 1; whnf); (refine Cd.holds_p ?_; (refine ⟨?_, ?_⟩ <;> omega)))) | ((conv => whnf); (with_reducible refine And.intro ?_ ?_); · exact d3))
          conv => whnf
          simp only [hz2, hz3, hfn]
          refine ⟨(V % 1361129467683753853853498429727072845824 + V / 1361129467683753853853498429727072845824 * 5, foN i), ⟨⟨hnx2, hfn1.1, hfn1.2, hfo2⟩, by show V % 1361129467683753853853498429727072845824 + V / 1361129467683753853853498429727072845824 * 5 < V; omega⟩, le_of [(0, 5)] ?_⟩
          repeat ((conv => whnf); (with_reducible refine And.intro ?_ ?_); · first | with_reducible rfl | (intro h; exact absurd h (by decide)) | (intro _; refine ⟨?_, True.intro⟩; omega) | (intro hgd; (try replace hgd := of_decide_eq_true hgd); (repeat ((conv => whnf); (with_reducible refine And.intro ?_ ?_); · first | (intro _ _; with_reducible rfl) | omega | (refine decide_eq_true ?_; omega))); (conv => whnf); exact True.intro))
          conv => whnf
          exact True.intro

end Go.Proofs.Ytogijkmflhjhkaa

/- Functions through the evaluator: the document's Poly1305. No condition. -/
namespace Go.Proofs.Ytogijkmflhjhkaa
open Go.Sx Go.RowKit
set_option maxRecDepth 100000
set_option maxHeartbeats 2000000
set_option linter.unusedVariables false
set_option linter.unusedSimpArgs false

theorem cok47 : COk Try.prog (tab [(82, digitsS), (84, rtimesS), (85, rplusS), (83, foldS)]) := cok_cons digitsS_ok (cok_cons rtimesS_ok (cok_cons rplusS_ok (cok_cons foldS_ok cok_nil)))
theorem and_i64 {a m : Nat} (ha : a < 256) (hm : m < 256) : bits .and .i64 (a : Int) (m : Int) = ((a &&& m : Nat) : Int) := by
  show IntKind.i64.wrap ((BitVec.ofInt 64 _ &&& BitVec.ofInt 64 _).toNat : Int) = _
  rw [BitVec.ofInt_natCast, BitVec.ofInt_natCast, BitVec.toNat_and, BitVec.toNat_ofNat, BitVec.toNat_ofNat, Nat.mod_eq_of_lt (show a < 2 ^ 64 by omega), Nat.mod_eq_of_lt (show m < 2 ^ 64 by omega), w_i64]
  have : a &&& m ≤ a := Nat.and_le_left
  omega
def rL (K : List B8) : List B8 := List.zipWith (· &&& ·) (K.take 16) masks
theorem rL_length {K : List B8} (h : K.length = 32) : (rL K).length = 16 := by
  unfold rL
  rw [List.length_zipWith, List.length_take, h]; rfl
theorem rL_get {K : List B8} (h : K.length = 32) {j : Nat} (hj : j < 16) : UL (rL K) j = (((K.getD j 0).toNat &&& (masks.getD j 0).toNat : Nat) : Int) := by
  rw [UL_getD]
  unfold rL U
  rw [List.getD_eq_getElem?_getD, List.getElem?_zipWith, List.getElem?_take_of_lt hj]
  have h1 : K[j]? = some (K.getD j 0) := by rw [List.getD_eq_getElem?_getD]; simp [show j < K.length by omega]
  have h2 : masks[j]? = some (masks.getD j 0) := by rw [List.getD_eq_getElem?_getD]; simp [show j < masks.length from hj]
  rw [h1, h2]
  simp
theorem and255 (x : B8) : (x.toNat &&& 255) = x.toNat := by
  have := Nat.and_two_pow_sub_one_eq_mod x.toNat 8
  rw [show (2 : Nat) ^ 8 - 1 = 255 from rfl] at this
  rw [this]
  exact Nat.mod_eq_of_lt x.isLt
/-- The key's digits, those of the first i places that are turned by 15; then by 252. -/
def m1F (K : List B8) (i j : Nat) : Int := if j % 4 = 3 ∧ j < 4 * i then UL (rL K) j else UL K j
def m2F (K : List B8) (i j : Nat) : Int := if j % 4 = 3 ∨ (j % 4 = 0 ∧ 4 ≤ j ∧ j < 4 * i + 4) then UL (rL K) j else UL K j
theorem four' {i : Nat} (h : i < 4) : i = 0 ∨ i = 1 ∨ i = 2 ∨ i = 3 := by omega
theorem m1_step {K : List B8} (h : K.length = 32) {i : Nat} (hi : i < 4) (j : Nat) (hj : j < 16) : m1F K (i + 1) j = upd (m1F K i) (4 * i + 3) (bits .and .i64 (m1F K i (4 * i + 3)) 15) j := by
  have e1 : m1F K i (4 * i + 3) = UL K (4 * i + 3) := if_neg (by omega)
  have e2 : bits .and .i64 (UL K (4 * i + 3)) 15 = UL (rL K) (4 * i + 3) := by
    rw [rL_get h (by omega)]
    have e3 : (masks.getD (4 * i + 3) 0).toNat = 15 := by rcases four' hi with rfl | rfl | rfl | rfl <;> rfl
    rw [e3]
    exact and_i64 (K.getD (4 * i + 3) 0).isLt (by decide)
  rw [e1, e2]
  unfold upd
  by_cases e : j = 4 * i + 3
  · subst e; rw [if_pos rfl]; exact if_pos ⟨by omega, by omega⟩
  · rw [if_neg e]
    unfold m1F
    by_cases e2 : j % 4 = 3 ∧ j < 4 * i
    · rw [if_pos e2, if_pos (by omega)]
    · rw [if_neg e2, if_neg (by omega)]
theorem m1_end (K : List B8) (j : Nat) (hj : j < 16) : m2F K 0 j = m1F K 4 j := by
  unfold m1F m2F
  by_cases e : j % 4 = 3
  · rw [if_pos (.inl e), if_pos ⟨e, by omega⟩]
  · rw [if_neg (by omega), if_neg (by omega)]
theorem three' {i : Nat} (h : i < 3) : i = 0 ∨ i = 1 ∨ i = 2 := by omega
theorem m2_step {K : List B8} (h : K.length = 32) {i : Nat} (hi : i < 3) (j : Nat) (hj : j < 16) : m2F K (i + 1) j = upd (m2F K i) (4 * i + 4) (bits .and .i64 (m2F K i (4 * i + 4)) 252) j := by
  have e1 : m2F K i (4 * i + 4) = UL K (4 * i + 4) := if_neg (by omega)
  have e2 : bits .and .i64 (UL K (4 * i + 4)) 252 = UL (rL K) (4 * i + 4) := by
    rw [rL_get h (by omega)]
    have e3 : (masks.getD (4 * i + 4) 0).toNat = 252 := by rcases three' hi with rfl | rfl | rfl <;> rfl
    rw [e3]
    exact and_i64 (K.getD (4 * i + 4) 0).isLt (by decide)
  rw [e1, e2]
  unfold upd
  by_cases e : j = 4 * i + 4
  · subst e; rw [if_pos rfl]; exact if_pos (.inr ⟨by omega, by omega, by omega⟩)
  · rw [if_neg e]
    unfold m2F
    by_cases e2 : j % 4 = 3 ∨ (j % 4 = 0 ∧ 4 ≤ j ∧ j < 4 * i + 4)
    · rw [if_pos e2, if_pos (by omega)]
    · rw [if_neg e2, if_neg (by omega)]
theorem m2_end {K : List B8} (h : K.length = 32) (j : Nat) (hj : j < 16) : m2F K 3 j = UL (rL K) j := by
  unfold m2F
  split
  · rfl
  · rename_i hn
    rw [rL_get h hj]
    have e3 : (masks.getD j 0).toNat = 255 := by
      rcases sixteen hj with rfl | rfl | rfl | rfl | rfl | rfl | rfl | rfl | rfl | rfl | rfl | rfl | rfl | rfl | rfl | rfl <;> first | rfl | exact absurd (by decide) hn
    rw [e3, and255]
    rfl
def accL (k : Nat) : Nat := if k = 0 then 1 else 17
theorem accL_le (k : Nat) : 1 ≤ accL k ∧ accL k ≤ 17 := by unfold accL; split <;> omega
theorem dig_val {l : List B8} {L : Nat} (hL : L = l.length) {X : Nat → Int} (hX : ∀ j, j < L + 1 → X j = if j < L then UL l j else 1) : vN 256 (toN X) (L + 1) = leN l + 256 ^ L := by
  rw [vN, vN_congr (g := toN X) (h := toN (UL l)) fun j hj => by unfold toN; rw [hX j (by omega), if_pos hj], leN_vN' l hL]
  have : toN X L = 1 := by unfold toN; rw [hX L (by omega), if_neg (by omega)]; rfl
  rw [this]
  omega
theorem dig_D8 {l : List B8} {L : Nat} {X : Nat → Int} (hX : ∀ j, j < L + 1 → X j = if j < L then UL l j else 1) : D8 X (L + 1) := fun j hj => by
  rw [hX j hj]
  split
  · exact ⟨U_nonneg _, U_lt8 _⟩
  · omega
/-- indentureref4.Tag. -/
noncomputable def rtagS : Summary := mkS false [.v, .r .u8] fun
  | [.v (.agg [.ints .u8 k 32]), .r nl g n] => some ⟨.and (.p (R8 k 32)) (.and (.p (R8 g n)) (.p (n ≤ 100000))), some (.sa (.agg [.ints .u8 (UL (polyTag (L8 k 32) (L8 g n))) 16])), [], 0⟩
  | _ => none
theorem rtagS_ok : SumOk Try.prog 60 rtagS := by
  unfold rtagS
  apply sum_ok
  intro vs A H n o r hb h
  split at h
  rotate_left
  · cases h
  rename_i k nl g n0
  injection h with h
  subst h
  cases hb
  refine fsound_of_run tt_ok cok47 mixed_ok Try.call60 Try.func60 rfl (rs := _) Try.results60 (size := 126) Try.ntmps60 (Nat.le_of_ble_eq_true rfl) rfl fun hp hfa hfh => ?_
  obtain ⟨hk, hg, hn⟩ := hp
  have hk : R8 k 32 := hk
  have hg : R8 g n0 := hg
  have hn : n0 ≤ 100000 := hn
  obtain ⟨K, hK⟩ : ∃ K, K = L8 k 32 := ⟨_, rfl⟩
  have hKl : K.length = 32 := by rw [hK, L8_length]
  have hKj : ∀ j, j < 32 → k j = UL K j := fun j hj => by rw [hK, UL_L8 hk j hj]
  obtain ⟨M, hM⟩ : ∃ M, M = L8 g n0 := ⟨_, rfl⟩
  have hMl : M.length = n0 := by rw [hM, L8_length]
  rw [← hK, ← hM]
  have hk1 : R8 (fun j => k (Int.toNat 0 + j)) (Int.toNat 16 - Int.toNat 0) := fun j hj => hk (0 + j) (by have : j < 16 := hj; omega)
  repeat ((conv => whnf); (with_reducible refine And.intro ?_ ?_); · first | with_reducible assumption | omega | (intro _; refine ⟨True.intro, ?_⟩; omega))
  conv => whnf
  refine ⟨0, Nat, fun i => ⟨126, [(1, .sa (.sc (.im nl .u8 g n0))), (2, .sa (.sc (.ptr 0 0 0))), (4, .sa (.sc (.ptr 1 0 0))), (5, .sa (.sc (ownA false 16 2))), (19, .sa (.sc (.sl false true true 3 0 0 4 4))), (20, .sa (.sc (.int .i64 4))), (21, .sa (.sc (.int .i64 i)))],
    [(0, .own 29 [.ints .u8 k 32] false), (1, .own 68 [.ints .u8 (fun _ => 0) 16] false), (2, ownB 3 .i64 (m1F K i) 16), (3, .own 3 [.ints .i64 (listI [15, 11, 7, 3].reverse) 4] false)], 4⟩, fun i => i ≤ 4, fun i => 4 - i, ⟨0, by omega, le_of [] ?_⟩, fun i hi => ?_⟩
  · have h0 : ∀ j, j < 16 → m1F K 0 j = k (Int.toNat 0 + j) := fun j hj => by
      show _ = k (0 + j)
      rw [Nat.zero_add, hKj j (by omega)]
      exact if_neg (by omega)
    repeat ((conv => whnf); (with_reducible refine And.intro ?_ ?_); · first | with_reducible rfl | (intro _ _; with_reducible rfl) | (intro h; exact absurd h (by decide)) | omega | (intro _; refine ⟨?_, True.intro⟩; omega) | rfl | (intro hgd; (try replace hgd := of_decide_eq_true hgd); (repeat ((conv => whnf); (with_reducible refine And.intro ?_ ?_); · first | assumption | omega | (refine decide_eq_true ?_; omega))); (conv => whnf); exact True.intro))
    conv => whnf
    exact True.intro
  have hi : i ≤ 4 := hi
  repeat ((conv => whnf); (with_reducible refine And.intro ?_ ?_); · omega)
  conv => whnf
  refine ⟨fun h1 => ?_, fun h1 => ?_⟩
  · replace h1 := of_decide_eq_true h1
    have hi4 : i < 4 := by omega
    have hidx : listI [15, 11, 7, 3].reverse i = ((4 * i + 3 : Nat) : Int) := by rcases four' hi4 with rfl | rfl | rfl | rfl <;> rfl
    repeat ((conv => whnf); (with_reducible refine And.intro ?_ ?_); · omega)
    conv => whnf
    simp only [Int.toNat_natCast, Nat.zero_add, hidx]
    repeat ((conv => whnf); (with_reducible refine And.intro ?_ ?_); · first | omega | (refine decide_eq_true ?_; omega))
    conv => whnf
    refine ⟨i + 1, ⟨by show i + 1 ≤ 4; omega, by show 4 - (i + 1) < 4 - i; omega⟩, le_of [] ?_⟩
    simp only [Int.toNat_natCast, Nat.zero_add, hidx]
    have hst := m1_step hKl hi4
    repeat ((conv => whnf); (with_reducible refine And.intro ?_ ?_); · first | with_reducible rfl | (intro _ _; with_reducible rfl) | (intro h; exact absurd h (by decide)) | (intro _; refine ⟨?_, True.intro⟩; omega) | (simp only [w_i64, w_u64, w_u32, w_u8]; omega) | (intro hgd; (try replace hgd := of_decide_eq_true hgd); (repeat ((conv => whnf); (with_reducible refine And.intro ?_ ?_); · first | assumption | omega)); (conv => whnf); exact True.intro))
    conv => whnf
    exact True.intro
  · replace h1 := of_decide_eq_false h1
    have hie : i = 4 := by omega
    subst hie
    repeat ((conv => whnf); (with_reducible refine And.intro ?_ ?_); · omega)
    conv => whnf
    refine ⟨0, Nat, fun i => ⟨126, [(1, .sa (.sc (.im nl .u8 g n0))), (2, .sa (.sc (.ptr 0 0 0))), (4, .sa (.sc (.ptr 1 0 0))), (5, .sa (.sc (ownA false 16 2))), (34, .sa (.sc (.sl false true true 4 0 0 3 3))), (35, .sa (.sc (.int .i64 3))), (36, .sa (.sc (.int .i64 i)))],
      [(0, .own 29 [.ints .u8 k 32] false), (1, .own 68 [.ints .u8 (fun _ => 0) 16] false), (2, ownB 3 .i64 (m2F K i) 16), (4, .own 3 [.ints .i64 (listI [12, 8, 4].reverse) 3] false)], 5⟩, fun i => i ≤ 3, fun i => 3 - i, ⟨0, by omega, le_of [] ?_⟩, fun i hi => ?_⟩
    · have h0 := m1_end K
      repeat ((conv => whnf); (with_reducible refine And.intro ?_ ?_); · first | with_reducible rfl | (intro _ _; with_reducible rfl) | (intro h; exact absurd h (by decide)) | omega | (intro _; refine ⟨?_, True.intro⟩; omega) | (intro hgd; (try replace hgd := of_decide_eq_true hgd); (repeat ((conv => whnf); (with_reducible refine And.intro ?_ ?_); · first | assumption | omega | (refine decide_eq_true ?_; omega))); (conv => whnf); exact True.intro))
      conv => whnf
      exact True.intro
    have hi : i ≤ 3 := hi
    repeat ((conv => whnf); (with_reducible refine And.intro ?_ ?_); · omega)
    conv => whnf
    refine ⟨fun h2 => ?_, fun h2 => ?_⟩
    · replace h2 := of_decide_eq_true h2
      have hi4 : i < 3 := by omega
      have hidx : listI [12, 8, 4].reverse i = ((4 * i + 4 : Nat) : Int) := by rcases three' hi4 with rfl | rfl | rfl <;> rfl
      repeat ((conv => whnf); (with_reducible refine And.intro ?_ ?_); · omega)
      conv => whnf
      simp only [Int.toNat_natCast, Nat.zero_add, hidx]
      repeat ((conv => whnf); (with_reducible refine And.intro ?_ ?_); · first | omega | (refine decide_eq_true ?_; omega))
      conv => whnf
      refine ⟨i + 1, ⟨by show i + 1 ≤ 3; omega, by show 3 - (i + 1) < 3 - i; omega⟩, le_of [] ?_⟩
      simp only [Int.toNat_natCast, Nat.zero_add, hidx]
      have hst := m2_step hKl hi4
      repeat ((conv => whnf); (with_reducible refine And.intro ?_ ?_); · first | with_reducible rfl | (intro _ _; with_reducible rfl) | (intro h; exact absurd h (by decide)) | (intro _; refine ⟨?_, True.intro⟩; omega) | (simp only [w_i64, w_u64, w_u32, w_u8]; omega) | (intro hgd; (try replace hgd := of_decide_eq_true hgd); (repeat ((conv => whnf); (with_reducible refine And.intro ?_ ?_); · first | assumption | omega)); (conv => whnf); exact True.intro))
      conv => whnf
      exact True.intro
    · replace h2 := of_decide_eq_false h2
      have hie : i = 3 := by omega
      subst hie
      obtain ⟨R, hR⟩ : ∃ R, R = polyR K := ⟨_, rfl⟩
      have hRl := polyR_lt K
      rw [← hR] at hRl
      have hr8 : R8 (UL (rL K)) 16 := R8_UL _ _
      have hrD : D8 (fun j => UL (rL K) (0 + j)) 16 := fun j hj => ⟨U_nonneg _, U_lt8 _⟩
      have hrV : vN 256 (toN fun j => UL (rL K) (0 + j)) 16 = R := by
        rw [show (fun j => UL (rL K) (0 + j)) = UL (rL K) from funext fun j => by rw [Nat.zero_add], leN_vN' (rL K) (rL_length hKl).symm, hR]
        rfl
      repeat ((conv => whnf); (with_reducible refine And.intro ?_ ?_); · omega)
      conv => whnf
      refine ⟨0, Nat × Nat, fun x => ⟨126, [(1, .sa (.sc (.im nl .u8 g n0))), (2, .sa (.sc (.ptr 0 0 0))), (4, .sa (.sc (.ptr 1 0 0))), (5, .sa (.sc (ownA false 16 2))), (10, .sa (.sc (ownA false (accL x.1) 3))), (11, .sa (.sc (.int .i64 ((16 * x.1 : Nat) : Int))))],
        [(0, .own 29 [.ints .u8 k 32] false), (1, .own 68 [.ints .u8 (fun _ => 0) 16] false), (2, ownB 3 .i64 (UL (rL K)) 16), (3, ownB 3 .i64 (NI (dg 256 x.2)) (accL x.1))], 4⟩,
        fun x => 16 * x.1 < n0 + 16 ∧ x.2 < 1361129467683753853853498429727072845824 ∧ x.2 < 256 ^ accL x.1 ∧ x.2 % P1305 = polyA R M x.1, fun x => n0 + 16 - 16 * x.1, ⟨(0, 0), ⟨by show 16 * 0 < n0 + 16; omega, by show 0 < 1361129467683753853853498429727072845824; omega, by show 0 < 256 ^ accL 0; decide, rfl⟩, le_of [(3, 5)] ?_⟩, fun x hx => ?_⟩
      · have h0 : ∀ j, j < 16 → UL (rL K) j = m2F K 3 j := fun j hj => (m2_end hKl j hj).symm
        have h1 : ∀ j, j < 1 → NI (dg 256 0) j = listI [0].reverse j := fun j hj => by rw [show j = 0 by omega]; rfl
        simp only [show accL 0 = 1 from rfl]
        repeat ((conv => whnf); (with_reducible refine And.intro ?_ ?_); · first | with_reducible rfl | (intro _ _; with_reducible rfl) | (intro h; exact absurd h (by decide)) | omega | (intro _; refine ⟨?_, True.intro⟩; omega) | (intro hgd; (try replace hgd := of_decide_eq_true hgd); (repeat ((conv => whnf); (with_reducible refine And.intro ?_ ?_); · first | assumption | omega | (refine decide_eq_true ?_; omega))); (conv => whnf); exact True.intro))
        conv => whnf
        exact True.intro
      obtain ⟨hx1, hx2, hx4, hx3⟩ := hx
      have hx1 : 16 * x.1 < n0 + 16 := hx1
      have hx2 : x.2 < 1361129467683753853853498429727072845824 := hx2
      have hx4 : x.2 < 256 ^ accL x.1 := hx4
      have hx3 : x.2 % P1305 = polyA R M x.1 := hx3
      have haL := accL_le x.1
      have haD : D8 (fun j => NI (dg 256 x.2) (0 + j)) (accL x.1) := fun j hj => D8_dg _ (0 + j + 1) (0 + j) (by omega)
      have haV : vN 256 (toN fun j => NI (dg 256 x.2) (0 + j)) (accL x.1) = x.2 := by
        rw [show (fun j => NI (dg 256 x.2) (0 + j)) = NI (dg 256 x.2) from funext fun j => by rw [Nat.zero_add], toN_NI, vN_dgV hx4]
      repeat ((conv => whnf); (with_reducible refine And.intro ?_ ?_); · omega)
      conv => whnf
      refine ⟨fun h3 => ?_, fun h3 => ?_⟩
      · replace h3 := of_decide_eq_true h3
        have h16 : 16 * x.1 < n0 := by omega
        obtain ⟨L, hL⟩ : ∃ L, L = min (n0 - 16 * x.1) 16 := ⟨_, rfl⟩
        have wi : IntKind.i64.wrap (((16 * x.1 : Nat) : Int) + 16) = ((16 * x.1 + 16 : Nat) : Int) := by rw [w_i64]; omega
        have wm : (if ((16 * x.1 + 16 : Nat) : Int) < (n0 : Int) then ((16 * x.1 + 16 : Nat) : Int) else (n0 : Int)) = ((16 * x.1 + L : Nat) : Int) := by split <;> omega
        have hpg : R8 (fun j => g (16 * x.1 + j)) L := fun j hj => hg _ (by omega)
        repeat ((conv => whnf); (with_reducible refine And.intro ?_ ?_); · first | with_reducible assumption | omega | (intro _; refine ⟨True.intro, ?_⟩; omega) | (intro _; refine ⟨decide_eq_true ?_, ?_⟩ <;> omega) | (intro _; refine ⟨?_, ?_⟩ <;> first | omega | (simp [appG, Cd.holds]; done)) | (simp only [wi, wm, Int.toNat_natCast, Nat.add_sub_cancel_left]; exact hpg))
        conv => whnf
        simp only [wi, wm, Int.toNat_natCast, Nat.add_sub_cancel_left]
        have hLl : L = (pc M x.1).length := by rw [hL, pc_len hMl]
        have hPX : ∀ j, j < L + 1 → (fun j => put_ (fun j => g (16 * x.1 + j)) L 1 (fun j => listI [1].reverse (0 + j)) (0 + j)) j = if j < L then UL (pc M x.1) j else 1 := fun j hj => by
          show put_ (fun j => g (16 * x.1 + j)) L 1 (fun j => listI [1].reverse (0 + j)) (0 + j) = _
          rw [Nat.zero_add]
          unfold put_
          by_cases e : j < L
          · rw [if_pos e, if_neg (by omega), pc_val hM hg (by omega)]
          · rw [if_neg e, if_pos (by omega), show j - L = 0 by omega]; rfl
        have hPD := dig_D8 hPX
        have hPV := dig_val hLl hPX
        have hPl : leN (pc M x.1) + 256 ^ L < 256 ^ (L + 1) := by
          have h1 := leN_lt (pc M x.1)
          rw [← hLl] at h1
          rw [Nat.pow_succ]; omega
        generalize hPe : (fun j => put_ (fun j => g (16 * x.1 + j)) L 1 (fun j => listI [1].reverse (0 + j)) (0 + j)) = PX at hPD hPV ⊢
        have hpA : polyA R M (x.1 + 1) = (x.2 + (leN (pc M x.1) + 256 ^ L)) * R % P1305 := by
          rw [polyA, ← hLl]
          exact (step_mod (hx3.trans (Nat.mod_eq_of_lt (polyA_lt R M x.1)).symm)).symm
        generalize leN (pc M x.1) + 256 ^ L = PV at *
        obtain ⟨mx, hmx⟩ : ∃ mx, mx = max (accL x.1) (L + 1) := ⟨_, rfl⟩
        have hmx2 : mx ≤ 17 := by omega
        have hSl : x.2 + PV < 256 ^ (mx + 1) := by
          have h1 := Nat.pow_le_pow_right (n := 256) (by omega) (show accL x.1 ≤ mx by omega)
          have h2 := Nat.pow_le_pow_right (n := 256) (by omega) (show L + 1 ≤ mx by omega)
          rw [Nat.pow_succ]; omega
        have hSD : D8 (fun j => NI (dg 256 (x.2 + PV)) (0 + j)) (mx + 1) := fun j hj => D8_dg _ (0 + j + 1) (0 + j) (by omega)
        have hSV : vN 256 (toN fun j => NI (dg 256 (x.2 + PV)) (0 + j)) (mx + 1) = x.2 + PV := by
          rw [show (fun j => NI (dg 256 (x.2 + PV)) (0 + j)) = NI (dg 256 (x.2 + PV)) from funext fun j => by rw [Nat.zero_add], toN_NI, vN_dgV hSl]
        have hWl : (x.2 + PV) * R < 256 ^ (mx + 1 + 16) := by
          rw [Nat.pow_add]
          exact Nat.mul_lt_mul'' hSl (by omega)
        have hWD : D8 (fun j => NI (dg 256 ((x.2 + PV) * R)) (0 + j)) (mx + 1 + 16) := fun j hj => D8_dg _ (0 + j + 1) (0 + j) (by omega)
        have hWV : vN 256 (toN fun j => NI (dg 256 ((x.2 + PV) * R)) (0 + j)) (mx + 1 + 16) = (x.2 + PV) * R := by
          rw [show (fun j => NI (dg 256 ((x.2 + PV) * R)) (0 + j)) = NI (dg 256 ((x.2 + PV) * R)) from funext fun j => by rw [Nat.zero_add], toN_NI, vN_dgV hWl]
        refine ⟨hPD, ?_⟩
        simp only [hPV, haV, ← hmx]
        repeat (first | ((with_reducible refine (Cd.then_iff _ _).2 (And.intro ?_ ?_)); · repeat' ((conv => arg 1; whnf); first | exact Cd.holds_tt | (refine Cd.holds_p ?_; first | exact hSD | exact hrD | (refine ⟨?_, ?_, ?_⟩ <;> omega) | (refine ⟨?_, ?_⟩ <;> omega) | (intro _; refine ⟨decide_eq_true ?_, ?_⟩ <;> omega)) | refine Cd.holds_and ?_ ?_)) | ((conv => whnf); (with_reducible refine And.intro ?_ ?_); · (intro _; refine ⟨decide_eq_true ?_, ?_⟩ <;> omega)))
        conv => whnf
        simp only [hSV, hrV]
        repeat (first | ((with_reducible refine (Cd.then_iff _ _).2 (And.intro ?_ ?_)); · repeat' ((conv => arg 1; whnf); (refine Cd.holds_p ?_; (refine ⟨?_, ?_⟩ <;> omega)))) | ((conv => whnf); (with_reducible refine And.intro ?_ ?_); · exact hWD))
        conv => whnf
        simp only [hWV]
        obtain ⟨f1, f2⟩ := foldV_ok ((x.2 + PV) * R)
        have ha1 : accL (x.1 + 1) = 17 := if_neg (by omega)
        have w16 : IntKind.i64.wrap (((16 * x.1 : Nat) : Int) + 16) = ((16 * (x.1 + 1) : Nat) : Int) := by rw [w_i64]; omega
        refine ⟨(x.1 + 1, foldV ((x.2 + PV) * R)), ⟨⟨by show 16 * (x.1 + 1) < n0 + 16; omega, f1, by show _ < 256 ^ accL (x.1 + 1); rw [ha1]; exact Nat.lt_of_lt_of_le f1 (by decide), by rw [f2]; exact hpA.symm⟩, by show n0 + 16 - 16 * (x.1 + 1) < n0 + 16 - 16 * x.1; omega⟩, le_of [(3, 9)] ?_⟩
        simp only [ha1]
        repeat ((conv => whnf); (with_reducible refine And.intro ?_ ?_); · first | with_reducible rfl | (intro _ _; with_reducible rfl) | (intro h; exact absurd h (by decide)) | omega | (intro _; refine ⟨?_, True.intro⟩; omega) | (intro hgd; (try replace hgd := of_decide_eq_true hgd); (repeat ((conv => whnf); (with_reducible refine And.intro ?_ ?_); · first | (intro _ _; with_reducible rfl) | omega | (refine decide_eq_true ?_; omega))); (conv => whnf); exact True.intro))
        conv => whnf
        exact True.intro
      · replace h3 := of_decide_eq_false h3
        have h16 : ¬ 16 * x.1 < n0 := by omega
        have hxe : x.1 = (M.length + 15) / 16 := by omega
        have hP : polyTag K M = leB 16 (x.2 % P1305 + leN ((K.drop 16).take 16)) := by
          rw [hx3, hxe, hR, polyTag_eq]; rfl
        have hS : leN ((K.drop 16).take 16) < 256 ^ 16 := by have := leN_lt ((K.drop 16).take 16); rw [List.length_take, List.length_drop, hKl] at this; exact this
        have hlm := last_mod hx2
        have hk2 : R8 (fun j => k (Int.toNat 16 + j)) (32 - Int.toNat 16) := fun j hj => hk (16 + j) (by have : j < 16 := hj; omega)
        have d5 : D8 (fun j => listI [5].reverse (0 + j)) 1 := fun j hj => by rw [show j = 0 by omega]; exact ⟨by decide, by decide⟩
        have hv5 : vN 256 (toN fun j => listI [5].reverse (0 + j)) 1 = 5 := rfl
        obtain ⟨al, hal⟩ : ∃ al, al = accL x.1 := ⟨_, rfl⟩
        have hal2 : al = 1 ∨ al = 17 := by rw [hal]; unfold accL; split <;> omega
        rw [← hal] at haD haV haL hx4
        simp only [← hal]
        clear hal
        repeat (first | ((with_reducible refine (Cd.then_iff _ _).2 (And.intro ?_ ?_)); · repeat' ((conv => arg 1; whnf); first | exact Cd.holds_tt | (refine Cd.holds_p ?_; first | exact haD | exact d5 | (refine ⟨?_, ?_⟩ <;> omega) | (intro _; refine ⟨True.intro, ?_⟩; omega)) | refine Cd.holds_and ?_ ?_)) | ((conv => whnf); (with_reducible refine And.intro ?_ ?_); · (intro _; refine ⟨decide_eq_true ?_, ?_⟩ <;> omega)))
        conv => whnf
        simp only [haV, hv5]
        have hdD : D8 (fun j => (fun j => k (Int.toNat 16 + j)) (0 + j)) (32 - Int.toNat 16) := fun j hj => by have h := hk2 (0 + j) (by rw [Nat.zero_add]; exact hj); exact h
        have hdV : vN 256 (toN fun j => (fun j => k (Int.toNat 16 + j)) (0 + j)) (32 - Int.toNat 16) = leN ((K.drop 16).take 16) := by
          have hl : ((K.drop 16).take 16).length = 16 := by rw [List.length_take, List.length_drop, hKl]; rfl
          rw [← leN_vN' ((K.drop 16).take 16) hl.symm]
          refine vN_congr fun j hj => ?_
          have hj : j < 16 := hj
          show (k (16 + (0 + j))).toNat = (UL ((K.drop 16).take 16) j).toNat
          rw [Nat.zero_add, hKj _ (by omega), UL_getD, UL_getD, getD_take _ _ _ _ hj, getD_drop]
        rcases hal2 with rfl | rfl
        · have hx5 : x.2 < 256 := hx4
          rw [if_neg (by omega)] at hlm
          rw [hlm] at hP
          repeat (first | ((with_reducible refine (Cd.then_iff _ _).2 (And.intro ?_ ?_)); · repeat' ((conv => arg 1; whnf); first | exact Cd.holds_tt | (refine Cd.holds_p ?_; first | exact (nomatch (show false = true from hg0)) | (rw [hg0]; rfl) | (intro h17; rw [hg0, h17]; rfl) | exact (fun hh => nomatch (show false = true from hh)) | exact True.intro | (intro hg0; simp only [hg0, Bool.not_false, Bool.not_true]; done) | with_reducible assumption | omega | (intro _; refine ⟨True.intro, ?_⟩; omega) | (intro _; refine ⟨?_, True.intro⟩; omega) | (intro _; refine ⟨decide_eq_true ?_, ?_⟩ <;> omega) | (intro _; refine ⟨?_, ?_⟩ <;> omega) | (refine decide_eq_true ?_; omega) | (intro _; omega) | (simp only [w_i64, w_u64, w_u32, w_u8]; omega) | exact ⟨U_nonneg _, U_lt32 _⟩ | exact R8_UL _ _ | exact R32_UL _ _ | (intro hg0; (repeat ((conv => whnf); (with_reducible refine And.intro ?_ ?_); · first | with_reducible assumption | omega | (intro _; refine ⟨?_, ?_⟩ <;> omega) | (intro _; refine ⟨And.intro ?_ ?_, ?_⟩ <;> omega) | (simp only [hg0, Bool.and_self, Bool.true_and]; done) | (intro hg1; simp only [hg0, hg1, Bool.and_self, Bool.true_and]; done) | (simp [hg0]; done) | exact (nomatch (show false = true from hg0)) | (rw [hg0]; rfl) | (intro h17; rw [hg0, h17]; rfl) | exact (fun hh => nomatch (show false = true from hh)))); (conv => whnf); exact True.intro)) | refine Cd.holds_and ?_ ?_ | (refine Cd.holds_imp fun hg0 => ?_))) | ((conv => whnf); (with_reducible refine And.intro ?_ ?_); · first | exact (nomatch (show false = true from hg0)) | (rw [hg0]; rfl) | (intro h17; rw [hg0, h17]; rfl) | exact (fun hh => nomatch (show false = true from hh)) | exact True.intro | (intro hg0; simp only [hg0, Bool.not_false, Bool.not_true]; done) | with_reducible assumption | omega | (intro _; refine ⟨True.intro, ?_⟩; omega) | (intro _; refine ⟨?_, True.intro⟩; omega) | (intro _; refine ⟨decide_eq_true ?_, ?_⟩ <;> omega) | (intro _; refine ⟨?_, ?_⟩ <;> omega) | (refine decide_eq_true ?_; omega) | (intro _; omega) | (simp only [w_i64, w_u64, w_u32, w_u8]; omega) | exact ⟨U_nonneg _, U_lt32 _⟩ | exact R8_UL _ _ | exact R32_UL _ _ | (intro hg0; (repeat ((conv => whnf); (with_reducible refine And.intro ?_ ?_); · first | with_reducible assumption | omega | (intro _; refine ⟨?_, ?_⟩ <;> omega) | (intro _; refine ⟨And.intro ?_ ?_, ?_⟩ <;> omega) | (simp only [hg0, Bool.and_self, Bool.true_and]; done) | (intro hg1; simp only [hg0, hg1, Bool.and_self, Bool.true_and]; done) | (simp [hg0]; done) | exact (nomatch (show false = true from hg0)) | (rw [hg0]; rfl) | (intro h17; rw [hg0, h17]; rfl) | exact (fun hh => nomatch (show false = true from hh)))); (conv => whnf); exact True.intro)))
          conv => whnf
          refine ⟨fun h4 => (nomatch (show false = true from h4)), fun h4 => ?_⟩
          repeat (first | ((with_reducible refine (Cd.then_iff _ _).2 (And.intro ?_ ?_)); · repeat' ((conv => arg 1; whnf); first | exact Cd.holds_tt | (refine Cd.holds_p ?_; first | exact haD | exact hk2 | exact hdD | (refine ⟨?_, ?_⟩ <;> omega) | omega | (intro _; refine ⟨decide_eq_true ?_, ?_⟩ <;> omega)) | refine Cd.holds_and ?_ ?_)) | ((conv => whnf); (with_reducible refine And.intro ?_ ?_); · first | (refine ⟨?_, ?_⟩ <;> omega) | (intro _; refine ⟨True.intro, ?_⟩; omega) | (intro _; refine ⟨decide_eq_true ?_, ?_⟩ <;> omega)))
          conv => whnf
          simp only [haV, hdV]
          rw [← hlm] at hP ⊢
          obtain ⟨V, hVe⟩ : ∃ V, V = x.2 % P1305 + leN ((K.drop 16).take 16) := ⟨_, rfl⟩
          simp only [← hVe]
          refine ⟨0, Nat, fun i => ⟨126, [(4, .sa (.sc (.ptr 1 0 0))), (14, .sa (.sc (.sl false false false 3 0 0 17 17))), (15, .sa (.sc (.ptr 4 0 0))), (16, .sa (.sc (.int .i64 i)))],
            [(1, .own 68 [.ints .u8 (fun _ => 0) 16] false), (3, ownB 3 .i64 (NI (dg 256 V)) 17), (4, .own 68 [.ints .u8 (preF (leB 16 V) i) 16] false)], 5⟩, fun i => i ≤ 16, fun i => 16 - i, ⟨0, by omega, le_of [(3, 7), (4, 8)] ?_⟩, fun i hi => ?_⟩
          · repeat ((conv => whnf); (with_reducible refine And.intro ?_ ?_); · first | with_reducible rfl | (intro _ _; with_reducible rfl) | (intro h; exact absurd h (by decide)) | omega | (intro _; refine ⟨?_, True.intro⟩; omega) | exact fun j _ => if_neg (by omega) | (intro hgd; (try replace hgd := of_decide_eq_true hgd); (repeat ((conv => whnf); (with_reducible refine And.intro ?_ ?_); · first | (intro _ _; with_reducible rfl) | omega | (refine decide_eq_true ?_; omega))); (conv => whnf); exact True.intro))
            conv => whnf
            exact True.intro
          have hi : i ≤ 16 := hi
          repeat (first | ((with_reducible refine (Cd.then_iff _ _).2 (And.intro ?_ ?_)); · repeat' ((conv => arg 1; whnf); first | exact Cd.holds_tt | (refine Cd.holds_p ?_; first | exact (nomatch (show false = true from hg0)) | exact True.intro | (intro hg0; simp only [hg0, Bool.not_false, Bool.not_true]; done) | with_reducible assumption | omega | (intro _; refine ⟨True.intro, ?_⟩; omega) | (intro _; refine ⟨?_, True.intro⟩; omega) | (intro _; refine ⟨decide_eq_true ?_, ?_⟩ <;> omega) | (intro _; refine ⟨?_, ?_⟩ <;> omega) | (refine decide_eq_true ?_; omega) | (intro _; omega) | (simp only [w_i64, w_u64, w_u32, w_u8]; omega) | exact ⟨U_nonneg _, U_lt32 _⟩ | exact R8_UL _ _ | exact R32_UL _ _ | (intro hg0; (repeat ((conv => whnf); (with_reducible refine And.intro ?_ ?_); · first | with_reducible assumption | omega | (intro _; refine ⟨?_, ?_⟩ <;> omega) | (intro _; refine ⟨And.intro ?_ ?_, ?_⟩ <;> omega) | (simp only [hg0, Bool.and_self, Bool.true_and]; done) | (intro hg1; simp only [hg0, hg1, Bool.and_self, Bool.true_and]; done) | (simp [hg0]; done) | exact (nomatch (show false = true from hg0)))); (conv => whnf); exact True.intro)) | refine Cd.holds_and ?_ ?_ | (refine Cd.holds_imp fun hg0 => ?_))) | ((conv => whnf); (with_reducible refine And.intro ?_ ?_); · first | exact (nomatch (show false = true from hg0)) | exact True.intro | (intro hg0; simp only [hg0, Bool.not_false, Bool.not_true]; done) | with_reducible assumption | omega | (intro _; refine ⟨True.intro, ?_⟩; omega) | (intro _; refine ⟨?_, True.intro⟩; omega) | (intro _; refine ⟨decide_eq_true ?_, ?_⟩ <;> omega) | (intro _; refine ⟨?_, ?_⟩ <;> omega) | (refine decide_eq_true ?_; omega) | (intro _; omega) | (simp only [w_i64, w_u64, w_u32, w_u8]; omega) | exact ⟨U_nonneg _, U_lt32 _⟩ | exact R8_UL _ _ | exact R32_UL _ _ | (intro hg0; (repeat ((conv => whnf); (with_reducible refine And.intro ?_ ?_); · first | with_reducible assumption | omega | (intro _; refine ⟨?_, ?_⟩ <;> omega) | (intro _; refine ⟨And.intro ?_ ?_, ?_⟩ <;> omega) | (simp only [hg0, Bool.and_self, Bool.true_and]; done) | (intro hg1; simp only [hg0, hg1, Bool.and_self, Bool.true_and]; done) | (simp [hg0]; done) | exact (nomatch (show false = true from hg0)))); (conv => whnf); exact True.intro)))
          conv => whnf
          refine ⟨fun h6 => ?_, fun h6 => ?_⟩
          · obtain ⟨h6, h7⟩ := andT h6
            replace h6 := of_decide_eq_true h6
            have hi16 : i < 16 := by omega
            have hv : IntKind.u8.wrap (NI (dg 256 V) i) = UL (leB 16 V) i := by
              rw [UL_leB 16 V i hi16, w_u8]
              have := dg_lt (B := 256) (by omega) V i
              unfold NI; omega
            have hst := preF_step hv
            repeat ((conv => whnf); (with_reducible refine And.intro ?_ ?_); · first | omega | (refine decide_eq_true ?_; omega))
            conv => whnf
            refine ⟨i + 1, ⟨by show i + 1 ≤ 16; omega, by show 16 - (i + 1) < 16 - i; omega⟩, le_of [] ?_⟩
            simp only [Int.toNat_natCast, Nat.zero_add]
            repeat ((conv => whnf); (with_reducible refine And.intro ?_ ?_); · first | with_reducible rfl | (intro _ _; with_reducible rfl) | (intro h; exact absurd h (by decide)) | (intro _; refine ⟨?_, True.intro⟩; omega) | (simp only [w_i64, w_u64, w_u32, w_u8]; omega) | exact fun j _ => hst j | (intro hgd; (try replace hgd := of_decide_eq_true hgd); (repeat ((conv => whnf); (with_reducible refine And.intro ?_ ?_); · first | (intro _ _; with_reducible rfl) | omega | (refine decide_eq_true ?_; omega))); (conv => whnf); exact True.intro))
            conv => whnf
            exact True.intro
          · have hie : i = 16 := by
              rcases andF h6 with h7 | h7
              · have h8 := of_decide_eq_false h7; omega
              · have h8 := of_decide_eq_false h7; omega
            subst hie
            repeat ((conv => whnf); (with_reducible refine And.intro ?_ ?_); · omega)
            conv => whnf
            refine ⟨[], ?_⟩
            rw [hP, ← hVe]
            repeat ((conv => whnf); (with_reducible refine And.intro ?_ ?_); · first | with_reducible rfl | (intro j hj; unfold preF; rw [if_pos (by omega)]))
            conv => whnf
            exact True.intro
        · repeat (first | ((with_reducible refine (Cd.then_iff _ _).2 (And.intro ?_ ?_)); · repeat' ((conv => arg 1; whnf); first | exact Cd.holds_tt | (refine Cd.holds_p ?_; first | exact (nomatch (show false = true from hg0)) | (rw [hg0]; rfl) | (intro h17; rw [hg0, h17]; rfl) | exact (fun hh => nomatch (show false = true from hh)) | exact True.intro | (intro hg0; simp only [hg0, Bool.not_false, Bool.not_true]; done) | with_reducible assumption | omega | (intro _; refine ⟨True.intro, ?_⟩; omega) | (intro _; refine ⟨?_, True.intro⟩; omega) | (intro _; refine ⟨decide_eq_true ?_, ?_⟩ <;> omega) | (intro _; refine ⟨?_, ?_⟩ <;> omega) | (refine decide_eq_true ?_; omega) | (intro _; omega) | (simp only [w_i64, w_u64, w_u32, w_u8]; omega) | exact ⟨U_nonneg _, U_lt32 _⟩ | exact R8_UL _ _ | exact R32_UL _ _ | (intro hg0; (repeat ((conv => whnf); (with_reducible refine And.intro ?_ ?_); · first | with_reducible assumption | omega | (intro _; refine ⟨?_, ?_⟩ <;> omega) | (intro _; refine ⟨And.intro ?_ ?_, ?_⟩ <;> omega) | (simp only [hg0, Bool.and_self, Bool.true_and]; done) | (intro hg1; simp only [hg0, hg1, Bool.and_self, Bool.true_and]; done) | (simp [hg0]; done) | exact (nomatch (show false = true from hg0)) | (rw [hg0]; rfl) | (intro h17; rw [hg0, h17]; rfl) | exact (fun hh => nomatch (show false = true from hh)))); (conv => whnf); exact True.intro)) | refine Cd.holds_and ?_ ?_ | (refine Cd.holds_imp fun hg0 => ?_))) | ((conv => whnf); (with_reducible refine And.intro ?_ ?_); · first | exact (nomatch (show false = true from hg0)) | (rw [hg0]; rfl) | (intro h17; rw [hg0, h17]; rfl) | exact (fun hh => nomatch (show false = true from hh)) | exact True.intro | (intro hg0; simp only [hg0, Bool.not_false, Bool.not_true]; done) | with_reducible assumption | omega | (intro _; refine ⟨True.intro, ?_⟩; omega) | (intro _; refine ⟨?_, True.intro⟩; omega) | (intro _; refine ⟨decide_eq_true ?_, ?_⟩ <;> omega) | (intro _; refine ⟨?_, ?_⟩ <;> first | omega | (simp [appG, Cd.holds]; done)) | (refine decide_eq_true ?_; omega) | (intro _; omega) | (simp only [w_i64, w_u64, w_u32, w_u8]; omega) | exact ⟨U_nonneg _, U_lt32 _⟩ | exact R8_UL _ _ | exact R32_UL _ _ | (intro hg0; (repeat ((conv => whnf); (with_reducible refine And.intro ?_ ?_); · first | with_reducible assumption | omega | (intro _; refine ⟨?_, ?_⟩ <;> omega) | (intro _; refine ⟨And.intro ?_ ?_, ?_⟩ <;> omega) | (simp only [hg0, Bool.and_self, Bool.true_and]; done) | (intro hg1; simp only [hg0, hg1, Bool.and_self, Bool.true_and]; done) | (simp [hg0]; done) | exact (nomatch (show false = true from hg0)) | (rw [hg0]; rfl) | (intro h17; rw [hg0, h17]; rfl) | exact (fun hh => nomatch (show false = true from hh)))); (conv => whnf); exact True.intro)))
          conv => whnf
          have hC8 : (x.2 + 5) / 340282366920938463463374607431768211456 < 8 := by omega
          have hd16 : NI (dg 256 (x.2 + 5)) 16 = (((x.2 + 5) / 340282366920938463463374607431768211456 : Nat) : Int) := by
            unfold NI dg
            rw [show (256 : Nat) ^ 16 = 340282366920938463463374607431768211456 from rfl, Nat.mod_eq_of_lt (by omega)]
          have hd17 : NI (dg 256 (x.2 + 5)) 17 = 0 := by
            unfold NI
            rw [dg_big (show x.2 + 5 < 256 ^ 17 from Nat.lt_of_lt_of_le (show x.2 + 5 < 2 * 1361129467683753853853498429727072845824 by omega) (by decide))]; rfl
          refine ⟨fun h4 => ?_, fun h4 => ?_⟩
          · have hEx : 1361129467683753853853498429727072845824 ≤ x.2 + 5 := by
              have h5 : (cond (decide (NI (dg 256 (x.2 + 5)) 16 ≥ 4)) true (cond true (decide (NI (dg 256 (x.2 + 5)) 17 > 0)) false)) = true := h4
              rw [hd16, hd17] at h5
              by_cases e : (4 : Int) ≤ (((x.2 + 5) / 340282366920938463463374607431768211456 : Nat) : Int)
              · omega
              · rw [decide_eq_false e] at h5
                exact absurd h5 (by decide)
            rw [if_pos hEx] at hlm
            obtain ⟨W, hWe⟩ : ∃ W, W = (x.2 + 5) % 1361129467683753853853498429727072845824 := ⟨_, rfl⟩
            have hWl : W < 256 ^ 17 := by rw [hWe]; exact Nat.lt_of_lt_of_le (Nat.mod_lt _ (by omega)) (by decide)
            have hm4 : (NI (dg 256 (x.2 + 5)) 16 : Int).tmod 4 = ((dg 256 (x.2 + 5) 16 % 4 : Nat) : Int) := rfl
            have hU : ∀ j, j < 17 → upd (NI (dg 256 (x.2 + 5))) 16 ((dg 256 (x.2 + 5) 16 % 4 : Nat) : Int) j = NI (dg 256 W) j := fun j hj => by
              unfold upd
              by_cases e : j = 16
              · subst e; rw [if_pos rfl, hWe]; unfold NI; rw [dg_low16]
              · rw [if_neg e, hWe]; unfold NI; rw [dg_low (by omega)]
            repeat ((conv => whnf); (with_reducible refine And.intro ?_ ?_); · first | with_reducible assumption | omega | (intro _; refine ⟨True.intro, ?_⟩; omega) | (intro _; refine ⟨decide_eq_true ?_, ?_⟩ <;> omega) | (refine decide_eq_true ?_; omega))
            conv => whnf
            simp only [show (0 : Nat) + Int.toNat 16 = 16 from rfl, hm4]
            generalize hUe : upd (NI (dg 256 (x.2 + 5))) 16 ((dg 256 (x.2 + 5) 16 % 4 : Nat) : Int) = UF at hU ⊢
            have hUz : ∀ j, UF (0 + Int.toNat 0 + j) = UF j := fun j => by
              show UF (0 + 0 + j) = UF j
              simp only [Nat.zero_add]
            have hUD : D8 (fun j => UF (0 + Int.toNat 0 + j)) (Int.toNat 17 - Int.toNat 0) := fun j hj => by
              have hj : j < 17 := hj
              show 0 ≤ UF (0 + Int.toNat 0 + j) ∧ UF (0 + Int.toNat 0 + j) < 256
              rw [hUz, hU j hj]
              exact D8_dg W 17 j hj
            have hUV : vN 256 (toN fun j => UF (0 + Int.toNat 0 + j)) (Int.toNat 17 - Int.toNat 0) = W := by
              show vN 256 (toN fun j => UF (0 + Int.toNat 0 + j)) 17 = W
              rw [vN_congr (g := toN fun j => UF (0 + Int.toNat 0 + j)) (h := dg 256 W) fun j hj => by show (UF (0 + Int.toNat 0 + j)).toNat = _; rw [hUz, hU j hj]; rfl, vN_dgV hWl]
            have hdV2 : vN 256 (toN fun j => k (Int.toNat 16 + (0 + j))) (32 - Int.toNat 16) = leN ((K.drop 16).take 16) := hdV
            have hlW : x.2 % P1305 = W := by rw [hlm, hWe]
            rw [hlW] at hP
            repeat (first | ((with_reducible refine (Cd.then_iff _ _).2 (And.intro ?_ ?_)); · repeat' ((conv => arg 1; whnf); (refine Cd.holds_p ?_; first | exact hdD | (refine ⟨?_, ?_⟩ <;> omega)))) | ((conv => whnf); (with_reducible refine And.intro ?_ ?_); · exact hUD))
            conv => whnf
            simp only [hUV, hdV2]
            rw [← hlW] at hP ⊢
            obtain ⟨V, hVe⟩ : ∃ V, V = x.2 % P1305 + leN ((K.drop 16).take 16) := ⟨_, rfl⟩
            simp only [← hVe]
            refine ⟨0, Nat, fun i => ⟨126, [(4, .sa (.sc (.ptr 1 0 0))), (14, .sa (.sc (.sl false false false 3 0 0 18 18))), (15, .sa (.sc (.ptr 4 0 0))), (16, .sa (.sc (.int .i64 i)))],
              [(1, .own 68 [.ints .u8 (fun _ => 0) 16] false), (3, ownB 3 .i64 (NI (dg 256 V)) 18), (4, .own 68 [.ints .u8 (preF (leB 16 V) i) 16] false)], 5⟩, fun i => i ≤ 16, fun i => 16 - i, ⟨0, by omega, le_of [(3, 7), (4, 8)] ?_⟩, fun i hi => ?_⟩
            · repeat ((conv => whnf); (with_reducible refine And.intro ?_ ?_); · first | with_reducible rfl | (intro _ _; with_reducible rfl) | (intro h; exact absurd h (by decide)) | omega | (intro _; refine ⟨?_, True.intro⟩; omega) | exact fun j _ => if_neg (by omega) | (intro hgd; (try replace hgd := of_decide_eq_true hgd); (repeat ((conv => whnf); (with_reducible refine And.intro ?_ ?_); · first | (intro _ _; with_reducible rfl) | omega | (refine decide_eq_true ?_; omega))); (conv => whnf); exact True.intro))
              conv => whnf
              exact True.intro
            have hi : i ≤ 16 := hi
            repeat (first | ((with_reducible refine (Cd.then_iff _ _).2 (And.intro ?_ ?_)); · repeat' ((conv => arg 1; whnf); first | exact Cd.holds_tt | (refine Cd.holds_p ?_; first | exact (nomatch (show false = true from hg0)) | exact True.intro | (intro hg0; simp only [hg0, Bool.not_false, Bool.not_true]; done) | with_reducible assumption | omega | (intro _; refine ⟨True.intro, ?_⟩; omega) | (intro _; refine ⟨?_, True.intro⟩; omega) | (intro _; refine ⟨decide_eq_true ?_, ?_⟩ <;> omega) | (intro _; refine ⟨?_, ?_⟩ <;> omega) | (refine decide_eq_true ?_; omega) | (intro _; omega) | (simp only [w_i64, w_u64, w_u32, w_u8]; omega) | exact ⟨U_nonneg _, U_lt32 _⟩ | exact R8_UL _ _ | exact R32_UL _ _ | (intro hg0; (repeat ((conv => whnf); (with_reducible refine And.intro ?_ ?_); · first | with_reducible assumption | omega | (intro _; refine ⟨?_, ?_⟩ <;> omega) | (intro _; refine ⟨And.intro ?_ ?_, ?_⟩ <;> omega) | (simp only [hg0, Bool.and_self, Bool.true_and]; done) | (intro hg1; simp only [hg0, hg1, Bool.and_self, Bool.true_and]; done) | (simp [hg0]; done) | exact (nomatch (show false = true from hg0)))); (conv => whnf); exact True.intro)) | refine Cd.holds_and ?_ ?_ | (refine Cd.holds_imp fun hg0 => ?_))) | ((conv => whnf); (with_reducible refine And.intro ?_ ?_); · first | exact (nomatch (show false = true from hg0)) | exact True.intro | (intro hg0; simp only [hg0, Bool.not_false, Bool.not_true]; done) | with_reducible assumption | omega | (intro _; refine ⟨True.intro, ?_⟩; omega) | (intro _; refine ⟨?_, True.intro⟩; omega) | (intro _; refine ⟨decide_eq_true ?_, ?_⟩ <;> omega) | (intro _; refine ⟨?_, ?_⟩ <;> omega) | (refine decide_eq_true ?_; omega) | (intro _; omega) | (simp only [w_i64, w_u64, w_u32, w_u8]; omega) | exact ⟨U_nonneg _, U_lt32 _⟩ | exact R8_UL _ _ | exact R32_UL _ _ | (intro hg0; (repeat ((conv => whnf); (with_reducible refine And.intro ?_ ?_); · first | with_reducible assumption | omega | (intro _; refine ⟨?_, ?_⟩ <;> omega) | (intro _; refine ⟨And.intro ?_ ?_, ?_⟩ <;> omega) | (simp only [hg0, Bool.and_self, Bool.true_and]; done) | (intro hg1; simp only [hg0, hg1, Bool.and_self, Bool.true_and]; done) | (simp [hg0]; done) | exact (nomatch (show false = true from hg0)))); (conv => whnf); exact True.intro)))
            conv => whnf
            refine ⟨fun h6 => ?_, fun h6 => ?_⟩
            · obtain ⟨h6, h7⟩ := andT h6
              replace h6 := of_decide_eq_true h6
              have hi16 : i < 16 := by omega
              have hv : IntKind.u8.wrap (NI (dg 256 V) i) = UL (leB 16 V) i := by
                rw [UL_leB 16 V i hi16, w_u8]
                have := dg_lt (B := 256) (by omega) V i
                unfold NI; omega
              have hst := preF_step hv
              repeat ((conv => whnf); (with_reducible refine And.intro ?_ ?_); · first | omega | (refine decide_eq_true ?_; omega))
              conv => whnf
              refine ⟨i + 1, ⟨by show i + 1 ≤ 16; omega, by show 16 - (i + 1) < 16 - i; omega⟩, le_of [] ?_⟩
              simp only [Int.toNat_natCast, Nat.zero_add]
              repeat ((conv => whnf); (with_reducible refine And.intro ?_ ?_); · first | with_reducible rfl | (intro _ _; with_reducible rfl) | (intro h; exact absurd h (by decide)) | (intro _; refine ⟨?_, True.intro⟩; omega) | (simp only [w_i64, w_u64, w_u32, w_u8]; omega) | exact fun j _ => hst j | (intro hgd; (try replace hgd := of_decide_eq_true hgd); (repeat ((conv => whnf); (with_reducible refine And.intro ?_ ?_); · first | (intro _ _; with_reducible rfl) | omega | (refine decide_eq_true ?_; omega))); (conv => whnf); exact True.intro))
              conv => whnf
              exact True.intro
            · have hie : i = 16 := by
                rcases andF h6 with h7 | h7
                · have h8 := of_decide_eq_false h7; omega
                · have h8 := of_decide_eq_false h7; omega
              subst hie
              repeat ((conv => whnf); (with_reducible refine And.intro ?_ ?_); · omega)
              conv => whnf
              refine ⟨[], ?_⟩
              rw [hP, ← hVe]
              repeat ((conv => whnf); (with_reducible refine And.intro ?_ ?_); · first | with_reducible rfl | (intro j hj; unfold preF; rw [if_pos (by omega)]))
              conv => whnf
              exact True.intro
          · have hEx : ¬ 1361129467683753853853498429727072845824 ≤ x.2 + 5 := by
              have h5 : (cond (decide (NI (dg 256 (x.2 + 5)) 16 ≥ 4)) true (cond true (decide (NI (dg 256 (x.2 + 5)) 17 > 0)) false)) = false := h4
              rw [hd16] at h5
              by_cases e : (4 : Int) ≤ (((x.2 + 5) / 340282366920938463463374607431768211456 : Nat) : Int)
              · rw [show decide ((((x.2 + 5) / 340282366920938463463374607431768211456 : Nat) : Int) ≥ 4) = true from decide_eq_true e] at h5
                cases h5
              · omega
            rw [if_neg hEx] at hlm
            rw [hlm] at hP
            repeat (first | ((with_reducible refine (Cd.then_iff _ _).2 (And.intro ?_ ?_)); · repeat' ((conv => arg 1; whnf); first | exact Cd.holds_tt | (refine Cd.holds_p ?_; first | exact haD | exact hk2 | exact hdD | (refine ⟨?_, ?_⟩ <;> omega) | omega | (intro _; refine ⟨decide_eq_true ?_, ?_⟩ <;> omega)) | refine Cd.holds_and ?_ ?_)) | ((conv => whnf); (with_reducible refine And.intro ?_ ?_); · first | (refine ⟨?_, ?_⟩ <;> omega) | (intro _; refine ⟨True.intro, ?_⟩; omega) | (intro _; refine ⟨decide_eq_true ?_, ?_⟩ <;> omega)))
            conv => whnf
            simp only [haV, hdV]
            rw [← hlm] at hP ⊢
            obtain ⟨V, hVe⟩ : ∃ V, V = x.2 % P1305 + leN ((K.drop 16).take 16) := ⟨_, rfl⟩
            simp only [← hVe]
            refine ⟨0, Nat, fun i => ⟨126, [(4, .sa (.sc (.ptr 1 0 0))), (14, .sa (.sc (.sl false false false 3 0 0 18 18))), (15, .sa (.sc (.ptr 4 0 0))), (16, .sa (.sc (.int .i64 i)))],
              [(1, .own 68 [.ints .u8 (fun _ => 0) 16] false), (3, ownB 3 .i64 (NI (dg 256 V)) 18), (4, .own 68 [.ints .u8 (preF (leB 16 V) i) 16] false)], 5⟩, fun i => i ≤ 16, fun i => 16 - i, ⟨0, by omega, le_of [(3, 7), (4, 8)] ?_⟩, fun i hi => ?_⟩
            · repeat ((conv => whnf); (with_reducible refine And.intro ?_ ?_); · first | with_reducible rfl | (intro _ _; with_reducible rfl) | (intro h; exact absurd h (by decide)) | omega | (intro _; refine ⟨?_, True.intro⟩; omega) | exact fun j _ => if_neg (by omega) | (intro hgd; (try replace hgd := of_decide_eq_true hgd); (repeat ((conv => whnf); (with_reducible refine And.intro ?_ ?_); · first | (intro _ _; with_reducible rfl) | omega | (refine decide_eq_true ?_; omega))); (conv => whnf); exact True.intro))
              conv => whnf
              exact True.intro
            have hi : i ≤ 16 := hi
            repeat (first | ((with_reducible refine (Cd.then_iff _ _).2 (And.intro ?_ ?_)); · repeat' ((conv => arg 1; whnf); first | exact Cd.holds_tt | (refine Cd.holds_p ?_; first | exact (nomatch (show false = true from hg0)) | exact True.intro | (intro hg0; simp only [hg0, Bool.not_false, Bool.not_true]; done) | with_reducible assumption | omega | (intro _; refine ⟨True.intro, ?_⟩; omega) | (intro _; refine ⟨?_, True.intro⟩; omega) | (intro _; refine ⟨decide_eq_true ?_, ?_⟩ <;> omega) | (intro _; refine ⟨?_, ?_⟩ <;> omega) | (refine decide_eq_true ?_; omega) | (intro _; omega) | (simp only [w_i64, w_u64, w_u32, w_u8]; omega) | exact ⟨U_nonneg _, U_lt32 _⟩ | exact R8_UL _ _ | exact R32_UL _ _ | (intro hg0; (repeat ((conv => whnf); (with_reducible refine And.intro ?_ ?_); · first | with_reducible assumption | omega | (intro _; refine ⟨?_, ?_⟩ <;> omega) | (intro _; refine ⟨And.intro ?_ ?_, ?_⟩ <;> omega) | (simp only [hg0, Bool.and_self, Bool.true_and]; done) | (intro hg1; simp only [hg0, hg1, Bool.and_self, Bool.true_and]; done) | (simp [hg0]; done) | exact (nomatch (show false = true from hg0)))); (conv => whnf); exact True.intro)) | refine Cd.holds_and ?_ ?_ | (refine Cd.holds_imp fun hg0 => ?_))) | ((conv => whnf); (with_reducible refine And.intro ?_ ?_); · first | exact (nomatch (show false = true from hg0)) | exact True.intro | (intro hg0; simp only [hg0, Bool.not_false, Bool.not_true]; done) | with_reducible assumption | omega | (intro _; refine ⟨True.intro, ?_⟩; omega) | (intro _; refine ⟨?_, True.intro⟩; omega) | (intro _; refine ⟨decide_eq_true ?_, ?_⟩ <;> omega) | (intro _; refine ⟨?_, ?_⟩ <;> omega) | (refine decide_eq_true ?_; omega) | (intro _; omega) | (simp only [w_i64, w_u64, w_u32, w_u8]; omega) | exact ⟨U_nonneg _, U_lt32 _⟩ | exact R8_UL _ _ | exact R32_UL _ _ | (intro hg0; (repeat ((conv => whnf); (with_reducible refine And.intro ?_ ?_); · first | with_reducible assumption | omega | (intro _; refine ⟨?_, ?_⟩ <;> omega) | (intro _; refine ⟨And.intro ?_ ?_, ?_⟩ <;> omega) | (simp only [hg0, Bool.and_self, Bool.true_and]; done) | (intro hg1; simp only [hg0, hg1, Bool.and_self, Bool.true_and]; done) | (simp [hg0]; done) | exact (nomatch (show false = true from hg0)))); (conv => whnf); exact True.intro)))
            conv => whnf
            refine ⟨fun h6 => ?_, fun h6 => ?_⟩
            · obtain ⟨h6, h7⟩ := andT h6
              replace h6 := of_decide_eq_true h6
              have hi16 : i < 16 := by omega
              have hv : IntKind.u8.wrap (NI (dg 256 V) i) = UL (leB 16 V) i := by
                rw [UL_leB 16 V i hi16, w_u8]
                have := dg_lt (B := 256) (by omega) V i
                unfold NI; omega
              have hst := preF_step hv
              repeat ((conv => whnf); (with_reducible refine And.intro ?_ ?_); · first | omega | (refine decide_eq_true ?_; omega))
              conv => whnf
              refine ⟨i + 1, ⟨by show i + 1 ≤ 16; omega, by show 16 - (i + 1) < 16 - i; omega⟩, le_of [] ?_⟩
              simp only [Int.toNat_natCast, Nat.zero_add]
              repeat ((conv => whnf); (with_reducible refine And.intro ?_ ?_); · first | with_reducible rfl | (intro _ _; with_reducible rfl) | (intro h; exact absurd h (by decide)) | (intro _; refine ⟨?_, True.intro⟩; omega) | (simp only [w_i64, w_u64, w_u32, w_u8]; omega) | exact fun j _ => hst j | (intro hgd; (try replace hgd := of_decide_eq_true hgd); (repeat ((conv => whnf); (with_reducible refine And.intro ?_ ?_); · first | (intro _ _; with_reducible rfl) | omega | (refine decide_eq_true ?_; omega))); (conv => whnf); exact True.intro))
              conv => whnf
              exact True.intro
            · have hie : i = 16 := by
                rcases andF h6 with h7 | h7
                · have h8 := of_decide_eq_false h7; omega
                · have h8 := of_decide_eq_false h7; omega
              subst hie
              repeat ((conv => whnf); (with_reducible refine And.intro ?_ ?_); · omega)
              conv => whnf
              refine ⟨[], ?_⟩
              rw [hP, ← hVe]
              repeat ((conv => whnf); (with_reducible refine And.intro ?_ ?_); · first | with_reducible rfl | (intro j hj; unfold preF; rw [if_pos (by omega)]))
              conv => whnf
              exact True.intro
end Go.Proofs.Ytogijkmflhjhkaa

/- Sealed bytes as RFC 8439 says them; a tape of sums. Plain definitions and lemmas: no program, no condition. -/
namespace Go.Proofs.Ytogijkmflhjhkaa
open Go.Sx Go.RowKit
set_option linter.unusedSimpArgs false
set_option linter.unusedVariables false

def fillN (n : Nat) : Nat := (16 - n % 16) % 16
def fill (l : List B8) : List B8 := l ++ List.replicate (fillN l.length) 0
theorem fill_length (l : List B8) : (fill l).length = l.length + fillN l.length := by simp [fill]
theorem fill_whole (l : List B8) : (fill l).length % 16 = 0 := by rw [fill_length, fillN]; omega
def aeM (ad c : List B8) : List B8 := fill (fill ad ++ c) ++ leB 8 ad.length ++ leB 8 c.length
noncomputable def aeK (key nonce : List B8) : List B8 := (chBlock key 0 nonce).take 32
/-- The tag of sealed bytes. -/
noncomputable def aeMark (key nonce ad c : List B8) : List B8 := polyTag (aeK key nonce) (aeM ad c)
theorem aeMark_length (key nonce ad c : List B8) : (aeMark key nonce ad c).length = 16 := polyTag_length _ _
noncomputable def aeSeal (key nonce ad b : List B8) : List B8 := chXor key 1 nonce b ++ aeMark key nonce ad (chXor key 1 nonce b)
theorem aeSeal_length (key nonce ad b : List B8) : (aeSeal key nonce ad b).length = b.length + 16 := by
  rw [aeSeal, List.length_append, chXor_length, aeMark_length]
/-- Is it opened? What comes out? -/
noncomputable def aeIs (key nonce ad c : List B8) : Bool := sealF (decide (16 ≤ c.length ∧ aeMark key nonce ad (c.take (c.length - 16)) = c.drop (c.length - 16)))
theorem aeIs_eq (key nonce ad c : List B8) : aeIs key nonce ad c = decide (16 ≤ c.length ∧ aeMark key nonce ad (c.take (c.length - 16)) = c.drop (c.length - 16)) := sealF_eq _
noncomputable def aeOut (key nonce ad c : List B8) : List B8 := sealF (if aeIs key nonce ad c = true then chXor key 1 nonce (c.take (c.length - 16)) else [])
theorem aeOut_eq (key nonce ad c : List B8) : aeOut key nonce ad c = if aeIs key nonce ad c = true then chXor key 1 nonce (c.take (c.length - 16)) else [] := sealF_eq _
theorem aeIs_seal (key nonce ad b : List B8) : aeIs key nonce ad (aeSeal key nonce ad b) = true := by
  rw [aeIs_eq]
  refine decide_eq_true ⟨by rw [aeSeal_length]; omega, ?_⟩
  rw [aeSeal_length, Nat.add_sub_cancel, aeSeal, List.take_left' (chXor_length _ _ _ _), List.drop_left' (chXor_length _ _ _ _)]
theorem aeOut_seal (key nonce ad b : List B8) : aeOut key nonce ad (aeSeal key nonce ad b) = b := by
  rw [aeOut_eq, if_pos (aeIs_seal _ _ _ _), aeSeal_length, Nat.add_sub_cancel, aeSeal, List.take_left' (chXor_length _ _ _ _), chXor_twice]

/-! a tape -/
variable (B : Nat → List B8)
/-- k blocks. -/
def tapeN : Nat → List B8
  | 0 => []
  | k + 1 => tapeN k ++ B k
theorem tapeN_length (hB : ∀ i, (B i).length = 32) (k : Nat) : (tapeN B k).length = 32 * k := by
  induction k with
  | zero => rfl
  | succ k ih => rw [tapeN, List.length_append, ih, hB]; omega
theorem tapeN_front (hB : ∀ i, (B i).length = 32) {k : Nat} : ∀ {m : Nat}, k ≤ m → (tapeN B m).take (32 * k) = tapeN B k
  | 0, h => by rw [Nat.le_zero.1 h]; rfl
  | m + 1, h => by
    by_cases e : k = m + 1
    · rw [e, List.take_of_length_le (by rw [tapeN_length B hB]; omega)]
    · rw [tapeN, List.take_append_of_le_length (by rw [tapeN_length B hB]; omega), tapeN_front hB (by omega)]
/-- n bytes of a tape from a place on. -/
def tapeAt (a n : Nat) : List B8 := ((tapeN B ((a + n + 31) / 32)).drop a).take n
theorem tapeAt_length (hB : ∀ i, (B i).length = 32) (a n : Nat) : (tapeAt B a n).length = n := by
  rw [tapeAt, List.length_take, List.length_drop, tapeN_length B hB]; omega
theorem tapeAt_eq (hB : ∀ i, (B i).length = 32) {a n k : Nat} (h : a + n ≤ 32 * k) : tapeAt B a n = ((tapeN B k).drop a).take n := by
  rw [tapeAt, ← tapeN_front B hB (show (a + n + 31) / 32 ≤ k by omega)]
  rw [List.drop_take, List.take_take, Nat.min_eq_left (by omega)]
theorem tapeAt_get (hB : ∀ i, (B i).length = 32) {a n i : Nat} (h : i < n) : (tapeAt B a n).getD i 0 = (tapeN B ((a + i) / 32 + 1)).getD (a + i) 0 := by
  have e := tapeN_front B hB (show (a + i) / 32 + 1 ≤ (a + n + 31) / 32 by omega)
  rw [tapeAt, getD_take _ _ _ _ h, getD_drop, ← e, getD_take _ _ _ _ (by omega)]
theorem tapeAt_append (hB : ∀ i, (B i).length = 32) (a n m : Nat) : tapeAt B a n ++ tapeAt B (a + n) m = tapeAt B a (n + m) := by
  rw [tapeAt_eq B hB (show a + n ≤ 32 * ((a + n + m + 31) / 32) by omega), tapeAt_eq B hB (show a + n + m ≤ 32 * ((a + n + m + 31) / 32) by omega),
    tapeAt_eq B hB (show a + (n + m) ≤ 32 * ((a + n + m + 31) / 32) by omega), ← List.drop_drop, List.take_add]
end Go.Proofs.Ytogijkmflhjhkaa

/- Functions through the evaluator: sha's rounds. No condition. -/
namespace Go.Proofs.Ytogijkmflhjhkaa
open Go.Sx Go.RowKit
set_option linter.unusedSimpArgs false
set_option maxRecDepth 100000
set_option linter.unusedVariables false

theorem cok2 : COk Try.prog (tab [(73, rotS), (88, wordsS), (89, constS)]) := cok_cons rotS_ok (cok_cons wordsS_ok (cok_cons constS_ok cok_nil))
/-- The state's words, i of which have been added to. -/
def mixF (h : Nat → Int) (m : List W32) (i j : Nat) : Int := if j < i then UL m j else h j
theorem mixF_step {h : Nat → Int} {H : List W32} {V : List W32} {i : Nat} (hH : H.length = 8) (hV : V.length = 8) (hh : ∀ j, j < 8 → h j = UL H j) (hi : i < 8) (j : Nat) (hj : j < 8) :
    mixF h (addv H V) (i + 1) j = upd (mixF h (addv H V) i) i (IntKind.u32.wrap (mixF h (addv H V) i i + UL V i)) j := by
  unfold upd mixF
  by_cases h1 : j = i
  · subst h1
    rw [if_pos (by omega), if_pos rfl, if_neg (by omega), hh _ hi]
    simp only [UL_getD, add32]
    congr 1
    simp [addv, List.getD_eq_getElem?_getD, hH, hV, hi]
  · rw [if_neg h1]
    by_cases h2 : j < i
    · rw [if_pos (by omega), if_pos h2]
    · rw [if_neg (by omega), if_neg h2]

theorem rot6 : rotN (-6) = 26 := rfl
theorem rot11 : rotN (-11) = 21 := rfl
theorem rot25 : rotN (-25) = 7 := rfl
theorem rot2 : rotN (-2) = 30 := rfl
theorem rot13 : rotN (-13) = 19 := rfl
theorem rot22 : rotN (-22) = 10 := rfl
theorem not32' (x : BitVec 32) : bits .xor .u32 (if IntKind.u32.signed = true then -1 else IntKind.u32.max) (U x) = U (~~~x) := not32 x

/-- (*sha.State).mix: a block mixed into a state. -/
def mixS : Summary := mkS false [.p 82 [.i .u32 8, .o, .o], .r .u8] fun
  | [.p [.i h, .o, .o], .r nl g n] => some ⟨.and (.p (64 ≤ n)) (.and (.p (R8 g n)) (.p (R32 h 8))), some (.tup []), [(0, .own 82 [.ints .u32 (UL (mix (L32 h 8) (L8 g n))) 8, .one (.opq 0), .one (.opq 1)] false)], 1⟩
  | _ => none
theorem mixS_ok : SumOk Try.prog 66 mixS := by
  unfold mixS
  apply sum_ok
  intro vs A H n o r hb h
  split at h
  rotate_left
  · cases h
  rename_i h nl g n0
  injection h with h
  subst h
  cases hb
  refine fsound_of_run tt_ok cok2 mixed_ok Try.call66 Try.func66 rfl (rs := _) Try.results66 (size := 121) Try.ntmps66 (Nat.le_of_ble_eq_true rfl) rfl fun hp hfa hfh => ?_
  obtain ⟨hn, hg, hh⟩ := hp
  have hn : 64 ≤ n0 := hn
  have hg : R8 g n0 := hg
  have hh : R32 h 8 := hh
  repeat ((conv => whnf); (with_reducible refine And.intro ?_ ?_); · assumption)
  conv => whnf
  refine ⟨0, Nat, fun i => ⟨121, [(22, .sa (.sc (.int .i64 i))), (0, .sa (.sc (.ptr 0 0 0))), (4, .sa (.sc (.ptr 1 0 0))), (5, .sa (.sc (.ptr 2 0 0))), (6, .sa (.sc (.ptr 3 0 0)))],
    [(0, .own 82 [.ints .u32 h 8, .one (.opq 0), .one (.opq 1)] false), (1, .own 107 [.ints .u32 (UL (wsched (L8 g n0))) 64] false), (2, .own 107 [.ints .u32 (UL K256) 64] false),
     (3, .own 79 [.ints .u32 (UL (rnds (wsched (L8 g n0)) i (L32 h 8))) 8] false)], 4⟩, fun i => i ≤ 64, fun i => 64 - i, ⟨0, by omega, le_of [] ?_⟩, fun i hi => ?_⟩
  · repeat ((conv => whnf); (with_reducible refine And.intro ?_ ?_); · first | with_reducible rfl | (intro _ _; with_reducible rfl) | omega | exact fun j hj => UL_L32 hh j hj)
    conv => whnf
    exact True.intro
  repeat ((conv => whnf); (with_reducible refine And.intro ?_ ?_); · omega)
  conv => whnf
  refine ⟨fun h1 => ?_, fun h1 => ?_⟩
  · have hi' : (i : Int) < 64 := of_decide_eq_true h1
    repeat ((conv => whnf); (with_reducible refine And.intro ?_ ?_); · omega)
    conv => whnf
    refine ⟨[(0, ⟨0, some 25, []⟩), (1, ⟨1, some 26, []⟩), (2, ⟨0, some 27, []⟩), (3, ⟨4, some 28, []⟩), (4, ⟨3, some 8, []⟩), (5, ⟨31, some 9, []⟩)], 100, ?_⟩
    repeat ((conv => whnf); (with_reducible refine And.intro ?_ ?_); · first | omega | exact ⟨U_nonneg _, U_lt32 _⟩)
    conv => whnf
    refine ⟨[(0, ⟨0, some 37, []⟩), (1, ⟨1, some 38, []⟩), (2, ⟨0, some 39, []⟩), (3, ⟨7, some 40, []⟩), (4, ⟨0, some 41, []⟩), (5, ⟨0, some 42, []⟩), (6, ⟨32, some 43, []⟩), (7, ⟨112, some 44, []⟩), (8, ⟨0, some 45, []⟩), (9, ⟨256, some 46, []⟩), (10, ⟨0, some 47, []⟩), (11, ⟨1024, some 48, []⟩), (12, ⟨3840, some 49, []⟩), (13, ⟨8176, some 50, []⟩), (14, ⟨16383, some 51, []⟩), (15, ⟨0, some 52, []⟩), (16, ⟨32768, some 53, []⟩), (17, ⟨98304, some 54, []⟩), (18, ⟨262143, some 55, []⟩), (19, ⟨0, some 56, []⟩), (20, ⟨524288, some 57, []⟩), (21, ⟨1572864, some 58, []⟩), (22, ⟨4194303, some 59, []⟩), (23, ⟨8388607, some 11, []⟩)], 484, ?_⟩
    repeat ((conv => whnf); (with_reducible refine And.intro ?_ ?_); · first | omega | exact ⟨U_nonneg _, U_lt32 _⟩)
    conv => whnf
    refine ⟨i + 1, ⟨by omega, by dsimp only; omega⟩, le_of [] ?_⟩
    repeat ((conv => whnf); (with_reducible refine And.intro ?_ ?_); · first | with_reducible rfl | (intro _ _; with_reducible rfl) | (simp only [w_i64, w_u64, w_u32, w_u8]; omega))
    conv => whnf
    refine ⟨fun j _ => ?_, ?_⟩
    rotate_left
    · repeat ((conv => whnf); (with_reducible refine And.intro ?_ ?_); · with_reducible rfl)
      conv => whnf
      exact True.intro
    refine (listI_map _ _).symm.trans (congrArg (fun l => listI l j) ?_)
    show (rnd (rnds (wsched (L8 g n0)) i (L32 h 8)) (K256.getD i 0) ((wsched (L8 g n0)).getD i 0)).map U = _
    simp only [UL_getD, ofInt_U, Int.toNat_natCast, xor32, and32, not32', add32, rot6, rot11, rot25, rot2, rot13, rot22]
    rfl
  have hi' : ¬ (i : Int) < 64 := of_decide_eq_false h1
  have h64 : i = 64 := by omega
  subst h64
  repeat ((conv => whnf); (with_reducible refine And.intro ?_ ?_); · omega)
  conv => whnf
  refine ⟨0, Nat, fun i => ⟨121, [(104, .sa (.sc (.int .i64 i))), (0, .sa (.sc (.ptr 0 0 0))), (6, .sa (.sc (.ptr 3 0 0)))],
    [(0, .own 82 [.ints .u32 (mixF h (mix (L32 h 8) (L8 g n0)) i) 8, .one (.opq 0), .one (.opq 1)] false),
     (3, .own 79 [.ints .u32 (UL (rnds (wsched (L8 g n0)) 64 (L32 h 8))) 8] false)], 4⟩, fun i => i ≤ 8, fun i => 8 - i, ⟨0, by omega, le_of [] ?_⟩, fun i hi => ?_⟩
  · repeat ((conv => whnf); (with_reducible refine And.intro ?_ ?_); · first | with_reducible rfl | (intro _ _; with_reducible rfl) | omega | exact fun j hj => (if_neg (by omega)))
    conv => whnf
    exact True.intro
  repeat ((conv => whnf); (with_reducible refine And.intro ?_ ?_); · omega)
  conv => whnf
  refine ⟨fun h1 => ?_, fun h1 => ?_⟩
  · have hi' : (i : Int) < 8 := of_decide_eq_true h1
    repeat ((conv => whnf); (with_reducible refine And.intro ?_ ?_); · omega)
    conv => whnf
    refine ⟨[(0, ⟨0, some 107, []⟩), (1, ⟨0, some 108, []⟩), (2, ⟨1, some 109, []⟩), (3, ⟨5, some 110, []⟩), (4, ⟨15, some 111, []⟩), (5, ⟨31, some 112, []⟩), (6, ⟨0, some 113, []⟩), (7, ⟨64, some 114, []⟩), (8, ⟨192, some 115, []⟩), (9, ⟨511, some 116, []⟩), (10, ⟨1, some 117, []⟩), (11, ⟨1025, some 118, []⟩), (12, ⟨4095, some 119, []⟩), (13, ⟨8191, none, [0]⟩)], 228, ?_⟩
    repeat ((conv => whnf); (with_reducible refine And.intro ?_ ?_); · omega)
    conv => whnf
    refine ⟨i + 1, ⟨by omega, by dsimp only; omega⟩, le_of [] ?_⟩
    repeat ((conv => whnf); (with_reducible refine And.intro ?_ ?_); · first | with_reducible rfl | (simp only [w_i64, w_u64, w_u32, w_u8]; omega))
    conv => whnf
    refine ⟨fun j hj => ?_, ?_⟩
    rotate_left
    · repeat ((conv => whnf); (with_reducible refine And.intro ?_ ?_); · first | with_reducible rfl | (intro _ _; with_reducible rfl))
      conv => whnf
      exact True.intro
    rw [Int.toNat_natCast]
    exact mixF_step (L32_length _ _) (rnds_length _ _ _ (L32_length _ _)) (fun j hj => (UL_L32 hh j hj).symm) (by omega) j hj
  · have hi' : ¬ (i : Int) < 8 := of_decide_eq_false h1
    have h8 : i = 8 := by omega
    subst h8
    repeat ((conv => whnf); (with_reducible refine And.intro ?_ ?_); · omega)
    conv => whnf
    refine ⟨[], ?_⟩
    repeat ((conv => whnf); (with_reducible refine And.intro ?_ ?_); · first | with_reducible rfl | exact fun j hj => (if_pos hj).symm)
    conv => whnf
    exact True.intro
end Go.Proofs.Ytogijkmflhjhkaa

/- Functions through the evaluator: sha's states. No condition. -/
namespace Go.Proofs.Ytogijkmflhjhkaa
open Go.Sx Go.RowKit
set_option linter.unusedSimpArgs false
set_option maxRecDepth 100000
set_option linter.unusedVariables false

/-- slices.Clone. -/
def cloneS : Summary := mkS false [.r .u8] fun
  | [.r nl g n] => some ⟨.p (n ≤ 140737488355328), some (.sa (.sc (ownA nl n 0))), [(0, ownB 5 .u8 g n)], 1⟩
  | _ => none
theorem cloneS_ok : SumOk Try.prog 67 cloneS := by
  unfold cloneS
  apply sum_ok
  intro vs A H n o r hb h
  split at h
  rotate_left
  · cases h
  rename_i nl g n0
  injection h with h
  subst h
  cases hb
  refine fsound_of_run tt_ok cok_nil mixed_ok Try.call67 Try.func67 rfl (rs := _) Try.results67 (size := 8) Try.ntmps67 (Nat.le_of_ble_eq_true rfl) rfl fun hp hfa hfh => ?_
  have hn : n0 ≤ 140737488355328 := hp
  obtain ⟨⟨hnl, _⟩, _⟩ := hfa
  repeat ((conv => whnf); (with_reducible refine And.intro ?_ ?_); · omega)
  conv => whnf
  refine ⟨fun h1 => ?_, fun h1 => ?_⟩
  · have h0 := hnl h1
    subst h0
    subst h1
    repeat ((conv => whnf); (with_reducible refine And.intro ?_ ?_); · omega)
    conv => whnf
    refine ⟨[(0, 999999)], ?_⟩
    repeat ((conv => whnf); (with_reducible refine And.intro ?_ ?_); · first | with_reducible rfl | assumption | (intro h; exact absurd h (by decide)) | (refine decide_eq_false ?_; omega))
    conv => whnf
    exact True.intro
  · subst h1
    repeat ((conv => whnf); (with_reducible refine And.intro ?_ ?_); · first | omega | (intro _; refine ⟨True.intro, ?_⟩; omega))
    conv => whnf
    refine ⟨[(0, 1)], ?_⟩
    repeat ((conv => whnf); (with_reducible refine And.intro ?_ ?_); · first | assumption | omega | (intro _; refine ⟨?_, True.intro⟩; omega) | (simp [appG]; done) | (intro hgd; (try replace hgd := of_decide_eq_true hgd); (repeat ((conv => whnf); (with_reducible refine And.intro ?_ ?_); · first | omega | exact fun j hj => (put_0 hj).symm | (simp [appG]; done))); (conv => whnf); exact True.intro))
    conv => whnf
    exact True.intro

theorem cok3 : COk Try.prog (tab [(66, mixS), (67, cloneS)]) := cok_cons mixS_ok (cok_cons cloneS_ok cok_nil)
/-- A state: its words, what is left, how many bytes. -/
def stB (h : Nat → Int) (nl : Bool) (n τ : Nat) (N : Int) : SB := .own 82 [.ints .u32 h 8, .one (ownA nl n τ), .one (.int .u64 N)] false
def stM : Md := .p 82 [.i .u32 8, .a 5 .u8, .s]
/-- (*sha.State).Copy. -/
def copyS1 : Summary := mkS false [stM] fun
  | [.p [.i h, .a nl f n, .s (.int .u64 N)]] => some ⟨.p (n ≤ 140737488355328), some (sc (.ptr 2 0 0)), [(0, stB h nl n 1 N), (1, ownB 5 .u8 f n), (2, stB h nl n 3 N), (3, ownB 5 .u8 f n)], 4⟩
  | _ => none
theorem copyS1_ok : SumOk Try.prog 36 copyS1 := by
  unfold copyS1
  apply sum_ok
  intro vs A H n o r hb h
  split at h
  rotate_left
  · cases h
  rename_i h nl f n0 N
  injection h with h
  subst h
  cases hb
  refine fsound_of_run tt_ok cok3 mixed_ok Try.call36 Try.func36 rfl (rs := _) Try.results36 (size := 15) Try.ntmps36 (Nat.le_of_ble_eq_true rfl) rfl fun hp hfa hfh => ?_
  have hn : n0 ≤ 140737488355328 := hp
  repeat ((conv => whnf); (with_reducible refine And.intro ?_ ?_); · omega)
  conv => whnf
  refine ⟨(fun h1 => nomatch h1), fun h1 => ?_⟩
  repeat ((conv => whnf); (with_reducible refine And.intro ?_ ?_); · first | assumption | (intro _; refine ⟨decide_eq_true ?_, ?_⟩ <;> omega))
  conv => whnf
  have hnl : nl = true → n0 = 0 := hfh.1.1.1
  refine ⟨[], ?_⟩
  repeat ((conv => whnf); (with_reducible refine And.intro ?_ ?_); · first | with_reducible rfl | (intro _ _; with_reducible rfl) | assumption | (intro _; refine ⟨?_, True.intro⟩; omega) | (intro hgd; (try replace hgd := of_decide_eq_true hgd); (repeat ((conv => whnf); (with_reducible refine And.intro ?_ ?_); · first | (intro _ _; with_reducible rfl) | omega | (refine decide_eq_true ?_; omega) | (intro j _; simp only [Nat.zero_add]; done))); (conv => whnf); exact True.intro))
  conv => whnf
  exact True.intro

def copyS0 : Summary := mkS false [.v] fun
  | [.v (.sc .nilp)] => some ⟨.tt, some (sc .nilp), [], 0⟩
  | _ => none
theorem copyS0_ok : SumOk Try.prog 36 copyS0 := by
  unfold copyS0
  apply sum_ok
  intro vs A H n o r hb h
  split at h
  rotate_left
  · cases h
  injection h with h
  subst h
  cases hb
  refine fsound_of_run tt_ok cok3 mixed_ok Try.call36 Try.func36 rfl (rs := _) Try.results36 (size := 15) Try.ntmps36 (Nat.le_of_ble_eq_true rfl) rfl fun hp hfa hfh => ?_
  repeat ((conv => whnf); (with_reducible refine And.intro ?_ ?_); · omega)
  conv => whnf
  refine ⟨fun h1 => ?_, (fun h1 => nomatch h1)⟩
  repeat ((conv => whnf); (with_reducible refine And.intro ?_ ?_); · omega)
  conv => whnf
  refine ⟨[], ?_⟩
  repeat ((conv => whnf); (with_reducible refine And.intro ?_ ?_); · omega)
  conv => whnf
  exact True.intro

/-- (*sha.State).Write. -/
def writeS1 : Summary := mkS false [stM, .r .u8] fun
  | [.p [.i h, .a nl f n, .s (.int .u64 N)], .r nl2 g m] => some ⟨.and (.p (R32 h 8)) (.and (.p (R8 f n)) (.and (.p (R8 g m)) (.p (n + m ≤ 140737488355328)))), some (.tup []),
      [(0, stB (UL (absorb (L32 h 8) (L8 f n ++ L8 g m))) (nl && Nat.beq m 0) ((n + m) % 64) 2 (IntKind.u64.wrap (N + IntKind.u64.wrap m))), (1, .dead), (2, ownB 5 .u8 (UL (rest (L8 f n ++ L8 g m))) ((n + m) % 64))], 3⟩
  | _ => none
theorem writeS1_ok : SumOk Try.prog 33 writeS1 := by
  unfold writeS1
  apply sum_ok
  intro vs A H n o r hb h
  split at h
  rotate_left
  · cases h
  rename_i h nl f n0 N nl2 g m
  injection h with h
  subst h
  cases hb
  refine fsound_of_run tt_ok cok3 mixed_ok Try.call33 Try.func33 rfl (rs := _) Try.results33 (size := 54) Try.ntmps33 (Nat.le_of_ble_eq_true rfl) rfl fun hp hfa hfh => ?_
  obtain ⟨hh, hf, hg, hs⟩ := hp
  have hh : R32 h 8 := hh
  have hf : R8 f n0 := hf
  have hg : R8 g m := hg
  have hs : n0 + m ≤ 140737488355328 := hs
  have hnl : nl = true → n0 = 0 := hfh.1.1.1
  have hnl' : (nl && Nat.beq m 0) = true → n0 + m = 0 := fun e => by
    simp only [Bool.and_eq_true, Nat.beq_eq] at e
    have := hnl e.1
    omega
  have hR : R8 (put_ f n0 m g) (n0 + m) := R8_put hf hg
  have hL : L8 (put_ f n0 m g) (n0 + m) = L8 f n0 ++ L8 g m := L8_put _ _ _ _
  repeat ((conv => whnf); (with_reducible refine And.intro ?_ ?_); · omega)
  conv => whnf
  refine ⟨(fun h1 => nomatch h1), fun h1 => ?_⟩
  repeat ((conv => whnf); (with_reducible refine And.intro ?_ ?_); · first | omega | (intro _; refine ⟨decide_eq_true ?_, ?_⟩ <;> omega))
  conv => whnf
  refine ⟨0, Nat, fun k => ⟨54, [(0, .sa (.sc (.ptr 0 0 0)))], [(0, .own 82 [.ints .u32 (UL (absorbN k (L32 h 8) (L8 f n0 ++ L8 g m))) 8, .one (.sl (nl && Nat.beq m 0) false false 2 0 (64 * k) (n0 + m - 64 * k) (n0 + m - 64 * k)), .one (.int .u64 (IntKind.u64.wrap (N + IntKind.u64.wrap m)))] false),
    (1, .dead), (2, .gd (decide (0 < n0 + m)) (.own 5 [.ints .u8 (put_ f n0 m g) (n0 + m)] true))], 3⟩, fun k => 64 * k ≤ n0 + m, fun k => n0 + m - 64 * k, ⟨0, by omega, le_of [] ?_⟩, fun k hk => ?_⟩
  · repeat ((conv => whnf); (with_reducible refine And.intro ?_ ?_); · first | with_reducible rfl | assumption | omega | (intro _; refine ⟨?_, True.intro⟩; omega) | exact fun j hj => UL_L32 hh j hj | (intro hgd; (try replace hgd := of_decide_eq_true hgd); (repeat ((conv => whnf); (with_reducible refine And.intro ?_ ?_); · first | (intro _ _; with_reducible rfl) | omega | (refine decide_eq_true ?_; omega))); (conv => whnf); exact True.intro))
    conv => whnf
    exact True.intro
  have hk : 64 * k ≤ n0 + m := hk
  repeat ((conv => whnf); (with_reducible refine And.intro ?_ ?_); · omega)
  conv => whnf
  refine ⟨fun h1 => ?_, fun h1 => ?_⟩
  · have h2 : ((n0 + m - 64 * k : Nat) : Int) ≥ 64 := of_decide_eq_true h1
    repeat ((conv => whnf); (with_reducible refine And.intro ?_ ?_); · first | omega | (intro _; refine ⟨decide_eq_true ?_, ?_⟩ <;> omega) | exact R32_UL _ _ | (intro j hj; exact hR _ (by omega)))
    conv => whnf
    refine ⟨k + 1, ⟨by omega, by dsimp only; omega⟩, le_of [] ?_⟩
    repeat ((conv => whnf); (with_reducible refine And.intro ?_ ?_); · with_reducible rfl)
    conv => whnf
    refine ⟨fun j _ => ?_, ?_⟩
    rotate_left
    · repeat ((conv => whnf); (with_reducible refine And.intro ?_ ?_); · first | with_reducible rfl | omega | (intro _; refine ⟨?_, True.intro⟩; omega) | (intro h; have := hnl' h; omega) | (intro hgd; (try replace hgd := of_decide_eq_true hgd); (repeat ((conv => whnf); (with_reducible refine And.intro ?_ ?_); · first | (intro _ _; with_reducible rfl) | omega | (refine decide_eq_true ?_; omega))); (conv => whnf); exact True.intro))
      conv => whnf
      exact True.intro
    rw [absorbN_succ, L32_UL' (absorbN_length _ _ _ (L32_length _ _)).symm, L8_sub _ (n0 + m) _ _ (by omega), hL]
    rfl
  · have h2 : ¬ ((n0 + m - 64 * k : Nat) : Int) ≥ 64 := of_decide_eq_false h1
    have hq : k = (n0 + m) / 64 := by omega
    have hlen : (L8 f n0 ++ L8 g m).length = n0 + m := by rw [List.length_append, L8_length, L8_length]
    have habs : ∀ j, j < 8 → UL (absorb (L32 h 8) (L8 f n0 ++ L8 g m)) j = UL (absorbN k (L32 h 8) (L8 f n0 ++ L8 g m)) j := fun j _ => by unfold absorb; rw [hlen, ← hq]
    have hrest : ∀ j, j < (n0 + m) % 64 → UL (rest (L8 f n0 ++ L8 g m)) j = put_ f n0 m g (64 * k + j) := fun j hj => by
      have e : rest (L8 f n0 ++ L8 g m) = L8 (fun j => put_ f n0 m g (64 * k + j)) (n0 + m - 64 * k) := by rw [L8_drop, hL, rest, hlen, ← hq]
      rw [e, UL_L8 (fun j hj => hR _ (by omega)) j (by omega)]
    repeat ((conv => whnf); (with_reducible refine And.intro ?_ ?_); · first | omega | (intro _; refine ⟨decide_eq_true ?_, ?_⟩ <;> omega))
    conv => whnf
    refine ⟨[(2, 3)], ?_⟩
    repeat ((conv => whnf); (with_reducible refine And.intro ?_ ?_); · first | with_reducible rfl | assumption | omega | (intro _; refine ⟨?_, True.intro⟩; omega) | (intro h; have := hnl' h; omega) | (intro hgd; (try replace hgd := of_decide_eq_true hgd); (repeat ((conv => whnf); (with_reducible refine And.intro ?_ ?_); · first | assumption | omega | (refine decide_eq_true ?_; omega))); (conv => whnf); exact True.intro))
    conv => whnf
    exact True.intro
end Go.Proofs.Ytogijkmflhjhkaa

/- Functions through the evaluator: sha's sums. No condition. -/
namespace Go.Proofs.Ytogijkmflhjhkaa
open Go.Sx Go.RowKit
set_option linter.unusedSimpArgs false
set_option maxRecDepth 100000
set_option linter.unusedVariables false

def writeS0 : Summary := mkS false [.v, .r .u8] fun
  | [.v (.sc .nilp), .r _ _ _] => some ⟨.tt, some (.tup []), [], 0⟩
  | _ => none
theorem writeS0_ok : SumOk Try.prog 33 writeS0 := by
  unfold writeS0
  apply sum_ok
  intro vs A H n o r hb h
  split at h
  rotate_left
  · cases h
  rename_i x1 x2 x3
  injection h with h
  subst h
  cases hb
  refine fsound_of_run tt_ok cok3 mixed_ok Try.call33 Try.func33 rfl (rs := _) Try.results33 (size := 54) Try.ntmps33 (Nat.le_of_ble_eq_true rfl) rfl fun hp hfa hfh => ?_
  repeat ((conv => whnf); (with_reducible refine And.intro ?_ ?_); · omega)
  conv => whnf
  refine ⟨fun h1 => ?_, (fun h1 => nomatch h1)⟩
  repeat ((conv => whnf); (with_reducible refine And.intro ?_ ?_); · omega)
  conv => whnf
  refine ⟨[], ?_⟩
  repeat ((conv => whnf); (with_reducible refine And.intro ?_ ?_); · omega)
  conv => whnf
  exact True.intro
def writeS : Summary := orS writeS1 writeS0
def copyS : Summary := orS copyS1 copyS0
theorem cok4 : COk Try.prog (tab [(33, writeS), (36, copyS)]) := cok_cons (orS_ok writeS1_ok writeS0_ok) (cok_cons (orS_ok copyS1_ok copyS0_ok) cok_nil)

/-- 0x80 and k noughts. -/
def padL (k : Nat) : List B8 := (0x80 : B8) :: List.replicate k (0 : B8)
theorem padL_length (k : Nat) : (padL k).length = 1 + k := by simp [padL]; omega
theorem padL_succ (k : Nat) : padL (k + 1) = padL k ++ [0] := by simp [padL, List.replicate_succ']
theorem app1 {l : List B8} {m : Nat} {g : Nat → Int} {b : B8} (hm : m = l.length) (hz : g 0 = U b) (j : Nat) (hj : j < m + 1) : UL (l ++ [b]) j = put_ (UL l) m 1 g j := by
  subst hm
  rw [← UL_app l [b] j (by simpa using hj)]
  simp only [put_, List.length_singleton]
  split
  · rw [show j - l.length = 0 by omega, hz]; rfl
  · rfl
theorem shr64 (x : BitVec 64) (s : Nat) : U x / 2 ^ s = U (x >>> s) := by
  unfold U
  rw [BitVec.toNat_ushiftRight, Nat.shiftRight_eq_div_pow]; simp
theorem mul8 {N : Int} (h : 0 ≤ N ∧ N < 18446744073709551616) : IntKind.u64.wrap (N * 8) = U (BitVec.ofInt 64 N * 8) := by
  unfold U
  rw [BitVec.toNat_mul, BitVec.toNat_ofInt, w_u64]
  have e1 : ((2 ^ 64 : Nat) : Int) = 18446744073709551616 := by decide
  have e2 : (2 : Nat) ^ 64 = 18446744073709551616 := by decide
  have e3 : (8 : BitVec 64).toNat = 8 := rfl
  rw [e1, e2, e3, Int.emod_eq_of_lt h.1 h.2]
  omega
theorem be8_byte (W : BitVec 64) {i : Nat} (hi : i < 8) : IntKind.u8.wrap (U W / 2 ^ min (IntKind.i64.wrap (56 - IntKind.i64.wrap (8 * (i : Int)))).toNat IntKind.u64.bits) = U ((be8 W).getD i 0) := by
  have e : min (IntKind.i64.wrap (56 - IntKind.i64.wrap (8 * (i : Int)))).toNat IntKind.u64.bits = 56 - 8 * i := by
    rw [w_i64 (8 * (i : Int)), Int.emod_eq_of_lt (by omega) (by omega), w_i64, Int.emod_eq_of_lt (by omega) (by omega)]
    show min _ 64 = _
    omega
  rw [e, shr64, byte64]
  congr 1
  simp [be8, hi]
def outF (D : List B8) (i j : Nat) : Int := if j < 4 * i then UL D j else 0
theorem out_step {A : List W32} {i : Nat} (hA : A.length = 8) (hi : i < 8) (j : Nat) :
    outF (digest A) (i + 1) j = upd (upd (upd (upd (outF (digest A) i) (4 * i) (IntKind.u8.wrap (UL A i / 2 ^ min (Int.toNat 24) IntKind.u32.bits))) (4 * i + 1) (IntKind.u8.wrap (UL A i / 2 ^ min (Int.toNat 16) IntKind.u32.bits)))
      (4 * i + 2) (IntKind.u8.wrap (UL A i / 2 ^ min (Int.toNat 8) IntKind.u32.bits))) (4 * i + 3) (IntKind.u8.wrap (UL A i)) j := by
  have hd : ∀ r, r < 4 → (digest A).getD (4 * i + r) 0 = (w4 (A.getD i 0)).getD r 0 := fun r hr => digest_get A i r (by omega) hr
  simp only [sh24, sh16, sh8, UL_getD, shr32, byte32]
  unfold upd outF
  by_cases h3 : j = 4 * i + 3
  · subst h3; rw [if_pos (by omega), if_pos rfl, UL_getD, hd 3 (by omega)]; rfl
  rw [if_neg h3]
  by_cases h2 : j = 4 * i + 2
  · subst h2; rw [if_pos (by omega), if_pos rfl, UL_getD, hd 2 (by omega)]; rfl
  rw [if_neg h2]
  by_cases h1 : j = 4 * i + 1
  · subst h1; rw [if_pos (by omega), if_pos rfl, UL_getD, hd 1 (by omega)]; rfl
  rw [if_neg h1]
  by_cases h0 : j = 4 * i
  · subst h0; rw [if_pos (by omega), if_pos rfl, UL_getD]; have := hd 0 (by omega); rw [Nat.add_zero] at this; rw [this]; rfl
  rw [if_neg h0]
  by_cases hq : j < 4 * i
  · rw [if_pos (by omega), if_pos hq]
  · rw [if_neg (by omega), if_neg hq]
theorem R8_z (l : List B8) (n : Nat) : R8 (fun j => UL l (0 + j)) n := fun j _ => ⟨U_nonneg _, U_lt8 _⟩
/-- (*sha.State).Sum. -/
def sumS1 : Summary := mkS false [stM] fun
  | [.p [.i h, .a nl f n, .s (.int .u64 N)]] => some ⟨.and (.p (R32 h 8)) (.and (.p (R8 f n)) (.and (.p (n ≤ 1000000)) (.p (0 ≤ N ∧ N < 18446744073709551616)))),
      some (.sa (.agg [.ints .u8 (UL (digest (absorb (L32 h 8) (L8 f n ++ tail2 n (BitVec.ofInt 64 N))))) 32])), [(0, stB h nl n 1 N), (1, ownB 5 .u8 f n)], 2⟩
  | _ => none
theorem sumS1_ok : SumOk Try.prog 34 sumS1 := by
  unfold sumS1
  apply sum_ok
  intro vs A H n o r hb h
  split at h
  rotate_left
  · cases h
  rename_i h nl f n0 N
  injection h with h
  subst h
  cases hb
  refine fsound_of_run tt_ok cok4 mixed_ok Try.call34 Try.func34 rfl (rs := _) Try.results34 (size := 86) Try.ntmps34 (Nat.le_of_ble_eq_true rfl) rfl fun hp hfa hfh => ?_
  obtain ⟨hh, hf, hn, hN⟩ := hp
  have hh : R32 h 8 := hh
  have hf : R8 f n0 := hf
  have hn : n0 ≤ 1000000 := hn
  have hN : 0 ≤ N ∧ N < 18446744073709551616 := hN
  have hnl : nl = true → n0 = 0 := hfh.1.1.1
  repeat ((conv => whnf); (with_reducible refine And.intro ?_ ?_); · omega)
  conv => whnf
  refine ⟨(fun h1 => nomatch h1), fun h1 => ?_⟩
  repeat ((conv => whnf); (with_reducible refine And.intro ?_ ?_); · first | omega | (intro _; refine ⟨decide_eq_true ?_, ?_⟩ <;> omega))
  conv => whnf
  refine ⟨0, Nat, fun k => ⟨86, [(4, .sa (.sc (.ptr 4 0 0))), (3, .sa (.sc (.ptr 3 0 0))), (2, .sa (.sc (.ptr 2 0 0))), (5, .sa (.sc (.int .u64 (IntKind.u64.wrap (N * 8))))), (6, .sa (.sc (ownA false (1 + k) 6)))],
    [(0, stB h nl n0 1 N), (1, ownB 5 .u8 f n0), (2, .own 30 [.ints .u8 (fun _ => 0) 32] false), (3, .own 30 [.ints .u8 (fun _ => 0) 32] false), (4, stB h nl n0 5 N), (5, ownB 5 .u8 f n0), (6, ownB 5 .u8 (UL (padL k)) (1 + k))], 7⟩,
    fun k => k ≤ zeros n0, fun k => zeros n0 - k, ⟨0, by omega, le_of [] ?_⟩, fun k hk => ?_⟩
  · repeat ((conv => whnf); (with_reducible refine And.intro ?_ ?_); · first | with_reducible rfl | (intro _ _; with_reducible rfl) | assumption | (intro h; exact absurd h (by decide)) | (intro _; refine ⟨?_, True.intro⟩; omega) | (intro hgd; (try replace hgd := of_decide_eq_true hgd); (repeat ((conv => whnf); (with_reducible refine And.intro ?_ ?_); · first | (intro _ _; with_reducible rfl) | assumption | omega | (refine decide_eq_true ?_; omega) | (intro j hj; rw [show j = 0 by omega]; rfl))); (conv => whnf); exact True.intro))
    conv => whnf
    exact True.intro
  have hk : k ≤ zeros n0 := hk
  have hz64 : zeros n0 < 64 := by unfold zeros; omega
  have hzd : zeros n0 = (119 - n0 % 64) % 64 := rfl
  have hmod : (IntKind.i64.wrap ((n0 : Int) + ((1 + k : Nat) : Int))).tmod 64 = (((n0 + (1 + k)) % 64 : Nat) : Int) := by
    rw [w_i64, Int.emod_eq_of_lt (by omega) (by omega), show (n0 : Int) + ((1 + k : Nat) : Int) + 9223372036854775808 - 9223372036854775808 = ((n0 + (1 + k) : Nat) : Int) by omega]; rfl
  repeat ((conv => whnf); (with_reducible refine And.intro ?_ ?_); · omega)
  conv => whnf
  refine ⟨fun h2 => ?_, fun h2 => ?_⟩
  · rw [hmod, bne_iff_ne] at h2
    repeat ((conv => whnf); (with_reducible refine And.intro ?_ ?_); · first | omega | (intro _; refine ⟨True.intro, ?_⟩; omega) | (intro _; refine ⟨decide_eq_true ?_, ?_⟩ <;> omega))
    conv => whnf
    refine ⟨k + 1, ⟨by show k + 1 ≤ zeros n0; omega, by show zeros n0 - (k + 1) < zeros n0 - k; omega⟩, le_of [(6, 8)] ?_⟩
    simp only [padL_succ]
    repeat ((conv => whnf); (with_reducible refine And.intro ?_ ?_); · first | with_reducible rfl | exact (Bool.and_false _).symm | (intro _ _; with_reducible rfl) | assumption | (intro h; exact absurd h (by decide)) | omega | (intro _; refine ⟨?_, True.intro⟩; omega) | (intro hgd; (try replace hgd := of_decide_eq_true hgd); (repeat ((conv => whnf); (with_reducible refine And.intro ?_ ?_); · first | (intro _ _; with_reducible rfl) | omega | (refine decide_eq_true ?_; omega) | (simp [appG]; done) | exact app1 (padL_length k).symm rfl)); (conv => whnf); exact True.intro))
    conv => whnf
    exact True.intro
  · rw [hmod, bne_eq_false_iff_eq] at h2
    have hkz : k = zeros n0 := by omega
    subst hkz
    rw [mul8 hN]
    repeat ((conv => whnf); (with_reducible refine And.intro ?_ ?_); · omega)
    conv => whnf
    refine ⟨0, Nat, fun i => ⟨86, [(4, .sa (.sc (.ptr 4 0 0))), (3, .sa (.sc (.ptr 3 0 0))), (2, .sa (.sc (.ptr 2 0 0))), (5, .sa (.sc (.int .u64 (U (BitVec.ofInt 64 N * 8))))), (34, .sa (.sc (.int .i64 i))), (6, .sa (.sc (ownA false (1 + zeros n0 + i) 6)))],
      [(0, stB h nl n0 1 N), (1, ownB 5 .u8 f n0), (2, .own 30 [.ints .u8 (fun _ => 0) 32] false), (3, .own 30 [.ints .u8 (fun _ => 0) 32] false), (4, stB h nl n0 5 N), (5, ownB 5 .u8 f n0), (6, ownB 5 .u8 (UL (padL (zeros n0) ++ (be8 (BitVec.ofInt 64 N * 8)).take i)) (1 + zeros n0 + i))], 7⟩,
      fun i => i ≤ 8, fun i => 8 - i, ⟨0, by omega, le_of [] ?_⟩, fun i hi => ?_⟩
    · repeat ((conv => whnf); (with_reducible refine And.intro ?_ ?_); · first | with_reducible rfl | (intro _ _; with_reducible rfl) | assumption | (intro h; exact absurd h (by decide)) | omega | (intro _; refine ⟨?_, True.intro⟩; omega) | (intro hgd; (try replace hgd := of_decide_eq_true hgd); (repeat ((conv => whnf); (with_reducible refine And.intro ?_ ?_); · first | (intro _ _; with_reducible rfl) | omega | (refine decide_eq_true ?_; omega) | (simp [appG]; done))); (conv => whnf); exact True.intro))
      conv => whnf
      exact True.intro
    have hi : i ≤ 8 := hi
    repeat ((conv => whnf); (with_reducible refine And.intro ?_ ?_); · omega)
    conv => whnf
    refine ⟨fun h3 => ?_, fun h3 => ?_⟩
    · replace h3 := of_decide_eq_true h3
      have ht : (be8 (BitVec.ofInt 64 N * 8)).take (i + 1) = (be8 (BitVec.ofInt 64 N * 8)).take i ++ [(be8 (BitVec.ofInt 64 N * 8)).getD i 0] := by
        have hl := be8_length (BitVec.ofInt 64 N * 8)
        rw [List.take_succ_eq_append_getElem (by omega), List.getD_eq_getElem?_getD, List.getElem?_eq_getElem (by omega)]
        rfl
      have hlen : (padL (zeros n0) ++ (be8 (BitVec.ofInt 64 N * 8)).take i).length = 1 + zeros n0 + i := by
        rw [List.length_append, padL_length, List.length_take, be8_length]; omega
      have h56 : 0 ≤ IntKind.i64.wrap (56 - IntKind.i64.wrap (8 * (i : Int))) := by
        rw [w_i64 (8 * (i : Int)), Int.emod_eq_of_lt (by omega) (by omega), w_i64, Int.emod_eq_of_lt (by omega) (by omega)]; omega
      repeat ((conv => whnf); (with_reducible refine And.intro ?_ ?_); · first | with_reducible assumption | omega | (intro _; refine ⟨True.intro, ?_⟩; omega) | (intro _; refine ⟨decide_eq_true ?_, ?_⟩ <;> omega))
      conv => whnf
      refine ⟨i + 1, ⟨by show i + 1 ≤ 8; omega, by show 8 - (i + 1) < 8 - i; omega⟩, le_of [(6, 8)] ?_⟩
      simp only [ht, ← List.append_assoc]
      repeat ((conv => whnf); (with_reducible refine And.intro ?_ ?_); · first | with_reducible rfl | exact (Bool.and_false _).symm | (intro _ _; with_reducible rfl) | assumption | (intro h; exact absurd h (by decide)) | omega | (intro _; refine ⟨?_, True.intro⟩; omega) | (simp only [w_i64, w_u64, w_u32, w_u8]; omega) | (intro hgd; (try replace hgd := of_decide_eq_true hgd); (repeat ((conv => whnf); (with_reducible refine And.intro ?_ ?_); · first | (intro _ _; with_reducible rfl) | omega | (refine decide_eq_true ?_; omega) | (simp [appG]; done) | exact app1 hlen.symm (be8_byte _ (by omega)))); (conv => whnf); exact True.intro))
      conv => whnf
      exact True.intro
    · replace h3 := of_decide_eq_false h3
      have hi8 : i = 8 := by omega
      subst hi8
      have ht8 : padL (zeros n0) ++ (be8 (BitVec.ofInt 64 N * 8)).take 8 = tail2 n0 (BitVec.ofInt 64 N) := by
        rw [List.take_of_length_le (by rw [be8_length]; omega)]; rfl
      rw [ht8]
      have hl2 : L8 (fun j => UL (tail2 n0 (BitVec.ofInt 64 N)) (0 + j)) (1 + zeros n0 + 8) = tail2 n0 (BitVec.ofInt 64 N) := by
        rw [show (fun j => UL (tail2 n0 (BitVec.ofInt 64 N)) (0 + j)) = UL (tail2 n0 (BitVec.ofInt 64 N)) from funext fun j => by rw [Nat.zero_add]]
        exact L8_UL' (by rw [tail2_length]; omega)
      have hAl : (absorb (L32 h 8) (L8 f n0 ++ tail2 n0 (BitVec.ofInt 64 N))).length = 8 := absorb_length _ _ (L32_length _ _)
      repeat ((conv => whnf); (with_reducible refine And.intro ?_ ?_); · first | with_reducible assumption | omega | (intro _; refine ⟨decide_eq_true ?_, ?_⟩ <;> omega) | exact R8_z _ _)
      conv => whnf
      simp only [hl2]
      generalize absorb (L32 h 8) (L8 f n0 ++ tail2 n0 (BitVec.ofInt 64 N)) = A at *
      refine ⟨0, Nat, fun i => ⟨86, [(53, .sa (.agg [.ints .u32 (UL A) 8])), (54, .sa (.sc (.int .i64 i))), (3, .sa (.sc (.ptr 3 0 0))), (2, .sa (.sc (.ptr 2 0 0)))],
        [(0, stB h nl n0 1 N), (1, ownB 5 .u8 f n0), (2, .own 30 [.ints .u8 (fun _ => 0) 32] false), (3, .own 30 [.ints .u8 (outF (digest A) i) 32] false)], 7⟩,
        fun i => i ≤ 8, fun i => 8 - i, ⟨0, by omega, le_of [] ?_⟩, fun i hi => ?_⟩
      · repeat ((conv => whnf); (with_reducible refine And.intro ?_ ?_); · first | with_reducible rfl | (intro _ _; with_reducible rfl) | assumption | omega | (intro _; refine ⟨?_, True.intro⟩; omega) | (intro j _; exact if_neg (by omega)) | (intro hgd; (try replace hgd := of_decide_eq_true hgd); (repeat ((conv => whnf); (with_reducible refine And.intro ?_ ?_); · first | (intro _ _; with_reducible rfl) | omega | (refine decide_eq_true ?_; omega))); (conv => whnf); exact True.intro))
        conv => whnf
        exact True.intro
      have hi : i ≤ 8 := hi
      repeat ((conv => whnf); (with_reducible refine And.intro ?_ ?_); · omega)
      conv => whnf
      refine ⟨fun h4 => ?_, fun h4 => ?_⟩
      · replace h4 := of_decide_eq_true h4
        have h4' : i < 8 := by omega
        have w0 : (IntKind.i64.wrap (4 * (i : Int))) = ((4 * i : Nat) : Int) := by rw [w_i64, Int.emod_eq_of_lt (by omega) (by omega)]; omega
        have w1 : (IntKind.i64.wrap (IntKind.i64.wrap (4 * (i : Int)) + 1)) = ((4 * i + 1 : Nat) : Int) := by rw [w0, w_i64, Int.emod_eq_of_lt (by omega) (by omega)]; omega
        have w2 : (IntKind.i64.wrap (IntKind.i64.wrap (4 * (i : Int)) + 2)) = ((4 * i + 2 : Nat) : Int) := by rw [w0, w_i64, Int.emod_eq_of_lt (by omega) (by omega)]; omega
        have w3 : (IntKind.i64.wrap (IntKind.i64.wrap (4 * (i : Int)) + 3)) = ((4 * i + 3 : Nat) : Int) := by rw [w0, w_i64, Int.emod_eq_of_lt (by omega) (by omega)]; omega
        repeat ((conv => whnf); (with_reducible refine And.intro ?_ ?_); · omega)
        conv => whnf
        refine ⟨i + 1, ⟨by show i + 1 ≤ 8; omega, by show 8 - (i + 1) < 8 - i; omega⟩, le_of [] ?_⟩
        rw [w0] at w1 w2 w3
        simp only [w0, w1, w2, w3, Int.toNat_natCast]
        repeat ((conv => whnf); (with_reducible refine And.intro ?_ ?_); · first | with_reducible rfl | (intro _ _; with_reducible rfl) | assumption | (intro _; refine ⟨?_, True.intro⟩; omega) | (simp only [w_i64, w_u64, w_u32, w_u8]; omega) | exact fun j _ => out_step hAl h4' j | (intro hgd; (try replace hgd := of_decide_eq_true hgd); (repeat ((conv => whnf); (with_reducible refine And.intro ?_ ?_); · first | (intro _ _; with_reducible rfl) | omega | (refine decide_eq_true ?_; omega))); (conv => whnf); exact True.intro))
        conv => whnf
        exact True.intro
      · replace h4 := of_decide_eq_false h4
        have hi8 : i = 8 := by omega
        subst hi8
        repeat ((conv => whnf); (with_reducible refine And.intro ?_ ?_); · omega)
        conv => whnf
        refine ⟨[], ?_⟩
        repeat ((conv => whnf); (with_reducible refine And.intro ?_ ?_); · first | with_reducible rfl | (intro _ _; with_reducible rfl) | assumption | (intro _; refine ⟨?_, True.intro⟩; omega) | (intro j hj; unfold outF; rw [if_pos (by omega)]) | (intro hgd; (try replace hgd := of_decide_eq_true hgd); (repeat ((conv => whnf); (with_reducible refine And.intro ?_ ?_); · first | (intro _ _; with_reducible rfl) | omega | (refine decide_eq_true ?_; omega))); (conv => whnf); exact True.intro))
        conv => whnf
        exact True.intro

def sumS0 : Summary := mkS false [.v] fun
  | [.v (.sc .nilp)] => some ⟨.tt, some (.sa (.agg [.ints .u8 (fun _ => 0) 32])), [], 0⟩
  | _ => none
theorem sumS0_ok : SumOk Try.prog 34 sumS0 := by
  unfold sumS0
  apply sum_ok
  intro vs A H n o r hb h
  split at h
  rotate_left
  · cases h
  injection h with h
  subst h
  cases hb
  refine fsound_of_run tt_ok cok4 mixed_ok Try.call34 Try.func34 rfl (rs := _) Try.results34 (size := 86) Try.ntmps34 (Nat.le_of_ble_eq_true rfl) rfl fun hp hfa hfh => ?_
  repeat ((conv => whnf); (with_reducible refine And.intro ?_ ?_); · omega)
  conv => whnf
  refine ⟨fun h1 => ?_, (fun h1 => nomatch h1)⟩
  repeat ((conv => whnf); (with_reducible refine And.intro ?_ ?_); · omega)
  conv => whnf
  refine ⟨[], ?_⟩
  repeat ((conv => whnf); (with_reducible refine And.intro ?_ ?_); · first | with_reducible rfl | (intro _ _; with_reducible rfl))
  conv => whnf
  exact True.intro
def sumS : Summary := orS sumS1 sumS0
theorem sumS_ok : SumOk Try.prog 34 sumS := orS_ok sumS1_ok sumS0_ok
end Go.Proofs.Ytogijkmflhjhkaa

/- Functions through the evaluator: the sum of parts. No condition. -/
namespace Go.Proofs.Ytogijkmflhjhkaa
open Go.Sx Go.RowKit
set_option linter.unusedSimpArgs false
set_option maxRecDepth 100000
set_option linter.unusedVariables false

/-- Parts, one behind the other. -/
def cat (g : Nat → Row) : Nat → List B8
  | 0 => []
  | k + 1 => cat g k ++ L8 (g k).f (g k).n
theorem cat_mono (g : Nat → Row) (k : Nat) : ∀ n, k ≤ n → (cat g k).length ≤ (cat g n).length
  | 0, h => by rw [Nat.le_zero.1 h]; exact Nat.le_refl _
  | n + 1, h => by
    by_cases e : k = n + 1
    · rw [e]; exact Nat.le_refl _
    · have := cat_mono g k n (by omega)
      rw [cat, List.length_append]; omega
theorem cok5 : COk Try.prog (tab [(32, newS), (33, writeS), (34, sumS)]) := cok_cons newS_ok (cok_cons (orS_ok writeS1_ok writeS0_ok) (cok_cons sumS_ok cok_nil))
theorem beq_and (a m : Nat) : (Nat.beq a 0 && Nat.beq m 0) = Nat.beq (a + m) 0 := by
  cases a with
  | zero => simp
  | succ a => rw [Nat.succ_add]; rfl
/-- What a state holds that has taken in l. -/
def stL (l : List B8) : SB := stB (UL (absorb H256 l)) (Nat.beq l.length 0) (l.length % 64) 2 (l.length : Int)
/-- sha.Sum. -/
def sumVS : Summary := mkS false [.rr .u8] fun
  | [.rr nl g n] => some ⟨.and (.p (∀ j, j < n → R8 (g j).f (g j).n)) (.p ((cat g n).length ≤ 900000)), some (.sa (.agg [.ints .u8 (UL (sha (cat g n))) 32])), [], 0⟩
  | _ => none
theorem sumVS_ok : SumOk Try.prog 37 sumVS := by
  unfold sumVS
  apply sum_ok
  intro vs A H n o r hb h
  split at h
  rotate_left
  · cases h
  rename_i nl g n0
  injection h with h
  subst h
  cases hb
  refine fsound_of_run tt_ok cok5 mixed_ok Try.call37 Try.func37 rfl (rs := _) Try.results37 (size := 19) Try.ntmps37 (Nat.le_of_ble_eq_true rfl) rfl fun hp hfa hfh => ?_
  obtain ⟨hg, hl⟩ := hp
  have hg : ∀ j, j < n0 → R8 (g j).f (g j).n := hg
  have hl : (cat g n0).length ≤ 900000 := hl
  have hn63 : n0 ≤ 9223372036854775807 := hfa.1.2
  repeat ((conv => whnf); (with_reducible refine And.intro ?_ ?_); · omega)
  conv => whnf
  refine ⟨0, Nat, fun k => ⟨19, [(3, .sa (.sc (.ptr 1 0 0))), (2, .sa (.sc (.ptr 0 0 0))), (7, .sa (.sc (.rows nl .u8 g n0))), (8, .sa (.sc (.int .i64 n0))), (9, .sa (.sc (.int .i64 k)))],
    [(0, .own 30 [.ints .u8 (fun _ => 0) 32] false), (1, .own 82 [.ints .u32 (UL (absorb H256 (cat g k))) 8, .one (ownA (Nat.beq (cat g k).length 0) ((cat g k).length % 64) 2), .one (.int .u64 ((cat g k).length : Int))] false), (2, ownB 5 .u8 (UL (rest (cat g k))) ((cat g k).length % 64))], 3⟩,
    fun k => k ≤ n0, fun k => n0 - k, ⟨0, by omega, le_of [] ?_⟩, fun k hk => ?_⟩
  · simp only [show (cat g 0).length = 0 from rfl]
    repeat ((conv => whnf); (with_reducible refine And.intro ?_ ?_); · first | with_reducible rfl | (intro _ _; with_reducible rfl) | (intro h; exact absurd h (by decide)) | omega | (refine decide_eq_false ?_; omega) | (simp [appG]; done) | (intro j _; rw [show absorb H256 (cat g 0) = H256 from absorb_small _ _ (show 0 < 64 by omega)]; done))
    conv => whnf
    exact True.intro
  have hk : k ≤ n0 := hk
  have hkl := cat_mono g k n0 hk
  have hx1 : L32 (UL (absorb H256 (cat g k))) 8 = absorb H256 (cat g k) := L32_UL' (absorb_length _ _ H256_length).symm
  have hx2 : L8 (UL (rest (cat g k))) ((cat g k).length % 64) = rest (cat g k) := L8_UL' (rest_length _).symm
  repeat ((conv => whnf); (with_reducible refine And.intro ?_ ?_); · omega)
  conv => whnf
  refine ⟨fun h1 => ?_, fun h1 => ?_⟩
  · replace h1 := of_decide_eq_true h1
    have hgk := hg k (by omega)
    have hlen : (cat g (k + 1)).length = (cat g k).length + (g k).n := by rw [cat, List.length_append, L8_length]
    have hkl1 := cat_mono g (k + 1) n0 (by omega)
    have hgn : (g (k : Int).toNat).n ≤ 900000 := by rw [Int.toNat_natCast]; omega
    have e1 : absorb (absorb H256 (cat g k)) (rest (cat g k) ++ L8 (g k).f (g k).n) = absorb H256 (cat g (k + 1)) := (absorb_append _ _ _).symm
    have e2 : rest (rest (cat g k) ++ L8 (g k).f (g k).n) = rest (cat g (k + 1)) := (rest_append _ _).symm
    repeat ((conv => whnf); (with_reducible refine And.intro ?_ ?_); · first | assumption | omega | (intro _; refine ⟨decide_eq_true ?_, ?_⟩ <;> omega) | exact R8_UL _ _ | exact R32_UL _ _)
    conv => whnf
    refine ⟨k + 1, ⟨by show k + 1 ≤ n0; omega, by show n0 - (k + 1) < n0 - k; omega⟩, le_of [(2, 3)] ?_⟩
    simp only [Int.toNat_natCast, hx1, hx2, e1, e2, hlen]
    repeat ((conv => whnf); (with_reducible refine And.intro ?_ ?_); · first | with_reducible rfl | (intro _ _; with_reducible rfl) | omega | (intro _; refine ⟨?_, True.intro⟩; omega) | (simp only [w_i64, w_u64, w_u32, w_u8]; omega) | exact (beq_and _ _).symm | (intro h; rw [Nat.beq_eq] at h; omega) | (intro hgd; (try replace hgd := of_decide_eq_true hgd); (repeat ((conv => whnf); (with_reducible refine And.intro ?_ ?_); · first | (intro _ _; with_reducible rfl) | omega | (refine decide_eq_true ?_; omega))); (conv => whnf); exact True.intro))
    conv => whnf
    exact True.intro
  · replace h1 := of_decide_eq_false h1
    have hkn : k = n0 := by omega
    subst hkn
    have e3 : digest (absorb (absorb H256 (cat g k)) (rest (cat g k) ++ tail2 ((cat g k).length % 64) (BitVec.ofInt 64 ((cat g k).length : Int)))) = sha (cat g k) := by
      rw [BitVec.ofInt_natCast, tail2_eq, ← absorb_append]; rfl
    repeat ((conv => whnf); (with_reducible refine And.intro ?_ ?_); · first | omega | (intro _; refine ⟨decide_eq_true ?_, ?_⟩ <;> omega) | exact R8_UL _ _ | exact R32_UL _ _)
    conv => whnf
    refine ⟨[], ?_⟩
    simp only [hx1, hx2, e3]
    repeat ((conv => whnf); (with_reducible refine And.intro ?_ ?_); · first | with_reducible rfl | (intro _ _; with_reducible rfl))
    conv => whnf
    exact True.intro
end Go.Proofs.Ytogijkmflhjhkaa

/- Functions through the evaluator: mac. No condition. -/
namespace Go.Proofs.Ytogijkmflhjhkaa
open Go.Sx Go.RowKit
set_option linter.unusedSimpArgs false
set_option maxRecDepth 100000
set_option linter.unusedVariables false

/-- A key's block. -/
def kblock (k : List B8) : List B8 := (if 64 < k.length then sha k else k) ++ List.replicate (64 - (if 64 < k.length then sha k else k).length) 0
def kturn (k : List B8) (b : B8) : List B8 := (kblock k).map (· ^^^ b)
theorem kblock_length (k : List B8) : (kblock k).length = 64 := by
  unfold kblock
  rw [List.length_append, List.length_replicate]
  split
  · rw [sha_length]
  · omega
/-- i bytes have been turned. -/
def turF (B : List B8) (b : B8) (i j : Nat) : Int := if j < i then U (B.getD j 0 ^^^ b) else UL B j
theorem pad_eq {K : List B8} {g : Nat → Int} {m r : Nat} (hm : m = K.length) (hg : ∀ j, j < m → g j = UL K j) (j : Nat) : UL (K ++ List.replicate r 0) j = put_ (fun _ => 0) 0 m g j := by
  subst hm
  unfold put_
  by_cases h : j < K.length
  · rw [if_pos (by omega), Nat.sub_zero, hg j h]
    unfold UL
    rw [List.getD_eq_getElem?_getD, List.getD_eq_getElem?_getD, List.getElem?_append_left h]
  · rw [if_neg (by omega)]
    unfold UL
    rw [List.getD_eq_getElem?_getD, List.getElem?_append_right (by omega), List.getElem?_replicate]
    split <;> rfl
theorem turF_step {B : List B8} {x : Int} (hx : 0 ≤ x ∧ x < 256) (i j : Nat) : turF B (BitVec.ofInt 8 x) (i + 1) j = upd (turF B (BitVec.ofInt 8 x) i) i (bits .xor .u8 (turF B (BitVec.ofInt 8 x) i i) x) j := by
  have e : x = U (BitVec.ofInt 8 x) := (U_ofInt8 hx.1 hx.2).symm
  have e2 : turF B (BitVec.ofInt 8 x) i i = U (B.getD i 0) := by unfold turF; rw [if_neg (by omega)]; rfl
  rw [e2]
  generalize BitVec.ofInt 8 x = b at *
  rw [e, xor8]
  unfold upd turF
  by_cases h : j = i
  · subst h; rw [if_pos (by omega), if_pos rfl]
  · rw [if_neg h]
    by_cases h2 : j < i
    · rw [if_pos (by omega), if_pos h2]
    · rw [if_neg (by omega), if_neg h2]
theorem turF_end {B : List B8} {b : B8} (hB : B.length = 64) (j : Nat) (hj : j < 64) : UL (B.map (· ^^^ b)) j = turF B b 64 j := by
  unfold turF UL
  rw [if_pos hj]
  congr 1
  simp [List.getD_eq_getElem?_getD, hB, hj]
theorem cok6 : COk Try.prog (tab [(37, sumVS)]) := cok_cons sumVS_ok cok_nil
def turnS : Summary := mkS false [.r .u8, .v] fun
  | [.r nl g n, .v (.sc (.int .u8 x))] => some ⟨.and (.p (R8 g n)) (.and (.p (n ≤ 900000)) (.p (0 ≤ x ∧ x < 256))), some (.sa (.sc (.sl false true false 0 0 0 64 64))),
      [(0, .own 5 [.ints .u8 (UL (kturn (L8 g n) (BitVec.ofInt 8 x))) 64] false)], 1⟩
  | _ => none
theorem turnS_ok : SumOk Try.prog 69 turnS := by
  unfold turnS
  apply sum_ok
  intro vs A H n o r hb h
  split at h
  rotate_left
  · cases h
  rename_i nl g n0 x
  injection h with h
  subst h
  cases hb
  refine fsound_of_run tt_ok cok6 mixed_ok Try.call69 Try.func69 rfl (rs := _) Try.results69 (size := 33) Try.ntmps69 (Nat.le_of_ble_eq_true rfl) rfl fun hp hfa hfh => ?_
  obtain ⟨hg, hn, hx⟩ := hp
  have hg : R8 g n0 := hg
  have hn : n0 ≤ 900000 := hn
  have hx : 0 ≤ x ∧ x < 256 := hx
  repeat ((conv => whnf); (with_reducible refine And.intro ?_ ?_); · omega)
  conv => whnf
  refine ⟨fun h1 => ?_, fun h1 => ?_⟩
  · replace h1 := of_decide_eq_true h1
    have hkb : kblock (L8 g n0) = sha (L8 g n0) ++ List.replicate 32 0 := by
      unfold kblock; rw [if_pos (by rw [L8_length]; omega), sha_length]
    repeat ((conv => whnf); (with_reducible refine And.intro ?_ ?_); · first | omega | (intro _; refine ⟨True.intro, ?_⟩; omega) | (intro hg0; (repeat ((conv => whnf); (with_reducible refine And.intro ?_ ?_); · omega)); (conv => whnf); exact True.intro) | exact fun j _ => hg | (show (L8 g n0).length ≤ 900000; rw [L8_length]; omega))
    conv => whnf
    have hst : ∀ j, j < 64 → turF (kblock (L8 g n0)) (BitVec.ofInt 8 x) 0 j = put_ (fun _ => 0) 0 (min (32 - Int.toNat 0) (Int.toNat 64)) (fun j => UL (sha (L8 g n0)) (Int.toNat 0 + j)) j := fun j hj => by
      unfold turF
      rw [if_neg (by omega), hkb]
      exact pad_eq (by rw [sha_length]; rfl) (fun j _ => by show UL _ (0 + j) = _; rw [Nat.zero_add]) j
    refine ⟨0, Nat, fun i => ⟨33, [(6, .sa (.sc (.sl false true false 0 0 0 64 64))), (20, .sa (.sc (.int .i64 64))), (21, .sa (.sc (.int .i64 i))), (1, .sa (.sc (.int .u8 x)))],
      [(0, .own 5 [.ints .u8 (turF (kblock (L8 g n0)) (BitVec.ofInt 8 x) i) 64] false)], 1⟩, fun i => i ≤ 64, fun i => 64 - i, ⟨0, by omega, le_of [(0, 2)] ?_⟩, fun i hi => ?_⟩
    · repeat ((conv => whnf); (with_reducible refine And.intro ?_ ?_); · first | with_reducible rfl | assumption | (intro h; exact absurd h (by decide)) | omega | (intro _; refine ⟨?_, True.intro⟩; omega))
      conv => whnf
      exact True.intro
    have hi : i ≤ 64 := hi
    repeat ((conv => whnf); (with_reducible refine And.intro ?_ ?_); · omega)
    conv => whnf
    refine ⟨fun h2 => ?_, fun h2 => ?_⟩
    · replace h2 := of_decide_eq_true h2
      repeat ((conv => whnf); (with_reducible refine And.intro ?_ ?_); · omega)
      conv => whnf
      refine ⟨i + 1, ⟨by show i + 1 ≤ 64; omega, by show 64 - (i + 1) < 64 - i; omega⟩, le_of [] ?_⟩
      simp only [Int.toNat_natCast, Nat.zero_add]
      repeat ((conv => whnf); (with_reducible refine And.intro ?_ ?_); · first | with_reducible rfl | (intro h; exact absurd h (by decide)) | (intro _; refine ⟨?_, True.intro⟩; omega) | (simp only [w_i64, w_u64, w_u32, w_u8]; omega) | exact fun j _ => turF_step hx i j)
      conv => whnf
      exact True.intro
    · replace h2 := of_decide_eq_false h2
      have hi64 : i = 64 := by omega
      subst hi64
      repeat ((conv => whnf); (with_reducible refine And.intro ?_ ?_); · omega)
      conv => whnf
      refine ⟨[], ?_⟩
      repeat ((conv => whnf); (with_reducible refine And.intro ?_ ?_); · first | with_reducible rfl | (intro h; exact absurd h (by decide)) | (intro _; refine ⟨?_, True.intro⟩; omega) | exact fun j hj => turF_end (kblock_length _) j hj)
      conv => whnf
      exact True.intro
  · replace h1 := of_decide_eq_false h1
    have hkb : kblock (L8 g n0) = L8 g n0 ++ List.replicate (64 - n0) 0 := by
      unfold kblock; rw [if_neg (by rw [L8_length]; omega), L8_length]
    repeat ((conv => whnf); (with_reducible refine And.intro ?_ ?_); · omega)
    conv => whnf
    have hst : ∀ j, j < 64 → turF (kblock (L8 g n0)) (BitVec.ofInt 8 x) 0 j = put_ (fun _ => 0) 0 (min n0 (Int.toNat 64)) g j := fun j hj => by
      unfold turF
      rw [if_neg (by omega), hkb]
      exact pad_eq (by rw [L8_length]; show min n0 64 = n0; omega) (fun j hj => (UL_L8 hg j (by have : min n0 (Int.toNat 64) = min n0 64 := rfl; omega)).symm) j
    refine ⟨0, Nat, fun i => ⟨33, [(6, .sa (.sc (.sl false true false 0 0 0 64 64))), (20, .sa (.sc (.int .i64 64))), (21, .sa (.sc (.int .i64 i))), (1, .sa (.sc (.int .u8 x)))],
      [(0, .own 5 [.ints .u8 (turF (kblock (L8 g n0)) (BitVec.ofInt 8 x) i) 64] false)], 1⟩, fun i => i ≤ 64, fun i => 64 - i, ⟨0, by omega, le_of [] ?_⟩, fun i hi => ?_⟩
    · repeat ((conv => whnf); (with_reducible refine And.intro ?_ ?_); · first | with_reducible rfl | assumption | (intro h; exact absurd h (by decide)) | omega | (intro _; refine ⟨?_, True.intro⟩; omega))
      conv => whnf
      exact True.intro
    have hi : i ≤ 64 := hi
    repeat ((conv => whnf); (with_reducible refine And.intro ?_ ?_); · omega)
    conv => whnf
    refine ⟨fun h2 => ?_, fun h2 => ?_⟩
    · replace h2 := of_decide_eq_true h2
      repeat ((conv => whnf); (with_reducible refine And.intro ?_ ?_); · omega)
      conv => whnf
      refine ⟨i + 1, ⟨by show i + 1 ≤ 64; omega, by show 64 - (i + 1) < 64 - i; omega⟩, le_of [] ?_⟩
      simp only [Int.toNat_natCast, Nat.zero_add]
      repeat ((conv => whnf); (with_reducible refine And.intro ?_ ?_); · first | with_reducible rfl | (intro h; exact absurd h (by decide)) | (intro _; refine ⟨?_, True.intro⟩; omega) | (simp only [w_i64, w_u64, w_u32, w_u8]; omega) | exact fun j _ => turF_step hx i j)
      conv => whnf
      exact True.intro
    · replace h2 := of_decide_eq_false h2
      have hi64 : i = 64 := by omega
      subst hi64
      repeat ((conv => whnf); (with_reducible refine And.intro ?_ ?_); · omega)
      conv => whnf
      refine ⟨[], ?_⟩
      repeat ((conv => whnf); (with_reducible refine And.intro ?_ ?_); · first | with_reducible rfl | (intro h; exact absurd h (by decide)) | (intro _; refine ⟨?_, True.intro⟩; omega) | exact fun j hj => turF_end (kblock_length _) j hj)
      conv => whnf
      exact True.intro
end Go.Proofs.Ytogijkmflhjhkaa

/- Functions through the evaluator: HMAC. No condition. -/
namespace Go.Proofs.Ytogijkmflhjhkaa
open Go.Sx Go.RowKit
set_option linter.unusedSimpArgs false
set_option maxRecDepth 100000
set_option linter.unusedVariables false

def hmac (k d : List B8) : List B8 := sha (kturn k 0x5c ++ sha (kturn k 0x36 ++ d))
theorem kturn_length (k : List B8) (b : B8) : (kturn k b).length = 64 := by unfold kturn; rw [List.length_map, kblock_length]
theorem cat_put1 (r : Row) (h : Nat → Row) : ∀ m, cat (putR (fun _ => r) 1 h) (1 + m) = L8 r.f r.n ++ cat h m
  | 0 => by show [] ++ L8 r.f r.n = _; rw [List.nil_append]; exact (List.append_nil _).symm
  | m + 1 => by
    rw [← Nat.add_assoc, cat, cat_put1 r h m, cat, List.append_assoc]
    have : putR (fun _ => r) 1 h (1 + m) = h m := by unfold putR; rw [if_neg (by omega)]; congr 1; omega
    rw [this]
theorem L8_z {l : List B8} {n : Nat} (h : n = l.length) : L8 (fun j => UL l (0 + j)) n = l := by
  rw [show (fun j => UL l (0 + j)) = UL l from funext fun j => by rw [Nat.zero_add]]
  exact L8_UL' h
theorem put1_R8 {r : Row} {h : Nat → Row} {m : Nat} (hr : R8 r.f r.n) (hh : ∀ j, j < m → R8 (h j).f (h j).n) : ∀ j, j < 1 + m → R8 (putR (fun _ => r) 1 h j).f (putR (fun _ => r) 1 h j).n := by
  intro j hj
  unfold putR
  split
  · exact hr
  · exact hh _ (by omega)
theorem cok7 : COk Try.prog (tab [(37, sumVS), (69, turnS)]) := cok_cons sumVS_ok (cok_cons turnS_ok cok_nil)
def hmacS : Summary := mkS false [.r .u8, .rr .u8] fun
  | [.r nl g n, .rr nl2 h m] => some ⟨.and (.p (R8 g n)) (.and (.p (n ≤ 900000)) (.and (.p (∀ j, j < m → R8 (h j).f (h j).n)) (.and (.p ((cat h m).length ≤ 800000)) (.p (m ≤ 1000000))))), some (.sa (.agg [.ints .u8 (UL (hmac (L8 g n) (cat h m))) 32])), [], 0⟩
  | _ => none
theorem hmacS_ok : SumOk Try.prog 38 hmacS := by
  unfold hmacS
  apply sum_ok
  intro vs A H n o r hb h
  split at h
  rotate_left
  · cases h
  rename_i nl g n0 nl2 h m
  injection h with h
  subst h
  cases hb
  refine fsound_of_run tt_ok cok7 mixed_ok Try.call38 Try.func38 rfl (rs := _) Try.results38 (size := 17) Try.ntmps38 (Nat.le_of_ble_eq_true rfl) rfl fun hp hfa hfh => ?_
  obtain ⟨hg, hn, hh, hl, hm⟩ := hp
  have hg : R8 g n0 := hg
  have hn : n0 ≤ 900000 := hn
  have hh : ∀ j, j < m → R8 (h j).f (h j).n := hh
  have hl : (cat h m).length ≤ 800000 := hl
  have hm : m ≤ 1000000 := hm
  have hk1 : L8 (fun j => UL (kturn (L8 g n0) (BitVec.ofInt 8 54)) (0 + j)) 64 = kturn (L8 g n0) 0x36 := L8_z (kturn_length _ _).symm
  have hc1 : cat (putR (fun x => ⟨false, fun j => UL (kturn (L8 g n0) (BitVec.ofInt 8 54)) (0 + j), 64⟩) 1 h) (1 + m) = kturn (L8 g n0) 0x36 ++ cat h m := by
    rw [cat_put1]; exact congrArg (· ++ cat h m) hk1
  have hcl : (cat (putR (fun x => ⟨false, fun j => UL (kturn (L8 g n0) (BitVec.ofInt 8 54)) (0 + j), 64⟩) 1 h) (1 + m)).length ≤ 900000 := by
    rw [hc1, List.length_append, kturn_length]; omega
  repeat ((conv => whnf); (with_reducible refine And.intro ?_ ?_); · first | with_reducible assumption | omega | (intro _; refine ⟨True.intro, ?_⟩; omega) | exact Eq.refl 1 | (intro _; simp [appG, Cd.holds]; done) | exact put1_R8 (R8_z _ _) hh)
  conv => whnf
  simp only [hc1]
  have hk2 : L8 (fun j => UL (kturn (L8 g n0) (BitVec.ofInt 8 92)) (0 + j)) 64 = kturn (L8 g n0) 0x5c := L8_z (kturn_length _ _).symm
  have hk3 : L8 (fun j => UL (sha (kturn (L8 g n0) 54 ++ cat h m)) (Int.toNat 0 + j)) (32 - Int.toNat 0) = sha (kturn (L8 g n0) 54 ++ cat h m) := L8_z (n := 32) (sha_length _).symm
  have hc2 : cat (putR (fun x => ⟨false, fun j => UL (kturn (L8 g n0) (BitVec.ofInt 8 92)) (0 + j), 64⟩) 1 (fun x => ⟨false, fun j => UL (sha (kturn (L8 g n0) 54 ++ cat h m)) (Int.toNat 0 + j), 32 - Int.toNat 0⟩)) 2 =
      kturn (L8 g n0) 0x5c ++ sha (kturn (L8 g n0) 54 ++ cat h m) := by
    rw [show (2 : Nat) = 1 + 1 from rfl, cat_put1]
    exact congr (congrArg (· ++ ·) hk2) ((List.nil_append _).trans hk3)
  have hcl2 : (cat (putR (fun x => ⟨false, fun j => UL (kturn (L8 g n0) (BitVec.ofInt 8 92)) (0 + j), 64⟩) 1 (fun x => ⟨false, fun j => UL (sha (kturn (L8 g n0) 54 ++ cat h m)) (Int.toNat 0 + j), 32 - Int.toNat 0⟩)) 2).length ≤ 900000 := by
    rw [hc2, List.length_append, kturn_length, sha_length]; omega
  refine ⟨[(0, ⟨0, some 12, []⟩), (1, ⟨1, some 13, [21]⟩), (2, ⟨0, some 14, []⟩), (3, ⟨7, some 15, [53]⟩), (4, ⟨15, some 16, []⟩), (5, ⟨31, none, [0]⟩)], 101, ?_⟩
  repeat ((conv => whnf); (with_reducible refine And.intro ?_ ?_); · first | with_reducible assumption | omega | (intro _; refine ⟨True.intro, ?_⟩; omega) | (intro hg0; (repeat ((conv => whnf); (with_reducible refine And.intro ?_ ?_); · omega)); (conv => whnf); exact True.intro) | exact put1_R8 (m := 1) (R8_z _ _) (fun j _ => R8_z _ _))
  conv => whnf
  refine ⟨[], ?_⟩
  simp only [hc2]
  repeat ((conv => whnf); (with_reducible refine And.intro ?_ ?_); · first | with_reducible rfl | exact fun j _ => rfl)
  conv => whnf
  exact True.intro
end Go.Proofs.Ytogijkmflhjhkaa

/- Functions through the evaluator: mac's others. No condition. -/
namespace Go.Proofs.Ytogijkmflhjhkaa
open Go.Sx Go.RowKit
set_option linter.unusedSimpArgs false
set_option maxRecDepth 100000
set_option linter.unusedVariables false

theorem cok8 : COk Try.prog (tab [(38, hmacS)]) := cok_cons hmacS_ok cok_nil
def extractS : Summary := mkS false [.r .u8, .r .u8] fun
  | [.r nl g n, .r nl2 h m] => some ⟨.and (.p (R8 g n)) (.and (.p (n ≤ 900000)) (.and (.p (R8 h m)) (.p (m ≤ 800000)))), some (.sa (.agg [.ints .u8 (UL (hmac (L8 g n) (L8 h m))) 32])), [], 0⟩
  | _ => none
theorem extractS_ok : SumOk Try.prog 42 extractS := by
  unfold extractS
  apply sum_ok
  intro vs A H n o r hb h
  split at h
  rotate_left
  · cases h
  rename_i nl g n0 nl2 h m
  injection h with h
  subst h
  cases hb
  refine fsound_of_run tt_ok cok8 mixed_ok Try.call42 Try.func42 rfl (rs := _) Try.results42 (size := 9) Try.ntmps42 (Nat.le_of_ble_eq_true rfl) rfl fun hp hfa hfh => ?_
  obtain ⟨hg, hn, hh, hm⟩ := hp
  have hg : R8 g n0 := hg
  have hn : n0 ≤ 900000 := hn
  have hh : R8 h m := hh
  have hm : m ≤ 800000 := hm
  have hcl : (cat (fun x => ⟨nl2, h, m⟩) 1).length ≤ 800000 := by show (L8 h m).length ≤ 800000; rw [L8_length]; exact hm
  repeat ((conv => whnf); (with_reducible refine And.intro ?_ ?_); · first | with_reducible assumption | omega | (intro hg0; (repeat ((conv => whnf); (with_reducible refine And.intro ?_ ?_); · omega)); (conv => whnf); exact True.intro) | exact fun j _ => hh)
  conv => whnf
  refine ⟨[], ?_⟩
  repeat ((conv => whnf); (with_reducible refine And.intro ?_ ?_); · first | with_reducible rfl | exact fun j _ => rfl)
  conv => whnf
  exact True.intro

/-- The first i bytes are the same just if u is 0. -/
def SameTo (a b : List B8) (i : Nat) (u : B8) : Prop := i ≤ a.length ∧ i ≤ b.length ∧ (u = 0 ↔ a.take i = b.take i)
theorem same_step {a b : List B8} {i : Nat} {u : B8} (h : SameTo a b i u) (ha : i < a.length) (hb : i < b.length) : SameTo a b (i + 1) (u ||| (a.getD i 0 ^^^ b.getD i 0)) := by
  obtain ⟨h1, h2, h3⟩ := h
  have h3 : u = 0#8 ↔ a.take i = b.take i := h3
  refine ⟨by omega, by omega, ?_⟩
  show u ||| (a.getD i 0 ^^^ b.getD i 0) = 0#8 ↔ _
  rw [List.take_succ_eq_append_getElem ha, List.take_succ_eq_append_getElem hb, BitVec.or_eq_zero_iff, h3]
  have e1 : a.getD i 0 = a[i] := by simp [List.getD_eq_getElem?_getD, ha]
  have e2 : b.getD i 0 = b[i] := by simp [List.getD_eq_getElem?_getD, hb]
  rw [e1, e2]
  constructor
  · rintro ⟨q1, q2⟩
    rw [q1, BitVec.xor_eq_zero_iff.1 q2]
  · intro q
    obtain ⟨q1, q2⟩ := List.append_inj q (by rw [List.length_take, List.length_take]; omega)
    exact ⟨q1, by rw [BitVec.xor_eq_zero_iff]; simpa using q2⟩
/-- mac.Same. -/
def sameS : Summary := mkS false [.r .u8, .r .u8] fun
  | [.r nl g n, .r nl2 h m] => some ⟨.and (.p (R8 g n)) (.p (R8 h m)), some (.sa (.sc (.bool (decide (L8 g n = L8 h m))))), [], 0⟩
  | _ => none
theorem sameS_ok : SumOk Try.prog 41 sameS := by
  unfold sameS
  apply sum_ok
  intro vs A H n o r hb h
  split at h
  rotate_left
  · cases h
  rename_i nl g n0 nl2 h m
  injection h with h
  subst h
  cases hb
  refine fsound_of_run tt_ok cok_nil mixed_ok Try.call41 Try.func41 rfl (rs := _) Try.results41 (size := 31) Try.ntmps41 (Nat.le_of_ble_eq_true rfl) rfl fun hp hfa hfh => ?_
  obtain ⟨hg, hh⟩ := hp
  have hg : R8 g n0 := hg
  have hh : R8 h m := hh
  have hn63 : n0 ≤ 9223372036854775807 := hfa.1.2
  have hl1 := L8_length g n0
  have hl2 := L8_length h m
  repeat ((conv => whnf); (with_reducible refine And.intro ?_ ?_); · omega)
  conv => whnf
  refine ⟨fun h1 => ?_, fun h1 => ?_⟩
  · rw [bne_iff_ne] at h1
    have hne : ¬ L8 g n0 = L8 h m := fun q => by rw [q] at hl1; omega
    repeat ((conv => whnf); (with_reducible refine And.intro ?_ ?_); · omega)
    conv => whnf
    refine ⟨[], ?_⟩
    repeat ((conv => whnf); (with_reducible refine And.intro ?_ ?_); · (refine decide_eq_false ?_; omega))
    conv => whnf
    exact True.intro
  · rw [bne_eq_false_iff_eq] at h1
    have hnm : n0 = m := by omega
    subst hnm
    repeat ((conv => whnf); (with_reducible refine And.intro ?_ ?_); · omega)
    conv => whnf
    refine ⟨0, Nat × B8, fun e => ⟨31, [(0, .sa (.sc (.im nl .u8 g n0))), (1, .sa (.sc (.im nl2 .u8 h n0))), (5, .sa (.sc (.int .u8 (U e.2)))), (13, .sa (.sc (.int .i64 n0))), (14, .sa (.sc (.int .i64 e.1)))],
      [], 0⟩, fun e => SameTo (L8 g n0) (L8 h n0) e.1 e.2, fun e => n0 - e.1, ⟨(0, 0), ⟨by show 0 ≤ _; omega, by show 0 ≤ _; omega, by simp⟩, le_of [] ?_⟩, fun e he => ?_⟩
    · repeat ((conv => whnf); (with_reducible refine And.intro ?_ ?_); · first | with_reducible rfl | (intro _ _; with_reducible rfl) | omega | rfl)
      conv => whnf
      exact True.intro
    have hi : e.1 ≤ n0 := by have := he.1; omega
    repeat ((conv => whnf); (with_reducible refine And.intro ?_ ?_); · omega)
    conv => whnf
    refine ⟨fun h2 => ?_, fun h2 => ?_⟩
    · replace h2 := of_decide_eq_true h2
      have hs := same_step he (by omega) (by omega)
      have ga : g (e.1 : Int).toNat = U ((L8 g n0).getD e.1 0) := (UL_L8 hg e.1 (by omega)).symm
      have ha : h (e.1 : Int).toNat = U ((L8 h n0).getD e.1 0) := (UL_L8 hh e.1 (by omega)).symm
      repeat ((conv => whnf); (with_reducible refine And.intro ?_ ?_); · omega)
      conv => whnf
      refine ⟨[(0, ⟨0, some 17, []⟩), (1, ⟨0, some 18, []⟩), (2, ⟨0, some 19, []⟩), (3, ⟨6, some 20, []⟩), (4, ⟨14, some 21, []⟩), (5, ⟨0, some 22, []⟩), (6, ⟨0, some 23, []⟩), (7, ⟨96, some 24, []⟩), (8, ⟨224, some 25, []⟩), (9, ⟨510, some 26, []⟩), (10, ⟨1023, some 27, []⟩), (11, ⟨2047, some 5, []⟩)], 192, ?_⟩
      repeat ((conv => whnf); (with_reducible refine And.intro ?_ ?_); · omega)
      conv => whnf
      refine ⟨(e.1 + 1, e.2 ||| ((L8 g n0).getD e.1 0 ^^^ (L8 h n0).getD e.1 0)), ⟨hs, by show n0 - (e.1 + 1) < n0 - e.1; omega⟩, le_of [] ?_⟩
      simp only [ga, ha, xor8, or8]
      repeat ((conv => whnf); (with_reducible refine And.intro ?_ ?_); · first | with_reducible rfl | (intro _ _; with_reducible rfl) | (simp only [w_i64, w_u64, w_u32, w_u8]; omega))
      conv => whnf
      exact True.intro
    · replace h2 := of_decide_eq_false h2
      have hin : e.1 = n0 := by omega
      repeat ((conv => whnf); (with_reducible refine And.intro ?_ ?_); · omega)
      conv => whnf
      refine ⟨[], ?_⟩
      have hq : decide (L8 g n0 = L8 h n0) = (U e.2 == 0) := by
        have h3 := he.2.2
        rw [hin, List.take_of_length_le (by omega), List.take_of_length_le (by omega)] at h3
        by_cases hz : e.2 = 0
        · rw [decide_eq_true (h3.1 hz), hz]; rfl
        · rw [decide_eq_false (fun q => hz (h3.2 q))]
          symm
          rw [beq_eq_false_iff_ne]
          exact fun q => hz (U_inj q)
      repeat ((conv => whnf); (with_reducible refine And.intro ?_ ?_); · assumption)
      conv => whnf
      exact True.intro
end Go.Proofs.Ytogijkmflhjhkaa
