/- Functions through the evaluator: the tape. No condition. -/
import Derived.Test.YtogijkmflhjhkaaSxT
import Derived.Test.YtogijkmflhjhkaaSxU
import Derived.Test.YtogijkmflhjhkaaF5
import Derived.Test.YtogijkmflhjhkaaF13
import Derived.Test.YtogijkmflhjhkaaLH
namespace Go.Proofs.Ytogijkmflhjhkaa
open Go.Sx Go.RowKit
set_option linter.unusedSimpArgs false
set_option maxRecDepth 100000
set_option maxHeartbeats 1000000
set_option linter.unusedVariables false

/-- Block i of a tape; blocks i, i + 1, ..: k of them. -/
def tapB (seed i : Int) : List B8 := sha (putL seed ++ putL i)
theorem tapB_length (seed i : Int) : (tapB seed i).length = 32 := sha_length _
def tapF (seed : Int) (i : Nat) : Nat → List B8
  | 0 => []
  | k + 1 => tapF seed i k ++ tapB seed ((i + k : Nat) : Int)
theorem tapF_length (seed : Int) (i k : Nat) : (tapF seed i k).length = 32 * k := by
  induction k with
  | zero => rfl
  | succ k ih => rw [tapF, List.length_append, ih, tapB_length]; omega

theorem catPut (a b : List B8) : cat (fun _ => ⟨false, fun j => UL (L8 (UL (L8 (fun _ => 0) 0 ++ a)) (0 + a.length) ++ b) (0 + j), 0 + a.length + b.length⟩) 1 = a ++ b := by
  show L8 (fun j => UL (L8 (UL ([] ++ a)) (0 + a.length) ++ b) (0 + j)) (0 + a.length + b.length) = a ++ b
  simp only [Nat.zero_add, List.nil_append]
  rw [L8_UL]
  exact L8_UL' (by rw [List.length_append])
theorem rgrow {f : Nat → Int} {m b : Nat} {B : List B8} (hf : R8 f m) (hb : b = B.length) (j : Nat) (hj : j < m + b) : UL (L8 f m ++ B) j = put_ f m b (fun j => UL B (0 + j)) j := by
  rw [out_app (L8_length f m).symm hb j hj]
  unfold put_
  split
  · rfl
  · exact UL_L8 hf j (by omega)
/-- tape.New. -/
def tnewS : Summary := mkS false [.v] fun
  | [.v (.sc (.int .i64 seed))] => some ⟨.tt, some (.sa (.sc (.ptr 0 0 0))), [(0, .own 88 [.one (.int .i64 seed), .one (.int .i64 0), .one (.sl true false true 999999 0 0 0 0)] false)], 1⟩
  | _ => none
theorem tnewS_ok : SumOk Try.prog 46 tnewS := by
  unfold tnewS
  apply sum_ok
  intro vs A H n o r hb h
  split at h
  rotate_left
  · cases h
  rename_i seed
  injection h with h
  subst h
  cases hb
  refine fsound_of_run tt_ok cok_nil mixed_ok Try.call46 Try.func46 rfl (rs := _) Try.results46 (size := 6) Try.ntmps46 (Nat.le_of_ble_eq_true rfl) rfl fun hp hfa hfh => ?_
  repeat ((conv => whnf); (with_reducible refine And.intro ?_ ?_); · first | exact True.intro | (intro hg0; simp only [hg0, Bool.not_false, Bool.not_true]; done) | assumption | omega | (intro _; refine ⟨True.intro, ?_⟩; omega) | (intro _; refine ⟨?_, True.intro⟩; omega) | (intro _; refine ⟨decide_eq_true ?_, ?_⟩ <;> omega) | (intro _; refine ⟨?_, ?_⟩ <;> first | omega | (simp [appG, Cd.holds]; done) | (simp [appG, Cd.holds]; omega)) | (refine decide_eq_true ?_; omega) | (intro _; omega) | (simp only [w_i64, w_u64, w_u32, w_u8]; omega) | exact ⟨U_nonneg _, U_lt32 _⟩ | exact R8_UL _ _ | exact R32_UL _ _ | (intro hg0; (repeat ((conv => whnf); (with_reducible refine And.intro ?_ ?_); · first | assumption | omega | (intro _; refine ⟨?_, ?_⟩ <;> first | assumption | omega | exact True.intro | (refine decide_eq_true ?_; omega) | (simp [appG, Cd.holds]; omega)) | (intro _; refine ⟨And.intro ?_ ?_, ?_⟩ <;> first | assumption | omega | (refine decide_eq_true ?_; omega)) | (simp only [hg0, Bool.and_self, Bool.true_and]; done) | (intro hg1; simp only [hg0, hg1, Bool.and_self, Bool.true_and]; done) | (simp [hg0]; done))); (conv => whnf); exact True.intro))
  conv => whnf
  refine ⟨[], ?_⟩
  repeat ((conv => whnf); (with_reducible refine And.intro ?_ ?_); · first | with_reducible rfl | exact (Bool.and_false _).symm | (intro _ _; with_reducible rfl) | exact True.intro | assumption | (intro h; exact absurd h (by decide)) | omega | (intro _; omega) | (intro _; refine ⟨?_, True.intro⟩; omega) | (intro _; refine ⟨?_, True.intro⟩; intro _; omega) | (refine decide_eq_false ?_; omega) | (refine decide_eq_true ?_; omega) | (simp only [w_i64, w_u64, w_u32, w_u8]; omega) | exact fun j hj => (put_0 hj).symm | (intro j _; simp only [Nat.zero_add]; done) | (simp [appG]; done) | (simp [appG]; omega) | (intro hgd; (try replace hgd := of_decide_eq_true hgd); (repeat ((conv => whnf); (with_reducible refine And.intro ?_ ?_); · first | with_reducible rfl | exact (Bool.and_false _).symm | (intro _ _; with_reducible rfl) | exact True.intro | assumption | (intro h; exact absurd h (by decide)) | omega | (intro _; omega) | (intro _; refine ⟨?_, True.intro⟩; omega) | (intro _; refine ⟨?_, True.intro⟩; intro _; omega) | (refine decide_eq_false ?_; omega) | (refine decide_eq_true ?_; omega) | (simp only [w_i64, w_u64, w_u32, w_u8]; omega) | exact fun j hj => (put_0 hj).symm | (intro j _; simp only [Nat.zero_add]; done) | (simp [appG]; done) | (simp [appG]; omega))); (conv => whnf); exact True.intro))
  conv => whnf
  exact True.intro

theorem cokT : COk Try.prog (tab [(37, sumVS), (67, cloneS), (71, putS)]) := cok_cons sumVS_ok (cok_cons cloneS_ok (cok_cons putS_ok cok_nil))
def tpM : Md := .p 88 [.s, .s, .a 5 .u8]
/-- Is it more than a tape gives at once, or less than none? -/
@[irreducible] def tNil (n : Int) : Bool := decide (n < 0 ∨ 4000 < n)
theorem tNil_eq (n : Int) : tNil n = decide (n < 0 ∨ 4000 < n) := by unfold tNil; rfl
/-- How many blocks are made. -/
def tQ (m : Nat) (n : Int) : Nat := (n.toNat - m + 31) / 32
def tpB (seed i : Int) (nl : Bool) (m τ : Nat) : SB := .own 88 [.one (.int .i64 seed), .one (.int .i64 i), .one (ownA nl m τ)] false
/-- (*tape.Tape).Next. -/
def tnextS1 : Summary := mkS false [tpM, .v] fun
  | [.p [.s (.int .i64 seed), .s (.int .i64 i), .a nl f m], .v (.sc (.int .i64 n))] =>
    match tNil n with
    | true => some ⟨.tt, some (.sa (.sc (.sl true false true 999999 0 0 0 0))), [(0, tpB seed i nl m 1), (1, ownB 5 .u8 f m)], 2⟩
    | false => some ⟨.and (.p (R8 f m)) (.and (.p (m ≤ 100000)) (.and (.p (0 ≤ i ∧ i ≤ 1000000000)) (.p (-9223372036854775808 ≤ seed ∧ seed ≤ 9223372036854775807)))),
      some (.sa (.sc (ownA (nl && Nat.beq (tQ m n) 0) n.toNat 2))), [(0, tpB seed (i + tQ m n) (nl && Nat.beq (tQ m n) 0) (m + 32 * tQ m n - n.toNat) 3), (1, .dead),
        (2, ownB 5 .u8 (UL ((L8 f m ++ tapF seed i.toNat (tQ m n)).take n.toNat)) n.toNat), (3, ownB 5 .u8 (UL ((L8 f m ++ tapF seed i.toNat (tQ m n)).drop n.toNat)) (m + 32 * tQ m n - n.toNat))], 4⟩
  | _ => none
theorem tnextS1_ok : SumOk Try.prog 47 tnextS1 := by
  unfold tnextS1
  apply sum_ok
  intro vs A H n o r hb h
  split at h
  rotate_left
  · cases h
  rename_i seed i nl f m N
  split at h
  · rename_i hN
    injection h with h
    subst h
    cases hb
    rw [tNil_eq] at hN
    replace hN := of_decide_eq_true hN
    refine fsound_of_run tt_ok cokT mixed_ok Try.call47 Try.func47 rfl (rs := _) Try.results47 (size := 70) Try.ntmps47 (Nat.le_of_ble_eq_true rfl) rfl fun hp hfa hfh => ?_
    have hnl : nl = true → m = 0 := hfh.1.2.2.1.1
    repeat ((conv => whnf); (with_reducible refine And.intro ?_ ?_); · first | exact True.intro | (intro hg0; simp only [hg0, Bool.not_false, Bool.not_true]; done) | assumption | omega | (intro _; refine ⟨True.intro, ?_⟩; omega) | (intro _; refine ⟨?_, True.intro⟩; omega) | (intro _; refine ⟨decide_eq_true ?_, ?_⟩ <;> omega) | (intro _; refine ⟨?_, ?_⟩ <;> first | omega | (simp [appG, Cd.holds]; done) | (simp [appG, Cd.holds]; omega)) | (refine decide_eq_true ?_; omega) | (intro _; omega) | (simp only [w_i64, w_u64, w_u32, w_u8]; omega) | exact ⟨U_nonneg _, U_lt32 _⟩ | exact R8_UL _ _ | exact R32_UL _ _ | (intro hg0; (repeat ((conv => whnf); (with_reducible refine And.intro ?_ ?_); · first | assumption | omega | (intro _; refine ⟨?_, ?_⟩ <;> first | assumption | omega | exact True.intro | (refine decide_eq_true ?_; omega) | (simp [appG, Cd.holds]; omega)) | (intro _; refine ⟨And.intro ?_ ?_, ?_⟩ <;> first | assumption | omega | (refine decide_eq_true ?_; omega)) | (simp only [hg0, Bool.and_self, Bool.true_and]; done) | (intro hg1; simp only [hg0, hg1, Bool.and_self, Bool.true_and]; done) | (simp [hg0]; done))); (conv => whnf); exact True.intro))
    conv => whnf
    refine ⟨fun h1 => ?_, fun h1 => ?_⟩
    · repeat ((conv => whnf); (with_reducible refine And.intro ?_ ?_); · first | exact True.intro | (intro hg0; simp only [hg0, Bool.not_false, Bool.not_true]; done) | assumption | omega | (intro _; refine ⟨True.intro, ?_⟩; omega) | (intro _; refine ⟨?_, True.intro⟩; omega) | (intro _; refine ⟨decide_eq_true ?_, ?_⟩ <;> omega) | (intro _; refine ⟨?_, ?_⟩ <;> first | omega | (simp [appG, Cd.holds]; done) | (simp [appG, Cd.holds]; omega)) | (refine decide_eq_true ?_; omega) | (intro _; omega) | (simp only [w_i64, w_u64, w_u32, w_u8]; omega) | exact ⟨U_nonneg _, U_lt32 _⟩ | exact R8_UL _ _ | exact R32_UL _ _ | (intro hg0; (repeat ((conv => whnf); (with_reducible refine And.intro ?_ ?_); · first | assumption | omega | (intro _; refine ⟨?_, ?_⟩ <;> first | assumption | omega | exact True.intro | (refine decide_eq_true ?_; omega) | (simp [appG, Cd.holds]; omega)) | (intro _; refine ⟨And.intro ?_ ?_, ?_⟩ <;> first | assumption | omega | (refine decide_eq_true ?_; omega)) | (simp only [hg0, Bool.and_self, Bool.true_and]; done) | (intro hg1; simp only [hg0, hg1, Bool.and_self, Bool.true_and]; done) | (simp [hg0]; done))); (conv => whnf); exact True.intro))
      conv => whnf
      refine ⟨[], ?_⟩
      repeat ((conv => whnf); (with_reducible refine And.intro ?_ ?_); · first | with_reducible rfl | exact (Bool.and_false _).symm | (intro _ _; with_reducible rfl) | exact True.intro | assumption | (intro h; exact absurd h (by decide)) | omega | (intro _; omega) | (intro _; refine ⟨?_, True.intro⟩; omega) | (intro _; refine ⟨?_, True.intro⟩; intro _; omega) | (refine decide_eq_false ?_; omega) | (refine decide_eq_true ?_; omega) | (simp only [w_i64, w_u64, w_u32, w_u8]; omega) | exact fun j hj => (put_0 hj).symm | (intro j _; simp only [Nat.zero_add]; done) | (simp [appG]; done) | (simp [appG]; omega) | (intro hgd; (try replace hgd := of_decide_eq_true hgd); (repeat ((conv => whnf); (with_reducible refine And.intro ?_ ?_); · first | with_reducible rfl | exact (Bool.and_false _).symm | (intro _ _; with_reducible rfl) | exact True.intro | assumption | (intro h; exact absurd h (by decide)) | omega | (intro _; omega) | (intro _; refine ⟨?_, True.intro⟩; omega) | (intro _; refine ⟨?_, True.intro⟩; intro _; omega) | (refine decide_eq_false ?_; omega) | (refine decide_eq_true ?_; omega) | (simp only [w_i64, w_u64, w_u32, w_u8]; omega) | exact fun j hj => (put_0 hj).symm | (intro j _; simp only [Nat.zero_add]; done) | (simp [appG]; done) | (simp [appG]; omega))); (conv => whnf); exact True.intro))
      conv => whnf
      exact True.intro
    · exfalso
      obtain ⟨q1, q2⟩ := orF h1
      obtain ⟨_, q1⟩ := orF q1
      replace q1 := of_decide_eq_false q1
      replace q2 := of_decide_eq_false q2
      omega
  · rename_i hN
    injection h with h
    subst h
    cases hb
    rw [tNil_eq] at hN
    replace hN := of_decide_eq_false hN
    refine fsound_of_run tt_ok cokT mixed_ok Try.call47 Try.func47 rfl (rs := _) Try.results47 (size := 70) Try.ntmps47 (Nat.le_of_ble_eq_true rfl) rfl fun hp hfa hfh => ?_
    obtain ⟨hf, hm, hi, hs⟩ := hp
    have hf : R8 f m := hf
    have hm : m ≤ 100000 := hm
    have hi : 0 ≤ i ∧ i ≤ 1000000000 := hi
    have hs : -9223372036854775808 ≤ seed ∧ seed ≤ 9223372036854775807 := hs
    obtain ⟨n, hn⟩ : ∃ n : Nat, N = (n : Int) := ⟨N.toNat, by omega⟩
    subst hn
    obtain ⟨i0, hi0⟩ : ∃ i0 : Nat, i = (i0 : Int) := ⟨i.toNat, by omega⟩
    subst hi0
    have hnl : nl = true → m = 0 := hfh.1.2.2.1.1
    repeat ((conv => whnf); (with_reducible refine And.intro ?_ ?_); · first | exact True.intro | (intro hg0; simp only [hg0, Bool.not_false, Bool.not_true]; done) | assumption | omega | (intro _; refine ⟨True.intro, ?_⟩; omega) | (intro _; refine ⟨?_, True.intro⟩; omega) | (intro _; refine ⟨decide_eq_true ?_, ?_⟩ <;> omega) | (intro _; refine ⟨?_, ?_⟩ <;> first | omega | (simp [appG, Cd.holds]; done) | (simp [appG, Cd.holds]; omega)) | (refine decide_eq_true ?_; omega) | (intro _; omega) | (simp only [w_i64, w_u64, w_u32, w_u8]; omega) | exact ⟨U_nonneg _, U_lt32 _⟩ | exact R8_UL _ _ | exact R32_UL _ _ | (intro hg0; (repeat ((conv => whnf); (with_reducible refine And.intro ?_ ?_); · first | assumption | omega | (intro _; refine ⟨?_, ?_⟩ <;> first | assumption | omega | exact True.intro | (refine decide_eq_true ?_; omega) | (simp [appG, Cd.holds]; omega)) | (intro _; refine ⟨And.intro ?_ ?_, ?_⟩ <;> first | assumption | omega | (refine decide_eq_true ?_; omega)) | (simp only [hg0, Bool.and_self, Bool.true_and]; done) | (intro hg1; simp only [hg0, hg1, Bool.and_self, Bool.true_and]; done) | (simp [hg0]; done))); (conv => whnf); exact True.intro))
    conv => whnf
    refine ⟨fun h1 => ?_, fun h1 => ?_⟩
    · exfalso
      rcases orT h1 with q | q
      · rcases orT q with q | q
        · cases q
        · replace q := of_decide_eq_true q; omega
      · replace q := of_decide_eq_true q; omega
    clear h1
    repeat ((conv => whnf); (with_reducible refine And.intro ?_ ?_); · first | exact True.intro | (intro hg0; simp only [hg0, Bool.not_false, Bool.not_true]; done) | assumption | omega | (intro _; refine ⟨True.intro, ?_⟩; omega) | (intro _; refine ⟨?_, True.intro⟩; omega) | (intro _; refine ⟨decide_eq_true ?_, ?_⟩ <;> omega) | (intro _; refine ⟨?_, ?_⟩ <;> first | omega | (simp [appG, Cd.holds]; done) | (simp [appG, Cd.holds]; omega)) | (refine decide_eq_true ?_; omega) | (intro _; omega) | (simp only [w_i64, w_u64, w_u32, w_u8]; omega) | exact ⟨U_nonneg _, U_lt32 _⟩ | exact R8_UL _ _ | exact R32_UL _ _ | (intro hg0; (repeat ((conv => whnf); (with_reducible refine And.intro ?_ ?_); · first | assumption | omega | (intro _; refine ⟨?_, ?_⟩ <;> first | assumption | omega | exact True.intro | (refine decide_eq_true ?_; omega) | (simp [appG, Cd.holds]; omega)) | (intro _; refine ⟨And.intro ?_ ?_, ?_⟩ <;> first | assumption | omega | (refine decide_eq_true ?_; omega)) | (simp only [hg0, Bool.and_self, Bool.true_and]; done) | (intro hg1; simp only [hg0, hg1, Bool.and_self, Bool.true_and]; done) | (simp [hg0]; done))); (conv => whnf); exact True.intro))
    conv => whnf
    refine ⟨1, ?_⟩
    repeat ((conv => whnf); (with_reducible refine And.intro ?_ ?_); · first | exact True.intro | (intro hg0; simp only [hg0, Bool.not_false, Bool.not_true]; done) | assumption | omega | (intro _; refine ⟨True.intro, ?_⟩; omega) | (intro _; refine ⟨?_, True.intro⟩; omega) | (intro _; refine ⟨decide_eq_true ?_, ?_⟩ <;> omega) | (intro _; refine ⟨?_, ?_⟩ <;> first | omega | (simp [appG, Cd.holds]; done) | (simp [appG, Cd.holds]; omega)) | (refine decide_eq_true ?_; omega) | (intro _; omega) | (simp only [w_i64, w_u64, w_u32, w_u8]; omega) | exact ⟨U_nonneg _, U_lt32 _⟩ | exact R8_UL _ _ | exact R32_UL _ _ | (intro hg0; (repeat ((conv => whnf); (with_reducible refine And.intro ?_ ?_); · first | assumption | omega | (intro _; refine ⟨?_, ?_⟩ <;> first | assumption | omega | exact True.intro | (refine decide_eq_true ?_; omega) | (simp [appG, Cd.holds]; omega)) | (intro _; refine ⟨And.intro ?_ ?_, ?_⟩ <;> first | assumption | omega | (refine decide_eq_true ?_; omega)) | (simp only [hg0, Bool.and_self, Bool.true_and]; done) | (intro hg1; simp only [hg0, hg1, Bool.and_self, Bool.true_and]; done) | (simp [hg0]; done))); (conv => whnf); exact True.intro))
    conv => whnf
    refine ⟨fun h1 => ?_, fun h1 => ?_⟩
    · replace h1 := of_decide_eq_true h1
      have hmn : m < n := by omega
      have hp1 := putL_le hs.1 hs.2
      have hp2 := putL_le (x := (i0 : Int)) (by omega) (by omega)
      have hp3 := putL_pos seed
      have hp4 := putL_pos (i0 : Int)
      have hcp := catPut (putL seed) (putL (i0 : Int))
      have hcl : (cat (fun _ => ⟨false, fun j => UL (L8 (UL (L8 (fun _ => 0) 0 ++ putL seed)) (0 + (putL seed).length) ++ putL (i0 : Int)) (0 + j), 0 + (putL seed).length + (putL (i0 : Int)).length⟩) 1).length ≤ 900000 := by
        rw [hcp, List.length_append]; omega
      repeat ((conv => whnf); (with_reducible refine And.intro ?_ ?_); · first | exact True.intro | (intro hg0; simp only [hg0, Bool.not_false, Bool.not_true]; done) | assumption | omega | (intro _; refine ⟨True.intro, ?_⟩; omega) | (intro _; refine ⟨?_, True.intro⟩; omega) | (intro _; refine ⟨decide_eq_true ?_, ?_⟩ <;> omega) | (intro _; refine ⟨?_, ?_⟩ <;> first | omega | (simp [appG, Cd.holds]; done) | (simp [appG, Cd.holds]; omega)) | (refine decide_eq_true ?_; omega) | (intro _; omega) | (simp only [w_i64, w_u64, w_u32, w_u8]; omega) | exact ⟨U_nonneg _, U_lt32 _⟩ | exact R8_UL _ _ | exact R32_UL _ _ | (intro hg0; (repeat ((conv => whnf); (with_reducible refine And.intro ?_ ?_); · first | assumption | omega | (intro _; refine ⟨?_, ?_⟩ <;> first | assumption | omega | exact True.intro | (refine decide_eq_true ?_; omega) | (simp [appG, Cd.holds]; omega)) | (intro _; refine ⟨And.intro ?_ ?_, ?_⟩ <;> first | assumption | omega | (refine decide_eq_true ?_; omega)) | (simp only [hg0, Bool.and_self, Bool.true_and]; done) | (intro hg1; simp only [hg0, hg1, Bool.and_self, Bool.true_and]; done) | (simp [hg0]; done))); (conv => whnf); exact True.intro))
      conv => whnf
      refine ⟨[(0, ⟨0, some 24, []⟩), (1, ⟨1, some 25, []⟩), (2, ⟨3, some 26, []⟩), (3, ⟨7, some 27, []⟩), (4, ⟨15, some 28, [66]⟩), (5, ⟨0, some 29, []⟩), (6, ⟨32, some 30, []⟩), (7, ⟨96, some 31, []⟩), (8, ⟨224, some 32, []⟩), (9, ⟨511, some 33, [66, 146]⟩), (10, ⟨1023, some 34, [162]⟩), (11, ⟨2047, some 35, []⟩), (12, ⟨0, some 5, [194]⟩), (13, ⟨8191, none, [194]⟩)], 226, ?_⟩
      repeat ((conv => whnf); (with_reducible refine And.intro ?_ ?_); · first | exact True.intro | (intro hg0; simp only [hg0, Bool.not_false, Bool.not_true]; done) | assumption | omega | (intro _; refine ⟨True.intro, ?_⟩; omega) | (intro _; refine ⟨?_, True.intro⟩; omega) | (intro _; refine ⟨decide_eq_true ?_, ?_⟩ <;> omega) | (intro _; refine ⟨?_, ?_⟩ <;> first | omega | (simp [appG, Cd.holds]; done) | (simp [appG, Cd.holds]; omega)) | (refine decide_eq_true ?_; omega) | (intro _; omega) | (simp only [w_i64, w_u64, w_u32, w_u8]; omega) | exact ⟨U_nonneg _, U_lt32 _⟩ | exact R8_UL _ _ | exact R32_UL _ _ | (intro hg0; (repeat ((conv => whnf); (with_reducible refine And.intro ?_ ?_); · first | assumption | omega | (intro _; refine ⟨?_, ?_⟩ <;> first | assumption | omega | exact True.intro | (refine decide_eq_true ?_; omega) | (simp [appG, Cd.holds]; omega)) | (intro _; refine ⟨And.intro ?_ ?_, ?_⟩ <;> first | assumption | omega | (refine decide_eq_true ?_; omega)) | (simp only [hg0, Bool.and_self, Bool.true_and]; done) | (intro hg1; simp only [hg0, hg1, Bool.and_self, Bool.true_and]; done) | (simp [hg0]; done) | exact fun j _ => R8_z _ _ | exact hcl | exact Eq.refl 1)); (conv => whnf); exact True.intro) | exact fun j _ => R8_z _ _ | exact hcl | exact Eq.refl 1)
      conv => whnf
      simp only [hcp]
      have hB0 : sha (putL seed ++ putL (i0 : Int)) = tapB seed (i0 : Int) := rfl
      simp only [hB0]
      refine ⟨[(0, ⟨0, some 36, []⟩), (1, ⟨0, some 37, []⟩), (2, ⟨2, some 38, []⟩), (3, ⟨6, some 39, []⟩), (4, ⟨14, some 40, []⟩), (5, ⟨0, some 41, []⟩), (6, ⟨62, some 42, [322, 1]⟩), (7, ⟨127, some 43, []⟩), (8, ⟨255, some 44, []⟩), (9, ⟨511, none, [0]⟩)], 386, ?_⟩
      repeat ((conv => whnf); (with_reducible refine And.intro ?_ ?_); · first | exact True.intro | (intro hg0; simp only [hg0, Bool.not_false, Bool.not_true]; done) | assumption | omega | (intro _; refine ⟨True.intro, ?_⟩; omega) | (intro _; refine ⟨?_, True.intro⟩; omega) | (intro _; refine ⟨decide_eq_true ?_, ?_⟩ <;> omega) | (intro _; refine ⟨?_, ?_⟩ <;> first | omega | (simp [appG, Cd.holds]; done) | (simp [appG, Cd.holds]; omega)) | (refine decide_eq_true ?_; omega) | (intro _; omega) | (simp only [w_i64, w_u64, w_u32, w_u8]; omega) | exact ⟨U_nonneg _, U_lt32 _⟩ | exact R8_UL _ _ | exact R32_UL _ _ | (intro hg0; (repeat ((conv => whnf); (with_reducible refine And.intro ?_ ?_); · first | assumption | omega | (intro _; refine ⟨?_, ?_⟩ <;> first | assumption | omega | exact True.intro | (refine decide_eq_true ?_; omega) | (simp [appG, Cd.holds]; omega)) | (intro _; refine ⟨And.intro ?_ ?_, ?_⟩ <;> first | assumption | omega | (refine decide_eq_true ?_; omega)) | (simp only [hg0, Bool.and_self, Bool.true_and]; done) | (intro hg1; simp only [hg0, hg1, Bool.and_self, Bool.true_and]; done) | (simp [hg0]; done))); (conv => whnf); exact True.intro))
      conv => whnf
      have hg0 : ∀ j, j < m + 32 → UL (L8 f m ++ tapF seed i0 1) j = put_ f m 32 (fun j => UL (tapB seed (i0 : Int)) (0 + j)) j := fun j hj => by
        rw [show tapF seed i0 1 = tapB seed (i0 : Int) from rfl]
        exact rgrow hf (tapB_length _ _).symm j hj
      refine ⟨Nat, fun k => ⟨70, [(0, .sa (.sc (.ptr 0 0 0))), (1, .sa (.sc (.int .i64 n)))],
        [(0, tpB seed ((i0 + k : Nat) : Int) false (m + 32 * k) 2), (1, .dead), (2, ownB 5 .u8 (UL (L8 f m ++ tapF seed i0 k)) (m + 32 * k))], 3⟩, fun k => 1 ≤ k ∧ m + 32 * k < n + 32, fun k => 200 - k, ⟨1, ⟨by omega, by omega⟩, le_of [(2, 322)] ?_⟩, fun k hk => ?_⟩
      · simp only [Nat.mul_one]
        repeat ((conv => whnf); (with_reducible refine And.intro ?_ ?_); · first | with_reducible rfl | exact (Bool.and_false _).symm | (intro _ _; with_reducible rfl) | exact True.intro | assumption | (intro h; exact absurd h (by decide)) | omega | (intro _; omega) | (intro _; refine ⟨?_, True.intro⟩; omega) | (intro _; refine ⟨?_, True.intro⟩; intro _; omega) | (refine decide_eq_false ?_; omega) | (refine decide_eq_true ?_; omega) | (simp only [w_i64, w_u64, w_u32, w_u8]; omega) | exact fun j hj => (put_0 hj).symm | (intro j _; simp only [Nat.zero_add]; done) | (simp [appG]; done) | (simp [appG]; omega) | exact (Bool.and_false _).symm | (intro j hj; exact hg0 j (by omega)) | (intro hgd; (try replace hgd := of_decide_eq_true hgd); (repeat ((conv => whnf); (with_reducible refine And.intro ?_ ?_); · first | with_reducible rfl | exact (Bool.and_false _).symm | (intro _ _; with_reducible rfl) | exact True.intro | assumption | (intro h; exact absurd h (by decide)) | omega | (intro _; omega) | (intro _; refine ⟨?_, True.intro⟩; omega) | (intro _; refine ⟨?_, True.intro⟩; intro _; omega) | (refine decide_eq_false ?_; omega) | (refine decide_eq_true ?_; omega) | (simp only [w_i64, w_u64, w_u32, w_u8]; omega) | exact fun j hj => (put_0 hj).symm | (intro j _; simp only [Nat.zero_add]; done) | (simp [appG]; done) | (simp [appG]; omega) | exact (Bool.and_false _).symm | (intro j hj; exact hg0 j (by omega)))); (conv => whnf); exact True.intro))
        conv => whnf
        exact True.intro
      obtain ⟨hk1, hk2⟩ := hk
      have hk1 : 1 ≤ k := hk1
      have hk2 : m + 32 * k < n + 32 := hk2
      have hTl : (L8 f m ++ tapF seed i0 k).length = m + 32 * k := by rw [List.length_append, L8_length, tapF_length]
      repeat ((conv => whnf); (with_reducible refine And.intro ?_ ?_); · first | exact True.intro | (intro hg0; simp only [hg0, Bool.not_false, Bool.not_true]; done) | assumption | omega | (intro _; refine ⟨True.intro, ?_⟩; omega) | (intro _; refine ⟨?_, True.intro⟩; omega) | (intro _; refine ⟨decide_eq_true ?_, ?_⟩ <;> omega) | (intro _; refine ⟨?_, ?_⟩ <;> first | omega | (simp [appG, Cd.holds]; done) | (simp [appG, Cd.holds]; omega)) | (refine decide_eq_true ?_; omega) | (intro _; omega) | (simp only [w_i64, w_u64, w_u32, w_u8]; omega) | exact ⟨U_nonneg _, U_lt32 _⟩ | exact R8_UL _ _ | exact R32_UL _ _ | (intro hg0; (repeat ((conv => whnf); (with_reducible refine And.intro ?_ ?_); · first | assumption | omega | (intro _; refine ⟨?_, ?_⟩ <;> first | assumption | omega | exact True.intro | (refine decide_eq_true ?_; omega) | (simp [appG, Cd.holds]; omega)) | (intro _; refine ⟨And.intro ?_ ?_, ?_⟩ <;> first | assumption | omega | (refine decide_eq_true ?_; omega)) | (simp only [hg0, Bool.and_self, Bool.true_and]; done) | (intro hg1; simp only [hg0, hg1, Bool.and_self, Bool.true_and]; done) | (simp [hg0]; done))); (conv => whnf); exact True.intro))
      conv => whnf
      refine ⟨fun h2 => ?_, fun h2 => ?_⟩
      · replace h2 := of_decide_eq_true h2
        have hp5 := putL_le (x := ((i0 + k : Nat) : Int)) (by omega) (by omega)
        have hp6 := putL_pos ((i0 + k : Nat) : Int)
        have hcp2 := catPut (putL seed) (putL ((i0 + k : Nat) : Int))
        have hcl2 : (cat (fun _ => ⟨false, fun j => UL (L8 (UL (L8 (fun _ => 0) 0 ++ putL seed)) (0 + (putL seed).length) ++ putL ((i0 + k : Nat) : Int)) (0 + j), 0 + (putL seed).length + (putL ((i0 + k : Nat) : Int)).length⟩) 1).length ≤ 900000 := by
          rw [hcp2, List.length_append]; omega
        repeat ((conv => whnf); (with_reducible refine And.intro ?_ ?_); · first | exact True.intro | (intro hg0; simp only [hg0, Bool.not_false, Bool.not_true]; done) | assumption | omega | (intro _; refine ⟨True.intro, ?_⟩; omega) | (intro _; refine ⟨?_, True.intro⟩; omega) | (intro _; refine ⟨decide_eq_true ?_, ?_⟩ <;> omega) | (intro _; refine ⟨?_, ?_⟩ <;> first | omega | (simp [appG, Cd.holds]; done) | (simp [appG, Cd.holds]; omega)) | (refine decide_eq_true ?_; omega) | (intro _; omega) | (simp only [w_i64, w_u64, w_u32, w_u8]; omega) | exact ⟨U_nonneg _, U_lt32 _⟩ | exact R8_UL _ _ | exact R32_UL _ _ | (intro hg0; (repeat ((conv => whnf); (with_reducible refine And.intro ?_ ?_); · first | assumption | omega | (intro _; refine ⟨?_, ?_⟩ <;> first | assumption | omega | exact True.intro | (refine decide_eq_true ?_; omega) | (simp [appG, Cd.holds]; omega)) | (intro _; refine ⟨And.intro ?_ ?_, ?_⟩ <;> first | assumption | omega | (refine decide_eq_true ?_; omega)) | (simp only [hg0, Bool.and_self, Bool.true_and]; done) | (intro hg1; simp only [hg0, hg1, Bool.and_self, Bool.true_and]; done) | (simp [hg0]; done))); (conv => whnf); exact True.intro))
        conv => whnf
        refine ⟨[(0, ⟨0, some 24, []⟩), (1, ⟨1, some 25, []⟩), (2, ⟨3, some 26, []⟩), (3, ⟨7, some 27, []⟩), (4, ⟨15, some 28, [67]⟩), (5, ⟨0, some 29, []⟩), (6, ⟨32, some 30, []⟩), (7, ⟨96, some 31, []⟩), (8, ⟨224, some 32, []⟩), (9, ⟨511, some 33, [67, 147]⟩), (10, ⟨1023, some 34, [163]⟩), (11, ⟨2047, some 35, []⟩), (12, ⟨0, some 5, [195]⟩), (13, ⟨8191, none, [195]⟩)], 227, ?_⟩
        repeat ((conv => whnf); (with_reducible refine And.intro ?_ ?_); · first | exact True.intro | (intro hg0; simp only [hg0, Bool.not_false, Bool.not_true]; done) | assumption | omega | (intro _; refine ⟨True.intro, ?_⟩; omega) | (intro _; refine ⟨?_, True.intro⟩; omega) | (intro _; refine ⟨decide_eq_true ?_, ?_⟩ <;> omega) | (intro _; refine ⟨?_, ?_⟩ <;> first | omega | (simp [appG, Cd.holds]; done) | (simp [appG, Cd.holds]; omega)) | (refine decide_eq_true ?_; omega) | (intro _; omega) | (simp only [w_i64, w_u64, w_u32, w_u8]; omega) | exact ⟨U_nonneg _, U_lt32 _⟩ | exact R8_UL _ _ | exact R32_UL _ _ | (intro hg0; (repeat ((conv => whnf); (with_reducible refine And.intro ?_ ?_); · first | assumption | omega | (intro _; refine ⟨?_, ?_⟩ <;> first | assumption | omega | exact True.intro | (refine decide_eq_true ?_; omega) | (simp [appG, Cd.holds]; omega)) | (intro _; refine ⟨And.intro ?_ ?_, ?_⟩ <;> first | assumption | omega | (refine decide_eq_true ?_; omega)) | (simp only [hg0, Bool.and_self, Bool.true_and]; done) | (intro hg1; simp only [hg0, hg1, Bool.and_self, Bool.true_and]; done) | (simp [hg0]; done) | exact fun j _ => R8_z _ _ | exact hcl2 | exact Eq.refl 1)); (conv => whnf); exact True.intro) | exact fun j _ => R8_z _ _ | exact hcl2 | exact Eq.refl 1)
        conv => whnf
        simp only [hcp2]
        have hB1 : sha (putL seed ++ putL ((i0 + k : Nat) : Int)) = tapB seed ((i0 + k : Nat) : Int) := rfl
        simp only [hB1]
        refine ⟨[(0, ⟨0, some 36, []⟩), (1, ⟨0, some 37, []⟩), (2, ⟨2, some 38, []⟩), (3, ⟨6, some 39, []⟩), (4, ⟨14, some 40, []⟩), (5, ⟨0, some 41, []⟩), (6, ⟨62, some 42, [323, 2]⟩), (7, ⟨127, some 43, []⟩), (8, ⟨255, some 44, []⟩), (9, ⟨511, none, [0]⟩)], 387, ?_⟩
        repeat ((conv => whnf); (with_reducible refine And.intro ?_ ?_); · first | exact True.intro | (intro hg0; simp only [hg0, Bool.not_false, Bool.not_true]; done) | assumption | omega | (intro _; refine ⟨True.intro, ?_⟩; omega) | (intro _; refine ⟨?_, True.intro⟩; omega) | (intro _; refine ⟨decide_eq_true ?_, ?_⟩ <;> omega) | (intro _; refine ⟨?_, ?_⟩ <;> first | omega | (simp [appG, Cd.holds]; done) | (simp [appG, Cd.holds]; omega)) | (refine decide_eq_true ?_; omega) | (intro _; omega) | (simp only [w_i64, w_u64, w_u32, w_u8]; omega) | exact ⟨U_nonneg _, U_lt32 _⟩ | exact R8_UL _ _ | exact R32_UL _ _ | (intro hg0; (repeat ((conv => whnf); (with_reducible refine And.intro ?_ ?_); · first | assumption | omega | (intro _; refine ⟨?_, ?_⟩ <;> first | assumption | omega | exact True.intro | (refine decide_eq_true ?_; omega) | (simp [appG, Cd.holds]; omega)) | (intro _; refine ⟨And.intro ?_ ?_, ?_⟩ <;> first | assumption | omega | (refine decide_eq_true ?_; omega)) | (simp only [hg0, Bool.and_self, Bool.true_and]; done) | (intro hg1; simp only [hg0, hg1, Bool.and_self, Bool.true_and]; done) | (simp [hg0]; done))); (conv => whnf); exact True.intro))
        conv => whnf
        refine ⟨k + 1, ⟨⟨by omega, by show m + 32 * (k + 1) < n + 32; omega⟩, by show 200 - (k + 1) < 200 - k; omega⟩, le_of [(2, 323)] ?_⟩
        have hT1 : L8 f m ++ tapF seed i0 (k + 1) = (L8 f m ++ tapF seed i0 k) ++ tapB seed ((i0 + k : Nat) : Int) := by rw [tapF, List.append_assoc]
        simp only [hT1]
        repeat ((conv => whnf); (with_reducible refine And.intro ?_ ?_); · first | with_reducible rfl | exact (Bool.and_false _).symm | (intro _ _; with_reducible rfl) | exact True.intro | assumption | (intro h; exact absurd h (by decide)) | omega | (intro _; omega) | (intro _; refine ⟨?_, True.intro⟩; omega) | (intro _; refine ⟨?_, True.intro⟩; intro _; omega) | (refine decide_eq_false ?_; omega) | (refine decide_eq_true ?_; omega) | (simp only [w_i64, w_u64, w_u32, w_u8]; omega) | exact fun j hj => (put_0 hj).symm | (intro j _; simp only [Nat.zero_add]; done) | (simp [appG]; done) | (simp [appG]; omega) | (intro j hj; exact out_app (b := 32) hTl.symm (tapB_length _ _).symm j (by omega)) | rfl | (intro hgd; (try replace hgd := of_decide_eq_true hgd); (repeat ((conv => whnf); (with_reducible refine And.intro ?_ ?_); · first | with_reducible rfl | exact (Bool.and_false _).symm | (intro _ _; with_reducible rfl) | exact True.intro | assumption | (intro h; exact absurd h (by decide)) | omega | (intro _; omega) | (intro _; refine ⟨?_, True.intro⟩; omega) | (intro _; refine ⟨?_, True.intro⟩; intro _; omega) | (refine decide_eq_false ?_; omega) | (refine decide_eq_true ?_; omega) | (simp only [w_i64, w_u64, w_u32, w_u8]; omega) | exact fun j hj => (put_0 hj).symm | (intro j _; simp only [Nat.zero_add]; done) | (simp [appG]; done) | (simp [appG]; omega) | (intro j hj; exact out_app (b := 32) hTl.symm (tapB_length _ _).symm j (by omega)) | rfl)); (conv => whnf); exact True.intro))
        conv => whnf
        exact True.intro
      · replace h2 := of_decide_eq_false h2
        have hqk : tQ m (n : Int) = k := by unfold tQ; omega
        have hk0 : Nat.beq k 0 = false := by cases k with
          | zero => omega
          | succ k => rfl
        have hc1 : ∀ j, j < n → UL ((L8 f m ++ tapF seed i0 k).take n) j = UL (L8 f m ++ tapF seed i0 k) j := fun j hj => UL_take hj
        have hc2 : ∀ j, UL ((L8 f m ++ tapF seed i0 k).drop n) j = UL (L8 f m ++ tapF seed i0 k) (n + j) := fun j => by
          unfold UL
          rw [getD_drop]
        repeat ((conv => whnf); (with_reducible refine And.intro ?_ ?_); · first | exact True.intro | (intro hg0; simp only [hg0, Bool.not_false, Bool.not_true]; done) | assumption | omega | (intro _; refine ⟨True.intro, ?_⟩; omega) | (intro _; refine ⟨?_, True.intro⟩; omega) | (intro _; refine ⟨decide_eq_true ?_, ?_⟩ <;> omega) | (intro _; refine ⟨?_, ?_⟩ <;> first | omega | (simp [appG, Cd.holds]; done) | (simp [appG, Cd.holds]; omega)) | (refine decide_eq_true ?_; omega) | (intro _; omega) | (simp only [w_i64, w_u64, w_u32, w_u8]; omega) | exact ⟨U_nonneg _, U_lt32 _⟩ | exact R8_UL _ _ | exact R32_UL _ _ | (intro hg0; (repeat ((conv => whnf); (with_reducible refine And.intro ?_ ?_); · first | assumption | omega | (intro _; refine ⟨?_, ?_⟩ <;> first | assumption | omega | exact True.intro | (refine decide_eq_true ?_; omega) | (simp [appG, Cd.holds]; omega)) | (intro _; refine ⟨And.intro ?_ ?_, ?_⟩ <;> first | assumption | omega | (refine decide_eq_true ?_; omega)) | (simp only [hg0, Bool.and_self, Bool.true_and]; done) | (intro hg1; simp only [hg0, hg1, Bool.and_self, Bool.true_and]; done) | (simp [hg0]; done) | exact R8_at _ _ _)); (conv => whnf); exact True.intro) | exact R8_at _ _ _)
        conv => whnf
        refine ⟨[(2, 3), (3, 4)], ?_⟩
        simp only [hqk, hk0, Bool.and_false, Int.toNat_natCast]
        repeat ((conv => whnf); (with_reducible refine And.intro ?_ ?_); · first | with_reducible rfl | exact (Bool.and_false _).symm | (intro _ _; with_reducible rfl) | exact True.intro | assumption | (intro h; exact absurd h (by decide)) | omega | (intro _; omega) | (intro _; refine ⟨?_, True.intro⟩; omega) | (intro _; refine ⟨?_, True.intro⟩; intro _; omega) | (refine decide_eq_false ?_; omega) | (refine decide_eq_true ?_; omega) | (simp only [w_i64, w_u64, w_u32, w_u8]; omega) | exact fun j hj => (put_0 hj).symm | (intro j _; simp only [Nat.zero_add]; done) | (simp [appG]; done) | (simp [appG]; omega) | (intro j hj; exact (hc1 j (by omega)).trans (congrArg (UL _) (by show j = 0 + 0 + j; omega))) | (intro j hj; exact (hc2 j).trans (congrArg (UL _) (by omega))) | (intro hgd; (try replace hgd := of_decide_eq_true hgd); (repeat ((conv => whnf); (with_reducible refine And.intro ?_ ?_); · first | with_reducible rfl | exact (Bool.and_false _).symm | (intro _ _; with_reducible rfl) | exact True.intro | assumption | (intro h; exact absurd h (by decide)) | omega | (intro _; omega) | (intro _; refine ⟨?_, True.intro⟩; omega) | (intro _; refine ⟨?_, True.intro⟩; intro _; omega) | (refine decide_eq_false ?_; omega) | (refine decide_eq_true ?_; omega) | (simp only [w_i64, w_u64, w_u32, w_u8]; omega) | exact fun j hj => (put_0 hj).symm | (intro j _; simp only [Nat.zero_add]; done) | (simp [appG]; done) | (simp [appG]; omega) | (intro j hj; exact (hc1 j (by omega)).trans (congrArg (UL _) (by show j = 0 + 0 + j; omega))) | (intro j hj; exact (hc2 j).trans (congrArg (UL _) (by omega))))); (conv => whnf); exact True.intro))
        conv => whnf
        exact True.intro
    · replace h1 := of_decide_eq_false h1
      have hmn : n ≤ m := by omega
      have hq0 : tQ m (n : Int) = 0 := by unfold tQ; omega
      have hc1 : ∀ j, j < n → UL ((L8 f m).take n) j = f j := fun j hj => by rw [UL_take hj, UL_L8 hf j (by omega)]
      have hc2 : ∀ j, j < m - n → UL ((L8 f m).drop n) j = f (n + j) := fun j hj => by
        rw [← UL_L8 hf (n + j) (by omega)]
        unfold UL
        rw [getD_drop]
      repeat ((conv => whnf); (with_reducible refine And.intro ?_ ?_); · first | exact True.intro | (intro hg0; simp only [hg0, Bool.not_false, Bool.not_true]; done) | assumption | omega | (intro _; refine ⟨True.intro, ?_⟩; omega) | (intro _; refine ⟨?_, True.intro⟩; omega) | (intro _; refine ⟨decide_eq_true ?_, ?_⟩ <;> omega) | (intro _; refine ⟨?_, ?_⟩ <;> first | omega | (simp [appG, Cd.holds]; done) | (simp [appG, Cd.holds]; omega)) | (refine decide_eq_true ?_; omega) | (intro _; omega) | (simp only [w_i64, w_u64, w_u32, w_u8]; omega) | exact ⟨U_nonneg _, U_lt32 _⟩ | exact R8_UL _ _ | exact R32_UL _ _ | (intro hg0; (repeat ((conv => whnf); (with_reducible refine And.intro ?_ ?_); · first | assumption | omega | (intro _; refine ⟨?_, ?_⟩ <;> first | assumption | omega | exact True.intro | (refine decide_eq_true ?_; omega) | (simp [appG, Cd.holds]; omega)) | (intro _; refine ⟨And.intro ?_ ?_, ?_⟩ <;> first | assumption | omega | (refine decide_eq_true ?_; omega)) | (simp only [hg0, Bool.and_self, Bool.true_and]; done) | (intro hg1; simp only [hg0, hg1, Bool.and_self, Bool.true_and]; done) | (simp [hg0]; done) | exact R8_at _ _ _)); (conv => whnf); exact True.intro) | exact R8_at _ _ _)
      conv => whnf
      refine ⟨[], ?_⟩
      simp only [hq0, tapF, List.append_nil, Nat.mul_zero, Nat.add_zero, Int.toNat_natCast]
      repeat ((conv => whnf); (with_reducible refine And.intro ?_ ?_); · first | with_reducible rfl | exact (Bool.and_false _).symm | (intro _ _; with_reducible rfl) | exact True.intro | assumption | (intro h; exact absurd h (by decide)) | omega | (intro _; omega) | (intro _; refine ⟨?_, True.intro⟩; omega) | (intro _; refine ⟨?_, True.intro⟩; intro _; omega) | (refine decide_eq_false ?_; omega) | (refine decide_eq_true ?_; omega) | (simp only [w_i64, w_u64, w_u32, w_u8]; omega) | exact fun j hj => (put_0 hj).symm | (intro j _; simp only [Nat.zero_add]; done) | (simp [appG]; done) | (simp [appG]; omega) | (cases nl <;> rfl) | (intro h; rw [Bool.and_eq_true] at h; have := hnl h.1; omega) | (intro j hj; exact (hc1 j (by omega)).trans (congrArg f (by show j = 0 + 0 + j; omega))) | (intro j hj; exact (hc2 j (by omega)).trans (congrArg f (by omega))) | (intro hgd; (try replace hgd := of_decide_eq_true hgd); (repeat ((conv => whnf); (with_reducible refine And.intro ?_ ?_); · first | with_reducible rfl | exact (Bool.and_false _).symm | (intro _ _; with_reducible rfl) | exact True.intro | assumption | (intro h; exact absurd h (by decide)) | omega | (intro _; omega) | (intro _; refine ⟨?_, True.intro⟩; omega) | (intro _; refine ⟨?_, True.intro⟩; intro _; omega) | (refine decide_eq_false ?_; omega) | (refine decide_eq_true ?_; omega) | (simp only [w_i64, w_u64, w_u32, w_u8]; omega) | exact fun j hj => (put_0 hj).symm | (intro j _; simp only [Nat.zero_add]; done) | (simp [appG]; done) | (simp [appG]; omega) | (cases nl <;> rfl) | (intro h; rw [Bool.and_eq_true] at h; have := hnl h.1; omega) | (intro j hj; exact (hc1 j (by omega)).trans (congrArg f (by show j = 0 + 0 + j; omega))) | (intro j hj; exact (hc2 j (by omega)).trans (congrArg f (by omega))))); (conv => whnf); exact True.intro))
      conv => whnf
      exact True.intro

end Go.Proofs.Ytogijkmflhjhkaa
