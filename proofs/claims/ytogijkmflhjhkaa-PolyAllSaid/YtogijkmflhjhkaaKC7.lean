/- Many texts in one: L25, Lnk. No condition. -/
import Derived.Test.YtogijkmflhjhkaaKC6
import Derived.ProofKit
import Derived.OpenShut
import Derived.ShutString
import Derived.ChangeOld
import Derived.SizedLaws
import Derived.Carry

/- The laws of Poly1305, through the evaluator: any key, any bytes; parts. No condition. -/
namespace Go.Proofs.Ytogijkmflhjhkaa
open Go.Sx Go.RowKit
set_option linter.unusedSimpArgs false
set_option maxRecDepth 100000
set_option maxHeartbeats 2000000
set_option linter.unusedVariables false

theorem cokT : COk Try.prog (tab [(50, yesS), (31, shortS), (53, keyS), (59, tagS), (60, rtagS)]) :=
  cok_cons yesS50_ok (cok_cons shortS_ok (cok_cons keyS_ok (cok_cons tagS_ok (cok_cons rtagS_ok cok_nil))))
theorem polyAll_law (nlk : Bool) (k : Nat → Int) (nk : Nat) (nlb : Bool) (b : Nat → Int) (nb : Nat) (hk : R8 k nk) (hb : R8 b nb) :
    FCalls Try.prog 21 [.sc (.im nlk .u8 k nk), .sc (.im nlb .u8 b nb)] [] 0 isTrue := by
  refine fcalls_of_run tt_ok cokT mixed_ok Try.func21 rfl (rs := _) Try.results21 (size := 20) Try.ntmps21 (Nat.le_of_ble_eq_true rfl) rfl fun hp hfa hfh => ?_
  have hrb : R8 b (min nb (Int.toNat 120)) := R8_le hb (by omega)
  have hmb : min nb (Int.toNat 120) ≤ 120 := Nat.min_le_right _ _
  repeat ((conv => whnf); (with_reducible refine And.intro ?_ ?_); · first | exact True.intro | with_reducible with_reducible assumption | omega | (intro _; refine ⟨True.intro, ?_⟩; omega) | (intro _; refine ⟨?_, True.intro⟩; omega) | (intro _; omega) | (refine decide_eq_true ?_; omega) | (intro _; refine ⟨decide_eq_true ?_, ?_⟩ <;> omega) | (simp only [w_i64, w_u64, w_u32, w_u8]; omega) | exact R8_UL _ _ | (intro hg0; (repeat ((conv => whnf); (with_reducible refine And.intro ?_ ?_); · first | with_reducible assumption | omega | (intro _; refine ⟨?_, ?_⟩ <;> first | with_reducible assumption | omega) | (simp only [hg0, Bool.and_self, Bool.true_and]; done))); (conv => whnf); exact True.intro))
  conv => whnf
  refine ⟨fun h1 => (nomatch h1), fun h1 => ?_⟩
  repeat (first | ((with_reducible refine (Cd.then_iff _ _).2 (And.intro ?_ ?_)); · repeat' ((conv => arg 1; whnf); first | exact Cd.holds_tt | (refine Cd.holds_p ?_; first | exact R8_UL _ _ | exact hrb | exact True.intro | (intro hg0; simp only [hg0, Bool.not_false, Bool.not_true]; done) | with_reducible assumption | omega | (intro _; refine ⟨True.intro, ?_⟩; omega) | (intro _; refine ⟨?_, True.intro⟩; omega) | (intro _; refine ⟨decide_eq_true ?_, ?_⟩ <;> omega) | (intro _; refine ⟨?_, ?_⟩ <;> first | omega | (simp [appG, Cd.holds]; done) | (simp [appG, Cd.holds]; omega)) | (refine decide_eq_true ?_; omega) | (intro _; omega) | (simp only [w_i64, w_u64, w_u32, w_u8]; omega) | exact ⟨U_nonneg _, U_lt32 _⟩ | exact R8_UL _ _ | exact R32_UL _ _ | (intro hg0; (repeat ((conv => whnf); (with_reducible refine And.intro ?_ ?_); · first | with_reducible assumption | omega | (intro _; refine ⟨?_, ?_⟩ <;> first | with_reducible assumption | omega | exact True.intro | (refine decide_eq_true ?_; omega) | (simp [appG, Cd.holds]; omega)) | (intro _; refine ⟨And.intro ?_ ?_, ?_⟩ <;> first | with_reducible assumption | omega | (refine decide_eq_true ?_; omega)) | (simp only [hg0, Bool.and_self, Bool.true_and]; done) | (intro hg1; simp only [hg0, hg1, Bool.and_self, Bool.true_and]; done) | (simp [hg0]; done) | exact R8_UL _ _ | exact hrb)); (conv => whnf); exact True.intro)) | refine Cd.holds_and ?_ ?_ | (refine Cd.holds_imp fun hg0 => ?_))) | ((conv => whnf); (with_reducible refine And.intro ?_ ?_); · first | exact R8_UL _ _ | exact hrb | exact True.intro | (intro hg0; simp only [hg0, Bool.not_false, Bool.not_true]; done) | with_reducible assumption | omega | (intro _; refine ⟨True.intro, ?_⟩; omega) | (intro _; refine ⟨?_, True.intro⟩; omega) | (intro _; refine ⟨decide_eq_true ?_, ?_⟩ <;> omega) | (intro _; refine ⟨?_, ?_⟩ <;> first | omega | (simp [appG, Cd.holds]; done) | (simp [appG, Cd.holds]; omega)) | (refine decide_eq_true ?_; omega) | (intro _; omega) | (simp only [w_i64, w_u64, w_u32, w_u8]; omega) | exact ⟨U_nonneg _, U_lt32 _⟩ | exact R8_UL _ _ | exact R32_UL _ _ | (intro hg0; (repeat ((conv => whnf); (with_reducible refine And.intro ?_ ?_); · first | with_reducible assumption | omega | (intro _; refine ⟨?_, ?_⟩ <;> first | with_reducible assumption | omega | exact True.intro | (refine decide_eq_true ?_; omega) | (simp [appG, Cd.holds]; omega)) | (intro _; refine ⟨And.intro ?_ ?_, ?_⟩ <;> first | with_reducible assumption | omega | (refine decide_eq_true ?_; omega)) | (simp only [hg0, Bool.and_self, Bool.true_and]; done) | (intro hg1; simp only [hg0, hg1, Bool.and_self, Bool.true_and]; done) | (simp [hg0]; done) | exact R8_UL _ _ | exact hrb)); (conv => whnf); exact True.intro)))
  conv => whnf
  refine ⟨[], ?_⟩
  simp only [eqI_self]
  repeat ((conv => whnf); (with_reducible refine And.intro ?_ ?_); · first | with_reducible rfl | exact (Bool.and_false _).symm | (intro _ _; with_reducible rfl) | exact True.intro | assumption | (intro h; exact absurd h (by decide)) | omega | (intro _; omega) | (intro _; refine ⟨?_, True.intro⟩; omega) | (intro _; refine ⟨?_, True.intro⟩; intro _; omega) | (refine decide_eq_false ?_; omega) | (refine decide_eq_true ?_; omega) | (simp only [w_i64, w_u64, w_u32, w_u8]; omega) | exact fun j hj => (put_0 hj).symm | (intro j _; simp only [Nat.zero_add]; done) | (simp [appG]; done) | (simp [appG]; omega) | (intro hgd; (try replace hgd := of_decide_eq_true hgd); (repeat ((conv => whnf); (with_reducible refine And.intro ?_ ?_); · first | with_reducible rfl | exact (Bool.and_false _).symm | (intro _ _; with_reducible rfl) | exact True.intro | assumption | (intro h; exact absurd h (by decide)) | omega | (intro _; omega) | (intro _; refine ⟨?_, True.intro⟩; omega) | (intro _; refine ⟨?_, True.intro⟩; intro _; omega) | (refine decide_eq_false ?_; omega) | (refine decide_eq_true ?_; omega) | (simp only [w_i64, w_u64, w_u32, w_u8]; omega) | exact fun j hj => (put_0 hj).symm | (intro j _; simp only [Nat.zero_add]; done) | (simp [appG]; done) | (simp [appG]; omega))); (conv => whnf); exact True.intro))
  conv => whnf
  exact True.intro
theorem polyParts_law (nlk : Bool) (k : Nat → Int) (nk : Nat) (nlb : Bool) (b : Nat → Int) (nb : Nat) (n : Int) (hk : R8 k nk) (hb : R8 b nb) (hn : -9223372036854775808 ≤ n ∧ n ≤ 9223372036854775807) :
    FCalls Try.prog 27 [.sc (.im nlk .u8 k nk), .sc (.im nlb .u8 b nb), .sc (.int .i64 n)] [] 0 isTrue := by
  refine fcalls_of_run tt_ok cokT mixed_ok Try.func27 rfl (rs := _) Try.results27 (size := 42) Try.ntmps27 (Nat.le_of_ble_eq_true rfl) rfl fun hp hfa hfh => ?_
  have hrb : R8 b (min nb (Int.toNat 60)) := R8_le hb (by omega)
  have hmb : min nb (Int.toNat 60) ≤ 60 := Nat.min_le_right _ _
  repeat ((conv => whnf); (with_reducible refine And.intro ?_ ?_); · first | exact True.intro | with_reducible with_reducible assumption | omega | (intro _; refine ⟨True.intro, ?_⟩; omega) | (intro _; refine ⟨?_, True.intro⟩; omega) | (intro _; omega) | (refine decide_eq_true ?_; omega) | (intro _; refine ⟨decide_eq_true ?_, ?_⟩ <;> omega) | (simp only [w_i64, w_u64, w_u32, w_u8]; omega) | exact R8_UL _ _ | (intro hg0; (repeat ((conv => whnf); (with_reducible refine And.intro ?_ ?_); · first | with_reducible assumption | omega | (intro _; refine ⟨?_, ?_⟩ <;> first | with_reducible assumption | omega) | (simp only [hg0, Bool.and_self, Bool.true_and]; done))); (conv => whnf); exact True.intro))
  conv => whnf
  refine ⟨fun h1 => (nomatch h1), fun h1 => ?_⟩
  repeat (first | ((with_reducible refine (Cd.then_iff _ _).2 (And.intro ?_ ?_)); · repeat' ((conv => arg 1; whnf); first | exact Cd.holds_tt | (refine Cd.holds_p ?_; first | exact True.intro | (intro hg0; simp only [hg0, Bool.not_false, Bool.not_true]; done) | with_reducible assumption | omega | (intro _; refine ⟨True.intro, ?_⟩; omega) | (intro _; refine ⟨?_, True.intro⟩; omega) | (intro _; refine ⟨decide_eq_true ?_, ?_⟩ <;> omega) | (intro _; refine ⟨?_, ?_⟩ <;> first | omega | (simp [appG, Cd.holds]; done) | (simp [appG, Cd.holds]; omega)) | (refine decide_eq_true ?_; omega) | (intro _; omega) | (simp only [w_i64, w_u64, w_u32, w_u8]; omega) | exact ⟨U_nonneg _, U_lt32 _⟩ | exact R8_UL _ _ | exact R32_UL _ _ | (intro hg0; (repeat ((conv => whnf); (with_reducible refine And.intro ?_ ?_); · first | with_reducible assumption | omega | (intro _; refine ⟨?_, ?_⟩ <;> first | with_reducible assumption | omega | exact True.intro | (refine decide_eq_true ?_; omega) | (simp [appG, Cd.holds]; omega)) | (intro _; refine ⟨And.intro ?_ ?_, ?_⟩ <;> first | with_reducible assumption | omega | (refine decide_eq_true ?_; omega)) | (simp only [hg0, Bool.and_self, Bool.true_and]; done) | (intro hg1; simp only [hg0, hg1, Bool.and_self, Bool.true_and]; done) | (simp [hg0]; done))); (conv => whnf); exact True.intro)) | refine Cd.holds_and ?_ ?_ | (refine Cd.holds_imp fun hg0 => ?_))) | ((conv => whnf); (with_reducible refine And.intro ?_ ?_); · first | exact True.intro | (intro hg0; simp only [hg0, Bool.not_false, Bool.not_true]; done) | with_reducible assumption | omega | (intro _; refine ⟨True.intro, ?_⟩; omega) | (intro _; refine ⟨?_, True.intro⟩; omega) | (intro _; refine ⟨decide_eq_true ?_, ?_⟩ <;> omega) | (intro _; refine ⟨?_, ?_⟩ <;> first | omega | (simp [appG, Cd.holds]; done) | (simp [appG, Cd.holds]; omega)) | (refine decide_eq_true ?_; omega) | (intro _; omega) | (simp only [w_i64, w_u64, w_u32, w_u8]; omega) | exact ⟨U_nonneg _, U_lt32 _⟩ | exact R8_UL _ _ | exact R32_UL _ _ | (intro hg0; (repeat ((conv => whnf); (with_reducible refine And.intro ?_ ?_); · first | with_reducible assumption | omega | (intro _; refine ⟨?_, ?_⟩ <;> first | with_reducible assumption | omega | exact True.intro | (refine decide_eq_true ?_; omega) | (simp [appG, Cd.holds]; omega)) | (intro _; refine ⟨And.intro ?_ ?_, ?_⟩ <;> first | with_reducible assumption | omega | (refine decide_eq_true ?_; omega)) | (simp only [hg0, Bool.and_self, Bool.true_and]; done) | (intro hg1; simp only [hg0, hg1, Bool.and_self, Bool.true_and]; done) | (simp [hg0]; done))); (conv => whnf); exact True.intro)))
  conv => whnf
  generalize min nb (Int.toNat 60) = m at *
  refine ⟨fun h2 => ?_, fun h2 => ?_⟩
  · repeat (first | ((with_reducible refine (Cd.then_iff _ _).2 (And.intro ?_ ?_)); · repeat' ((conv => arg 1; whnf); first | exact Cd.holds_tt | (refine Cd.holds_p ?_; first | exact True.intro | (intro hg0; simp only [hg0, Bool.not_false, Bool.not_true]; done) | with_reducible assumption | omega | (intro _; refine ⟨True.intro, ?_⟩; omega) | (intro _; refine ⟨?_, True.intro⟩; omega) | (intro _; refine ⟨decide_eq_true ?_, ?_⟩ <;> omega) | (intro _; refine ⟨?_, ?_⟩ <;> first | omega | (simp [appG, Cd.holds]; done) | (simp [appG, Cd.holds]; omega)) | (refine decide_eq_true ?_; omega) | (intro _; omega) | (simp only [w_i64, w_u64, w_u32, w_u8]; omega) | exact ⟨U_nonneg _, U_lt32 _⟩ | exact R8_UL _ _ | exact R32_UL _ _ | (intro hg0; (repeat ((conv => whnf); (with_reducible refine And.intro ?_ ?_); · first | with_reducible assumption | omega | (intro _; refine ⟨?_, ?_⟩ <;> first | with_reducible assumption | omega | exact True.intro | (refine decide_eq_true ?_; omega) | (simp [appG, Cd.holds]; omega)) | (intro _; refine ⟨And.intro ?_ ?_, ?_⟩ <;> first | with_reducible assumption | omega | (refine decide_eq_true ?_; omega)) | (simp only [hg0, Bool.and_self, Bool.true_and]; done) | (intro hg1; simp only [hg0, hg1, Bool.and_self, Bool.true_and]; done) | (simp [hg0]; done))); (conv => whnf); exact True.intro)) | refine Cd.holds_and ?_ ?_ | (refine Cd.holds_imp fun hg0 => ?_))) | ((conv => whnf); (with_reducible refine And.intro ?_ ?_); · first | exact True.intro | (intro hg0; simp only [hg0, Bool.not_false, Bool.not_true]; done) | with_reducible assumption | omega | (intro _; refine ⟨True.intro, ?_⟩; omega) | (intro _; refine ⟨?_, True.intro⟩; omega) | (intro _; refine ⟨decide_eq_true ?_, ?_⟩ <;> omega) | (intro _; refine ⟨?_, ?_⟩ <;> first | omega | (simp [appG, Cd.holds]; done) | (simp [appG, Cd.holds]; omega)) | (refine decide_eq_true ?_; omega) | (intro _; omega) | (simp only [w_i64, w_u64, w_u32, w_u8]; omega) | exact ⟨U_nonneg _, U_lt32 _⟩ | exact R8_UL _ _ | exact R32_UL _ _ | (intro hg0; (repeat ((conv => whnf); (with_reducible refine And.intro ?_ ?_); · first | with_reducible assumption | omega | (intro _; refine ⟨?_, ?_⟩ <;> first | with_reducible assumption | omega | exact True.intro | (refine decide_eq_true ?_; omega) | (simp [appG, Cd.holds]; omega)) | (intro _; refine ⟨And.intro ?_ ?_, ?_⟩ <;> first | with_reducible assumption | omega | (refine decide_eq_true ?_; omega)) | (simp only [hg0, Bool.and_self, Bool.true_and]; done) | (intro hg1; simp only [hg0, hg1, Bool.and_self, Bool.true_and]; done) | (simp [hg0]; done))); (conv => whnf); exact True.intro)))
    conv => whnf
    refine ⟨[], ?_⟩
    repeat ((conv => whnf); (with_reducible refine And.intro ?_ ?_); · first | with_reducible rfl | exact (Bool.and_false _).symm | (intro _ _; with_reducible rfl) | exact True.intro | assumption | (intro h; exact absurd h (by decide)) | omega | (intro _; omega) | (intro _; refine ⟨?_, True.intro⟩; omega) | (intro _; refine ⟨?_, True.intro⟩; intro _; omega) | (refine decide_eq_false ?_; omega) | (refine decide_eq_true ?_; omega) | (simp only [w_i64, w_u64, w_u32, w_u8]; omega) | exact fun j hj => (put_0 hj).symm | (intro j _; simp only [Nat.zero_add]; done) | (simp [appG]; done) | (simp [appG]; omega) | (intro hgd; (try replace hgd := of_decide_eq_true hgd); (repeat ((conv => whnf); (with_reducible refine And.intro ?_ ?_); · first | with_reducible rfl | exact (Bool.and_false _).symm | (intro _ _; with_reducible rfl) | exact True.intro | assumption | (intro h; exact absurd h (by decide)) | omega | (intro _; omega) | (intro _; refine ⟨?_, True.intro⟩; omega) | (intro _; refine ⟨?_, True.intro⟩; intro _; omega) | (refine decide_eq_false ?_; omega) | (refine decide_eq_true ?_; omega) | (simp only [w_i64, w_u64, w_u32, w_u8]; omega) | exact fun j hj => (put_0 hj).symm | (intro j _; simp only [Nat.zero_add]; done) | (simp [appG]; done) | (simp [appG]; omega))); (conv => whnf); exact True.intro))
    conv => whnf
    exact True.intro
  have hg : 0 ≤ n ∧ n ≤ 40 := by
    obtain ⟨q1, q2⟩ := orF h2
    replace q1 := of_decide_eq_false q1
    replace q2 := of_decide_eq_false q2
    omega
  obtain ⟨M, rfl⟩ := Int.eq_ofNat_of_zero_le hg.1
  have hM : M ≤ 40 := by omega
  have hB : R8 (put_ (put_ (fun _ => 0) 0 m b) (0 + m) (M : Int).toNat fun _ => 0) (0 + m + (M : Int).toNat) := R8_put (R8_put (fun j _ => ⟨Int.le_refl 0, by show (0 : Int) < 256; decide⟩) hrb) fun j _ => ⟨Int.le_refl 0, by show (0 : Int) < 256; decide⟩
  generalize hPe : put_ (put_ (fun _ => 0) 0 m b) (0 + m) (M : Int).toNat (fun _ => 0) = PF at hB
  have hB2 : R8 (fun j => PF (0 + j)) (0 + m + (M : Int).toNat) := fun j hj => by
    show 0 ≤ PF (0 + j) ∧ PF (0 + j) < 256
    rw [Nat.zero_add]
    exact hB j hj
  rw [← hPe] at hB2
  repeat (first | ((with_reducible refine (Cd.then_iff _ _).2 (And.intro ?_ ?_)); · repeat' ((conv => arg 1; whnf); first | exact Cd.holds_tt | (refine Cd.holds_p ?_; first | exact R8_UL _ _ | exact hrb | (rw [Int.toNat_natCast]; omega) | exact hB2 | exact fun _ => R8_UL _ _ | exact fun _ => hk | (exact fun j hj => absurd hj (Nat.not_lt_zero j)) | (exact fun _ => fun j hj => absurd hj (Nat.not_lt_zero j)) | exact True.intro | (intro hg0; simp only [hg0, Bool.not_false, Bool.not_true]; done) | with_reducible assumption | omega | (intro _; refine ⟨True.intro, ?_⟩; omega) | (intro _; refine ⟨?_, True.intro⟩; omega) | (intro _; refine ⟨decide_eq_true ?_, ?_⟩ <;> omega) | (intro _; refine ⟨?_, ?_⟩ <;> first | omega | (simp [appG, Cd.holds]; done) | (simp [appG, Cd.holds]; omega)) | (refine decide_eq_true ?_; omega) | (intro _; omega) | (simp only [w_i64, w_u64, w_u32, w_u8]; omega) | exact ⟨U_nonneg _, U_lt32 _⟩ | exact R8_UL _ _ | exact R32_UL _ _ | (intro hg0; (repeat ((conv => whnf); (with_reducible refine And.intro ?_ ?_); · first | with_reducible assumption | omega | (intro _; refine ⟨?_, ?_⟩ <;> first | with_reducible assumption | omega | exact True.intro | (refine decide_eq_true ?_; omega) | (simp [appG, Cd.holds]; omega)) | (intro _; refine ⟨And.intro ?_ ?_, ?_⟩ <;> first | with_reducible assumption | omega | (refine decide_eq_true ?_; omega)) | (simp only [hg0, Bool.and_self, Bool.true_and]; done) | (intro hg1; simp only [hg0, hg1, Bool.and_self, Bool.true_and]; done) | (simp [hg0]; done) | exact R8_UL _ _ | exact hrb | (rw [Int.toNat_natCast]; omega) | exact hB2 | exact fun _ => R8_UL _ _ | exact fun _ => hk | (exact fun j hj => absurd hj (Nat.not_lt_zero j)) | (exact fun _ => fun j hj => absurd hj (Nat.not_lt_zero j)))); (conv => whnf); exact True.intro)) | refine Cd.holds_and ?_ ?_ | (refine Cd.holds_imp fun hg0 => ?_))) | ((conv => whnf); (with_reducible refine And.intro ?_ ?_); · first | exact R8_UL _ _ | exact hrb | (rw [Int.toNat_natCast]; omega) | exact hB2 | exact fun _ => R8_UL _ _ | exact fun _ => hk | (exact fun j hj => absurd hj (Nat.not_lt_zero j)) | (exact fun _ => fun j hj => absurd hj (Nat.not_lt_zero j)) | exact True.intro | (intro hg0; simp only [hg0, Bool.not_false, Bool.not_true]; done) | with_reducible assumption | omega | (intro _; refine ⟨True.intro, ?_⟩; omega) | (intro _; refine ⟨?_, True.intro⟩; omega) | (intro _; refine ⟨decide_eq_true ?_, ?_⟩ <;> omega) | (intro _; refine ⟨?_, ?_⟩ <;> first | omega | (simp [appG, Cd.holds]; done) | (simp [appG, Cd.holds]; omega)) | (refine decide_eq_true ?_; omega) | (intro _; omega) | (simp only [w_i64, w_u64, w_u32, w_u8]; omega) | exact ⟨U_nonneg _, U_lt32 _⟩ | exact R8_UL _ _ | exact R32_UL _ _ | (intro hg0; (repeat ((conv => whnf); (with_reducible refine And.intro ?_ ?_); · first | with_reducible assumption | omega | (intro _; refine ⟨?_, ?_⟩ <;> first | with_reducible assumption | omega | exact True.intro | (refine decide_eq_true ?_; omega) | (simp [appG, Cd.holds]; omega)) | (intro _; refine ⟨And.intro ?_ ?_, ?_⟩ <;> first | with_reducible assumption | omega | (refine decide_eq_true ?_; omega)) | (simp only [hg0, Bool.and_self, Bool.true_and]; done) | (intro hg1; simp only [hg0, hg1, Bool.and_self, Bool.true_and]; done) | (simp [hg0]; done) | exact R8_UL _ _ | exact hrb | (rw [Int.toNat_natCast]; omega) | exact hB2 | exact fun _ => R8_UL _ _ | exact fun _ => hk | (exact fun j hj => absurd hj (Nat.not_lt_zero j)) | (exact fun _ => fun j hj => absurd hj (Nat.not_lt_zero j)))); (conv => whnf); exact True.intro)))
  conv => whnf
  refine ⟨[], ?_⟩
  simp only [eqI_self, cond_true]
  repeat ((conv => whnf); (with_reducible refine And.intro ?_ ?_); · first | with_reducible rfl | exact (Bool.and_false _).symm | (intro _ _; with_reducible rfl) | exact True.intro | assumption | (intro h; exact absurd h (by decide)) | omega | (intro _; omega) | (intro _; refine ⟨?_, True.intro⟩; omega) | (intro _; refine ⟨?_, True.intro⟩; intro _; omega) | (refine decide_eq_false ?_; omega) | (refine decide_eq_true ?_; omega) | (simp only [w_i64, w_u64, w_u32, w_u8]; omega) | exact fun j hj => (put_0 hj).symm | (intro j _; simp only [Nat.zero_add]; done) | (simp [appG]; done) | (simp [appG]; omega) | (intro hgd; (try replace hgd := of_decide_eq_true hgd); (repeat ((conv => whnf); (with_reducible refine And.intro ?_ ?_); · first | with_reducible rfl | exact (Bool.and_false _).symm | (intro _ _; with_reducible rfl) | exact True.intro | assumption | (intro h; exact absurd h (by decide)) | omega | (intro _; omega) | (intro _; refine ⟨?_, True.intro⟩; omega) | (intro _; refine ⟨?_, True.intro⟩; intro _; omega) | (refine decide_eq_false ?_; omega) | (refine decide_eq_true ?_; omega) | (simp only [w_i64, w_u64, w_u32, w_u8]; omega) | exact fun j hj => (put_0 hj).symm | (intro j _; simp only [Nat.zero_add]; done) | (simp [appG]; done) | (simp [appG]; omega))); (conv => whnf); exact True.intro))
  conv => whnf
  exact True.intro
end Go.Proofs.Ytogijkmflhjhkaa

/- From a law's walk to its row: how the caller's arguments read, that they read so behind the call. Plain lemmas; no condition. -/
namespace Go.Sx
open Go.RowKit Go.ChangeShapes Go.WideShapes Go.ChangeAt
set_option linter.unusedSimpArgs false
set_option linter.unusedVariables false
open Go.ChangeMaps (open_string)

/-- An argument's kind. -/
inductive AK where
  | int (k : IntKind)
  | bool
  | str
  | ints (k : IntKind)
  | rows (k : IntKind)
def AK.fits (P : Program) (t : TypeId) : AK → Prop
  | .int k => P.underlying t = some (.int k)
  | .bool => P.underlying t = some .bool
  | .str => P.underlying t = some .string
  | .ints k => ∃ e, P.underlying t = some (.slice e) ∧ P.underlying e = some (.int k) ∧ P.cellsOf e = 1
  | .rows k => ∃ e e', P.underlying t = some (.slice e) ∧ P.underlying e = some (.slice e') ∧ P.underlying e' = some (.int k) ∧ P.cellsOf e = 1 ∧ P.cellsOf e' = 1
def wfN (k : IntKind) (n : Int) : Prop := (Lit.int k n).wf = true
def AK.holds : AK → SC → Prop
  | .int k, c => ∃ n, c = .int k n ∧ wfN k n
  | .bool, c => ∃ b, c = .bool b
  | .str, c => ∃ s, c = .str s
  | .ints k, c => ∃ nl f n, c = .im nl k f n ∧ ∀ j, j < n → wfN k (f j)
  | .rows k, c => ∃ nl r n, c = .rows nl k r n ∧ ∀ j, j < n → ∀ i, i < (r j).n → wfN k ((r j).f i)
/-- The caller's memory: nobody writes it. -/
def rho0 (w : World) : Rho := ⟨fun _ => none, fun A => w.cell? A, fun _ => undef⟩
theorem good0 (w : World) : Good (rho0 w) w [] 0 :=
  ⟨fun _ _ h => (by cases h), fun _ _ h => (by cases h), fun _ _ _ _ _ h => (by cases h), fun _ _ h => (by cases h), fun _ _ h => h, fun _ _ _ h => (by cases h)⟩

section
variable {H : Type} {enc : TypeId × Value → H} {P : Program} {w : World} {r : Reach} {b0 : Nat}

theorem row_of_ints {t e : TypeId} {k : IntKind} {fuel : Nat} {v : Value} {x : DataW H × List MemPlace} (ht : P.underlying t = some (.slice e)) (he : P.underlying e = some (.int k)) (hc : P.cellsOf e = 1)
    (h : DataW.trod enc P w 0 (fun _ => true) true fuel t [v] = some x) : ∃ q : Row, RelRow (rho0 w) k q v ∧ ∀ j, j < q.n → wfN k (q.f j) := by
  rcases open_ints ht he hc h with ⟨e1, _⟩ | ⟨a, len, cap, zs, e1, _, hl, hm, hz, _, hcell, hwf⟩
  · injection e1 with e1
    exact ⟨⟨true, fun _ => 0, 0⟩, .inl ⟨rfl, e1, rfl⟩, fun j hj => absurd hj (by simp)⟩
  · injection e1 with e1
    have hz : zs.length = cap := hz
    refine ⟨⟨false, fun j => zs.getD j 0, len⟩, .inr ⟨rfl, a, cap, e1, hl, hm, fun j hj => hcell j (by simp only at hj; omega)⟩, fun j hj => ?_⟩
    have hj : j < zs.length := by simp only at hj; omega
    have : zs.getD j 0 = zs[j] := by simp [List.getD, hj]
    show wfN k (zs.getD j 0)
    rw [this]
    exact hwf _ (List.getElem_mem hj)

theorem open_ak {t : TypeId} {a : AK} {v : Value} {d : DataW H} {ps : List MemPlace} (hf : a.fits P t) (hval : Value.okWide P w r b0 t v) (hd : DataW.Trod enc P w 0 (fun _ => true) true t v d ps) :
    ∃ c, a.holds c ∧ Rel1 (rho0 w) c v := by
  cases a with
  | int k => obtain ⟨n, rfl, _, _, hw⟩ := open_int hf hval hd; exact ⟨.int k n, ⟨n, rfl, hw⟩, rfl⟩
  | bool => obtain ⟨b, rfl, _, _⟩ := open_bool hf hval hd; exact ⟨.bool b, ⟨b, rfl⟩, rfl⟩
  | str => obtain ⟨s, rfl, _, _, _⟩ := open_string hf hval hd; exact ⟨.str s, ⟨s, rfl⟩, rfl⟩
  | ints k =>
    obtain ⟨e, ht, he, hc⟩ := hf
    obtain ⟨fuel, hd⟩ := hd
    have hv : ∃ A l c, v = .slice A l c := okWide_slice ht hval
    obtain ⟨A, l, c, rfl⟩ := hv
    obtain ⟨q, h1, h2⟩ := row_of_ints ht he hc (by simpa [Value.cells] using hd)
    exact ⟨.im q.nl k q.f q.n, ⟨_, _, _, rfl, h2⟩, h1⟩
  | rows k =>
    obtain ⟨e, e', ht, he, he', hc, hc'⟩ := hf
    obtain ⟨fuel, hd⟩ := hd
    have hv : ∃ A l c, v = .slice A l c := okWide_slice ht hval
    obtain ⟨A, l, c, rfl⟩ := hv
    have hd : DataW.trod enc P w 0 (fun _ => true) true fuel t [.slice A l c] = some (d, ps) := by simpa [Value.cells] using hd
    rcases DataW.trod_slice ht hd with ⟨e1, _⟩ | ⟨a, len, cap, elems, rest, n, _, e1, _, _, hl, hm, hlen, hel, _, _⟩
    · injection e1 with e1
      exact ⟨.rows true k (fun _ => ⟨true, fun _ => 0, 0⟩) 0, ⟨_, _, _, rfl, fun j hj => absurd hj (by omega)⟩, .inl ⟨rfl, e1, rfl⟩⟩
    · injection e1 with e1
      have each : ∀ j, j < len → ∃ u, w.cell? (a.add j) = some u ∧ ∃ q : Row, RelRow (rho0 w) k q u ∧ ∀ i, i < q.n → wfN k (q.f i) := by
        intro j hj
        have h1 := hel j hj
        rw [hc, Nat.mul_one, List.getElem?_eq_getElem (by omega)] at h1
        rw [Option.bind_eq_some_iff] at h1
        obtain ⟨cs, g1, g2⟩ := h1
        have hl1 : cs.length = 1 := (World.cells?_some g1).2.1
        obtain ⟨u, rfl⟩ : ∃ u, cs = [u] := by
          cases cs with
          | nil => simp at hl1
          | cons u r => cases r with
            | nil => exact ⟨u, rfl⟩
            | cons _ _ => simp at hl1
        exact ⟨u, cell_of_cells?_one g1, row_of_ints he he' hc' g2⟩
      let R : Nat → Row := fun j => if h : j < len then ((each j h).choose_spec.2).choose else ⟨true, fun _ => 0, 0⟩
      have hR : ∀ j, j < len → ∃ u, w.cell? (a.add j) = some u ∧ RelRow (rho0 w) k (R j) u ∧ ∀ i, i < (R j).n → wfN k ((R j).f i) := by
        intro j hj
        have e2 : R j = ((each j hj).choose_spec.2).choose := by simp only [R]; rw [dif_pos hj]
        rw [e2]
        exact ⟨(each j hj).choose, (each j hj).choose_spec.1, ((each j hj).choose_spec.2).choose_spec⟩
      refine ⟨.rows false k R len, ⟨_, _, _, rfl, fun j hj => ?_⟩, .inr ⟨rfl, a, cap, e1, hl, hm, fun j hj => ?_⟩⟩
      · obtain ⟨_, _, _, h⟩ := hR j hj; exact h
      · obtain ⟨u, h1, h2, _⟩ := hR j hj; exact ⟨u, h1, h2⟩

def fitsL (P : Program) : List TypeId → List AK → Prop
  | [], [] => True
  | t :: ts, a :: aks => a.fits P t ∧ fitsL P ts aks
  | _, _ => False
def holdsL : List AK → List SC → Prop
  | [], [] => True
  | a :: aks, c :: cs => a.holds c ∧ holdsL aks cs
  | _, _ => False
theorem open_all : ∀ {ts : List TypeId} {aks : List AK} {vs : List Value} {ds : List (DataW H)} {ps : List MemPlace}, fitsL P ts aks → (∀ (j : Nat) t v, ts[j]? = some t → vs[j]? = some v → Value.okWide P w r b0 t v) →
    DataW.TrodAll enc P w 0 (fun _ => true) true ts vs ds ps → ∃ cs, holdsL aks cs ∧ RelL (rho0 w) (cs.map .sc) vs
  | [], [], [], [], _, _, _, _ => ⟨[], trivial, rfl⟩
  | t :: ts, a :: aks, v :: vs, d :: ds, ps, hf, hval, ⟨p, q, h1, h2, _⟩ => by
    obtain ⟨c, g1, g2⟩ := open_ak hf.1 (hval 0 t v rfl rfl) h1
    obtain ⟨cs, g3, g4⟩ := open_all hf.2 (fun j t' v' e1 e2 => hval (j + 1) t' v' e1 e2) h2
    exact ⟨c :: cs, ⟨g1, g3⟩, v, vs, rfl, g2, g4⟩
/-- The arguments read aks before. -/
theorem all_below (hl : laidOutB P = true) {W W' : World} (hb : Below W.heap.size W W') : ∀ {ts : List TypeId} {vs : List Value} {ds : List (DataW H)} {ps : List MemPlace}, (∀ t ∈ ts, P.readableRec t = true ∧ t < P.types.size) →
    DataW.TrodAll enc P W 0 (fun _ => true) true ts vs ds ps → (∀ x ∈ ps, x.block < W.heap.size) → DataW.TrodAll enc P W' 0 (fun b => decide (b < W.heap.size)) true ts vs ds ps
  | [], [], [], ps, _, h, _ => h
  | t :: ts, v :: vs, d :: ds, ps, hr, ⟨p, q, h1, h2, e⟩, hlt => by
    subst e
    exact ⟨p, q, Below.trod hl (hr t (by simp)).1 (hr t (by simp)).2 h1 hb (fun x hx => hlt x (by simp [hx])), all_below hl hb (fun t' ht' => hr t' (by simp [ht'])) h2 (fun x hx => hlt x (by simp [hx])), rfl⟩
theorem below_of_eff {W W' : World} {ρ' : Rho} (h : Eff (rho0 W) ρ' [] 0 [] 0 W W') : Below W.heap.size W W' :=
  ⟨h.os, h.tape, h.output, h.size, fun i hi => h.block i hi fun _ _ _ hg => by cases hg⟩
end
end Go.Sx
namespace Go.Sx
theorem trod_len {H : Type} {enc : TypeId × Value → H} {P : Program} {w : World} {base : Nat} {sp : Nat → Bool} {held : Bool} : ∀ {ts : List TypeId} {vs : List Value} {ds : List (DataW H)} {ps : List MemPlace}, DataW.TrodAll enc P w base sp held ts vs ds ps → ds.length = ts.length
  | [], [], [], _, _ => rfl
  | _ :: _, _ :: _, _ :: _, _, ⟨_, _, _, h, _⟩ => by simp [trod_len h]
end Go.Sx
namespace Go.Sx
theorem wf_iff {k : IntKind} {n : Int} : wfN k n ↔ k.min ≤ n ∧ n ≤ k.max := by
  simp only [wfN, Lit.wf, Bool.and_eq_true, decide_eq_true_eq]
theorem wf_u8 {n : Int} (h : wfN .u8 n) : 0 ≤ n ∧ n < 256 := by
  have e1 : IntKind.u8.min = 0 := by decide
  have e2 : IntKind.u8.max = 255 := by decide
  rw [wf_iff, e1, e2] at h; omega
theorem wf_u32 {n : Int} (h : wfN .u32 n) : 0 ≤ n ∧ n < 4294967296 := by
  have e1 : IntKind.u32.min = 0 := by decide
  have e2 : IntKind.u32.max = 4294967295 := by decide
  rw [wf_iff, e1, e2] at h; omega
theorem wf_u64 {n : Int} (h : wfN .u64 n) : 0 ≤ n ∧ n < 18446744073709551616 := by
  have e1 : IntKind.u64.min = 0 := by decide
  have e2 : IntKind.u64.max = 18446744073709551615 := by decide
  rw [wf_iff, e1, e2] at h; omega
theorem wf_i64 {n : Int} (h : wfN .i64 n) : -9223372036854775808 ≤ n ∧ n ≤ 9223372036854775807 := by
  have e1 : IntKind.i64.min = -9223372036854775808 := by decide
  have e2 : IntKind.i64.max = 9223372036854775807 := by decide
  rw [wf_iff, e1, e2] at h; exact h
end Go.Sx
namespace Go.Sx
theorem holdsL_cons {a : AK} {aks : List AK} : ∀ {cs : List SC}, holdsL (a :: aks) cs → ∃ c r, cs = c :: r ∧ a.holds c ∧ holdsL aks r
  | c :: r, h => ⟨c, r, rfl, h.1, h.2⟩
theorem holdsL_nil : ∀ {cs : List SC}, holdsL [] cs → cs = []
  | [], _ => rfl
end Go.Sx
