/- The laws of sha, through the evaluator: parts, a bit. No condition. -/
import Derived.Test.YtogijkmflhjhkaaSxT
import Derived.Test.YtogijkmflhjhkaaSxU
import Derived.Test.YtogijkmflhjhkaaL1
namespace Go.Proofs.Ytogijkmflhjhkaa
open Go.Sx Go.RowKit
set_option linter.unusedSimpArgs false
set_option maxRecDepth 100000
set_option maxHeartbeats 1000000
set_option linter.unusedVariables false

theorem neqI_self (n : Nat) (f : Nat → Int) : (!eqI n f f) = false := by rw [eqI_self]; rfl
theorem R8_upd {f : Nat → Int} {n i : Nat} {x : Int} (hf : R8 f n) (hx : 0 ≤ x ∧ x < 256) : R8 (upd f i x) n := fun j hj => by
  unfold upd
  split
  · exact hx
  · exact hf j hj
theorem bits8 (x y : Int) : 0 ≤ bits .xor .u8 x y ∧ bits .xor .u8 x y < 256 := by
  show 0 ≤ IntKind.u8.wrap _ ∧ IntKind.u8.wrap _ < 256
  rw [w_u8]; omega
theorem cat_one (r : Row) : cat (fun _ => r) 1 = L8 r.f r.n := rfl
theorem cut_R00 {G : Nat → Int} {n : Nat} (hR : R8 G n) : R8 (fun j => G (0 + 0 + j)) n := fun j hj => by
  show 0 ≤ G (0 + 0 + j) ∧ G (0 + 0 + j) < 256
  exact hR _ (by omega)
theorem put_self {f : Nat → Int} {n : Nat} : L8 (put_ (fun _ => 0) 0 n f) n = L8 f n := L8_congr fun j hj => put_0 hj
theorem shaUnlike_law (nl : Bool) (b : Nat → Int) (nb : Nat) (bit : Int) (hb : R8 b nb) (hbit : -9223372036854775808 ≤ bit ∧ bit ≤ 9223372036854775807) :
    FCalls Try.prog 11 [.sc (.im nl .u8 b nb), .sc (.int .i64 bit)] [] 0 isTrue := by
  refine fcalls_of_run tt_ok cokL3 mixed_ok Try.func11 rfl (rs := _) Try.results11 (size := 67) Try.ntmps11 (Nat.le_of_ble_eq_true rfl) rfl fun hp hfa hfh => ?_
  have hrb : R8 b (min nb (Int.toNat 150)) := R8_le hb (by omega)
  have hmb : min nb (Int.toNat 150) ≤ 150 := Nat.min_le_right _ _
  repeat ((conv => whnf); (with_reducible refine And.intro ?_ ?_); · first | exact True.intro | (intro hg0; simp only [hg0, Bool.not_false, Bool.not_true]; done) | assumption | omega | (intro _; refine ⟨True.intro, ?_⟩; omega) | (intro _; refine ⟨?_, True.intro⟩; omega) | (intro _; refine ⟨decide_eq_true ?_, ?_⟩ <;> omega) | (intro _; refine ⟨?_, ?_⟩ <;> first | omega | (simp [appG, Cd.holds]; done) | (simp [appG, Cd.holds]; omega)) | (refine decide_eq_true ?_; omega) | (intro _; omega) | (simp only [w_i64, w_u64, w_u32, w_u8]; omega) | exact ⟨U_nonneg _, U_lt32 _⟩ | exact R8_UL _ _ | exact R32_UL _ _ | (intro hg0; (repeat ((conv => whnf); (with_reducible refine And.intro ?_ ?_); · first | assumption | omega | (intro _; refine ⟨?_, ?_⟩ <;> first | assumption | omega | exact True.intro | (refine decide_eq_true ?_; omega) | (simp [appG, Cd.holds]; omega)) | (intro _; refine ⟨And.intro ?_ ?_, ?_⟩ <;> first | assumption | omega | (refine decide_eq_true ?_; omega)) | (simp only [hg0, Bool.and_self, Bool.true_and]; done) | (intro hg1; simp only [hg0, hg1, Bool.and_self, Bool.true_and]; done) | (simp [hg0]; done))); (conv => whnf); exact True.intro))
  conv => whnf
  refine ⟨fun h1 => (nomatch h1), fun h1 => ?_⟩
  repeat ((conv => whnf); (with_reducible refine And.intro ?_ ?_); · first | exact True.intro | (intro hg0; simp only [hg0, Bool.not_false, Bool.not_true]; done) | assumption | omega | (intro _; refine ⟨True.intro, ?_⟩; omega) | (intro _; refine ⟨?_, True.intro⟩; omega) | (intro _; refine ⟨decide_eq_true ?_, ?_⟩ <;> omega) | (intro _; refine ⟨?_, ?_⟩ <;> first | omega | (simp [appG, Cd.holds]; done) | (simp [appG, Cd.holds]; omega)) | (refine decide_eq_true ?_; omega) | (intro _; omega) | (simp only [w_i64, w_u64, w_u32, w_u8]; omega) | exact ⟨U_nonneg _, U_lt32 _⟩ | exact R8_UL _ _ | exact R32_UL _ _ | (intro hg0; (repeat ((conv => whnf); (with_reducible refine And.intro ?_ ?_); · first | assumption | omega | (intro _; refine ⟨?_, ?_⟩ <;> first | assumption | omega | exact True.intro | (refine decide_eq_true ?_; omega) | (simp [appG, Cd.holds]; omega)) | (intro _; refine ⟨And.intro ?_ ?_, ?_⟩ <;> first | assumption | omega | (refine decide_eq_true ?_; omega)) | (simp only [hg0, Bool.and_self, Bool.true_and]; done) | (intro hg1; simp only [hg0, hg1, Bool.and_self, Bool.true_and]; done) | (simp [hg0]; done))); (conv => whnf); exact True.intro))
  conv => whnf
  generalize min nb (Int.toNat 150) = m at *
  refine ⟨fun h2 => ?_, fun h2 => ?_⟩
  · repeat ((conv => whnf); (with_reducible refine And.intro ?_ ?_); · first | exact True.intro | (intro hg0; simp only [hg0, Bool.not_false, Bool.not_true]; done) | assumption | omega | (intro _; refine ⟨True.intro, ?_⟩; omega) | (intro _; refine ⟨?_, True.intro⟩; omega) | (intro _; refine ⟨decide_eq_true ?_, ?_⟩ <;> omega) | (intro _; refine ⟨?_, ?_⟩ <;> first | omega | (simp [appG, Cd.holds]; done) | (simp [appG, Cd.holds]; omega)) | (refine decide_eq_true ?_; omega) | (intro _; omega) | (simp only [w_i64, w_u64, w_u32, w_u8]; omega) | exact ⟨U_nonneg _, U_lt32 _⟩ | exact R8_UL _ _ | exact R32_UL _ _ | (intro hg0; (repeat ((conv => whnf); (with_reducible refine And.intro ?_ ?_); · first | assumption | omega | (intro _; refine ⟨?_, ?_⟩ <;> first | assumption | omega | exact True.intro | (refine decide_eq_true ?_; omega) | (simp [appG, Cd.holds]; omega)) | (intro _; refine ⟨And.intro ?_ ?_, ?_⟩ <;> first | assumption | omega | (refine decide_eq_true ?_; omega)) | (simp only [hg0, Bool.and_self, Bool.true_and]; done) | (intro hg1; simp only [hg0, hg1, Bool.and_self, Bool.true_and]; done) | (simp [hg0]; done))); (conv => whnf); exact True.intro))
    conv => whnf
    refine ⟨[], ?_⟩
    repeat ((conv => whnf); (with_reducible refine And.intro ?_ ?_); · first | with_reducible rfl | exact (Bool.and_false _).symm | (intro _ _; with_reducible rfl) | exact True.intro | assumption | (intro h; exact absurd h (by decide)) | omega | (intro _; omega) | (intro _; refine ⟨?_, True.intro⟩; omega) | (intro _; refine ⟨?_, True.intro⟩; intro _; omega) | (refine decide_eq_false ?_; omega) | (refine decide_eq_true ?_; omega) | (simp only [w_i64, w_u64, w_u32, w_u8]; omega) | exact fun j hj => (put_0 hj).symm | (intro j _; simp only [Nat.zero_add]; done) | (simp [appG]; done) | (simp [appG]; omega) | (intro hgd; (try replace hgd := of_decide_eq_true hgd); (repeat ((conv => whnf); (with_reducible refine And.intro ?_ ?_); · first | with_reducible rfl | exact (Bool.and_false _).symm | (intro _ _; with_reducible rfl) | exact True.intro | assumption | (intro h; exact absurd h (by decide)) | omega | (intro _; omega) | (intro _; refine ⟨?_, True.intro⟩; omega) | (intro _; refine ⟨?_, True.intro⟩; intro _; omega) | (refine decide_eq_false ?_; omega) | (refine decide_eq_true ?_; omega) | (simp only [w_i64, w_u64, w_u32, w_u8]; omega) | exact fun j hj => (put_0 hj).symm | (intro j _; simp only [Nat.zero_add]; done) | (simp [appG]; done) | (simp [appG]; omega))); (conv => whnf); exact True.intro))
    conv => whnf
    exact True.intro
  have hg : m ≠ 0 ∧ 0 ≤ bit := by
    obtain ⟨q1, q2⟩ := orF h2
    replace q2 := of_decide_eq_false q2
    rw [beq_eq_false_iff_ne] at q1
    omega
  clear h2
  have hk : IntKind.i64.wrap (8 * ((0 + m : Nat) : Int)) = ((8 * m : Nat) : Int) := by rw [w_i64, Int.emod_eq_of_lt (by omega) (by omega)]; omega
  have hq : 0 ≤ bit.tmod ((8 * m : Nat) : Int) ∧ bit.tmod ((8 * m : Nat) : Int) < ((8 * m : Nat) : Int) := ⟨Int.tmod_nonneg _ hg.2, Int.tmod_lt_of_pos _ (by omega)⟩
  obtain ⟨k, hkk⟩ : ∃ k : Nat, bit.tmod ((8 * m : Nat) : Int) = (k : Int) := ⟨(bit.tmod ((8 * m : Nat) : Int)).toNat, by omega⟩
  have hkm : k < 8 * m := by omega
  have hd : IntKind.i64.wrap ((k : Int).tdiv 8) = ((k / 8 : Nat) : Int) := by rw [show (k : Int).tdiv 8 = ((k / 8 : Nat) : Int) from rfl, w_i64, Int.emod_eq_of_lt (by omega) (by omega)]; omega
  have hr : IntKind.u64.wrap ((k : Int).tmod 8) = ((k % 8 : Nat) : Int) := by rw [show (k : Int).tmod 8 = ((k % 8 : Nat) : Int) from rfl, w_u64]; omega
  repeat ((conv => whnf); (with_reducible refine And.intro ?_ ?_); · first | exact True.intro | (intro hg0; simp only [hg0, Bool.not_false, Bool.not_true]; done) | assumption | omega | (intro _; refine ⟨True.intro, ?_⟩; omega) | (intro _; refine ⟨?_, True.intro⟩; omega) | (intro _; refine ⟨decide_eq_true ?_, ?_⟩ <;> omega) | (intro _; refine ⟨?_, ?_⟩ <;> first | omega | (simp [appG, Cd.holds]; done) | (simp [appG, Cd.holds]; omega)) | (refine decide_eq_true ?_; omega) | (intro _; omega) | (simp only [hk, hkk, hd, hr]; omega) | (simp only [hk, hkk, hd, hr]; intro _; refine ⟨?_, ?_⟩ <;> first | omega | (refine decide_eq_true ?_; omega)) | exact ⟨U_nonneg _, U_lt32 _⟩ | exact R8_UL _ _ | exact R32_UL _ _ | (intro hg0; (repeat ((conv => whnf); (with_reducible refine And.intro ?_ ?_); · first | assumption | omega | (intro _; refine ⟨?_, ?_⟩ <;> first | assumption | omega | exact True.intro | (refine decide_eq_true ?_; omega) | (simp [appG, Cd.holds]; omega)) | (intro _; refine ⟨And.intro ?_ ?_, ?_⟩ <;> first | assumption | omega | (refine decide_eq_true ?_; omega)) | (simp only [hg0, Bool.and_self, Bool.true_and]; done) | (intro hg1; simp only [hg0, hg1, Bool.and_self, Bool.true_and]; done) | (simp [hg0]; done))); (conv => whnf); exact True.intro))
  conv => whnf
  simp only [hk, hkk, hd, hr]
  have hRc : R8 (upd (put_ (fun x => 0) 0 m b) (0 + ((k / 8 : Nat) : Int).toNat) (bits .xor .u8 (put_ (fun x => 0) 0 m b (0 + ((k / 8 : Nat) : Int).toNat)) (IntKind.u8.wrap (1 * 2 ^ min ((k % 8 : Nat) : Int).toNat IntKind.u8.bits)))) (0 + m) := by
    refine R8_upd (R8_put (R8_0 _) hrb) (bits8 _ _)
  generalize hG : upd (put_ (fun x => 0) 0 m b) (0 + ((k / 8 : Nat) : Int).toNat) (bits .xor .u8 (put_ (fun x => 0) 0 m b (0 + ((k / 8 : Nat) : Int).toNat)) (IntKind.u8.wrap (1 * 2 ^ min ((k % 8 : Nat) : Int).toNat IntKind.u8.bits))) = G at *
  clear hG
  refine ⟨[(0, ⟨0, some 38, []⟩), (1, ⟨1, some 39, [17]⟩), (2, ⟨3, some 40, []⟩), (3, ⟨0, some 41, []⟩), (4, ⟨15, some 42, []⟩), (5, ⟨31, some 43, []⟩), (6, ⟨63, some 44, []⟩), (7, ⟨127, some 45, []⟩), (8, ⟨255, some 46, [129]⟩), (9, ⟨511, some 47, []⟩), (10, ⟨127, some 48, []⟩), (11, ⟨2047, some 49, []⟩), (12, ⟨4095, some 50, []⟩), (13, ⟨8191, some 51, []⟩), (14, ⟨16383, some 52, []⟩), (15, ⟨32767, some 53, []⟩), (16, ⟨65535, some 54, [257]⟩), (17, ⟨131071, some 55, []⟩), (18, ⟨32767, some 56, []⟩), (19, ⟨294911, some 57, [305]⟩), (20, ⟨1048575, some 58, []⟩), (21, ⟨2097151, some 59, []⟩), (22, ⟨32767, some 60, []⟩), (23, ⟨6291455, some 61, []⟩), (24, ⟨32767, some 62, []⟩), (25, ⟨31457279, some 63, []⟩), (26, ⟨65011711, some 64, []⟩), (27, ⟨134217727, some 65, []⟩), (28, ⟨268435455, some 66, []⟩), (29, ⟨536870911, some 4, []⟩)], 481, ?_⟩
  repeat ((conv => whnf); (with_reducible refine And.intro ?_ ?_); · first | exact True.intro | (intro hg0; simp only [hg0, Bool.not_false, Bool.not_true]; done) | assumption | omega | (intro _; refine ⟨True.intro, ?_⟩; omega) | (intro _; refine ⟨?_, True.intro⟩; omega) | (intro _; refine ⟨decide_eq_true ?_, ?_⟩ <;> omega) | (intro _; refine ⟨?_, ?_⟩ <;> first | omega | (simp [appG, Cd.holds]; done) | (simp [appG, Cd.holds]; omega)) | (refine decide_eq_true ?_; omega) | (intro _; omega) | (simp only [w_i64, w_u64, w_u32, w_u8]; omega) | exact ⟨U_nonneg _, U_lt32 _⟩ | exact R8_UL _ _ | exact R32_UL _ _ | (intro hg0; (repeat ((conv => whnf); (with_reducible refine And.intro ?_ ?_); · first | assumption | omega | (intro _; refine ⟨?_, ?_⟩ <;> first | assumption | omega | exact True.intro | (refine decide_eq_true ?_; omega) | (simp [appG, Cd.holds]; omega)) | (intro _; refine ⟨And.intro ?_ ?_, ?_⟩ <;> first | assumption | omega | (refine decide_eq_true ?_; omega)) | (simp only [hg0, Bool.and_self, Bool.true_and]; done) | (intro hg1; simp only [hg0, hg1, Bool.and_self, Bool.true_and]; done) | (simp [hg0]; done) | exact fun j _ => hrb | exact fun j _ => cut_R00 hRc | exact fun j _ => cut_R0 hRc | exact fun _ => hg0 | exact Eq.refl 1 | (simp only [cat_one, L8_length]; omega) | exact cut_R0 hRc)); (conv => whnf); exact True.intro) | exact fun j _ => hrb | exact fun j _ => cut_R00 hRc | exact fun j _ => cut_R0 hRc | exact fun _ => hg0 | exact Eq.refl 1 | (simp only [cat_one, L8_length]; omega) | exact cut_R0 hRc)
  conv => whnf
  refine ⟨[], ?_⟩
  simp only [cat_one, Nat.zero_add, eqI_self, beq_self_eq_true, Bool.not_true]

  repeat ((conv => whnf); (with_reducible refine And.intro ?_ ?_); · first | with_reducible rfl | exact (Bool.and_false _).symm | (intro _ _; with_reducible rfl) | exact True.intro | assumption | (intro h; exact absurd h (by decide)) | omega | (intro _; omega) | (intro _; refine ⟨?_, True.intro⟩; omega) | (intro _; refine ⟨?_, True.intro⟩; intro _; omega) | (refine decide_eq_false ?_; omega) | (refine decide_eq_true ?_; omega) | (simp only [w_i64, w_u64, w_u32, w_u8]; omega) | exact fun j hj => (put_0 hj).symm | (intro j _; simp only [Nat.zero_add]; done) | (simp [appG]; done) | (simp [appG]; omega) | (intro hgd; (try replace hgd := of_decide_eq_true hgd); (repeat ((conv => whnf); (with_reducible refine And.intro ?_ ?_); · first | with_reducible rfl | exact (Bool.and_false _).symm | (intro _ _; with_reducible rfl) | exact True.intro | assumption | (intro h; exact absurd h (by decide)) | omega | (intro _; omega) | (intro _; refine ⟨?_, True.intro⟩; omega) | (intro _; refine ⟨?_, True.intro⟩; intro _; omega) | (refine decide_eq_false ?_; omega) | (refine decide_eq_true ?_; omega) | (simp only [w_i64, w_u64, w_u32, w_u8]; omega) | exact fun j hj => (put_0 hj).symm | (intro j _; simp only [Nat.zero_add]; done) | (simp [appG]; done) | (simp [appG]; omega))); (conv => whnf); exact True.intro))
  conv => whnf
  exact True.intro
end Go.Proofs.Ytogijkmflhjhkaa
