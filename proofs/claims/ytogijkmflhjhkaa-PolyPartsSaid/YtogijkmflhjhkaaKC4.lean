/- Many texts in one: F33, F34, F35, Aea, F2, F3, F4, F5, F6, F7. No condition. -/
import Derived.Test.YtogijkmflhjhkaaKC3
import Derived.Lib.Mul64
import Derived.Laws.Externs

/- Functions through the evaluator: numbers of 128 bits and more, as Poly1305 needs them. No condition. -/
namespace Go.Proofs.Ytogijkmflhjhkaa
open Go.Sx Go.RowKit
set_option maxRecDepth 100000
set_option maxHeartbeats 1000000
set_option linter.unusedVariables false
set_option linter.unusedSimpArgs false

/-- math/bits.Add64. -/
def add64S : Summary := mkS false [.v, .v, .v] fun
  | [.v (.sc (.int .u64 x)), .v (.sc (.int .u64 y)), .v (.sc (.int .u64 c))] => some ⟨.and (.p (u64R x)) (.and (.p (u64R y)) (.p (0 ≤ c ∧ c ≤ 1))),
      some (.tup [.sc (.int .u64 ((x + y + c) % 18446744073709551616)), .sc (.int .u64 ((x + y + c) / 18446744073709551616))]), [], 0⟩
  | _ => none
theorem add64S_ok : SumOk Try.prog 96 add64S := by
  unfold add64S
  apply sum_ok
  intro vs A H n o r hb h
  split at h
  rotate_left
  · cases h
  rename_i x y c
  injection h with h
  subst h
  cases hb
  intro ρ w vs hg hv hp
  obtain ⟨hx, hy, hc⟩ := hp
  obtain ⟨v1, r1, rfl, hv1, v2, r2, rfl, hv2, v3, r3, rfl, hv3, rfl⟩ := hv
  cases hv1
  cases hv2
  cases hv3
  intro op a next Q hn
  have e := run_callFunc_extern (P := Try.prog) (f := 96) (fn := Try.f96) (e := add64Entry) rfl (by decide) rfl rfl (by rfl) #[.int .u64 x, .int .u64 y, .int .u64 c] w
  rw [run_add64 x y c hx.1 hy.1 hc.1 hc.2] at e
  show op.upon _ a next Q ((callFunc 96 #[.int .u64 x, .int .u64 y, .int .u64 c]).run Try.prog w)
  rw [e]
  refine hn _ w ⟨ρ, Eff.refl _ _ _ _, fun sv hsv => ?_⟩
  cases hsv
  exact ⟨_, rfl, _, _, rfl, rfl, _, _, rfl, rfl, rfl⟩

theorem mask32 {a : Int} (h0 : 0 ≤ a) (h1 : a < 18446744073709551616) : bits .and .u64 a 4294967295 = a % 4294967296 := by
  obtain ⟨n, rfl⟩ := Int.eq_ofNat_of_zero_le h0
  have h := and_u64 (a := n) (m := 4294967295) (by omega) (by omega)
  rw [show (n &&& 4294967295) = n % 4294967296 from Nat.and_two_pow_sub_one_eq_mod n 32] at h
  exact h
theorem mdivN (a : Nat) : (a : Int) / 4294967296 = ((a / 4294967296 : Nat) : Int) := by omega
theorem mmulN (a b : Nat) : (a : Int) * (b : Int) = ((a * b : Nat) : Int) := (Int.natCast_mul a b).symm
theorem maddN (a b : Nat) : (a : Int) + (b : Int) = ((a + b : Nat) : Int) := (Int.natCast_add a b).symm
theorem mwrap {a : Nat} (ha : a < 18446744073709551616) : IntKind.u64.wrap (a : Int) = (a : Int) := w64_nat ha
theorem mmask (a : Nat) (h : a < 18446744073709551616) : bits .and .u64 (a : Int) 4294967295 = ((a % 4294967296 : Nat) : Int) := by
  rw [mask32 (by omega) (by omega)]; omega
theorem mdivB (a : Nat) : (a : Int) / 18446744073709551616 = ((a / 18446744073709551616 : Nat) : Int) := by omega
theorem mmodB (a : Nat) : (a : Int) % 18446744073709551616 = ((a % 18446744073709551616 : Nat) : Int) := by omega
theorem sh32 : min (Int.toNat 32) IntKind.u64.bits = 32 := rfl
/-- math/bits.Mul64. -/
def mul64S : Summary := mkS false [.v, .v] fun
  | [.v (.sc (.int .u64 x)), .v (.sc (.int .u64 y))] => some ⟨.and (.p (u64R x)) (.p (u64R y)),
      some (.tup [.sc (.int .u64 (x * y / 18446744073709551616)), .sc (.int .u64 (x * y % 18446744073709551616))]), [], 0⟩
  | _ => none
theorem mul64S_ok : SumOk Try.prog 97 mul64S := by
  unfold mul64S
  apply sum_ok
  intro vs A H n o r hb h
  split at h
  rotate_left
  · cases h
  rename_i x y
  injection h with h
  subst h
  cases hb
  refine fsound_of_run tt_ok cok_nil mixed_ok Try.call97 Try.func97 rfl (rs := _) Try.results97 (size := 51) Try.ntmps97 (Nat.le_of_ble_eq_true rfl) rfl fun hp hfa hfh => ?_
  obtain ⟨hx, hy⟩ := hp
  obtain ⟨X, rfl⟩ := Int.eq_ofNat_of_zero_le hx.1
  obtain ⟨Y, rfl⟩ := Int.eq_ofNat_of_zero_le hy.1
  have hX : X < 18446744073709551616 := by have := hx.2; omega
  have hY : Y < 18446744073709551616 := by have := hy.2; omega
  obtain ⟨bb, bt, bw, bh⟩ := Go.Lib.mul64_hi X Y hX hY
  have ba := Go.Lib.half_mul_le (a := X / 4294967296) (b := Y / 4294967296) (by omega) (by omega)
  have bc := Go.Lib.half_mul_le (a := X / 4294967296) (b := Y % 4294967296) (by omega) (by omega)
  have bd := Go.Lib.half_mul_le (a := X % 4294967296) (b := Y / 4294967296) (by omega) (by omega)
  repeat ((conv => whnf); (with_reducible refine And.intro ?_ ?_); · first | exact True.intro | with_reducible assumption | omega | (intro _; refine ⟨True.intro, ?_⟩; omega) | (intro _; refine ⟨?_, True.intro⟩; omega) | (intro _; omega) | (refine decide_eq_true ?_; omega) | (intro _; refine ⟨decide_eq_true ?_, ?_⟩ <;> omega) | (simp only [w_i64, w_u64, w_u32, w_u8]; omega) | exact R8_UL _ _ | (intro hg0; (repeat ((conv => whnf); (with_reducible refine And.intro ?_ ?_); · first | assumption | omega | (intro _; refine ⟨?_, ?_⟩ <;> first | assumption | omega) | (simp only [hg0, Bool.and_self, Bool.true_and]; done))); (conv => whnf); exact True.intro))
  conv => whnf
  refine ⟨[], ?_⟩
  simp only [sh32, show (2 : Int) ^ 32 = 4294967296 from rfl, mdivN, mmask X hX, mmask Y hY, mmulN, maddN, mwrap bb, mwrap (show X / 4294967296 * (Y % 4294967296) < 18446744073709551616 by omega), mwrap bt, mmask _ bt, mwrap (show X % 4294967296 * (Y / 4294967296) < 18446744073709551616 by omega), mwrap bw,
    mwrap (show X / 4294967296 * (Y / 4294967296) < 18446744073709551616 by omega),
    mwrap (show X / 4294967296 * (Y / 4294967296) + (X / 4294967296 * (Y % 4294967296) + X % 4294967296 * (Y % 4294967296) / 4294967296) / 4294967296 < 18446744073709551616 by omega),
    mwrap (show X / 4294967296 * (Y / 4294967296) + (X / 4294967296 * (Y % 4294967296) + X % 4294967296 * (Y % 4294967296) / 4294967296) / 4294967296 + ((X / 4294967296 * (Y % 4294967296) + X % 4294967296 * (Y % 4294967296) / 4294967296) % 4294967296 + X % 4294967296 * (Y / 4294967296)) / 4294967296 < 18446744073709551616 by rw [bh]; exact Nat.div_lt_of_lt_mul (Nat.mul_lt_mul'' hX hY)), bh, w_u64, mdivB, mmodB]
  repeat ((conv => whnf); (with_reducible refine And.intro ?_ ?_); · first | with_reducible rfl | exact (Bool.and_false _).symm | (intro _ _; with_reducible rfl) | exact True.intro | assumption | (intro h; exact absurd h (by decide)) | omega | (intro _; omega) | (intro _; refine ⟨?_, True.intro⟩; omega) | (intro _; refine ⟨?_, True.intro⟩; intro _; omega) | (refine decide_eq_false ?_; omega) | (refine decide_eq_true ?_; omega) | (simp only [w_i64, w_u64, w_u32, w_u8]; omega) | exact fun j hj => (put_0 hj).symm | (intro j _; simp only [Nat.zero_add]; done) | (simp [appG]; done) | (simp [appG]; omega) | (intro hgd; (try replace hgd := of_decide_eq_true hgd); (repeat ((conv => whnf); (with_reducible refine And.intro ?_ ?_); · first | with_reducible rfl | exact (Bool.and_false _).symm | (intro _ _; with_reducible rfl) | exact True.intro | assumption | (intro h; exact absurd h (by decide)) | omega | (intro _; omega) | (intro _; refine ⟨?_, True.intro⟩; omega) | (intro _; refine ⟨?_, True.intro⟩; intro _; omega) | (refine decide_eq_false ?_; omega) | (refine decide_eq_true ?_; omega) | (simp only [w_i64, w_u64, w_u32, w_u8]; omega) | exact fun j hj => (put_0 hj).symm | (intro j _; simp only [Nat.zero_add]; done) | (simp [appG]; done) | (simp [appG]; omega))); (conv => whnf); exact True.intro))
  conv => whnf
  exact True.intro

/-- poly.read. -/
def readS : Summary := mkS false [.r .u8, .v] fun
  | [.r nl g n, .v (.sc (.int .u64 x))] => some ⟨.and (.p (R8 g n)) (.and (.p (16 ≤ n)) (.p (u64R x))),
      some (.sa (.agg [.ints .u64 (lim (leN (L8 g 16) + x.toNat * 340282366920938463463374607431768211456)) 3])), [], 0⟩
  | _ => none
theorem readS_ok : SumOk Try.prog 78 readS := by
  unfold readS
  apply sum_ok
  intro vs A H n o r hb h
  split at h
  rotate_left
  · cases h
  rename_i nl g n0 x
  injection h with h
  subst h
  cases hb
  refine fsound_of_run tt_ok cok_nil mixed_ok Try.call78 Try.func78 rfl (rs := _) Try.results78 (size := 29) Try.ntmps78 (Nat.le_of_ble_eq_true rfl) rfl fun hp hfa hfh => ?_
  obtain ⟨hg, hn, hx⟩ := hp
  have hg : R8 g n0 := hg
  have hn : 16 ≤ n0 := hn
  have hx : u64R x := hx
  obtain ⟨X, rfl⟩ := Int.eq_ofNat_of_zero_le hx.1
  have hX : X < 18446744073709551616 := by have := hx.2; omega
  obtain ⟨K, hK⟩ : ∃ K, K = L8 g 16 := ⟨_, rfl⟩
  have hKl : K.length = 16 := by rw [hK, L8_length]
  have hKj : ∀ j, j < 16 → g j = ((K.getD j 0).toNat : Int) := fun j hj => by rw [hK, ← show UL (L8 g 16) j = ((L8 g 16).getD j 0).toNat from rfl, UL_L8 (R8_le hg hn) j hj]
  rw [← hK, Int.toNat_natCast]
  repeat ((conv => whnf); (with_reducible refine And.intro ?_ ?_); · first | exact True.intro | with_reducible assumption | omega | (intro _; refine ⟨True.intro, ?_⟩; omega) | (intro _; refine ⟨?_, True.intro⟩; omega) | (intro _; omega) | (refine decide_eq_true ?_; omega) | (intro _; refine ⟨decide_eq_true ?_, ?_⟩ <;> omega) | (simp only [w_i64, w_u64, w_u32, w_u8]; omega) | exact R8_UL _ _ | (intro hg0; (repeat ((conv => whnf); (with_reducible refine And.intro ?_ ?_); · first | assumption | omega | (intro _; refine ⟨?_, ?_⟩ <;> first | assumption | omega) | (simp only [hg0, Bool.and_self, Bool.true_and]; done))); (conv => whnf); exact True.intro))
  conv => whnf
  refine ⟨0, Nat, fun i => ⟨29, [(0, .sa (.sc (.im nl .u8 g n0))), (4, .sa (.sc (.ptr 0 0 0))), (5, .sa (.sc (.ptr 1 0 0))), (9, .sa (.sc (.int .i64 i)))],
    [(0, .own 98 [.ints .u64 (fun _ => 0) 3] false), (1, .own 98 [.ints .u64 (lim (leN (K.take i) + X * 340282366920938463463374607431768211456)) 3] false)], 2⟩, fun i => i ≤ 16, fun i => 16 - i, ⟨0, by omega, le_of [] ?_⟩, fun i hi => ?_⟩
  · have h0 : ∀ j, j < 3 → lim (leN (K.take 0) + X * 340282366920938463463374607431768211456) j = listI [(X : Int), 0, 0].reverse j := fun j hj => by
      refine (lim_ext (f := listI [(X : Int), 0, 0].reverse) ?_ ?_ ?_ j hj).symm
      · rw [lim0]; simp only [List.take_zero, leN]; show (0 : Int) = _; omega
      · rw [lim1]; simp only [List.take_zero, leN]; show (0 : Int) = _; omega
      · rw [lim2]; simp only [List.take_zero, leN]; show (X : Int) = _; omega
    repeat ((conv => whnf); (with_reducible refine And.intro ?_ ?_); · first | with_reducible rfl | exact (Bool.and_false _).symm | (intro _ _; with_reducible rfl) | exact True.intro | assumption | (intro h; exact absurd h (by decide)) | omega | (intro _; omega) | (intro _; refine ⟨?_, True.intro⟩; omega) | (intro _; refine ⟨?_, True.intro⟩; intro _; omega) | (refine decide_eq_false ?_; omega) | (refine decide_eq_true ?_; omega) | (simp only [w_i64, w_u64, w_u32, w_u8]; omega) | exact fun j hj => (put_0 hj).symm | (intro j _; simp only [Nat.zero_add]; done) | (simp [appG]; done) | (simp [appG]; omega) | exact h0 | (intro hgd; (try replace hgd := of_decide_eq_true hgd); (repeat ((conv => whnf); (with_reducible refine And.intro ?_ ?_); · first | with_reducible rfl | exact (Bool.and_false _).symm | (intro _ _; with_reducible rfl) | exact True.intro | assumption | (intro h; exact absurd h (by decide)) | omega | (intro _; omega) | (intro _; refine ⟨?_, True.intro⟩; omega) | (intro _; refine ⟨?_, True.intro⟩; intro _; omega) | (refine decide_eq_false ?_; omega) | (refine decide_eq_true ?_; omega) | (simp only [w_i64, w_u64, w_u32, w_u8]; omega) | exact fun j hj => (put_0 hj).symm | (intro j _; simp only [Nat.zero_add]; done) | (simp [appG]; done) | (simp [appG]; omega) | exact h0)); (conv => whnf); exact True.intro))
    conv => whnf
    exact True.intro
  have hi : i ≤ 16 := hi
  repeat ((conv => whnf); (with_reducible refine And.intro ?_ ?_); · first | exact True.intro | with_reducible assumption | omega | (intro _; refine ⟨True.intro, ?_⟩; omega) | (intro _; refine ⟨?_, True.intro⟩; omega) | (intro _; omega) | (refine decide_eq_true ?_; omega) | (intro _; refine ⟨decide_eq_true ?_, ?_⟩ <;> omega) | (simp only [w_i64, w_u64, w_u32, w_u8]; omega) | exact R8_UL _ _ | (intro hg0; (repeat ((conv => whnf); (with_reducible refine And.intro ?_ ?_); · first | assumption | omega | (intro _; refine ⟨?_, ?_⟩ <;> first | assumption | omega) | (simp only [hg0, Bool.and_self, Bool.true_and]; done))); (conv => whnf); exact True.intro))
  conv => whnf
  refine ⟨fun h1 => ?_, fun h1 => ?_⟩
  · replace h1 := of_decide_eq_true h1
    have hi16 : i < 16 := by omega
    have q1 : IntKind.i64.wrap (((i : Nat) : Int).tdiv 8) = ((i / 8 : Nat) : Int) := by rw [show ((i : Nat) : Int).tdiv 8 = ((i / 8 : Nat) : Int) from rfl, w_i64]; omega
    have q2 : ((i : Nat) : Int).tmod 8 = ((i % 8 : Nat) : Int) := rfl
    have q3 : IntKind.i64.wrap (8 * ((i % 8 : Nat) : Int)) = ((8 * (i % 8) : Nat) : Int) := by rw [w_i64]; omega
    have hq : i / 8 < 3 := by omega
    refine ⟨[(0, ⟨0, some 12, []⟩), (1, ⟨1, some 13, []⟩), (2, ⟨3, some 14, []⟩), (3, ⟨7, some 15, []⟩), (4, ⟨0, some 16, []⟩), (5, ⟨0, some 17, []⟩), (6, ⟨48, some 18, []⟩), (7, ⟨112, some 19, []⟩), (8, ⟨240, some 20, []⟩), (9, ⟨0, some 21, []⟩), (10, ⟨512, some 22, []⟩), (11, ⟨1536, some 23, []⟩), (12, ⟨4080, some 24, []⟩), (13, ⟨8191, some 25, []⟩), (14, ⟨16383, some 26, []⟩), (15, ⟨32767, none, [1]⟩)], 258, ?_⟩
    repeat ((conv => whnf); (with_reducible refine And.intro ?_ ?_); · first | exact True.intro | with_reducible assumption | omega | (intro _; refine ⟨True.intro, ?_⟩; omega) | (intro _; refine ⟨?_, True.intro⟩; omega) | (intro _; omega) | (refine decide_eq_true ?_; omega) | (intro _; refine ⟨decide_eq_true ?_, ?_⟩ <;> omega) | (simp only [q1, q2, q3, Int.toNat_natCast]; omega) | (simp only [q1, q2, q3, Int.toNat_natCast]; intro _; refine ⟨?_, ?_⟩ <;> first | omega | (refine decide_eq_true ?_; omega)) | exact R8_UL _ _ | (intro hg0; (repeat ((conv => whnf); (with_reducible refine And.intro ?_ ?_); · first | assumption | omega | (intro _; refine ⟨?_, ?_⟩ <;> first | assumption | omega) | (simp only [hg0, Bool.and_self, Bool.true_and]; done))); (conv => whnf); exact True.intro))
    conv => whnf
    refine ⟨i + 1, ⟨by show i + 1 ≤ 16; omega, by show 16 - (i + 1) < 16 - i; omega⟩, le_of [] ?_⟩
    have hb := (K.getD i 0).isLt
    have hst := fun j hj => (read_step (A := leN (K.take i)) (x := X) (b := (K.getD i 0).toNat) hi16 (by have := leN_lt (K.take i); rwa [List.length_take, Nat.min_eq_left (by omega)] at this) hX hb j hj).symm
    rw [← leN_take_succ K i (by omega)] at hst
    have q4 : min (8 * (i % 8)) IntKind.u64.bits = 8 * (i % 8) := Nat.min_eq_left (by show _ ≤ 64; omega)
    have q5 : IntKind.u64.wrap (g i) = ((K.getD i 0).toNat : Int) := by rw [hKj i hi16, w_u64]; omega
    simp only [q1, q2, q3, Int.toNat_natCast, q4, q5]
    repeat ((conv => whnf); (with_reducible refine And.intro ?_ ?_); · first | with_reducible rfl | exact (Bool.and_false _).symm | (intro _ _; with_reducible rfl) | exact True.intro | assumption | (intro h; exact absurd h (by decide)) | omega | (intro _; omega) | (intro _; refine ⟨?_, True.intro⟩; omega) | (intro _; refine ⟨?_, True.intro⟩; intro _; omega) | (refine decide_eq_false ?_; omega) | (refine decide_eq_true ?_; omega) | (simp only [w_i64, w_u64, w_u32, w_u8]; omega) | exact fun j hj => (put_0 hj).symm | (intro j _; simp only [Nat.zero_add]; done) | (simp [appG]; done) | (simp [appG]; omega) | exact hst | (intro hgd; (try replace hgd := of_decide_eq_true hgd); (repeat ((conv => whnf); (with_reducible refine And.intro ?_ ?_); · first | with_reducible rfl | exact (Bool.and_false _).symm | (intro _ _; with_reducible rfl) | exact True.intro | assumption | (intro h; exact absurd h (by decide)) | omega | (intro _; omega) | (intro _; refine ⟨?_, True.intro⟩; omega) | (intro _; refine ⟨?_, True.intro⟩; intro _; omega) | (refine decide_eq_false ?_; omega) | (refine decide_eq_true ?_; omega) | (simp only [w_i64, w_u64, w_u32, w_u8]; omega) | exact fun j hj => (put_0 hj).symm | (intro j _; simp only [Nat.zero_add]; done) | (simp [appG]; done) | (simp [appG]; omega) | exact hst)); (conv => whnf); exact True.intro))
    conv => whnf
    exact True.intro
  · replace h1 := of_decide_eq_false h1
    have hie : i = 16 := by omega
    subst hie
    rw [List.take_of_length_le (by omega : K.length ≤ 16)]
    repeat ((conv => whnf); (with_reducible refine And.intro ?_ ?_); · first | exact True.intro | with_reducible assumption | omega | (intro _; refine ⟨True.intro, ?_⟩; omega) | (intro _; refine ⟨?_, True.intro⟩; omega) | (intro _; omega) | (refine decide_eq_true ?_; omega) | (intro _; refine ⟨decide_eq_true ?_, ?_⟩ <;> omega) | (simp only [w_i64, w_u64, w_u32, w_u8]; omega) | exact R8_UL _ _ | (intro hg0; (repeat ((conv => whnf); (with_reducible refine And.intro ?_ ?_); · first | assumption | omega | (intro _; refine ⟨?_, ?_⟩ <;> first | assumption | omega) | (simp only [hg0, Bool.and_self, Bool.true_and]; done))); (conv => whnf); exact True.intro))
    conv => whnf
    refine ⟨[], ?_⟩
    repeat ((conv => whnf); (with_reducible refine And.intro ?_ ?_); · first | with_reducible rfl | exact (Bool.and_false _).symm | (intro _ _; with_reducible rfl) | exact True.intro | assumption | (intro h; exact absurd h (by decide)) | omega | (intro _; omega) | (intro _; refine ⟨?_, True.intro⟩; omega) | (intro _; refine ⟨?_, True.intro⟩; intro _; omega) | (refine decide_eq_false ?_; omega) | (refine decide_eq_true ?_; omega) | (simp only [w_i64, w_u64, w_u32, w_u8]; omega) | exact fun j hj => (put_0 hj).symm | (intro j _; simp only [Nat.zero_add]; done) | (simp [appG]; done) | (simp [appG]; omega) | (intro hgd; (try replace hgd := of_decide_eq_true hgd); (repeat ((conv => whnf); (with_reducible refine And.intro ?_ ?_); · first | with_reducible rfl | exact (Bool.and_false _).symm | (intro _ _; with_reducible rfl) | exact True.intro | assumption | (intro h; exact absurd h (by decide)) | omega | (intro _; omega) | (intro _; refine ⟨?_, True.intro⟩; omega) | (intro _; refine ⟨?_, True.intro⟩; intro _; omega) | (refine decide_eq_false ?_; omega) | (refine decide_eq_true ?_; omega) | (simp only [w_i64, w_u64, w_u32, w_u8]; omega) | exact fun j hj => (put_0 hj).symm | (intro j _; simp only [Nat.zero_add]; done) | (simp [appG]; done) | (simp [appG]; omega))); (conv => whnf); exact True.intro))
    conv => whnf
    exact True.intro

/-- (poly.number).add. -/
def addS : Summary := mkS false [.v, .v] fun
  | [.v (.agg [.ints .u64 f 3]), .v (.agg [.ints .u64 g 3])] => some ⟨.and (.p (R64 f 3)) (.p (R64 g 3)), some (.sa (.agg [.ints .u64 (lim (N3 f + N3 g)) 3])), [], 0⟩
  | _ => none
theorem cok35 : COk Try.prog (tab [(96, add64S), (97, mul64S)]) := cok_cons add64S_ok (cok_cons mul64S_ok cok_nil)
theorem carry_ok {a b c : Int} (ha : u64R a) (hb : u64R b) (hc : 0 ≤ c ∧ c ≤ 1) : 0 ≤ (a + b + c) / 18446744073709551616 ∧ (a + b + c) / 18446744073709551616 ≤ 1 := by
  obtain ⟨h1, h2⟩ := ha
  obtain ⟨h3, h4⟩ := hb
  omega
theorem mod_ok (a : Int) : u64R (a % 18446744073709551616) := by unfold u64R; omega
theorem addS_ok : SumOk Try.prog 79 addS := by
  unfold addS
  apply sum_ok
  intro vs A H n o r hb h
  split at h
  rotate_left
  · cases h
  rename_i f g
  injection h with h
  subst h
  cases hb
  refine fsound_of_run tt_ok cok35 mixed_ok Try.call79 Try.func79 rfl (rs := _) Try.results79 (size := 36) Try.ntmps79 (Nat.le_of_ble_eq_true rfl) rfl fun hp hfa hfh => ?_
  obtain ⟨hf, hg⟩ := hp
  have hf : R64 f 3 := hf
  have hg : R64 g 3 := hg
  have f0 : u64R (f 0) := hf 0 (by omega)
  have f1 : u64R (f 1) := hf 1 (by omega)
  have f2 : u64R (f 2) := hf 2 (by omega)
  have g0 : u64R (g 0) := hg 0 (by omega)
  have g1 : u64R (g 1) := hg 1 (by omega)
  have g2 : u64R (g 2) := hg 2 (by omega)
  have c0 := carry_ok f0 g0 (c := 0) (by omega)
  have c1 := carry_ok f1 g1 c0
  have c2 := carry_ok f2 g2 c1
  have hfin : ∀ j, j < 3 → lim (N3 f + N3 g) j = upd (upd (upd f 0 ((f 0 + g 0 + 0) % 18446744073709551616)) 1 ((f 1 + g 1 + (f 0 + g 0 + 0) / 18446744073709551616) % 18446744073709551616)) 2 ((f 2 + g 2 + (f 1 + g 1 + (f 0 + g 0 + 0) / 18446744073709551616) / 18446744073709551616) % 18446744073709551616) j := fun j hj =>
    (add_lim hf hg (c0 := (f 0 + g 0 + 0) / 18446744073709551616) (c1 := (f 1 + g 1 + (f 0 + g 0 + 0) / 18446744073709551616) / 18446744073709551616) (c2 := (f 2 + g 2 + (f 1 + g 1 + (f 0 + g 0 + 0) / 18446744073709551616) / 18446744073709551616) / 18446744073709551616) (by omega) (by omega) (by omega) (mod_ok _) (mod_ok _) (mod_ok _) c0.1 c1.1 c2.1 j hj).symm
  repeat ((conv => whnf); (with_reducible refine And.intro ?_ ?_); · first | exact True.intro | with_reducible assumption | omega | (intro _; refine ⟨True.intro, ?_⟩; omega) | (intro _; refine ⟨?_, True.intro⟩; omega) | (intro _; omega) | (refine decide_eq_true ?_; omega) | (intro _; refine ⟨decide_eq_true ?_, ?_⟩ <;> omega) | (simp only [w_i64, w_u64, w_u32, w_u8]; omega) | exact R8_UL _ _ | (intro hg0; (repeat ((conv => whnf); (with_reducible refine And.intro ?_ ?_); · first | assumption | omega | (intro _; refine ⟨?_, ?_⟩ <;> first | assumption | omega) | (simp only [hg0, Bool.and_self, Bool.true_and]; done) | exact f0 | exact f1 | exact f2 | exact g0 | exact g1 | exact g2 | exact c0 | exact c1)); (conv => whnf); exact True.intro) | exact f0 | exact f1 | exact f2 | exact g0 | exact g1 | exact g2 | exact c0 | exact c1)
  conv => whnf
  refine ⟨[], ?_⟩
  repeat ((conv => whnf); (with_reducible refine And.intro ?_ ?_); · first | with_reducible rfl | exact (Bool.and_false _).symm | (intro _ _; with_reducible rfl) | exact True.intro | assumption | (intro h; exact absurd h (by decide)) | omega | (intro _; omega) | (intro _; refine ⟨?_, True.intro⟩; omega) | (intro _; refine ⟨?_, True.intro⟩; intro _; omega) | (refine decide_eq_false ?_; omega) | (refine decide_eq_true ?_; omega) | (simp only [w_i64, w_u64, w_u32, w_u8]; omega) | exact fun j hj => (put_0 hj).symm | (intro j _; simp only [Nat.zero_add]; done) | (simp [appG]; done) | (simp [appG]; omega) | exact hfin | (intro hgd; (try replace hgd := of_decide_eq_true hgd); (repeat ((conv => whnf); (with_reducible refine And.intro ?_ ?_); · first | with_reducible rfl | exact (Bool.and_false _).symm | (intro _ _; with_reducible rfl) | exact True.intro | assumption | (intro h; exact absurd h (by decide)) | omega | (intro _; omega) | (intro _; refine ⟨?_, True.intro⟩; omega) | (intro _; refine ⟨?_, True.intro⟩; intro _; omega) | (refine decide_eq_false ?_; omega) | (refine decide_eq_true ?_; omega) | (simp only [w_i64, w_u64, w_u32, w_u8]; omega) | exact fun j hj => (put_0 hj).symm | (intro j _; simp only [Nat.zero_add]; done) | (simp [appG]; done) | (simp [appG]; omega) | exact hfin)); (conv => whnf); exact True.intro))
  conv => whnf
  exact True.intro

/-- (poly.number).low. -/
def lowS : Summary := mkS false [.v] fun
  | [.v (.agg [.ints .u64 f 3])] => some ⟨.p (R64 f 3), some (.tup [.agg [.ints .u64 (lim (N3 f % 1361129467683753853853498429727072845824)) 3], .agg [.ints .u64 (lim (5 * (N3 f / 1361129467683753853853498429727072845824))) 3]]), [], 0⟩
  | _ => none
theorem sh2 : min (Int.toNat 2) IntKind.u64.bits = 2 := rfl
theorem rest_lim {f : Nat → Int} (hf : R64 f 3) (j : Nat) (hj : j < 3) : lim (5 * (N3 f / 1361129467683753853853498429727072845824)) j = listI [f 2 / 2 ^ 2 * 5 % 18446744073709551616, f 2 / 2 ^ 2 * 5 / 18446744073709551616, 0] j := by
  have e := N3_low hf
  have h2 := hf 2 (by omega)
  generalize N3 f / 1361129467683753853853498429727072845824 = q at *
  rw [show (2 : Int) ^ 2 = 4 from rfl, e]
  refine (lim_ext (f := listI [((q : Nat) : Int) * 5 % 18446744073709551616, ((q : Nat) : Int) * 5 / 18446744073709551616, 0]) ?_ ?_ ?_ j hj).symm
  · rw [lim0]; show ((q : Nat) : Int) * 5 % 18446744073709551616 = _; omega
  · rw [lim1, Nat.mod_eq_of_lt (show 5 * q / 18446744073709551616 < 18446744073709551616 by omega)]; show ((q : Nat) : Int) * 5 / 18446744073709551616 = _; omega
  · rw [lim2, Nat.div_eq_of_lt (show 5 * q < 340282366920938463463374607431768211456 by omega)]; rfl
theorem lowS_ok : SumOk Try.prog 98 lowS := by
  unfold lowS
  apply sum_ok
  intro vs A H n o r hb h
  split at h
  rotate_left
  · cases h
  rename_i f
  injection h with h
  subst h
  cases hb
  refine fsound_of_run tt_ok cok35 mixed_ok Try.call98 Try.func98 rfl (rs := _) Try.results98 (size := 25) Try.ntmps98 (Nat.le_of_ble_eq_true rfl) rfl fun hp hfa hfh => ?_
  have hf : R64 f 3 := hp
  have hr : u64R (f 2 / 2 ^ 2) := by
    have := hf 2 (by omega)
    rw [show (2 : Int) ^ 2 = 4 from rfl]
    constructor <;> omega
  have hl := low_lim hf
  have hr2 := rest_lim hf
  repeat ((conv => whnf); (with_reducible refine And.intro ?_ ?_); · first | exact True.intro | with_reducible assumption | omega | (intro _; refine ⟨True.intro, ?_⟩; omega) | (intro _; refine ⟨?_, True.intro⟩; omega) | (intro _; omega) | (refine decide_eq_true ?_; omega) | (intro _; refine ⟨decide_eq_true ?_, ?_⟩ <;> omega) | (simp only [w_i64, w_u64, w_u32, w_u8]; omega) | exact R8_UL _ _ | (intro hg0; (repeat ((conv => whnf); (with_reducible refine And.intro ?_ ?_); · first | assumption | omega | (intro _; refine ⟨?_, ?_⟩ <;> first | assumption | omega) | (simp only [hg0, Bool.and_self, Bool.true_and]; done) | exact hr | exact ⟨by decide, by decide⟩)); (conv => whnf); exact True.intro) | exact hr | exact ⟨by decide, by decide⟩)
  conv => whnf
  refine ⟨[], ?_⟩
  repeat ((conv => whnf); (with_reducible refine And.intro ?_ ?_); · first | with_reducible rfl | exact (Bool.and_false _).symm | (intro _ _; with_reducible rfl) | exact True.intro | assumption | (intro h; exact absurd h (by decide)) | omega | (intro _; omega) | (intro _; refine ⟨?_, True.intro⟩; omega) | (intro _; refine ⟨?_, True.intro⟩; intro _; omega) | (refine decide_eq_false ?_; omega) | (refine decide_eq_true ?_; omega) | (simp only [w_i64, w_u64, w_u32, w_u8]; omega) | exact fun j hj => (put_0 hj).symm | (intro j _; simp only [Nat.zero_add]; done) | (simp [appG]; done) | (simp [appG]; omega) | exact fun j hj => (hl j hj).symm | exact hr2 | (intro hgd; (try replace hgd := of_decide_eq_true hgd); (repeat ((conv => whnf); (with_reducible refine And.intro ?_ ?_); · first | with_reducible rfl | exact (Bool.and_false _).symm | (intro _ _; with_reducible rfl) | exact True.intro | assumption | (intro h; exact absurd h (by decide)) | omega | (intro _; omega) | (intro _; refine ⟨?_, True.intro⟩; omega) | (intro _; refine ⟨?_, True.intro⟩; intro _; omega) | (refine decide_eq_false ?_; omega) | (refine decide_eq_true ?_; omega) | (simp only [w_i64, w_u64, w_u32, w_u8]; omega) | exact fun j hj => (put_0 hj).symm | (intro j _; simp only [Nat.zero_add]; done) | (simp [appG]; done) | (simp [appG]; omega) | exact fun j hj => (hl j hj).symm | exact hr2)); (conv => whnf); exact True.intro))
  conv => whnf
  exact True.intro

/-- (poly.number).less. -/
def lessS : Summary := mkS false [.v] fun
  | [.v (.agg [.ints .u64 f 3])] => some ⟨.and (.p (R64 f 3)) (.p (N3 f < 2 * 1361129467683753853853498429727072845824)), some (.sa (.agg [.ints .u64 (lim (lessV (N3 f))) 3])), [], 0⟩
  | _ => none
theorem cok36 : COk Try.prog (tab [(79, addS), (98, lowS)]) := cok_cons addS_ok (cok_cons lowS_ok cok_nil)
theorem lessS_ok : SumOk Try.prog 81 lessS := by
  unfold lessS
  apply sum_ok
  intro vs A H n o r hb h
  split at h
  rotate_left
  · cases h
  rename_i f
  injection h with h
  subst h
  cases hb
  refine fsound_of_run tt_ok cok36 mixed_ok Try.call81 Try.func81 rfl (rs := _) Try.results81 (size := 26) Try.ntmps81 (Nat.le_of_ble_eq_true rfl) rfl fun hp hfa hfh => ?_
  obtain ⟨hf, hV⟩ := hp
  have hf : R64 f 3 := hf
  have hV : N3 f < 2 * 1361129467683753853853498429727072845824 := hV
  have e1 : N3 (lim (N3 f % 1361129467683753853853498429727072845824)) = N3 f % 1361129467683753853853498429727072845824 := N3_lim' (by omega)
  have e2 : N3 (lim (5 * (N3 f / 1361129467683753853853498429727072845824))) = 5 * (N3 f / 1361129467683753853853498429727072845824) := N3_lim' (by omega)
  have e3 : N3 (lim (N3 f % 1361129467683753853853498429727072845824 + 5 * (N3 f / 1361129467683753853853498429727072845824))) = N3 f % 1361129467683753853853498429727072845824 + 5 * (N3 f / 1361129467683753853853498429727072845824) := N3_lim' (by omega)
  have e4 : N3 (listI [5].reverse) = 5 := rfl
  have r4 : R64 (listI [5].reverse) 3 := fun j hj => by rcases three hj with rfl | rfl | rfl <;> exact ⟨by decide, by decide⟩
  repeat ((conv => whnf); (with_reducible refine And.intro ?_ ?_); · first | exact True.intro | with_reducible assumption | omega | (intro _; refine ⟨True.intro, ?_⟩; omega) | (intro _; refine ⟨?_, True.intro⟩; omega) | (intro _; omega) | (refine decide_eq_true ?_; omega) | (intro _; refine ⟨decide_eq_true ?_, ?_⟩ <;> omega) | (simp only [w_i64, w_u64, w_u32, w_u8]; omega) | exact R8_UL _ _ | (intro hg0; (repeat ((conv => whnf); (with_reducible refine And.intro ?_ ?_); · first | assumption | omega | (intro _; refine ⟨?_, ?_⟩ <;> first | assumption | omega) | (simp only [hg0, Bool.and_self, Bool.true_and]; done) | exact R64_lim _ _ | exact r4)); (conv => whnf); exact True.intro) | exact R64_lim _ _ | exact r4)
  conv => whnf
  simp only [e1, e2, e3, e4]
  have hless : lessV (N3 f) = if 1361129467683753853853498429727072845824 ≤ N3 f % 1361129467683753853853498429727072845824 + 5 * (N3 f / 1361129467683753853853498429727072845824) + 5 then (N3 f % 1361129467683753853853498429727072845824 + 5 * (N3 f / 1361129467683753853853498429727072845824) + 5) % 1361129467683753853853498429727072845824 else N3 f % 1361129467683753853853498429727072845824 + 5 * (N3 f / 1361129467683753853853498429727072845824) := rfl
  have hW : N3 f % 1361129467683753853853498429727072845824 + 5 * (N3 f / 1361129467683753853853498429727072845824) < 1361129467683753853853498429727072845824 + 10 := by omega
  generalize N3 f % 1361129467683753853853498429727072845824 + 5 * (N3 f / 1361129467683753853853498429727072845824) = W at *
  have e5 : N3 (lim (W + 5)) = W + 5 := N3_lim' (by omega)
  have e6 := N3_low (R64_lim (W + 5) 3)
  rw [e5] at e6
  refine ⟨fun h1 => ?_, fun h1 => ?_⟩
  · replace h1 := of_decide_eq_true h1
    have h2 : 1361129467683753853853498429727072845824 ≤ W + 5 := by
      have : (0 : Int) < lim (W + 5) 2 / 4 := h1
      omega
    rw [if_pos h2] at hless
    repeat ((conv => whnf); (with_reducible refine And.intro ?_ ?_); · first | exact True.intro | with_reducible assumption | omega | (intro _; refine ⟨True.intro, ?_⟩; omega) | (intro _; refine ⟨?_, True.intro⟩; omega) | (intro _; omega) | (refine decide_eq_true ?_; omega) | (intro _; refine ⟨decide_eq_true ?_, ?_⟩ <;> omega) | (simp only [w_i64, w_u64, w_u32, w_u8]; omega) | exact R8_UL _ _ | (intro hg0; (repeat ((conv => whnf); (with_reducible refine And.intro ?_ ?_); · first | assumption | omega | (intro _; refine ⟨?_, ?_⟩ <;> first | assumption | omega) | (simp only [hg0, Bool.and_self, Bool.true_and]; done))); (conv => whnf); exact True.intro))
    conv => whnf
    refine ⟨[], ?_⟩
    have hl := low_lim (R64_lim (W + 5) 3)
    rw [e5, ← hless] at hl
    repeat ((conv => whnf); (with_reducible refine And.intro ?_ ?_); · first | with_reducible rfl | exact (Bool.and_false _).symm | (intro _ _; with_reducible rfl) | exact True.intro | assumption | (intro h; exact absurd h (by decide)) | omega | (intro _; omega) | (intro _; refine ⟨?_, True.intro⟩; omega) | (intro _; refine ⟨?_, True.intro⟩; intro _; omega) | (refine decide_eq_false ?_; omega) | (refine decide_eq_true ?_; omega) | (simp only [w_i64, w_u64, w_u32, w_u8]; omega) | exact fun j hj => (put_0 hj).symm | (intro j _; simp only [Nat.zero_add]; done) | (simp [appG]; done) | (simp [appG]; omega) | exact fun j hj => (hl j hj).symm | (intro hgd; (try replace hgd := of_decide_eq_true hgd); (repeat ((conv => whnf); (with_reducible refine And.intro ?_ ?_); · first | with_reducible rfl | exact (Bool.and_false _).symm | (intro _ _; with_reducible rfl) | exact True.intro | assumption | (intro h; exact absurd h (by decide)) | omega | (intro _; omega) | (intro _; refine ⟨?_, True.intro⟩; omega) | (intro _; refine ⟨?_, True.intro⟩; intro _; omega) | (refine decide_eq_false ?_; omega) | (refine decide_eq_true ?_; omega) | (simp only [w_i64, w_u64, w_u32, w_u8]; omega) | exact fun j hj => (put_0 hj).symm | (intro j _; simp only [Nat.zero_add]; done) | (simp [appG]; done) | (simp [appG]; omega) | exact fun j hj => (hl j hj).symm)); (conv => whnf); exact True.intro))
    conv => whnf
    exact True.intro
  · replace h1 := of_decide_eq_false h1
    have h2 : ¬ 1361129467683753853853498429727072845824 ≤ W + 5 := by
      have : ¬ (0 : Int) < lim (W + 5) 2 / 4 := h1
      omega
    rw [if_neg h2] at hless
    repeat ((conv => whnf); (with_reducible refine And.intro ?_ ?_); · first | exact True.intro | with_reducible assumption | omega | (intro _; refine ⟨True.intro, ?_⟩; omega) | (intro _; refine ⟨?_, True.intro⟩; omega) | (intro _; omega) | (refine decide_eq_true ?_; omega) | (intro _; refine ⟨decide_eq_true ?_, ?_⟩ <;> omega) | (simp only [w_i64, w_u64, w_u32, w_u8]; omega) | exact R8_UL _ _ | (intro hg0; (repeat ((conv => whnf); (with_reducible refine And.intro ?_ ?_); · first | assumption | omega | (intro _; refine ⟨?_, ?_⟩ <;> first | assumption | omega) | (simp only [hg0, Bool.and_self, Bool.true_and]; done))); (conv => whnf); exact True.intro))
    conv => whnf
    refine ⟨[], ?_⟩
    simp only [hless]
    repeat ((conv => whnf); (with_reducible refine And.intro ?_ ?_); · first | with_reducible rfl | exact (Bool.and_false _).symm | (intro _ _; with_reducible rfl) | exact True.intro | assumption | (intro h; exact absurd h (by decide)) | omega | (intro _; omega) | (intro _; refine ⟨?_, True.intro⟩; omega) | (intro _; refine ⟨?_, True.intro⟩; intro _; omega) | (refine decide_eq_false ?_; omega) | (refine decide_eq_true ?_; omega) | (simp only [w_i64, w_u64, w_u32, w_u8]; omega) | exact fun j hj => (put_0 hj).symm | (intro j _; simp only [Nat.zero_add]; done) | (simp [appG]; done) | (simp [appG]; omega) | (intro hgd; (try replace hgd := of_decide_eq_true hgd); (repeat ((conv => whnf); (with_reducible refine And.intro ?_ ?_); · first | with_reducible rfl | exact (Bool.and_false _).symm | (intro _ _; with_reducible rfl) | exact True.intro | assumption | (intro h; exact absurd h (by decide)) | omega | (intro _; omega) | (intro _; refine ⟨?_, True.intro⟩; omega) | (intro _; refine ⟨?_, True.intro⟩; intro _; omega) | (refine decide_eq_false ?_; omega) | (refine decide_eq_true ?_; omega) | (simp only [w_i64, w_u64, w_u32, w_u8]; omega) | exact fun j hj => (put_0 hj).symm | (intro j _; simp only [Nat.zero_add]; done) | (simp [appG]; done) | (simp [appG]; omega))); (conv => whnf); exact True.intro))
    conv => whnf
    exact True.intro
end Go.Proofs.Ytogijkmflhjhkaa

/- Functions through the evaluator: a product modulo 2^130 - 5. No condition. -/
namespace Go.Proofs.Ytogijkmflhjhkaa
open Go.Sx Go.RowKit
set_option maxRecDepth 100000
set_option maxHeartbeats 2000000
set_option linter.unusedVariables false
set_option linter.unusedSimpArgs false

/-- Behind i of the outer rounds. -/
structure TO (F R : Nat → Nat) (i : Nat) (p : Nat → Nat) : Prop where
  i3 : i ≤ 3
  lt : ∀ j, p j < 18446744073709551616
  z : ∀ j, i + 2 ≤ j → p j = 0
  v : vN 18446744073709551616 p 5 = vN 18446744073709551616 F i * vN 18446744073709551616 R 2
/-- Behind k of the inner rounds. -/
structure TN (F R : Nat → Nat) (i k c : Nat) (p : Nat → Nat) : Prop where
  k2 : k ≤ 2
  cl : c < 18446744073709551616
  lt : ∀ j, p j < 18446744073709551616
  z : ∀ j, i + 2 ≤ j → p j = 0
  v : vN 18446744073709551616 p 5 + c * 18446744073709551616 ^ (i + k) = vN 18446744073709551616 F i * vN 18446744073709551616 R 2 + F i * vN 18446744073709551616 R k * 18446744073709551616 ^ i
theorem TO.zero (F R : Nat → Nat) : TO F R 0 fun _ => 0 := ⟨by omega, fun j => by omega, fun j _ => rfl, by rw [vN_zero (fun j _ => rfl), show vN 18446744073709551616 F 0 = 0 from rfl, Nat.zero_mul]⟩
theorem TN.zero {F R p : Nat → Nat} {i : Nat} (h : TO F R i p) : TN F R i 0 0 p := ⟨Nat.zero_le _, Nat.zero_lt_succ _, h.lt, h.z, by rw [h.v, Nat.zero_mul, show vN 18446744073709551616 R 0 = 0 from rfl, Nat.mul_zero, Nat.zero_mul]⟩

/-- One inner round. -/
theorem TN.step {F R p : Nat → Nat} {i k c : Nat} (h : TN F R i k c p) (hi : i < 3) (hk : k < 2) {f r : Int} (hf : f = (F i : Int)) (hr : r = (R k : Int)) (uf : u64R f) (ur : u64R r) {hi1 c1 l1 c2 x : Int}
    (e1 : hi1 = f * r / 18446744073709551616) (e2 : l1 = (f * r % 18446744073709551616 + (c : Int) + 0) % 18446744073709551616) (e3 : c1 = (f * r % 18446744073709551616 + (c : Int) + 0) / 18446744073709551616) (e4 : x = (NI p (i + k) + l1 + 0) % 18446744073709551616) (e5 : c2 = (NI p (i + k) + l1 + 0) / 18446744073709551616) :
    ∃ X C : Nat, x = (X : Int) ∧ IntKind.u64.wrap (IntKind.u64.wrap (hi1 + c1) + c2) = (C : Int) ∧ TN F R i (k + 1) C (updN p (i + k) X) := by
  have hm := sq_le (a := F i) (b := R k) (by have := uf.2; omega) (by have := ur.2; omega)
  have hp := h.lt (i + k)
  have hc := h.cl
  have hpe : NI p (i + k) = (p (i + k) : Int) := rfl
  have em : f * r = ((F i * R k : Nat) : Int) := by rw [hf, hr]; exact (Int.natCast_mul _ _).symm
  have hv := h.v
  have hnext := fun X C hX => inner_next F R p i k X C c (by omega) hv hX
  rw [hpe] at e4 e5
  rw [em] at e1 e2 e3
  generalize F i * R k = m at *
  obtain ⟨g1, g2⟩ := mul_step (m := m) (c := c) (p := p (i + k)) (lo := m % 18446744073709551616) (hi := m / 18446744073709551616) (l1 := (m % 18446744073709551616 + c) % 18446744073709551616) (c1 := (m % 18446744073709551616 + c) / 18446744073709551616) (x := (p (i + k) + (m % 18446744073709551616 + c) % 18446744073709551616) % 18446744073709551616) (c2 := (p (i + k) + (m % 18446744073709551616 + c) % 18446744073709551616) / 18446744073709551616) hm (by omega) (by omega) (by omega) hc hp (by omega) (by omega) (by omega)
  refine ⟨(p (i + k) + (m % 18446744073709551616 + c) % 18446744073709551616) % 18446744073709551616, m / 18446744073709551616 + (m % 18446744073709551616 + c) / 18446744073709551616 + (p (i + k) + (m % 18446744073709551616 + c) % 18446744073709551616) / 18446744073709551616, ?_, ?_, ⟨by omega, g1, fun j => ?_, fun j hj => ?_, hnext _ _ g2⟩⟩
  · subst e2; rw [e4]; omega
  · subst e1 e3 e2 e5
    rw [w_u64, w_u64]
    omega
  · unfold updN; split
    · omega
    · exact h.lt j
  · unfold updN; rw [if_neg (by omega)]; exact h.z j hj
/-- The end of an outer round. -/
theorem TN.next {F R p : Nat → Nat} {i c : Nat} (h : TN F R i 2 c p) (hi : i < 3) : IntKind.u64.wrap (NI p (i + 2) + (c : Int)) = ((p (i + 2) + c : Nat) : Int) ∧ TO F R (i + 1) (updN p (i + 2) (p (i + 2) + c)) := by
  have h0 := h.z (i + 2) (by omega)
  have hc := h.cl
  refine ⟨?_, ⟨by omega, fun j => ?_, fun j hj => ?_, outer_next F R p i c hi h.v h0⟩⟩
  · show IntKind.u64.wrap ((p (i + 2) : Int) + (c : Int)) = _
    rw [h0, w_u64]; omega
  · unfold updN; split
    · omega
    · exact h.lt j
  · unfold updN; rw [if_neg (by omega)]; exact h.z j (by omega)
theorem NI_upd (p : Nat → Nat) (i X : Nat) : upd (NI p) i (X : Int) = NI (updN p i X) := by
  funext j; unfold upd NI updN; split <;> rfl
theorem u64_mod (a : Int) : u64R (a % 18446744073709551616) := mod_ok a
theorem u64_div {a b : Int} (ha : u64R a) (hb : u64R b) : 0 ≤ (a + b + 0) / 18446744073709551616 ∧ (a + b + 0) / 18446744073709551616 ≤ 1 := carry_ok ha hb (by omega)
theorem u64_nat {c : Nat} (h : c < 18446744073709551616) : u64R (c : Int) := by unfold u64R; omega
theorem u64_NI {p : Nat → Nat} (h : ∀ j, p j < 18446744073709551616) (j : Nat) : u64R (NI p j) := u64_nat (h j)
/-- The last step: what stands below 130 bits, what stands above. -/
theorem times_end {F R p : Nat → Nat} (h : TO F R 3 p) {f r : Nat → Int} (hF : F = toN f) (hR : R = toN r) (hV : N3 f < 4 * 1361129467683753853853498429727072845824) (hW : N3 r < 340282366920938463463374607431768211456) {g1 g2 : Nat → Int}
    (a0 : g1 0 = NI p 0) (a1 : g1 1 = NI p 1) (a2 : g1 2 = bits .and .u64 (NI p 2) 3)
    (b0 : g2 0 = bits .or .u64 (NI p 2 / 2 ^ 2) (IntKind.u64.wrap (NI p 3 * 2 ^ 62))) (b1 : g2 1 = bits .or .u64 (NI p 3 / 2 ^ 2) (IntKind.u64.wrap (NI p 4 * 2 ^ 62))) (b2 : g2 2 = NI p 4 / 2 ^ 2) :
    R64 g1 3 ∧ R64 g2 3 ∧ N3 g1 = N3 f * N3 r % 1361129467683753853853498429727072845824 ∧ N3 g2 = N3 f * N3 r / 1361129467683753853853498429727072845824 ∧ N3 f * N3 r < 4 * 1361129467683753853853498429727072845824 * 340282366920938463463374607431768211456 := by
  have hv := h.v
  rw [hF, hR, vN3, vN2 r hW] at hv
  have hb : N3 f * N3 r < 4 * 1361129467683753853853498429727072845824 * 340282366920938463463374607431768211456 := Nat.mul_lt_mul'' hV hW
  have q : ∀ j, NI p j / 2 ^ 2 = ((p j / 4 : Nat) : Int) := fun j => by show (p j : Int) / 4 = _; omega
  have l0 := h.lt 0
  have l1 := h.lt 1
  have l2 := h.lt 2
  have l3 := h.lt 3
  have l4 := h.lt 4
  have c2 : g1 2 = ((p 2 % 4 : Nat) : Int) := by rw [a2]; exact and3 l2
  have d0 : g2 0 = ((p 2 / 4 + 4611686018427387904 * (p 3 % 4) : Nat) : Int) := by rw [b0, q]; exact or62 l2 l3
  have d1 : g2 1 = ((p 3 / 4 + 4611686018427387904 * (p 4 % 4) : Nat) : Int) := by rw [b1, q]; exact or62 l3 l4
  have d2 : g2 2 = ((p 4 / 4 : Nat) : Int) := by rw [b2, q]
  have c0 : g1 0 = (p 0 : Int) := a0
  have c1 : g1 1 = (p 1 : Int) := a1
  refine ⟨fun j hj => ?_, fun j hj => ?_, ?_, ?_, hb⟩
  · rcases three hj with rfl | rfl | rfl
    · rw [c0]; omega
    · rw [c1]; omega
    · rw [c2]; omega
  · rcases three hj with rfl | rfl | rfl
    · rw [d0]; omega
    · rw [d1]; omega
    · rw [d2]; omega
  · rw [N3_of c0 c1 c2, times_low h.lt, hv]
  · rw [N3_of d0 d1 d2, times_high h.lt, hv]
theorem cok37 : COk Try.prog (tab [(79, addS), (98, lowS), (96, add64S), (97, mul64S)]) := cok_cons addS_ok (cok_cons lowS_ok (cok_cons add64S_ok (cok_cons mul64S_ok cok_nil)))
/-- (poly.number).times. -/
def timesS : Summary := mkS false [.v, .v] fun
  | [.v (.agg [.ints .u64 f 3]), .v (.agg [.ints .u64 r 3])] => some ⟨.and (.and (.p (R64 f 3)) (.p (R64 r 3))) (.and (.p (N3 f < 4 * 1361129467683753853853498429727072845824)) (.p (N3 r < 340282366920938463463374607431768211456))), some (.sa (.agg [.ints .u64 (lim (timesV (N3 f) (N3 r))) 3])), [], 0⟩
  | _ => none
theorem timesS_ok : SumOk Try.prog 80 timesS := by
  unfold timesS
  apply sum_ok
  intro vs A H n o r hb h
  split at h
  rotate_left
  · cases h
  rename_i f r
  injection h with h
  subst h
  cases hb
  refine fsound_of_run tt_ok cok37 mixed_ok Try.call80 Try.func80 rfl (rs := _) Try.results80 (size := 112) Try.ntmps80 (Nat.le_of_ble_eq_true rfl) rfl fun hp hfa hfh => ?_
  obtain ⟨⟨hf, hr⟩, hV, hR⟩ := hp
  have hf : R64 f 3 := hf
  have hr : R64 r 3 := hr
  have hV : N3 f < 4 * 1361129467683753853853498429727072845824 := hV
  have hR : N3 r < 340282366920938463463374607431768211456 := hR
  obtain ⟨F, hF⟩ : ∃ F, F = toN f := ⟨_, rfl⟩
  obtain ⟨R, hRR⟩ : ∃ R, R = toN r := ⟨_, rfl⟩
  have hFj : ∀ j, j < 3 → f j = (F j : Int) := fun j hj => by rw [hF]; exact (Int.toNat_of_nonneg (hf j hj).1).symm
  have hRj : ∀ j, j < 3 → r j = (R j : Int) := fun j hj => by rw [hRR]; exact (Int.toNat_of_nonneg (hr j hj).1).symm
  repeat ((conv => whnf); (with_reducible refine And.intro ?_ ?_); · first | exact True.intro | with_reducible assumption | omega | (intro _; refine ⟨True.intro, ?_⟩; omega) | (intro _; refine ⟨?_, True.intro⟩; omega) | (intro _; omega) | (refine decide_eq_true ?_; omega) | (intro _; refine ⟨decide_eq_true ?_, ?_⟩ <;> omega) | (simp only [w_i64, w_u64, w_u32, w_u8]; omega) | exact R8_UL _ _ | (intro hg0; (repeat ((conv => whnf); (with_reducible refine And.intro ?_ ?_); · first | assumption | omega | (intro _; refine ⟨?_, ?_⟩ <;> first | assumption | omega) | (simp only [hg0, Bool.and_self, Bool.true_and]; done))); (conv => whnf); exact True.intro))
  conv => whnf
  refine ⟨0, Nat × (Nat → Nat), fun x => ⟨112, [(2, .sa (.sc (.ptr 0 0 0))), (3, .sa (.sc (.ptr 1 0 0))), (4, .sa (.sc (.ptr 2 0 0))), (5, .sa (.sc (.ptr 3 0 0))), (16, .sa (.sc (.int .i64 x.1)))],
    [(0, .own 98 [.ints .u64 f 3] false), (1, .own 98 [.ints .u64 r 3] false), (2, .own 98 [.ints .u64 (fun _ => 0) 3] false), (3, .own 116 [.ints .u64 (NI x.2) 5] false)], 4⟩,
    fun x => TO F R x.1 x.2, fun x => 3 - x.1, ⟨(0, fun _ => 0), TO.zero F R, le_of [] ?_⟩, fun x hx => ?_⟩
  · repeat ((conv => whnf); (with_reducible refine And.intro ?_ ?_); · first | with_reducible rfl | exact (Bool.and_false _).symm | (intro _ _; with_reducible rfl) | exact True.intro | assumption | (intro h; exact absurd h (by decide)) | omega | (intro _; omega) | (intro _; refine ⟨?_, True.intro⟩; omega) | (intro _; refine ⟨?_, True.intro⟩; intro _; omega) | (refine decide_eq_false ?_; omega) | (refine decide_eq_true ?_; omega) | (simp only [w_i64, w_u64, w_u32, w_u8]; omega) | exact fun j hj => (put_0 hj).symm | (intro j _; simp only [Nat.zero_add]; done) | (simp [appG]; done) | (simp [appG]; omega) | exact fun j _ => rfl | (intro hgd; (try replace hgd := of_decide_eq_true hgd); (repeat ((conv => whnf); (with_reducible refine And.intro ?_ ?_); · first | with_reducible rfl | exact (Bool.and_false _).symm | (intro _ _; with_reducible rfl) | exact True.intro | assumption | (intro h; exact absurd h (by decide)) | omega | (intro _; omega) | (intro _; refine ⟨?_, True.intro⟩; omega) | (intro _; refine ⟨?_, True.intro⟩; intro _; omega) | (refine decide_eq_false ?_; omega) | (refine decide_eq_true ?_; omega) | (simp only [w_i64, w_u64, w_u32, w_u8]; omega) | exact fun j hj => (put_0 hj).symm | (intro j _; simp only [Nat.zero_add]; done) | (simp [appG]; done) | (simp [appG]; omega) | exact fun j _ => rfl)); (conv => whnf); exact True.intro))
    conv => whnf
    exact True.intro
  have hx : TO F R x.1 x.2 := hx
  have hi := hx.i3
  repeat ((conv => whnf); (with_reducible refine And.intro ?_ ?_); · first | exact True.intro | with_reducible assumption | omega | (intro _; refine ⟨True.intro, ?_⟩; omega) | (intro _; refine ⟨?_, True.intro⟩; omega) | (intro _; omega) | (refine decide_eq_true ?_; omega) | (intro _; refine ⟨decide_eq_true ?_, ?_⟩ <;> omega) | (simp only [w_i64, w_u64, w_u32, w_u8]; omega) | exact R8_UL _ _ | (intro hg0; (repeat ((conv => whnf); (with_reducible refine And.intro ?_ ?_); · first | assumption | omega | (intro _; refine ⟨?_, ?_⟩ <;> first | assumption | omega) | (simp only [hg0, Bool.and_self, Bool.true_and]; done))); (conv => whnf); exact True.intro))
  conv => whnf
  refine ⟨fun h1 => ?_, fun h1 => ?_⟩
  · replace h1 := of_decide_eq_true h1
    have hi3 : x.1 < 3 := by omega
    repeat ((conv => whnf); (with_reducible refine And.intro ?_ ?_); · first | exact True.intro | with_reducible assumption | omega | (intro _; refine ⟨True.intro, ?_⟩; omega) | (intro _; refine ⟨?_, True.intro⟩; omega) | (intro _; omega) | (refine decide_eq_true ?_; omega) | (intro _; refine ⟨decide_eq_true ?_, ?_⟩ <;> omega) | (simp only [w_i64, w_u64, w_u32, w_u8]; omega) | exact R8_UL _ _ | (intro hg0; (repeat ((conv => whnf); (with_reducible refine And.intro ?_ ?_); · first | assumption | omega | (intro _; refine ⟨?_, ?_⟩ <;> first | assumption | omega) | (simp only [hg0, Bool.and_self, Bool.true_and]; done))); (conv => whnf); exact True.intro))
    conv => whnf
    refine ⟨0, Nat × Nat × (Nat → Nat), fun y => ⟨112, [(2, .sa (.sc (.ptr 0 0 0))), (3, .sa (.sc (.ptr 1 0 0))), (4, .sa (.sc (.ptr 2 0 0))), (5, .sa (.sc (.ptr 3 0 0))), (16, .sa (.sc (.int .i64 x.1))), (6, .sa (.sc (.int .i64 x.1))), (7, .sa (.sc (.int .u64 y.2.1))), (19, .sa (.sc (.int .i64 y.1)))],
      [(0, .own 98 [.ints .u64 f 3] false), (1, .own 98 [.ints .u64 r 3] false), (2, .own 98 [.ints .u64 (fun _ => 0) 3] false), (3, .own 116 [.ints .u64 (NI y.2.2) 5] false)], 4⟩,
      fun y => TN F R x.1 y.1 y.2.1 y.2.2, fun y => 2 - y.1, ⟨(0, 0, x.2), TN.zero hx, le_of [] ?_⟩, fun y hy => ?_⟩
    · repeat ((conv => whnf); (with_reducible refine And.intro ?_ ?_); · first | with_reducible rfl | exact (Bool.and_false _).symm | (intro _ _; with_reducible rfl) | exact True.intro | assumption | (intro h; exact absurd h (by decide)) | omega | (intro _; omega) | (intro _; refine ⟨?_, True.intro⟩; omega) | (intro _; refine ⟨?_, True.intro⟩; intro _; omega) | (refine decide_eq_false ?_; omega) | (refine decide_eq_true ?_; omega) | (simp only [w_i64, w_u64, w_u32, w_u8]; omega) | exact fun j hj => (put_0 hj).symm | (intro j _; simp only [Nat.zero_add]; done) | (simp [appG]; done) | (simp [appG]; omega) | (intro hgd; (try replace hgd := of_decide_eq_true hgd); (repeat ((conv => whnf); (with_reducible refine And.intro ?_ ?_); · first | with_reducible rfl | exact (Bool.and_false _).symm | (intro _ _; with_reducible rfl) | exact True.intro | assumption | (intro h; exact absurd h (by decide)) | omega | (intro _; omega) | (intro _; refine ⟨?_, True.intro⟩; omega) | (intro _; refine ⟨?_, True.intro⟩; intro _; omega) | (refine decide_eq_false ?_; omega) | (refine decide_eq_true ?_; omega) | (simp only [w_i64, w_u64, w_u32, w_u8]; omega) | exact fun j hj => (put_0 hj).symm | (intro j _; simp only [Nat.zero_add]; done) | (simp [appG]; done) | (simp [appG]; omega))); (conv => whnf); exact True.intro))
      conv => whnf
      exact True.intro
    have hy : TN F R x.1 y.1 y.2.1 y.2.2 := hy
    have hk := hy.k2
    repeat ((conv => whnf); (with_reducible refine And.intro ?_ ?_); · first | exact True.intro | with_reducible assumption | omega | (intro _; refine ⟨True.intro, ?_⟩; omega) | (intro _; refine ⟨?_, True.intro⟩; omega) | (intro _; omega) | (refine decide_eq_true ?_; omega) | (intro _; refine ⟨decide_eq_true ?_, ?_⟩ <;> omega) | (simp only [w_i64, w_u64, w_u32, w_u8]; omega) | exact R8_UL _ _ | (intro hg0; (repeat ((conv => whnf); (with_reducible refine And.intro ?_ ?_); · first | assumption | omega | (intro _; refine ⟨?_, ?_⟩ <;> first | assumption | omega) | (simp only [hg0, Bool.and_self, Bool.true_and]; done))); (conv => whnf); exact True.intro))
    conv => whnf
    refine ⟨fun h2 => ?_, fun h2 => ?_⟩
    · replace h2 := of_decide_eq_true h2
      have hk2 : y.1 < 2 := by omega
      have uf : u64R (f x.1) := hf _ hi3
      have ur : u64R (r y.1) := hr _ (by omega)
      have uc : u64R (y.2.1 : Int) := u64_nat hy.cl
      have wa : IntKind.i64.wrap ((x.1 : Int) + (y.1 : Int)) = ((x.1 + y.1 : Nat) : Int) := by rw [w_i64]; omega
      have um := u64_mod (f x.1 * r y.1)
      have ud := u64_div um uc
      have ul := u64_mod (f x.1 * r y.1 % 18446744073709551616 + (y.2.1 : Int) + 0)
      have up := u64_NI hy.lt (x.1 + y.1)
      obtain ⟨X, C, hX, hC, hT⟩ := hy.step hi3 hk2 (hFj _ hi3) (hRj _ (by omega)) uf ur rfl rfl rfl rfl rfl
      refine ⟨[(0, ⟨0, some 23, []⟩), (1, ⟨1, some 24, []⟩), (2, ⟨3, some 25, []⟩), (3, ⟨0, some 26, []⟩), (4, ⟨8, some 27, []⟩), (5, ⟨24, some 28, []⟩), (6, ⟨63, some 29, []⟩), (7, ⟨127, some 22, []⟩), (8, ⟨255, some 30, []⟩), (9, ⟨255, some 31, []⟩), (10, ⟨511, some 9, []⟩), (11, ⟨2047, some 10, []⟩)], 196, ?_⟩
      repeat ((conv => whnf); (with_reducible refine And.intro ?_ ?_); · first | exact True.intro | with_reducible assumption | omega | (intro _; refine ⟨True.intro, ?_⟩; omega) | (intro _; refine ⟨?_, True.intro⟩; omega) | (intro _; omega) | (refine decide_eq_true ?_; omega) | (intro _; refine ⟨decide_eq_true ?_, ?_⟩ <;> omega) | (simp only [wa, Int.toNat_natCast]; omega) | (simp only [wa, Int.toNat_natCast]; intro _; refine ⟨?_, ?_⟩ <;> first | omega | (refine decide_eq_true ?_; omega)) | exact R8_UL _ _ | (intro hg0; (repeat ((conv => whnf); (with_reducible refine And.intro ?_ ?_); · first | assumption | omega | (intro _; refine ⟨?_, ?_⟩ <;> first | assumption | omega) | (simp only [hg0, Bool.and_self, Bool.true_and]; done) | exact uf | exact ur | exact uc | exact um | exact ul | (simp only [wa, Int.toNat_natCast]; exact up))); (conv => whnf); exact True.intro) | exact uf | exact ur | exact uc | exact um | exact ul | (simp only [wa, Int.toNat_natCast]; exact up))
      conv => whnf
      refine ⟨(y.1 + 1, C, updN y.2.2 (x.1 + y.1) X), ⟨hT, by show 2 - (y.1 + 1) < 2 - y.1; omega⟩, le_of [] ?_⟩
      simp only [wa, Int.toNat_natCast, hC, hX, NI_upd]
      repeat ((conv => whnf); (with_reducible refine And.intro ?_ ?_); · first | with_reducible rfl | exact (Bool.and_false _).symm | (intro _ _; with_reducible rfl) | exact True.intro | assumption | (intro h; exact absurd h (by decide)) | omega | (intro _; omega) | (intro _; refine ⟨?_, True.intro⟩; omega) | (intro _; refine ⟨?_, True.intro⟩; intro _; omega) | (refine decide_eq_false ?_; omega) | (refine decide_eq_true ?_; omega) | (simp only [w_i64, w_u64, w_u32, w_u8]; omega) | exact fun j hj => (put_0 hj).symm | (intro j _; simp only [Nat.zero_add]; done) | (simp [appG]; done) | (simp [appG]; omega) | (intro hgd; (try replace hgd := of_decide_eq_true hgd); (repeat ((conv => whnf); (with_reducible refine And.intro ?_ ?_); · first | with_reducible rfl | exact (Bool.and_false _).symm | (intro _ _; with_reducible rfl) | exact True.intro | assumption | (intro h; exact absurd h (by decide)) | omega | (intro _; omega) | (intro _; refine ⟨?_, True.intro⟩; omega) | (intro _; refine ⟨?_, True.intro⟩; intro _; omega) | (refine decide_eq_false ?_; omega) | (refine decide_eq_true ?_; omega) | (simp only [w_i64, w_u64, w_u32, w_u8]; omega) | exact fun j hj => (put_0 hj).symm | (intro j _; simp only [Nat.zero_add]; done) | (simp [appG]; done) | (simp [appG]; omega))); (conv => whnf); exact True.intro))
      conv => whnf
      exact True.intro
    · replace h2 := of_decide_eq_false h2
      have hk2 : y.1 = 2 := by omega
      rw [hk2] at hy
      obtain ⟨g1, g2⟩ := hy.next hi3
      have wa : IntKind.i64.wrap ((x.1 : Int) + 2) = ((x.1 + 2 : Nat) : Int) := by rw [w_i64]; omega
      repeat ((conv => whnf); (with_reducible refine And.intro ?_ ?_); · first | exact True.intro | with_reducible assumption | omega | (intro _; refine ⟨True.intro, ?_⟩; omega) | (intro _; refine ⟨?_, True.intro⟩; omega) | (intro _; omega) | (refine decide_eq_true ?_; omega) | (intro _; refine ⟨decide_eq_true ?_, ?_⟩ <;> omega) | (simp only [wa, Int.toNat_natCast]; omega) | (simp only [wa, Int.toNat_natCast]; intro _; refine ⟨?_, ?_⟩ <;> first | omega | (refine decide_eq_true ?_; omega)) | exact R8_UL _ _ | (intro hg0; (repeat ((conv => whnf); (with_reducible refine And.intro ?_ ?_); · first | assumption | omega | (intro _; refine ⟨?_, ?_⟩ <;> first | assumption | omega) | (simp only [hg0, Bool.and_self, Bool.true_and]; done))); (conv => whnf); exact True.intro))
      conv => whnf
      refine ⟨(x.1 + 1, updN y.2.2 (x.1 + 2) (y.2.2 (x.1 + 2) + y.2.1)), ⟨g2, by show 3 - (x.1 + 1) < 3 - x.1; omega⟩, le_of [] ?_⟩
      simp only [wa, Int.toNat_natCast, g1, NI_upd]
      repeat ((conv => whnf); (with_reducible refine And.intro ?_ ?_); · first | with_reducible rfl | exact (Bool.and_false _).symm | (intro _ _; with_reducible rfl) | exact True.intro | assumption | (intro h; exact absurd h (by decide)) | omega | (intro _; omega) | (intro _; refine ⟨?_, True.intro⟩; omega) | (intro _; refine ⟨?_, True.intro⟩; intro _; omega) | (refine decide_eq_false ?_; omega) | (refine decide_eq_true ?_; omega) | (simp only [w_i64, w_u64, w_u32, w_u8]; omega) | exact fun j hj => (put_0 hj).symm | (intro j _; simp only [Nat.zero_add]; done) | (simp [appG]; done) | (simp [appG]; omega) | (intro hgd; (try replace hgd := of_decide_eq_true hgd); (repeat ((conv => whnf); (with_reducible refine And.intro ?_ ?_); · first | with_reducible rfl | exact (Bool.and_false _).symm | (intro _ _; with_reducible rfl) | exact True.intro | assumption | (intro h; exact absurd h (by decide)) | omega | (intro _; omega) | (intro _; refine ⟨?_, True.intro⟩; omega) | (intro _; refine ⟨?_, True.intro⟩; intro _; omega) | (refine decide_eq_false ?_; omega) | (refine decide_eq_true ?_; omega) | (simp only [w_i64, w_u64, w_u32, w_u8]; omega) | exact fun j hj => (put_0 hj).symm | (intro j _; simp only [Nat.zero_add]; done) | (simp [appG]; done) | (simp [appG]; omega))); (conv => whnf); exact True.intro))
      conv => whnf
      exact True.intro
  · replace h1 := of_decide_eq_false h1
    have hi3 : x.1 = 3 := by omega
    rw [hi3] at hx
    repeat ((conv => whnf); (with_reducible refine And.intro ?_ ?_); · first | exact True.intro | with_reducible assumption | omega | (intro _; refine ⟨True.intro, ?_⟩; omega) | (intro _; refine ⟨?_, True.intro⟩; omega) | (intro _; omega) | (refine decide_eq_true ?_; omega) | (intro _; refine ⟨decide_eq_true ?_, ?_⟩ <;> omega) | (simp only [w_i64, w_u64, w_u32, w_u8]; omega) | exact R8_UL _ _ | (intro hg0; (repeat ((conv => whnf); (with_reducible refine And.intro ?_ ?_); · first | assumption | omega | (intro _; refine ⟨?_, ?_⟩ <;> first | assumption | omega) | (simp only [hg0, Bool.and_self, Bool.true_and]; done))); (conv => whnf); exact True.intro))
    conv => whnf
    have te := times_end hx hF hRR hV hR (g1 := listI [bits .and .u64 (NI x.2 (Int.toNat 2)) 3, NI x.2 (Int.toNat 1), NI x.2 (Int.toNat 0)].reverse)
      (g2 := listI [NI x.2 (Int.toNat 4) / 2 ^ min (Int.toNat 2) IntKind.u64.bits, bits .or .u64 (NI x.2 (Int.toNat 3) / 2 ^ min (Int.toNat 2) IntKind.u64.bits) (IntKind.u64.wrap (NI x.2 (Int.toNat 4) * 2 ^ min (Int.toNat 62) IntKind.u64.bits)),
        bits .or .u64 (NI x.2 (Int.toNat 2) / 2 ^ min (Int.toNat 2) IntKind.u64.bits) (IntKind.u64.wrap (NI x.2 (Int.toNat 3) * 2 ^ min (Int.toNat 62) IntKind.u64.bits))].reverse) rfl rfl rfl rfl rfl rfl
    generalize listI [bits .and .u64 (NI x.2 (Int.toNat 2)) 3, NI x.2 (Int.toNat 1), NI x.2 (Int.toNat 0)].reverse = g1 at te ⊢
    generalize listI [NI x.2 (Int.toNat 4) / 2 ^ min (Int.toNat 2) IntKind.u64.bits, bits .or .u64 (NI x.2 (Int.toNat 3) / 2 ^ min (Int.toNat 2) IntKind.u64.bits) (IntKind.u64.wrap (NI x.2 (Int.toNat 4) * 2 ^ min (Int.toNat 62) IntKind.u64.bits)),
        bits .or .u64 (NI x.2 (Int.toNat 2) / 2 ^ min (Int.toNat 2) IntKind.u64.bits) (IntKind.u64.wrap (NI x.2 (Int.toNat 3) * 2 ^ min (Int.toNat 62) IntKind.u64.bits))].reverse = g2 at te ⊢
    obtain ⟨r1, r2, n1, n2, hb⟩ := te
    have ht : timesV (N3 f) (N3 r) = (N3 g1 + (N3 g2 + N3 g2 + N3 g2 + N3 g2 + N3 g2)) % 1361129467683753853853498429727072845824 + 5 * ((N3 g1 + (N3 g2 + N3 g2 + N3 g2 + N3 g2 + N3 g2)) / 1361129467683753853853498429727072845824) := by
      unfold timesV
      rw [← n1, ← n2, show 5 * N3 g2 = N3 g2 + N3 g2 + N3 g2 + N3 g2 + N3 g2 by omega]
    have h1 : N3 g1 < 1361129467683753853853498429727072845824 := by rw [n1]; exact Nat.mod_lt _ (by omega)
    have h2 : N3 g2 < 4 * 340282366920938463463374607431768211456 := by rw [n2]; exact Nat.div_lt_of_lt_mul (by omega)
    obtain ⟨L, hL⟩ : ∃ L, L = N3 g1 := ⟨_, rfl⟩
    obtain ⟨H, hH⟩ : ∃ H, H = N3 g2 := ⟨_, rfl⟩
    have e2 : N3 (lim (N3 g2 + N3 g2)) = N3 g2 + N3 g2 := N3_lim' (by omega)
    have e3 : N3 (lim (N3 g2 + N3 g2 + N3 g2)) = N3 g2 + N3 g2 + N3 g2 := N3_lim' (by omega)
    have e4 : N3 (lim (N3 g2 + N3 g2 + N3 g2 + N3 g2)) = N3 g2 + N3 g2 + N3 g2 + N3 g2 := N3_lim' (by omega)
    have e5 : N3 (lim (N3 g2 + N3 g2 + N3 g2 + N3 g2 + N3 g2)) = N3 g2 + N3 g2 + N3 g2 + N3 g2 + N3 g2 := N3_lim' (by omega)
    have e6 : N3 (lim (N3 g1 + (N3 g2 + N3 g2 + N3 g2 + N3 g2 + N3 g2))) = N3 g1 + (N3 g2 + N3 g2 + N3 g2 + N3 g2 + N3 g2) := N3_lim' (by omega)
    have e7 : N3 (lim ((N3 g1 + (N3 g2 + N3 g2 + N3 g2 + N3 g2 + N3 g2)) % 1361129467683753853853498429727072845824)) = (N3 g1 + (N3 g2 + N3 g2 + N3 g2 + N3 g2 + N3 g2)) % 1361129467683753853853498429727072845824 := N3_lim' (by omega)
    have e8 : N3 (lim (5 * ((N3 g1 + (N3 g2 + N3 g2 + N3 g2 + N3 g2 + N3 g2)) / 1361129467683753853853498429727072845824))) = 5 * ((N3 g1 + (N3 g2 + N3 g2 + N3 g2 + N3 g2 + N3 g2)) / 1361129467683753853853498429727072845824) := N3_lim' (by omega)
    refine ⟨[(0, ⟨0, some 93, []⟩), (1, ⟨0, some 94, []⟩), (2, ⟨3, some 95, []⟩), (3, ⟨0, some 96, []⟩), (4, ⟨15, some 97, []⟩), (5, ⟨0, some 98, []⟩), (6, ⟨63, some 99, []⟩), (7, ⟨0, some 100, []⟩), (8, ⟨255, some 101, []⟩), (9, ⟨0, some 14, [150]⟩), (10, ⟨1023, none, [150]⟩)], 182, ?_⟩
    repeat ((conv => whnf); (with_reducible refine And.intro ?_ ?_); · first | exact True.intro | with_reducible assumption | omega | (intro _; refine ⟨True.intro, ?_⟩; omega) | (intro _; refine ⟨?_, True.intro⟩; omega) | (intro _; omega) | (refine decide_eq_true ?_; omega) | (intro _; refine ⟨decide_eq_true ?_, ?_⟩ <;> omega) | (simp only [w_i64, w_u64, w_u32, w_u8]; omega) | exact R8_UL _ _ | (intro hg0; (repeat ((conv => whnf); (with_reducible refine And.intro ?_ ?_); · first | assumption | omega | (intro _; refine ⟨?_, ?_⟩ <;> first | assumption | omega) | (simp only [hg0, Bool.and_self, Bool.true_and]; done) | exact r1 | exact r2 | exact R64_lim _ _)); (conv => whnf); exact True.intro) | exact r1 | exact r2 | exact R64_lim _ _)
    conv => whnf
    simp only [e2, e3, e4, e5]
    repeat ((conv => whnf); (with_reducible refine And.intro ?_ ?_); · first | exact True.intro | with_reducible assumption | omega | (intro _; refine ⟨True.intro, ?_⟩; omega) | (intro _; refine ⟨?_, True.intro⟩; omega) | (intro _; omega) | (refine decide_eq_true ?_; omega) | (intro _; refine ⟨decide_eq_true ?_, ?_⟩ <;> omega) | (simp only [w_i64, w_u64, w_u32, w_u8]; omega) | exact R8_UL _ _ | (intro hg0; (repeat ((conv => whnf); (with_reducible refine And.intro ?_ ?_); · first | assumption | omega | (intro _; refine ⟨?_, ?_⟩ <;> first | assumption | omega) | (simp only [hg0, Bool.and_self, Bool.true_and]; done) | exact r1 | exact r2 | exact R64_lim _ _)); (conv => whnf); exact True.intro) | exact r1 | exact r2 | exact R64_lim _ _)
    conv => whnf
    refine ⟨[], ?_⟩
    simp only [e2, e3, e4, e5, e6, e7, e8, ← ht]
    repeat ((conv => whnf); (with_reducible refine And.intro ?_ ?_); · first | with_reducible rfl | exact (Bool.and_false _).symm | (intro _ _; with_reducible rfl) | exact True.intro | assumption | (intro h; exact absurd h (by decide)) | omega | (intro _; omega) | (intro _; refine ⟨?_, True.intro⟩; omega) | (intro _; refine ⟨?_, True.intro⟩; intro _; omega) | (refine decide_eq_false ?_; omega) | (refine decide_eq_true ?_; omega) | (simp only [w_i64, w_u64, w_u32, w_u8]; omega) | exact fun j hj => (put_0 hj).symm | (intro j _; simp only [Nat.zero_add]; done) | (simp [appG]; done) | (simp [appG]; omega) | (intro hgd; (try replace hgd := of_decide_eq_true hgd); (repeat ((conv => whnf); (with_reducible refine And.intro ?_ ?_); · first | with_reducible rfl | exact (Bool.and_false _).symm | (intro _ _; with_reducible rfl) | exact True.intro | assumption | (intro h; exact absurd h (by decide)) | omega | (intro _; omega) | (intro _; refine ⟨?_, True.intro⟩; omega) | (intro _; refine ⟨?_, True.intro⟩; intro _; omega) | (refine decide_eq_false ?_; omega) | (refine decide_eq_true ?_; omega) | (simp only [w_i64, w_u64, w_u32, w_u8]; omega) | exact fun j hj => (put_0 hj).symm | (intro j _; simp only [Nat.zero_add]; done) | (simp [appG]; done) | (simp [appG]; omega))); (conv => whnf); exact True.intro))
    conv => whnf
    exact True.intro
end Go.Proofs.Ytogijkmflhjhkaa

/- Functions through the evaluator: Poly1305's tag. No condition. -/
namespace Go.Proofs.Ytogijkmflhjhkaa
open Go.Sx Go.RowKit
set_option maxRecDepth 100000
set_option maxHeartbeats 2000000
set_option linter.unusedVariables false
set_option linter.unusedSimpArgs false

theorem cok38 : COk Try.prog (tab [(78, readS), (79, addS), (80, timesS), (81, lessS)]) := cok_cons readS_ok (cok_cons addS_ok (cok_cons timesS_ok (cok_cons lessS_ok cok_nil)))
theorem timesV_lt {a b : Nat} (ha : a < 4 * 1361129467683753853853498429727072845824) (hb : b < 340282366920938463463374607431768211456) : timesV a b < 2 * 1361129467683753853853498429727072845824 := by
  have h : a * b < 4 * 1361129467683753853853498429727072845824 * 340282366920938463463374607431768211456 := Nat.mul_lt_mul'' ha hb
  unfold timesV
  generalize a * b = p at *
  omega
theorem pc_len {M : List B8} {i n0 : Nat} (h : M.length = n0) : (pc M i).length = min (n0 - 16 * i) 16 := by
  rw [pc, List.length_take, List.length_drop, h]; omega
theorem pc_val {M : List B8} {g : Nat → Int} {n0 i : Nat} (hM : M = L8 g n0) (hg : R8 g n0) {j : Nat} (hj : j < min (n0 - 16 * i) 16) : UL (pc M i) j = g (16 * i + j) := by
  rw [UL_getD, pc, getD_take _ _ _ _ (by omega), getD_drop, hM, ← UL_getD, UL_L8 hg _ (by omega)]
theorem pw256 {k : Nat} (h : k ≤ 16) : 256 ^ k ≤ 340282366920938463463374607431768211456 := by
  have := Nat.pow_le_pow_right (n := 256) (by omega) h
  exact this
theorem piece_lt {M : List B8} {i n0 : Nat} (h : M.length = n0) : leN (pc M i) + 256 ^ (pc M i).length < 2 * 340282366920938463463374607431768211456 := by
  have h1 := leN_lt (pc M i)
  have h2 := pw256 (k := (pc M i).length) (by rw [pc_len h]; omega)
  omega
/-- The first i bytes are out. -/
def preF (D : List B8) (i j : Nat) : Int := if j < i then UL D j else 0
theorem preF_step {D : List B8} {i : Nat} {v : Int} (hv : v = UL D i) (j : Nat) : preF D (i + 1) j = upd (preF D i) i v j := by
  unfold upd preF
  by_cases h : j = i
  · subst h; rw [if_pos (by omega), if_pos rfl, hv]
  · rw [if_neg h]
    by_cases h2 : j < i
    · rw [if_pos (by omega), if_pos h2]
    · rw [if_neg (by omega), if_neg h2]
theorem UL_leBi {n V i : Nat} (h : i < n) : UL (leB n V) i = U (BitVec.ofNat 8 (V / 256 ^ i)) := by
  rw [UL_getD]; unfold leB; simp [h]
/-- poly.Tag. -/
noncomputable def tagS : Summary := mkS false [.v, .r .u8] fun
  | [.v (.agg [.ints .u8 k 32]), .r nl g n] => some ⟨.and (.p (R8 k 32)) (.and (.p (R8 g n)) (.p (n ≤ 100000))), some (.sa (.agg [.ints .u8 (UL (polyTag (L8 k 32) (L8 g n))) 16])), [], 0⟩
  | _ => none
theorem tagS_ok : SumOk Try.prog 59 tagS := by
  unfold tagS
  apply sum_ok
  intro vs A H n o r hb h
  split at h
  rotate_left
  · cases h
  rename_i k nl g n0
  injection h with h
  subst h
  cases hb
  refine fsound_of_run tt_ok cok38 mixed_ok Try.call59 Try.func59 rfl (rs := _) Try.results59 (size := 62) Try.ntmps59 (Nat.le_of_ble_eq_true rfl) rfl fun hp hfa hfh => ?_
  obtain ⟨hk, hg, hn⟩ := hp
  have hk : R8 k 32 := hk
  have hg : R8 g n0 := hg
  have hn : n0 ≤ 100000 := hn
  obtain ⟨K, hK⟩ : ∃ K, K = L8 k 32 := ⟨_, rfl⟩
  have hKl : K.length = 32 := by rw [hK, L8_length]
  obtain ⟨M, hM⟩ : ∃ M, M = L8 g n0 := ⟨_, rfl⟩
  have hMl : M.length = n0 := by rw [hM, L8_length]
  have hk1 : R8 (fun j => k (Int.toNat 0 + j)) (Int.toNat 16 - Int.toNat 0) := fun j hj => hk (0 + j) (by have : j < 16 := hj; omega)
  have hk2 : R8 (fun j => k (Int.toNat 16 + j)) (32 - Int.toNat 16) := fun j hj => hk (16 + j) (by have : j < 16 := hj; omega)
  have k1 : L8 (fun j => k (Int.toNat 0 + j)) 16 = K.take 16 := by rw [hK]; exact L8_sub k 32 0 16 (by omega)
  have k2 : L8 (fun j => k (Int.toNat 16 + j)) 16 = (K.drop 16).take 16 := by rw [hK]; exact L8_sub k 32 16 16 (by omega)
  have hR0 : leN (K.take 16) < 340282366920938463463374607431768211456 := by have := leN_lt (K.take 16); rw [List.length_take, hKl] at this; exact this
  have hcl := clamp hR0
  rw [← polyR_eq (by omega : 16 ≤ K.length)] at hcl
  have hRlt := polyR_lt K
  obtain ⟨R, hR⟩ : ∃ R, R = polyR K := ⟨_, rfl⟩
  rw [← hR] at hcl hRlt
  rw [← hK, ← hM]
  repeat ((conv => whnf); (with_reducible refine And.intro ?_ ?_); · first | exact True.intro | with_reducible assumption | omega | (intro _; refine ⟨True.intro, ?_⟩; omega) | (intro _; refine ⟨?_, True.intro⟩; omega) | (intro _; omega) | (refine decide_eq_true ?_; omega) | (intro _; refine ⟨decide_eq_true ?_, ?_⟩ <;> omega) | (simp only [w_i64, w_u64, w_u32, w_u8]; omega) | exact R8_UL _ _ | (intro hg0; (repeat ((conv => whnf); (with_reducible refine And.intro ?_ ?_); · first | assumption | omega | (intro _; refine ⟨?_, ?_⟩ <;> first | assumption | omega) | (simp only [hg0, Bool.and_self, Bool.true_and]; done) | exact hk1 | exact ⟨by decide, by decide⟩)); (conv => whnf); exact True.intro) | exact hk1 | exact ⟨by decide, by decide⟩)
  conv => whnf
  simp only [k1]
  refine ⟨0, Nat × Nat, fun x => ⟨62, [(1, .sa (.sc (.im nl .u8 (fun j => g (16 * x.1 + j)) (n0 - 16 * x.1)))), (2, .sa (.sc (.ptr 0 0 0))), (4, .sa (.sc (.ptr 1 0 0))), (5, .sa (.sc (.ptr 2 0 0))), (6, .sa (.sc (.ptr 3 0 0)))],
    [(0, .own 29 [.ints .u8 k 32] false), (1, .own 68 [.ints .u8 (fun _ => 0) 16] false), (2, .own 98 [.ints .u64 (lim R) 3] false), (3, .own 98 [.ints .u64 (lim x.2) 3] false)], 4⟩,
    fun x => 16 * x.1 < n0 + 16 ∧ x.2 < 2 * 1361129467683753853853498429727072845824 ∧ x.2 % P1305 = polyA R M x.1, fun x => n0 + 16 - 16 * x.1, ⟨(0, 0), ⟨by show 16 * 0 < n0 + 16; omega, by show 0 < 2 * 1361129467683753853853498429727072845824; omega, rfl⟩, le_of [] ?_⟩, fun x hx => ?_⟩
  · have h0 : ∀ j, j < 3 → lim 0 j = 0 := fun j hj => by unfold lim; rw [Nat.zero_div]; rfl
    repeat ((conv => whnf); (with_reducible refine And.intro ?_ ?_); · first | with_reducible rfl | exact (Bool.and_false _).symm | (intro _ _; with_reducible rfl) | exact True.intro | assumption | (intro h; exact absurd h (by decide)) | omega | (intro _; omega) | (intro _; refine ⟨?_, True.intro⟩; omega) | (intro _; refine ⟨?_, True.intro⟩; intro _; omega) | (refine decide_eq_false ?_; omega) | (refine decide_eq_true ?_; omega) | (simp only [w_i64, w_u64, w_u32, w_u8]; omega) | exact fun j hj => (put_0 hj).symm | (intro j _; simp only [Nat.zero_add]; done) | (simp [appG]; done) | (simp [appG]; omega) | exact h0 | exact fun j hj => (hcl j hj).symm | exact fun j _ => by rw [Nat.mul_zero, Nat.zero_add] | (intro hgd; (try replace hgd := of_decide_eq_true hgd); (repeat ((conv => whnf); (with_reducible refine And.intro ?_ ?_); · first | with_reducible rfl | exact (Bool.and_false _).symm | (intro _ _; with_reducible rfl) | exact True.intro | assumption | (intro h; exact absurd h (by decide)) | omega | (intro _; omega) | (intro _; refine ⟨?_, True.intro⟩; omega) | (intro _; refine ⟨?_, True.intro⟩; intro _; omega) | (refine decide_eq_false ?_; omega) | (refine decide_eq_true ?_; omega) | (simp only [w_i64, w_u64, w_u32, w_u8]; omega) | exact fun j hj => (put_0 hj).symm | (intro j _; simp only [Nat.zero_add]; done) | (simp [appG]; done) | (simp [appG]; omega) | exact h0 | exact fun j hj => (hcl j hj).symm | exact fun j _ => by rw [Nat.mul_zero, Nat.zero_add])); (conv => whnf); exact True.intro))
    conv => whnf
    exact True.intro
  obtain ⟨hx1, hx2, hx3⟩ := hx
  have hx1 : 16 * x.1 < n0 + 16 := hx1
  have hx2 : x.2 < 2 * 1361129467683753853853498429727072845824 := hx2
  have hx3 : x.2 % P1305 = polyA R M x.1 := hx3
  repeat ((conv => whnf); (with_reducible refine And.intro ?_ ?_); · first | exact True.intro | with_reducible assumption | omega | (intro _; refine ⟨True.intro, ?_⟩; omega) | (intro _; refine ⟨?_, True.intro⟩; omega) | (intro _; omega) | (refine decide_eq_true ?_; omega) | (intro _; refine ⟨decide_eq_true ?_, ?_⟩ <;> omega) | (simp only [w_i64, w_u64, w_u32, w_u8]; omega) | exact R8_UL _ _ | (intro hg0; (repeat ((conv => whnf); (with_reducible refine And.intro ?_ ?_); · first | assumption | omega | (intro _; refine ⟨?_, ?_⟩ <;> first | assumption | omega) | (simp only [hg0, Bool.and_self, Bool.true_and]; done))); (conv => whnf); exact True.intro))
  conv => whnf
  refine ⟨fun h1 => ?_, fun h1 => ?_⟩
  · replace h1 := of_decide_eq_true h1
    have h16 : 16 * x.1 < n0 := by omega
    repeat ((conv => whnf); (with_reducible refine And.intro ?_ ?_); · first | exact True.intro | with_reducible assumption | omega | (intro _; refine ⟨True.intro, ?_⟩; omega) | (intro _; refine ⟨?_, True.intro⟩; omega) | (intro _; omega) | (refine decide_eq_true ?_; omega) | (intro _; refine ⟨decide_eq_true ?_, ?_⟩ <;> omega) | (simp only [w_i64, w_u64, w_u32, w_u8]; omega) | exact R8_UL _ _ | (intro hg0; (repeat ((conv => whnf); (with_reducible refine And.intro ?_ ?_); · first | assumption | omega | (intro _; refine ⟨?_, ?_⟩ <;> first | assumption | omega) | (simp only [hg0, Bool.and_self, Bool.true_and]; done))); (conv => whnf); exact True.intro))
    conv => whnf
    generalize hXe : upd (put_ (fun _ => 0) (Int.toNat 0) (min (n0 - 16 * x.1) (Int.toNat 16 - Int.toNat 0)) fun j => g (16 * x.1 + j)) ((min (n0 - 16 * x.1) (Int.toNat 16 - Int.toNat 0) : Nat) : Int).toNat 1 = X
    have hmin : min (n0 - 16 * x.1) (Int.toNat 16 - Int.toNat 0) = min (n0 - 16 * x.1) 16 := rfl
    have hl := pc_len (i := x.1) hMl
    have hX : ∀ j, j < 17 → X j = if j < min (n0 - 16 * x.1) 16 then UL (pc M x.1) j else if j = min (n0 - 16 * x.1) 16 then 1 else 0 := fun j hj => by
      rw [← hXe, hmin, Int.toNat_natCast]
      unfold upd put_
      by_cases q1 : j = min (n0 - 16 * x.1) 16
      · rw [if_pos q1, if_neg (by omega), if_pos q1]
      rw [if_neg q1]
      by_cases q2 : j < min (n0 - 16 * x.1) 16
      · rw [if_pos q2, pc_val hM hg q2, if_pos ⟨Nat.zero_le _, by show j < 0 + _; omega⟩]; show g (16 * x.1 + (j - 0)) = _; rw [Nat.sub_zero]
      · rw [if_neg q2, if_neg q1, if_neg fun h => q2 (by have h3 : j < 0 + min (n0 - 16 * x.1) 16 := h.2; omega)]
    have hX8 : R8 X 17 := fun j hj => by
      rw [hX j hj]
      split
      · exact ⟨U_nonneg _, U_lt8 _⟩
      · split <;> omega
    have hXs : (fun j => X (Int.toNat 0 + j)) = X := funext fun j => by show X (0 + j) = X j; rw [Nat.zero_add]
    have hX16 : IntKind.u64.wrap (X (Int.toNat 16)) = X 16 := by
      have := hX8 16 (by omega)
      show IntKind.u64.wrap (X 16) = X 16
      rw [w_u64]; omega
    have hX1 : R8 (fun j => X (Int.toNat 0 + j)) (Int.toNat 16 - Int.toNat 0) := by rw [hXs]; exact R8_le hX8 (by decide)
    have hX2 : u64R (IntKind.u64.wrap (X (Int.toNat 16))) := by rw [hX16]; have := hX8 16 (by omega); unfold u64R; omega
    have hpv : leN (L8 (fun j => X (Int.toNat 0 + j)) 16) + (IntKind.u64.wrap (X (Int.toNat 16))).toNat * 340282366920938463463374607431768211456 = leN (pc M x.1) + 256 ^ (pc M x.1).length := by
      rw [hXs, hX16, hl]
      exact piece_val (l := pc M x.1) hl.symm (by omega) hX
    have hpl := piece_lt (i := x.1) hMl
    have e1 : N3 (lim x.2) = x.2 := N3_lim' (by omega)
    have e2 : N3 (lim (leN (pc M x.1) + 256 ^ (pc M x.1).length)) = leN (pc M x.1) + 256 ^ (pc M x.1).length := N3_lim' (by omega)
    have e3 : N3 (lim (x.2 + (leN (pc M x.1) + 256 ^ (pc M x.1).length))) = x.2 + (leN (pc M x.1) + 256 ^ (pc M x.1).length) := N3_lim' (by omega)
    have e4 : N3 (lim R) = R := N3_lim' (by omega)
    have hA : x.2 + (leN (pc M x.1) + 256 ^ (pc M x.1).length) < 4 * 1361129467683753853853498429727072845824 := by omega
    have hR2 : R < 340282366920938463463374607431768211456 := by omega
    have htl := timesV_lt hA hR2
    have hpA : polyA R M (x.1 + 1) = timesV (x.2 + (leN (pc M x.1) + 256 ^ (pc M x.1).length)) R % P1305 := by
      rw [timesV_mod, polyA]
      exact (step_mod (hx3.trans (Nat.mod_eq_of_lt (polyA_lt R M x.1)).symm)).symm
    refine ⟨[(0, ⟨0, some 29, []⟩), (1, ⟨0, some 30, []⟩), (2, ⟨0, some 31, []⟩), (3, ⟨4, some 32, []⟩), (4, ⟨12, some 33, []⟩), (5, ⟨30, some 34, []⟩), (6, ⟨63, some 35, []⟩), (7, ⟨0, some 36, []⟩), (8, ⟨255, some 37, []⟩), (9, ⟨511, none, [3]⟩)], 165, ?_⟩
    repeat ((conv => whnf); (with_reducible refine And.intro ?_ ?_); · first | exact True.intro | with_reducible assumption | omega | (intro _; refine ⟨True.intro, ?_⟩; omega) | (intro _; refine ⟨?_, True.intro⟩; omega) | (intro _; omega) | (refine decide_eq_true ?_; omega) | (intro _; refine ⟨decide_eq_true ?_, ?_⟩ <;> omega) | (simp only [w_i64, w_u64, w_u32, w_u8]; omega) | exact R8_UL _ _ | (intro hg0; (repeat ((conv => whnf); (with_reducible refine And.intro ?_ ?_); · first | assumption | omega | (intro _; refine ⟨?_, ?_⟩ <;> first | assumption | omega) | (simp only [hg0, Bool.and_self, Bool.true_and]; done) | exact hX1 | exact hX2 | exact R64_lim _ _ | (rw [hpv, e1, e2, e3]; exact hA) | (rw [e4]; exact hR2))); (conv => whnf); exact True.intro) | exact hX1 | exact hX2 | exact R64_lim _ _ | (rw [hpv, e1, e2, e3]; exact hA) | (rw [e4]; exact hR2))
    conv => whnf
    refine ⟨(x.1 + 1, timesV (x.2 + (leN (pc M x.1) + 256 ^ (pc M x.1).length)) R), ⟨⟨by show 16 * (x.1 + 1) < n0 + 16; omega, htl, hpA.symm⟩, by show n0 + 16 - 16 * (x.1 + 1) < n0 + 16 - 16 * x.1; omega⟩, le_of [] ?_⟩
    simp only [hpv, e1, e2, e3, e4, hmin, Int.toNat_natCast]
    have hc : ∀ j, j < n0 - 16 * (x.1 + 1) → g (16 * (x.1 + 1) + j) = g (16 * x.1 + (min (n0 - 16 * x.1) 16 + j)) := fun j hj => congrArg g (by omega)
    repeat ((conv => whnf); (with_reducible refine And.intro ?_ ?_); · first | with_reducible rfl | exact (Bool.and_false _).symm | (intro _ _; with_reducible rfl) | exact True.intro | assumption | (intro h; exact absurd h (by decide)) | omega | (intro _; omega) | (intro _; refine ⟨?_, True.intro⟩; omega) | (intro _; refine ⟨?_, True.intro⟩; intro _; omega) | (refine decide_eq_false ?_; omega) | (refine decide_eq_true ?_; omega) | (simp only [w_i64, w_u64, w_u32, w_u8]; omega) | exact fun j hj => (put_0 hj).symm | (intro j _; simp only [Nat.zero_add]; done) | (simp [appG]; done) | (simp [appG]; omega) | exact hc | (intro hgd; (try replace hgd := of_decide_eq_true hgd); (repeat ((conv => whnf); (with_reducible refine And.intro ?_ ?_); · first | with_reducible rfl | exact (Bool.and_false _).symm | (intro _ _; with_reducible rfl) | exact True.intro | assumption | (intro h; exact absurd h (by decide)) | omega | (intro _; omega) | (intro _; refine ⟨?_, True.intro⟩; omega) | (intro _; refine ⟨?_, True.intro⟩; intro _; omega) | (refine decide_eq_false ?_; omega) | (refine decide_eq_true ?_; omega) | (simp only [w_i64, w_u64, w_u32, w_u8]; omega) | exact fun j hj => (put_0 hj).symm | (intro j _; simp only [Nat.zero_add]; done) | (simp [appG]; done) | (simp [appG]; omega) | exact hc)); (conv => whnf); exact True.intro))
    conv => whnf
    exact True.intro
  · replace h1 := of_decide_eq_false h1
    have h16 : ¬ 16 * x.1 < n0 := by omega
    have hxe : x.1 = (M.length + 15) / 16 := by omega
    have hP : polyTag K M = leB 16 (x.2 % P1305 + leN ((K.drop 16).take 16)) := by
      rw [hx3, hxe, hR, polyTag_eq]; rfl
    have hS : leN ((K.drop 16).take 16) < 340282366920938463463374607431768211456 := by have := leN_lt ((K.drop 16).take 16); rw [List.length_take, List.length_drop, hKl] at this; exact this
    have hPl : x.2 % P1305 < 1361129467683753853853498429727072845824 := by have : x.2 % P1305 < P1305 := Nat.mod_lt _ (by decide); unfold P1305 at this ⊢; omega
    have e1 : N3 (lim x.2) = x.2 := N3_lim' (by omega)
    have e2 : lessV x.2 = x.2 % P1305 := lessV_eq hx2
    have e3 : N3 (lim (x.2 % P1305)) = x.2 % P1305 := N3_lim' (by omega)
    have e4 : N3 (lim (leN ((K.drop 16).take 16) + Int.toNat 0 * 340282366920938463463374607431768211456)) = leN ((K.drop 16).take 16) := by rw [show Int.toNat 0 = 0 from rfl, Nat.zero_mul, Nat.add_zero]; exact N3_lim' (by omega)
    refine ⟨[(0, ⟨0, some 41, []⟩), (1, ⟨1, some 42, []⟩), (2, ⟨0, some 43, []⟩), (3, ⟨7, some 44, []⟩), (4, ⟨15, some 45, []⟩), (5, ⟨31, none, [3]⟩)], 100, ?_⟩
    repeat ((conv => whnf); (with_reducible refine And.intro ?_ ?_); · first | exact True.intro | with_reducible assumption | omega | (intro _; refine ⟨True.intro, ?_⟩; omega) | (intro _; refine ⟨?_, True.intro⟩; omega) | (intro _; omega) | (refine decide_eq_true ?_; omega) | (intro _; refine ⟨decide_eq_true ?_, ?_⟩ <;> omega) | (simp only [w_i64, w_u64, w_u32, w_u8]; omega) | exact R8_UL _ _ | (intro hg0; (repeat ((conv => whnf); (with_reducible refine And.intro ?_ ?_); · first | assumption | omega | (intro _; refine ⟨?_, ?_⟩ <;> first | assumption | omega) | (simp only [hg0, Bool.and_self, Bool.true_and]; done) | exact hk2 | exact R64_lim _ _ | exact ⟨by decide, by decide⟩ | (rw [e1]; exact hx2))); (conv => whnf); exact True.intro) | exact hk2 | exact R64_lim _ _ | exact ⟨by decide, by decide⟩ | (rw [e1]; exact hx2))
    conv => whnf
    simp only [e1, e2, e3, k2, e4]
    rw [hP]
    obtain ⟨V, hVe⟩ : ∃ V, V = x.2 % P1305 + leN ((K.drop 16).take 16) := ⟨_, rfl⟩
    simp only [← hVe]
    refine ⟨0, Nat, fun i => ⟨62, [(2, .sa (.sc (.ptr 0 0 0))), (4, .sa (.sc (.ptr 1 0 0))), (5, .sa (.sc (.ptr 2 0 0))), (6, .sa (.sc (.ptr 3 0 0))), (9, .sa (.sc (.ptr 4 0 0))), (46, .sa (.sc (.int .i64 i)))],
      [(0, .own 29 [.ints .u8 k 32] false), (1, .own 68 [.ints .u8 (fun _ => 0) 16] false), (2, .own 98 [.ints .u64 (lim R) 3] false), (3, .own 98 [.ints .u64 (lim V) 3] false), (4, .own 68 [.ints .u8 (preF (leB 16 V) i) 16] false)], 5⟩,
      fun i => i ≤ 16, fun i => 16 - i, ⟨0, by omega, le_of [(4, 100)] ?_⟩, fun i hi => ?_⟩
    · repeat ((conv => whnf); (with_reducible refine And.intro ?_ ?_); · first | with_reducible rfl | exact (Bool.and_false _).symm | (intro _ _; with_reducible rfl) | exact True.intro | assumption | (intro h; exact absurd h (by decide)) | omega | (intro _; omega) | (intro _; refine ⟨?_, True.intro⟩; omega) | (intro _; refine ⟨?_, True.intro⟩; intro _; omega) | (refine decide_eq_false ?_; omega) | (refine decide_eq_true ?_; omega) | (simp only [w_i64, w_u64, w_u32, w_u8]; omega) | exact fun j hj => (put_0 hj).symm | (intro j _; simp only [Nat.zero_add]; done) | (simp [appG]; done) | (simp [appG]; omega) | exact fun j _ => if_neg (by omega) | (intro hgd; (try replace hgd := of_decide_eq_true hgd); (repeat ((conv => whnf); (with_reducible refine And.intro ?_ ?_); · first | with_reducible rfl | exact (Bool.and_false _).symm | (intro _ _; with_reducible rfl) | exact True.intro | assumption | (intro h; exact absurd h (by decide)) | omega | (intro _; omega) | (intro _; refine ⟨?_, True.intro⟩; omega) | (intro _; refine ⟨?_, True.intro⟩; intro _; omega) | (refine decide_eq_false ?_; omega) | (refine decide_eq_true ?_; omega) | (simp only [w_i64, w_u64, w_u32, w_u8]; omega) | exact fun j hj => (put_0 hj).symm | (intro j _; simp only [Nat.zero_add]; done) | (simp [appG]; done) | (simp [appG]; omega) | exact fun j _ => if_neg (by omega))); (conv => whnf); exact True.intro))
      conv => whnf
      exact True.intro
    have hi : i ≤ 16 := hi
    repeat ((conv => whnf); (with_reducible refine And.intro ?_ ?_); · first | exact True.intro | with_reducible assumption | omega | (intro _; refine ⟨True.intro, ?_⟩; omega) | (intro _; refine ⟨?_, True.intro⟩; omega) | (intro _; omega) | (refine decide_eq_true ?_; omega) | (intro _; refine ⟨decide_eq_true ?_, ?_⟩ <;> omega) | (simp only [w_i64, w_u64, w_u32, w_u8]; omega) | exact R8_UL _ _ | (intro hg0; (repeat ((conv => whnf); (with_reducible refine And.intro ?_ ?_); · first | assumption | omega | (intro _; refine ⟨?_, ?_⟩ <;> first | assumption | omega) | (simp only [hg0, Bool.and_self, Bool.true_and]; done))); (conv => whnf); exact True.intro))
    conv => whnf
    refine ⟨fun h2 => ?_, fun h2 => ?_⟩
    · replace h2 := of_decide_eq_true h2
      have hi16 : i < 16 := by omega
      have q1 : IntKind.i64.wrap (((i : Nat) : Int).tdiv 8) = ((i / 8 : Nat) : Int) := by rw [show ((i : Nat) : Int).tdiv 8 = ((i / 8 : Nat) : Int) from rfl, w_i64]; omega
      have q2 : ((i : Nat) : Int).tmod 8 = ((i % 8 : Nat) : Int) := rfl
      have q3 : IntKind.i64.wrap (8 * ((i % 8 : Nat) : Int)) = ((8 * (i % 8) : Nat) : Int) := by rw [w_i64]; omega
      have q4 : min (8 * (i % 8)) IntKind.u64.bits = 8 * (i % 8) := Nat.min_eq_left (by show _ ≤ 64; omega)
      have hq : i / 8 < 3 := by omega
      repeat ((conv => whnf); (with_reducible refine And.intro ?_ ?_); · first | exact True.intro | with_reducible assumption | omega | (intro _; refine ⟨True.intro, ?_⟩; omega) | (intro _; refine ⟨?_, True.intro⟩; omega) | (intro _; omega) | (refine decide_eq_true ?_; omega) | (intro _; refine ⟨decide_eq_true ?_, ?_⟩ <;> omega) | (simp only [q1, q2, q3, Int.toNat_natCast]; omega) | (simp only [q1, q2, q3, Int.toNat_natCast]; intro _; refine ⟨?_, ?_⟩ <;> first | omega | (refine decide_eq_true ?_; omega)) | exact R8_UL _ _ | (intro hg0; (repeat ((conv => whnf); (with_reducible refine And.intro ?_ ?_); · first | assumption | omega | (intro _; refine ⟨?_, ?_⟩ <;> first | assumption | omega) | (simp only [hg0, Bool.and_self, Bool.true_and]; done))); (conv => whnf); exact True.intro))
      conv => whnf
      refine ⟨i + 1, ⟨by show i + 1 ≤ 16; omega, by show 16 - (i + 1) < 16 - i; omega⟩, le_of [] ?_⟩
      have hst := preF_step (D := leB 16 V) (i := i) ((byte_lim (V := V) hi16).trans (UL_leBi hi16).symm)
      simp only [q1, q2, q3, Int.toNat_natCast, q4]
      repeat ((conv => whnf); (with_reducible refine And.intro ?_ ?_); · first | with_reducible rfl | exact (Bool.and_false _).symm | (intro _ _; with_reducible rfl) | exact True.intro | assumption | (intro h; exact absurd h (by decide)) | omega | (intro _; omega) | (intro _; refine ⟨?_, True.intro⟩; omega) | (intro _; refine ⟨?_, True.intro⟩; intro _; omega) | (refine decide_eq_false ?_; omega) | (refine decide_eq_true ?_; omega) | (simp only [w_i64, w_u64, w_u32, w_u8]; omega) | exact fun j hj => (put_0 hj).symm | (intro j _; simp only [Nat.zero_add]; done) | (simp [appG]; done) | (simp [appG]; omega) | exact fun j _ => hst j | (intro hgd; (try replace hgd := of_decide_eq_true hgd); (repeat ((conv => whnf); (with_reducible refine And.intro ?_ ?_); · first | with_reducible rfl | exact (Bool.and_false _).symm | (intro _ _; with_reducible rfl) | exact True.intro | assumption | (intro h; exact absurd h (by decide)) | omega | (intro _; omega) | (intro _; refine ⟨?_, True.intro⟩; omega) | (intro _; refine ⟨?_, True.intro⟩; intro _; omega) | (refine decide_eq_false ?_; omega) | (refine decide_eq_true ?_; omega) | (simp only [w_i64, w_u64, w_u32, w_u8]; omega) | exact fun j hj => (put_0 hj).symm | (intro j _; simp only [Nat.zero_add]; done) | (simp [appG]; done) | (simp [appG]; omega) | exact fun j _ => hst j)); (conv => whnf); exact True.intro))
      conv => whnf
      exact True.intro
    · replace h2 := of_decide_eq_false h2
      have hie : i = 16 := by omega
      subst hie
      repeat ((conv => whnf); (with_reducible refine And.intro ?_ ?_); · first | exact True.intro | with_reducible assumption | omega | (intro _; refine ⟨True.intro, ?_⟩; omega) | (intro _; refine ⟨?_, True.intro⟩; omega) | (intro _; omega) | (refine decide_eq_true ?_; omega) | (intro _; refine ⟨decide_eq_true ?_, ?_⟩ <;> omega) | (simp only [w_i64, w_u64, w_u32, w_u8]; omega) | exact R8_UL _ _ | (intro hg0; (repeat ((conv => whnf); (with_reducible refine And.intro ?_ ?_); · first | assumption | omega | (intro _; refine ⟨?_, ?_⟩ <;> first | assumption | omega) | (simp only [hg0, Bool.and_self, Bool.true_and]; done))); (conv => whnf); exact True.intro))
      conv => whnf
      refine ⟨[], ?_⟩
      repeat ((conv => whnf); (with_reducible refine And.intro ?_ ?_); · first | with_reducible rfl | exact (Bool.and_false _).symm | (intro _ _; with_reducible rfl) | exact True.intro | assumption | (intro h; exact absurd h (by decide)) | omega | (intro _; omega) | (intro _; refine ⟨?_, True.intro⟩; omega) | (intro _; refine ⟨?_, True.intro⟩; intro _; omega) | (refine decide_eq_false ?_; omega) | (refine decide_eq_true ?_; omega) | (simp only [w_i64, w_u64, w_u32, w_u8]; omega) | exact fun j hj => (put_0 hj).symm | (intro j _; simp only [Nat.zero_add]; done) | (simp [appG]; done) | (simp [appG]; omega) | (intro j hj; unfold preF; rw [if_pos hj]) | (intro hgd; (try replace hgd := of_decide_eq_true hgd); (repeat ((conv => whnf); (with_reducible refine And.intro ?_ ?_); · first | with_reducible rfl | exact (Bool.and_false _).symm | (intro _ _; with_reducible rfl) | exact True.intro | assumption | (intro h; exact absurd h (by decide)) | omega | (intro _; omega) | (intro _; refine ⟨?_, True.intro⟩; omega) | (intro _; refine ⟨?_, True.intro⟩; intro _; omega) | (refine decide_eq_false ?_; omega) | (refine decide_eq_true ?_; omega) | (simp only [w_i64, w_u64, w_u32, w_u8]; omega) | exact fun j hj => (put_0 hj).symm | (intro j _; simp only [Nat.zero_add]; done) | (simp [appG]; done) | (simp [appG]; omega) | (intro j hj; unfold preF; rw [if_pos hj]))); (conv => whnf); exact True.intro))
      conv => whnf
      exact True.intro
end Go.Proofs.Ytogijkmflhjhkaa

/- Sealed bytes as RFC 8439 says them; a tape of sums. Plain definitions and lemmas: no program, no condition. -/
namespace Go.Proofs.Ytogijkmflhjhkaa
open Go.Sx Go.RowKit
set_option linter.unusedSimpArgs false
set_option linter.unusedVariables false

def fillN (n : Nat) : Nat := (16 - n % 16) % 16
def fill (l : List B8) : List B8 := l ++ List.replicate (fillN l.length) 0
theorem fill_length (l : List B8) : (fill l).length = l.length + fillN l.length := by simp [fill]
theorem fill_whole (l : List B8) : (fill l).length % 16 = 0 := by rw [fill_length, fillN]; omega
def aeM (ad c : List B8) : List B8 := fill (fill ad ++ c) ++ leB 8 ad.length ++ leB 8 c.length
noncomputable def aeK (key nonce : List B8) : List B8 := (chBlock key 0 nonce).take 32
/-- The tag of sealed bytes. -/
noncomputable def aeMark (key nonce ad c : List B8) : List B8 := polyTag (aeK key nonce) (aeM ad c)
theorem aeMark_length (key nonce ad c : List B8) : (aeMark key nonce ad c).length = 16 := polyTag_length _ _
noncomputable def aeSeal (key nonce ad b : List B8) : List B8 := chXor key 1 nonce b ++ aeMark key nonce ad (chXor key 1 nonce b)
theorem aeSeal_length (key nonce ad b : List B8) : (aeSeal key nonce ad b).length = b.length + 16 := by
  rw [aeSeal, List.length_append, chXor_length, aeMark_length]
/-- Is it opened? What comes out? -/
noncomputable def aeIs (key nonce ad c : List B8) : Bool := sealF (decide (16 ≤ c.length ∧ aeMark key nonce ad (c.take (c.length - 16)) = c.drop (c.length - 16)))
theorem aeIs_eq (key nonce ad c : List B8) : aeIs key nonce ad c = decide (16 ≤ c.length ∧ aeMark key nonce ad (c.take (c.length - 16)) = c.drop (c.length - 16)) := sealF_eq _
noncomputable def aeOut (key nonce ad c : List B8) : List B8 := sealF (if aeIs key nonce ad c = true then chXor key 1 nonce (c.take (c.length - 16)) else [])
theorem aeOut_eq (key nonce ad c : List B8) : aeOut key nonce ad c = if aeIs key nonce ad c = true then chXor key 1 nonce (c.take (c.length - 16)) else [] := sealF_eq _
theorem aeIs_seal (key nonce ad b : List B8) : aeIs key nonce ad (aeSeal key nonce ad b) = true := by
  rw [aeIs_eq]
  refine decide_eq_true ⟨by rw [aeSeal_length]; omega, ?_⟩
  rw [aeSeal_length, Nat.add_sub_cancel, aeSeal, List.take_left' (chXor_length _ _ _ _), List.drop_left' (chXor_length _ _ _ _)]
theorem aeOut_seal (key nonce ad b : List B8) : aeOut key nonce ad (aeSeal key nonce ad b) = b := by
  rw [aeOut_eq, if_pos (aeIs_seal _ _ _ _), aeSeal_length, Nat.add_sub_cancel, aeSeal, List.take_left' (chXor_length _ _ _ _), chXor_twice]

/-! a tape -/
variable (B : Nat → List B8)
/-- k blocks. -/
def tapeN : Nat → List B8
  | 0 => []
  | k + 1 => tapeN k ++ B k
theorem tapeN_length (hB : ∀ i, (B i).length = 32) (k : Nat) : (tapeN B k).length = 32 * k := by
  induction k with
  | zero => rfl
  | succ k ih => rw [tapeN, List.length_append, ih, hB]; omega
theorem tapeN_front (hB : ∀ i, (B i).length = 32) {k : Nat} : ∀ {m : Nat}, k ≤ m → (tapeN B m).take (32 * k) = tapeN B k
  | 0, h => by rw [Nat.le_zero.1 h]; rfl
  | m + 1, h => by
    by_cases e : k = m + 1
    · rw [e, List.take_of_length_le (by rw [tapeN_length B hB]; omega)]
    · rw [tapeN, List.take_append_of_le_length (by rw [tapeN_length B hB]; omega), tapeN_front hB (by omega)]
/-- n bytes of a tape from a place on. -/
def tapeAt (a n : Nat) : List B8 := ((tapeN B ((a + n + 31) / 32)).drop a).take n
theorem tapeAt_length (hB : ∀ i, (B i).length = 32) (a n : Nat) : (tapeAt B a n).length = n := by
  rw [tapeAt, List.length_take, List.length_drop, tapeN_length B hB]; omega
theorem tapeAt_eq (hB : ∀ i, (B i).length = 32) {a n k : Nat} (h : a + n ≤ 32 * k) : tapeAt B a n = ((tapeN B k).drop a).take n := by
  rw [tapeAt, ← tapeN_front B hB (show (a + n + 31) / 32 ≤ k by omega)]
  rw [List.drop_take, List.take_take, Nat.min_eq_left (by omega)]
theorem tapeAt_get (hB : ∀ i, (B i).length = 32) {a n i : Nat} (h : i < n) : (tapeAt B a n).getD i 0 = (tapeN B ((a + i) / 32 + 1)).getD (a + i) 0 := by
  have e := tapeN_front B hB (show (a + i) / 32 + 1 ≤ (a + n + 31) / 32 by omega)
  rw [tapeAt, getD_take _ _ _ _ h, getD_drop, ← e, getD_take _ _ _ _ (by omega)]
theorem tapeAt_append (hB : ∀ i, (B i).length = 32) (a n m : Nat) : tapeAt B a n ++ tapeAt B (a + n) m = tapeAt B a (n + m) := by
  rw [tapeAt_eq B hB (show a + n ≤ 32 * ((a + n + m + 31) / 32) by omega), tapeAt_eq B hB (show a + n + m ≤ 32 * ((a + n + m + 31) / 32) by omega),
    tapeAt_eq B hB (show a + (n + m) ≤ 32 * ((a + n + m + 31) / 32) by omega), ← List.drop_drop, List.take_add]
end Go.Proofs.Ytogijkmflhjhkaa

/- Functions through the evaluator: sha's rounds. No condition. -/
namespace Go.Proofs.Ytogijkmflhjhkaa
open Go.Sx Go.RowKit
set_option linter.unusedSimpArgs false
set_option maxRecDepth 100000
set_option linter.unusedVariables false

theorem cok2 : COk Try.prog (tab [(73, rotS), (88, wordsS), (89, constS)]) := cok_cons rotS_ok (cok_cons wordsS_ok (cok_cons constS_ok cok_nil))
/-- The state's words, i of which have been added to. -/
def mixF (h : Nat → Int) (m : List W32) (i j : Nat) : Int := if j < i then UL m j else h j
theorem mixF_step {h : Nat → Int} {H : List W32} {V : List W32} {i : Nat} (hH : H.length = 8) (hV : V.length = 8) (hh : ∀ j, j < 8 → h j = UL H j) (hi : i < 8) (j : Nat) (hj : j < 8) :
    mixF h (addv H V) (i + 1) j = upd (mixF h (addv H V) i) i (IntKind.u32.wrap (mixF h (addv H V) i i + UL V i)) j := by
  unfold upd mixF
  by_cases h1 : j = i
  · subst h1
    rw [if_pos (by omega), if_pos rfl, if_neg (by omega), hh _ hi]
    simp only [UL_getD, add32]
    congr 1
    simp [addv, List.getD_eq_getElem?_getD, hH, hV, hi]
  · rw [if_neg h1]
    by_cases h2 : j < i
    · rw [if_pos (by omega), if_pos h2]
    · rw [if_neg (by omega), if_neg h2]

theorem rot6 : rotN (-6) = 26 := rfl
theorem rot11 : rotN (-11) = 21 := rfl
theorem rot25 : rotN (-25) = 7 := rfl
theorem rot2 : rotN (-2) = 30 := rfl
theorem rot13 : rotN (-13) = 19 := rfl
theorem rot22 : rotN (-22) = 10 := rfl
theorem not32' (x : BitVec 32) : bits .xor .u32 (if IntKind.u32.signed = true then -1 else IntKind.u32.max) (U x) = U (~~~x) := not32 x

/-- (*sha.State).mix: a block mixed into a state. -/
def mixS : Summary := mkS false [.p 82 [.i .u32 8, .o, .o], .r .u8] fun
  | [.p [.i h, .o, .o], .r nl g n] => some ⟨.and (.p (64 ≤ n)) (.and (.p (R8 g n)) (.p (R32 h 8))), some (.tup []), [(0, .own 82 [.ints .u32 (UL (mix (L32 h 8) (L8 g n))) 8, .one (.opq 0), .one (.opq 1)] false)], 1⟩
  | _ => none
theorem mixS_ok : SumOk Try.prog 66 mixS := by
  unfold mixS
  apply sum_ok
  intro vs A H n o r hb h
  split at h
  rotate_left
  · cases h
  rename_i h nl g n0
  injection h with h
  subst h
  cases hb
  refine fsound_of_run tt_ok cok2 mixed_ok Try.call66 Try.func66 rfl (rs := _) Try.results66 (size := 121) Try.ntmps66 (Nat.le_of_ble_eq_true rfl) rfl fun hp hfa hfh => ?_
  obtain ⟨hn, hg, hh⟩ := hp
  have hn : 64 ≤ n0 := hn
  have hg : R8 g n0 := hg
  have hh : R32 h 8 := hh
  repeat ((conv => whnf); (with_reducible refine And.intro ?_ ?_); · first | exact True.intro | (intro hg0; simp only [hg0, Bool.not_false, Bool.not_true]; done) | assumption | omega | (intro _; refine ⟨True.intro, ?_⟩; omega) | (intro _; refine ⟨?_, True.intro⟩; omega) | (intro _; refine ⟨decide_eq_true ?_, ?_⟩ <;> omega) | (intro _; refine ⟨?_, ?_⟩ <;> first | omega | (simp [appG, Cd.holds]; done) | (simp [appG, Cd.holds]; omega)) | (refine decide_eq_true ?_; omega) | (intro _; omega) | (simp only [w_i64, w_u64, w_u32, w_u8]; omega) | exact ⟨U_nonneg _, U_lt32 _⟩ | exact R8_UL _ _ | exact R32_UL _ _ | (intro hg0; (repeat ((conv => whnf); (with_reducible refine And.intro ?_ ?_); · first | assumption | omega | (intro _; refine ⟨?_, ?_⟩ <;> first | assumption | omega | exact True.intro | (refine decide_eq_true ?_; omega) | (simp [appG, Cd.holds]; omega)) | (intro _; refine ⟨And.intro ?_ ?_, ?_⟩ <;> first | assumption | omega | (refine decide_eq_true ?_; omega)) | (simp only [hg0, Bool.and_self, Bool.true_and]; done) | (intro hg1; simp only [hg0, hg1, Bool.and_self, Bool.true_and]; done) | (simp [hg0]; done))); (conv => whnf); exact True.intro))
  conv => whnf
  refine ⟨0, Nat, fun i => ⟨121, [(22, .sa (.sc (.int .i64 i))), (0, .sa (.sc (.ptr 0 0 0))), (4, .sa (.sc (.ptr 1 0 0))), (5, .sa (.sc (.ptr 2 0 0))), (6, .sa (.sc (.ptr 3 0 0)))],
    [(0, .own 82 [.ints .u32 h 8, .one (.opq 0), .one (.opq 1)] false), (1, .own 107 [.ints .u32 (UL (wsched (L8 g n0))) 64] false), (2, .own 107 [.ints .u32 (UL K256) 64] false),
     (3, .own 79 [.ints .u32 (UL (rnds (wsched (L8 g n0)) i (L32 h 8))) 8] false)], 4⟩, fun i => i ≤ 64, fun i => 64 - i, ⟨0, by omega, le_of [] ?_⟩, fun i hi => ?_⟩
  · repeat ((conv => whnf); (with_reducible refine And.intro ?_ ?_); · first | with_reducible rfl | exact (Bool.and_false _).symm | (intro _ _; with_reducible rfl) | exact True.intro | assumption | (intro h; exact absurd h (by decide)) | omega | (intro _; omega) | (intro _; refine ⟨?_, True.intro⟩; omega) | (intro _; refine ⟨?_, True.intro⟩; intro _; omega) | (refine decide_eq_false ?_; omega) | (refine decide_eq_true ?_; omega) | (simp only [w_i64, w_u64, w_u32, w_u8]; omega) | exact fun j hj => (put_0 hj).symm | (intro j _; simp only [Nat.zero_add]; done) | (simp [appG]; done) | (simp [appG]; omega) | exact fun j hj => UL_L32 hh j hj | (intro hgd; (try replace hgd := of_decide_eq_true hgd); (repeat ((conv => whnf); (with_reducible refine And.intro ?_ ?_); · first | with_reducible rfl | exact (Bool.and_false _).symm | (intro _ _; with_reducible rfl) | exact True.intro | assumption | (intro h; exact absurd h (by decide)) | omega | (intro _; omega) | (intro _; refine ⟨?_, True.intro⟩; omega) | (intro _; refine ⟨?_, True.intro⟩; intro _; omega) | (refine decide_eq_false ?_; omega) | (refine decide_eq_true ?_; omega) | (simp only [w_i64, w_u64, w_u32, w_u8]; omega) | exact fun j hj => (put_0 hj).symm | (intro j _; simp only [Nat.zero_add]; done) | (simp [appG]; done) | (simp [appG]; omega) | exact fun j hj => UL_L32 hh j hj)); (conv => whnf); exact True.intro))
    conv => whnf
    exact True.intro
  repeat ((conv => whnf); (with_reducible refine And.intro ?_ ?_); · first | exact True.intro | (intro hg0; simp only [hg0, Bool.not_false, Bool.not_true]; done) | assumption | omega | (intro _; refine ⟨True.intro, ?_⟩; omega) | (intro _; refine ⟨?_, True.intro⟩; omega) | (intro _; refine ⟨decide_eq_true ?_, ?_⟩ <;> omega) | (intro _; refine ⟨?_, ?_⟩ <;> first | omega | (simp [appG, Cd.holds]; done) | (simp [appG, Cd.holds]; omega)) | (refine decide_eq_true ?_; omega) | (intro _; omega) | (simp only [w_i64, w_u64, w_u32, w_u8]; omega) | exact ⟨U_nonneg _, U_lt32 _⟩ | exact R8_UL _ _ | exact R32_UL _ _ | (intro hg0; (repeat ((conv => whnf); (with_reducible refine And.intro ?_ ?_); · first | assumption | omega | (intro _; refine ⟨?_, ?_⟩ <;> first | assumption | omega | exact True.intro | (refine decide_eq_true ?_; omega) | (simp [appG, Cd.holds]; omega)) | (intro _; refine ⟨And.intro ?_ ?_, ?_⟩ <;> first | assumption | omega | (refine decide_eq_true ?_; omega)) | (simp only [hg0, Bool.and_self, Bool.true_and]; done) | (intro hg1; simp only [hg0, hg1, Bool.and_self, Bool.true_and]; done) | (simp [hg0]; done))); (conv => whnf); exact True.intro))
  conv => whnf
  refine ⟨fun h1 => ?_, fun h1 => ?_⟩
  · have hi' : (i : Int) < 64 := of_decide_eq_true h1
    repeat ((conv => whnf); (with_reducible refine And.intro ?_ ?_); · first | exact True.intro | (intro hg0; simp only [hg0, Bool.not_false, Bool.not_true]; done) | assumption | omega | (intro _; refine ⟨True.intro, ?_⟩; omega) | (intro _; refine ⟨?_, True.intro⟩; omega) | (intro _; refine ⟨decide_eq_true ?_, ?_⟩ <;> omega) | (intro _; refine ⟨?_, ?_⟩ <;> first | omega | (simp [appG, Cd.holds]; done) | (simp [appG, Cd.holds]; omega)) | (refine decide_eq_true ?_; omega) | (intro _; omega) | (simp only [w_i64, w_u64, w_u32, w_u8]; omega) | exact ⟨U_nonneg _, U_lt32 _⟩ | exact R8_UL _ _ | exact R32_UL _ _ | (intro hg0; (repeat ((conv => whnf); (with_reducible refine And.intro ?_ ?_); · first | assumption | omega | (intro _; refine ⟨?_, ?_⟩ <;> first | assumption | omega | exact True.intro | (refine decide_eq_true ?_; omega) | (simp [appG, Cd.holds]; omega)) | (intro _; refine ⟨And.intro ?_ ?_, ?_⟩ <;> first | assumption | omega | (refine decide_eq_true ?_; omega)) | (simp only [hg0, Bool.and_self, Bool.true_and]; done) | (intro hg1; simp only [hg0, hg1, Bool.and_self, Bool.true_and]; done) | (simp [hg0]; done))); (conv => whnf); exact True.intro))
    conv => whnf
    refine ⟨[(0, ⟨0, some 25, []⟩), (1, ⟨1, some 26, []⟩), (2, ⟨0, some 27, []⟩), (3, ⟨4, some 28, []⟩), (4, ⟨3, some 8, []⟩), (5, ⟨31, some 9, []⟩)], 100, ?_⟩
    repeat ((conv => whnf); (with_reducible refine And.intro ?_ ?_); · first | exact True.intro | (intro hg0; simp only [hg0, Bool.not_false, Bool.not_true]; done) | assumption | omega | (intro _; refine ⟨True.intro, ?_⟩; omega) | (intro _; refine ⟨?_, True.intro⟩; omega) | (intro _; refine ⟨decide_eq_true ?_, ?_⟩ <;> omega) | (intro _; refine ⟨?_, ?_⟩ <;> first | omega | (simp [appG, Cd.holds]; done) | (simp [appG, Cd.holds]; omega)) | (refine decide_eq_true ?_; omega) | (intro _; omega) | (simp only [w_i64, w_u64, w_u32, w_u8]; omega) | exact ⟨U_nonneg _, U_lt32 _⟩ | exact R8_UL _ _ | exact R32_UL _ _ | (intro hg0; (repeat ((conv => whnf); (with_reducible refine And.intro ?_ ?_); · first | assumption | omega | (intro _; refine ⟨?_, ?_⟩ <;> first | assumption | omega | exact True.intro | (refine decide_eq_true ?_; omega) | (simp [appG, Cd.holds]; omega)) | (intro _; refine ⟨And.intro ?_ ?_, ?_⟩ <;> first | assumption | omega | (refine decide_eq_true ?_; omega)) | (simp only [hg0, Bool.and_self, Bool.true_and]; done) | (intro hg1; simp only [hg0, hg1, Bool.and_self, Bool.true_and]; done) | (simp [hg0]; done))); (conv => whnf); exact True.intro))
    conv => whnf
    refine ⟨[(0, ⟨0, some 37, []⟩), (1, ⟨1, some 38, []⟩), (2, ⟨0, some 39, []⟩), (3, ⟨7, some 40, []⟩), (4, ⟨0, some 41, []⟩), (5, ⟨0, some 42, []⟩), (6, ⟨32, some 43, []⟩), (7, ⟨112, some 44, []⟩), (8, ⟨0, some 45, []⟩), (9, ⟨256, some 46, []⟩), (10, ⟨0, some 47, []⟩), (11, ⟨1024, some 48, []⟩), (12, ⟨3840, some 49, []⟩), (13, ⟨8176, some 50, []⟩), (14, ⟨16383, some 51, []⟩), (15, ⟨0, some 52, []⟩), (16, ⟨32768, some 53, []⟩), (17, ⟨98304, some 54, []⟩), (18, ⟨262143, some 55, []⟩), (19, ⟨0, some 56, []⟩), (20, ⟨524288, some 57, []⟩), (21, ⟨1572864, some 58, []⟩), (22, ⟨4194303, some 59, []⟩), (23, ⟨8388607, some 11, []⟩)], 484, ?_⟩
    repeat ((conv => whnf); (with_reducible refine And.intro ?_ ?_); · first | exact True.intro | (intro hg0; simp only [hg0, Bool.not_false, Bool.not_true]; done) | assumption | omega | (intro _; refine ⟨True.intro, ?_⟩; omega) | (intro _; refine ⟨?_, True.intro⟩; omega) | (intro _; refine ⟨decide_eq_true ?_, ?_⟩ <;> omega) | (intro _; refine ⟨?_, ?_⟩ <;> first | omega | (simp [appG, Cd.holds]; done) | (simp [appG, Cd.holds]; omega)) | (refine decide_eq_true ?_; omega) | (intro _; omega) | (simp only [w_i64, w_u64, w_u32, w_u8]; omega) | exact ⟨U_nonneg _, U_lt32 _⟩ | exact R8_UL _ _ | exact R32_UL _ _ | (intro hg0; (repeat ((conv => whnf); (with_reducible refine And.intro ?_ ?_); · first | assumption | omega | (intro _; refine ⟨?_, ?_⟩ <;> first | assumption | omega | exact True.intro | (refine decide_eq_true ?_; omega) | (simp [appG, Cd.holds]; omega)) | (intro _; refine ⟨And.intro ?_ ?_, ?_⟩ <;> first | assumption | omega | (refine decide_eq_true ?_; omega)) | (simp only [hg0, Bool.and_self, Bool.true_and]; done) | (intro hg1; simp only [hg0, hg1, Bool.and_self, Bool.true_and]; done) | (simp [hg0]; done))); (conv => whnf); exact True.intro))
    conv => whnf
    refine ⟨i + 1, ⟨by omega, by dsimp only; omega⟩, le_of [] ?_⟩
    repeat ((conv => whnf); (with_reducible refine And.intro ?_ ?_); · first | with_reducible rfl | exact (Bool.and_false _).symm | (intro _ _; with_reducible rfl) | exact True.intro | assumption | (intro h; exact absurd h (by decide)) | omega | (intro _; omega) | (intro _; refine ⟨?_, True.intro⟩; omega) | (intro _; refine ⟨?_, True.intro⟩; intro _; omega) | (refine decide_eq_false ?_; omega) | (refine decide_eq_true ?_; omega) | (simp only [w_i64, w_u64, w_u32, w_u8]; omega) | exact fun j hj => (put_0 hj).symm | (intro j _; simp only [Nat.zero_add]; done) | (simp [appG]; done) | (simp [appG]; omega) | (intro hgd; (try replace hgd := of_decide_eq_true hgd); (repeat ((conv => whnf); (with_reducible refine And.intro ?_ ?_); · first | with_reducible rfl | exact (Bool.and_false _).symm | (intro _ _; with_reducible rfl) | exact True.intro | assumption | (intro h; exact absurd h (by decide)) | omega | (intro _; omega) | (intro _; refine ⟨?_, True.intro⟩; omega) | (intro _; refine ⟨?_, True.intro⟩; intro _; omega) | (refine decide_eq_false ?_; omega) | (refine decide_eq_true ?_; omega) | (simp only [w_i64, w_u64, w_u32, w_u8]; omega) | exact fun j hj => (put_0 hj).symm | (intro j _; simp only [Nat.zero_add]; done) | (simp [appG]; done) | (simp [appG]; omega))); (conv => whnf); exact True.intro))
    conv => whnf
    refine ⟨fun j _ => ?_, ?_⟩
    rotate_left
    · repeat ((conv => whnf); (with_reducible refine And.intro ?_ ?_); · first | with_reducible rfl | exact (Bool.and_false _).symm | (intro _ _; with_reducible rfl) | exact True.intro | assumption | (intro h; exact absurd h (by decide)) | omega | (intro _; omega) | (intro _; refine ⟨?_, True.intro⟩; omega) | (intro _; refine ⟨?_, True.intro⟩; intro _; omega) | (refine decide_eq_false ?_; omega) | (refine decide_eq_true ?_; omega) | (simp only [w_i64, w_u64, w_u32, w_u8]; omega) | exact fun j hj => (put_0 hj).symm | (intro j _; simp only [Nat.zero_add]; done) | (simp [appG]; done) | (simp [appG]; omega) | (intro hgd; (try replace hgd := of_decide_eq_true hgd); (repeat ((conv => whnf); (with_reducible refine And.intro ?_ ?_); · first | with_reducible rfl | exact (Bool.and_false _).symm | (intro _ _; with_reducible rfl) | exact True.intro | assumption | (intro h; exact absurd h (by decide)) | omega | (intro _; omega) | (intro _; refine ⟨?_, True.intro⟩; omega) | (intro _; refine ⟨?_, True.intro⟩; intro _; omega) | (refine decide_eq_false ?_; omega) | (refine decide_eq_true ?_; omega) | (simp only [w_i64, w_u64, w_u32, w_u8]; omega) | exact fun j hj => (put_0 hj).symm | (intro j _; simp only [Nat.zero_add]; done) | (simp [appG]; done) | (simp [appG]; omega))); (conv => whnf); exact True.intro))
      conv => whnf
      exact True.intro
    refine (listI_map _ _).symm.trans (congrArg (fun l => listI l j) ?_)
    show (rnd (rnds (wsched (L8 g n0)) i (L32 h 8)) (K256.getD i 0) ((wsched (L8 g n0)).getD i 0)).map U = _
    simp only [UL_getD, ofInt_U, Int.toNat_natCast, xor32, and32, not32', add32, rot6, rot11, rot25, rot2, rot13, rot22]
    rfl
  have hi' : ¬ (i : Int) < 64 := of_decide_eq_false h1
  have h64 : i = 64 := by omega
  subst h64
  repeat ((conv => whnf); (with_reducible refine And.intro ?_ ?_); · first | exact True.intro | (intro hg0; simp only [hg0, Bool.not_false, Bool.not_true]; done) | assumption | omega | (intro _; refine ⟨True.intro, ?_⟩; omega) | (intro _; refine ⟨?_, True.intro⟩; omega) | (intro _; refine ⟨decide_eq_true ?_, ?_⟩ <;> omega) | (intro _; refine ⟨?_, ?_⟩ <;> first | omega | (simp [appG, Cd.holds]; done) | (simp [appG, Cd.holds]; omega)) | (refine decide_eq_true ?_; omega) | (intro _; omega) | (simp only [w_i64, w_u64, w_u32, w_u8]; omega) | exact ⟨U_nonneg _, U_lt32 _⟩ | exact R8_UL _ _ | exact R32_UL _ _ | (intro hg0; (repeat ((conv => whnf); (with_reducible refine And.intro ?_ ?_); · first | assumption | omega | (intro _; refine ⟨?_, ?_⟩ <;> first | assumption | omega | exact True.intro | (refine decide_eq_true ?_; omega) | (simp [appG, Cd.holds]; omega)) | (intro _; refine ⟨And.intro ?_ ?_, ?_⟩ <;> first | assumption | omega | (refine decide_eq_true ?_; omega)) | (simp only [hg0, Bool.and_self, Bool.true_and]; done) | (intro hg1; simp only [hg0, hg1, Bool.and_self, Bool.true_and]; done) | (simp [hg0]; done))); (conv => whnf); exact True.intro))
  conv => whnf
  refine ⟨0, Nat, fun i => ⟨121, [(104, .sa (.sc (.int .i64 i))), (0, .sa (.sc (.ptr 0 0 0))), (6, .sa (.sc (.ptr 3 0 0)))],
    [(0, .own 82 [.ints .u32 (mixF h (mix (L32 h 8) (L8 g n0)) i) 8, .one (.opq 0), .one (.opq 1)] false),
     (3, .own 79 [.ints .u32 (UL (rnds (wsched (L8 g n0)) 64 (L32 h 8))) 8] false)], 4⟩, fun i => i ≤ 8, fun i => 8 - i, ⟨0, by omega, le_of [] ?_⟩, fun i hi => ?_⟩
  · repeat ((conv => whnf); (with_reducible refine And.intro ?_ ?_); · first | with_reducible rfl | exact (Bool.and_false _).symm | (intro _ _; with_reducible rfl) | exact True.intro | assumption | (intro h; exact absurd h (by decide)) | omega | (intro _; omega) | (intro _; refine ⟨?_, True.intro⟩; omega) | (intro _; refine ⟨?_, True.intro⟩; intro _; omega) | (refine decide_eq_false ?_; omega) | (refine decide_eq_true ?_; omega) | (simp only [w_i64, w_u64, w_u32, w_u8]; omega) | exact fun j hj => (put_0 hj).symm | (intro j _; simp only [Nat.zero_add]; done) | (simp [appG]; done) | (simp [appG]; omega) | exact fun j hj => (if_neg (by omega)) | (intro hgd; (try replace hgd := of_decide_eq_true hgd); (repeat ((conv => whnf); (with_reducible refine And.intro ?_ ?_); · first | with_reducible rfl | exact (Bool.and_false _).symm | (intro _ _; with_reducible rfl) | exact True.intro | assumption | (intro h; exact absurd h (by decide)) | omega | (intro _; omega) | (intro _; refine ⟨?_, True.intro⟩; omega) | (intro _; refine ⟨?_, True.intro⟩; intro _; omega) | (refine decide_eq_false ?_; omega) | (refine decide_eq_true ?_; omega) | (simp only [w_i64, w_u64, w_u32, w_u8]; omega) | exact fun j hj => (put_0 hj).symm | (intro j _; simp only [Nat.zero_add]; done) | (simp [appG]; done) | (simp [appG]; omega) | exact fun j hj => (if_neg (by omega)))); (conv => whnf); exact True.intro))
    conv => whnf
    exact True.intro
  repeat ((conv => whnf); (with_reducible refine And.intro ?_ ?_); · first | exact True.intro | (intro hg0; simp only [hg0, Bool.not_false, Bool.not_true]; done) | assumption | omega | (intro _; refine ⟨True.intro, ?_⟩; omega) | (intro _; refine ⟨?_, True.intro⟩; omega) | (intro _; refine ⟨decide_eq_true ?_, ?_⟩ <;> omega) | (intro _; refine ⟨?_, ?_⟩ <;> first | omega | (simp [appG, Cd.holds]; done) | (simp [appG, Cd.holds]; omega)) | (refine decide_eq_true ?_; omega) | (intro _; omega) | (simp only [w_i64, w_u64, w_u32, w_u8]; omega) | exact ⟨U_nonneg _, U_lt32 _⟩ | exact R8_UL _ _ | exact R32_UL _ _ | (intro hg0; (repeat ((conv => whnf); (with_reducible refine And.intro ?_ ?_); · first | assumption | omega | (intro _; refine ⟨?_, ?_⟩ <;> first | assumption | omega | exact True.intro | (refine decide_eq_true ?_; omega) | (simp [appG, Cd.holds]; omega)) | (intro _; refine ⟨And.intro ?_ ?_, ?_⟩ <;> first | assumption | omega | (refine decide_eq_true ?_; omega)) | (simp only [hg0, Bool.and_self, Bool.true_and]; done) | (intro hg1; simp only [hg0, hg1, Bool.and_self, Bool.true_and]; done) | (simp [hg0]; done))); (conv => whnf); exact True.intro))
  conv => whnf
  refine ⟨fun h1 => ?_, fun h1 => ?_⟩
  · have hi' : (i : Int) < 8 := of_decide_eq_true h1
    repeat ((conv => whnf); (with_reducible refine And.intro ?_ ?_); · first | exact True.intro | (intro hg0; simp only [hg0, Bool.not_false, Bool.not_true]; done) | assumption | omega | (intro _; refine ⟨True.intro, ?_⟩; omega) | (intro _; refine ⟨?_, True.intro⟩; omega) | (intro _; refine ⟨decide_eq_true ?_, ?_⟩ <;> omega) | (intro _; refine ⟨?_, ?_⟩ <;> first | omega | (simp [appG, Cd.holds]; done) | (simp [appG, Cd.holds]; omega)) | (refine decide_eq_true ?_; omega) | (intro _; omega) | (simp only [w_i64, w_u64, w_u32, w_u8]; omega) | exact ⟨U_nonneg _, U_lt32 _⟩ | exact R8_UL _ _ | exact R32_UL _ _ | (intro hg0; (repeat ((conv => whnf); (with_reducible refine And.intro ?_ ?_); · first | assumption | omega | (intro _; refine ⟨?_, ?_⟩ <;> first | assumption | omega | exact True.intro | (refine decide_eq_true ?_; omega) | (simp [appG, Cd.holds]; omega)) | (intro _; refine ⟨And.intro ?_ ?_, ?_⟩ <;> first | assumption | omega | (refine decide_eq_true ?_; omega)) | (simp only [hg0, Bool.and_self, Bool.true_and]; done) | (intro hg1; simp only [hg0, hg1, Bool.and_self, Bool.true_and]; done) | (simp [hg0]; done))); (conv => whnf); exact True.intro))
    conv => whnf
    refine ⟨[(0, ⟨0, some 107, []⟩), (1, ⟨0, some 108, []⟩), (2, ⟨1, some 109, []⟩), (3, ⟨5, some 110, []⟩), (4, ⟨15, some 111, []⟩), (5, ⟨31, some 112, []⟩), (6, ⟨0, some 113, []⟩), (7, ⟨64, some 114, []⟩), (8, ⟨192, some 115, []⟩), (9, ⟨511, some 116, []⟩), (10, ⟨1, some 117, []⟩), (11, ⟨1025, some 118, []⟩), (12, ⟨4095, some 119, []⟩), (13, ⟨8191, none, [0]⟩)], 228, ?_⟩
    repeat ((conv => whnf); (with_reducible refine And.intro ?_ ?_); · first | exact True.intro | (intro hg0; simp only [hg0, Bool.not_false, Bool.not_true]; done) | assumption | omega | (intro _; refine ⟨True.intro, ?_⟩; omega) | (intro _; refine ⟨?_, True.intro⟩; omega) | (intro _; refine ⟨decide_eq_true ?_, ?_⟩ <;> omega) | (intro _; refine ⟨?_, ?_⟩ <;> first | omega | (simp [appG, Cd.holds]; done) | (simp [appG, Cd.holds]; omega)) | (refine decide_eq_true ?_; omega) | (intro _; omega) | (simp only [w_i64, w_u64, w_u32, w_u8]; omega) | exact ⟨U_nonneg _, U_lt32 _⟩ | exact R8_UL _ _ | exact R32_UL _ _ | (intro hg0; (repeat ((conv => whnf); (with_reducible refine And.intro ?_ ?_); · first | assumption | omega | (intro _; refine ⟨?_, ?_⟩ <;> first | assumption | omega | exact True.intro | (refine decide_eq_true ?_; omega) | (simp [appG, Cd.holds]; omega)) | (intro _; refine ⟨And.intro ?_ ?_, ?_⟩ <;> first | assumption | omega | (refine decide_eq_true ?_; omega)) | (simp only [hg0, Bool.and_self, Bool.true_and]; done) | (intro hg1; simp only [hg0, hg1, Bool.and_self, Bool.true_and]; done) | (simp [hg0]; done))); (conv => whnf); exact True.intro))
    conv => whnf
    refine ⟨i + 1, ⟨by omega, by dsimp only; omega⟩, le_of [] ?_⟩
    repeat ((conv => whnf); (with_reducible refine And.intro ?_ ?_); · first | with_reducible rfl | exact (Bool.and_false _).symm | (intro _ _; with_reducible rfl) | exact True.intro | assumption | (intro h; exact absurd h (by decide)) | omega | (intro _; omega) | (intro _; refine ⟨?_, True.intro⟩; omega) | (intro _; refine ⟨?_, True.intro⟩; intro _; omega) | (refine decide_eq_false ?_; omega) | (refine decide_eq_true ?_; omega) | (simp only [w_i64, w_u64, w_u32, w_u8]; omega) | exact fun j hj => (put_0 hj).symm | (intro j _; simp only [Nat.zero_add]; done) | (simp [appG]; done) | (simp [appG]; omega) | (intro hgd; (try replace hgd := of_decide_eq_true hgd); (repeat ((conv => whnf); (with_reducible refine And.intro ?_ ?_); · first | with_reducible rfl | exact (Bool.and_false _).symm | (intro _ _; with_reducible rfl) | exact True.intro | assumption | (intro h; exact absurd h (by decide)) | omega | (intro _; omega) | (intro _; refine ⟨?_, True.intro⟩; omega) | (intro _; refine ⟨?_, True.intro⟩; intro _; omega) | (refine decide_eq_false ?_; omega) | (refine decide_eq_true ?_; omega) | (simp only [w_i64, w_u64, w_u32, w_u8]; omega) | exact fun j hj => (put_0 hj).symm | (intro j _; simp only [Nat.zero_add]; done) | (simp [appG]; done) | (simp [appG]; omega))); (conv => whnf); exact True.intro))
    conv => whnf
    refine ⟨fun j hj => ?_, ?_⟩
    rotate_left
    · repeat ((conv => whnf); (with_reducible refine And.intro ?_ ?_); · first | with_reducible rfl | exact (Bool.and_false _).symm | (intro _ _; with_reducible rfl) | exact True.intro | assumption | (intro h; exact absurd h (by decide)) | omega | (intro _; omega) | (intro _; refine ⟨?_, True.intro⟩; omega) | (intro _; refine ⟨?_, True.intro⟩; intro _; omega) | (refine decide_eq_false ?_; omega) | (refine decide_eq_true ?_; omega) | (simp only [w_i64, w_u64, w_u32, w_u8]; omega) | exact fun j hj => (put_0 hj).symm | (intro j _; simp only [Nat.zero_add]; done) | (simp [appG]; done) | (simp [appG]; omega) | (intro hgd; (try replace hgd := of_decide_eq_true hgd); (repeat ((conv => whnf); (with_reducible refine And.intro ?_ ?_); · first | with_reducible rfl | exact (Bool.and_false _).symm | (intro _ _; with_reducible rfl) | exact True.intro | assumption | (intro h; exact absurd h (by decide)) | omega | (intro _; omega) | (intro _; refine ⟨?_, True.intro⟩; omega) | (intro _; refine ⟨?_, True.intro⟩; intro _; omega) | (refine decide_eq_false ?_; omega) | (refine decide_eq_true ?_; omega) | (simp only [w_i64, w_u64, w_u32, w_u8]; omega) | exact fun j hj => (put_0 hj).symm | (intro j _; simp only [Nat.zero_add]; done) | (simp [appG]; done) | (simp [appG]; omega))); (conv => whnf); exact True.intro))
      conv => whnf
      exact True.intro
    rw [Int.toNat_natCast]
    exact mixF_step (L32_length _ _) (rnds_length _ _ _ (L32_length _ _)) (fun j hj => (UL_L32 hh j hj).symm) (by omega) j hj
  · have hi' : ¬ (i : Int) < 8 := of_decide_eq_false h1
    have h8 : i = 8 := by omega
    subst h8
    repeat ((conv => whnf); (with_reducible refine And.intro ?_ ?_); · first | exact True.intro | (intro hg0; simp only [hg0, Bool.not_false, Bool.not_true]; done) | assumption | omega | (intro _; refine ⟨True.intro, ?_⟩; omega) | (intro _; refine ⟨?_, True.intro⟩; omega) | (intro _; refine ⟨decide_eq_true ?_, ?_⟩ <;> omega) | (intro _; refine ⟨?_, ?_⟩ <;> first | omega | (simp [appG, Cd.holds]; done) | (simp [appG, Cd.holds]; omega)) | (refine decide_eq_true ?_; omega) | (intro _; omega) | (simp only [w_i64, w_u64, w_u32, w_u8]; omega) | exact ⟨U_nonneg _, U_lt32 _⟩ | exact R8_UL _ _ | exact R32_UL _ _ | (intro hg0; (repeat ((conv => whnf); (with_reducible refine And.intro ?_ ?_); · first | assumption | omega | (intro _; refine ⟨?_, ?_⟩ <;> first | assumption | omega | exact True.intro | (refine decide_eq_true ?_; omega) | (simp [appG, Cd.holds]; omega)) | (intro _; refine ⟨And.intro ?_ ?_, ?_⟩ <;> first | assumption | omega | (refine decide_eq_true ?_; omega)) | (simp only [hg0, Bool.and_self, Bool.true_and]; done) | (intro hg1; simp only [hg0, hg1, Bool.and_self, Bool.true_and]; done) | (simp [hg0]; done))); (conv => whnf); exact True.intro))
    conv => whnf
    refine ⟨[], ?_⟩
    repeat ((conv => whnf); (with_reducible refine And.intro ?_ ?_); · first | with_reducible rfl | exact (Bool.and_false _).symm | (intro _ _; with_reducible rfl) | exact True.intro | assumption | (intro h; exact absurd h (by decide)) | omega | (intro _; omega) | (intro _; refine ⟨?_, True.intro⟩; omega) | (intro _; refine ⟨?_, True.intro⟩; intro _; omega) | (refine decide_eq_false ?_; omega) | (refine decide_eq_true ?_; omega) | (simp only [w_i64, w_u64, w_u32, w_u8]; omega) | exact fun j hj => (put_0 hj).symm | (intro j _; simp only [Nat.zero_add]; done) | (simp [appG]; done) | (simp [appG]; omega) | exact fun j hj => (if_pos hj).symm | (intro hgd; (try replace hgd := of_decide_eq_true hgd); (repeat ((conv => whnf); (with_reducible refine And.intro ?_ ?_); · first | with_reducible rfl | exact (Bool.and_false _).symm | (intro _ _; with_reducible rfl) | exact True.intro | assumption | (intro h; exact absurd h (by decide)) | omega | (intro _; omega) | (intro _; refine ⟨?_, True.intro⟩; omega) | (intro _; refine ⟨?_, True.intro⟩; intro _; omega) | (refine decide_eq_false ?_; omega) | (refine decide_eq_true ?_; omega) | (simp only [w_i64, w_u64, w_u32, w_u8]; omega) | exact fun j hj => (put_0 hj).symm | (intro j _; simp only [Nat.zero_add]; done) | (simp [appG]; done) | (simp [appG]; omega) | exact fun j hj => (if_pos hj).symm)); (conv => whnf); exact True.intro))
    conv => whnf
    exact True.intro
end Go.Proofs.Ytogijkmflhjhkaa

/- Functions through the evaluator: sha's states. No condition. -/
namespace Go.Proofs.Ytogijkmflhjhkaa
open Go.Sx Go.RowKit
set_option linter.unusedSimpArgs false
set_option maxRecDepth 100000
set_option linter.unusedVariables false

/-- slices.Clone. -/
def cloneS : Summary := mkS false [.r .u8] fun
  | [.r nl g n] => some ⟨.p (n ≤ 140737488355328), some (.sa (.sc (ownA nl n 0))), [(0, ownB 5 .u8 g n)], 1⟩
  | _ => none
theorem cloneS_ok : SumOk Try.prog 67 cloneS := by
  unfold cloneS
  apply sum_ok
  intro vs A H n o r hb h
  split at h
  rotate_left
  · cases h
  rename_i nl g n0
  injection h with h
  subst h
  cases hb
  refine fsound_of_run tt_ok cok_nil mixed_ok Try.call67 Try.func67 rfl (rs := _) Try.results67 (size := 8) Try.ntmps67 (Nat.le_of_ble_eq_true rfl) rfl fun hp hfa hfh => ?_
  have hn : n0 ≤ 140737488355328 := hp
  obtain ⟨⟨hnl, _⟩, _⟩ := hfa
  repeat ((conv => whnf); (with_reducible refine And.intro ?_ ?_); · first | exact True.intro | (intro hg0; simp only [hg0, Bool.not_false, Bool.not_true]; done) | assumption | omega | (intro _; refine ⟨True.intro, ?_⟩; omega) | (intro _; refine ⟨?_, True.intro⟩; omega) | (intro _; refine ⟨decide_eq_true ?_, ?_⟩ <;> omega) | (intro _; refine ⟨?_, ?_⟩ <;> first | omega | (simp [appG, Cd.holds]; done) | (simp [appG, Cd.holds]; omega)) | (refine decide_eq_true ?_; omega) | (intro _; omega) | (simp only [w_i64, w_u64, w_u32, w_u8]; omega) | exact ⟨U_nonneg _, U_lt32 _⟩ | exact R8_UL _ _ | exact R32_UL _ _ | (intro hg0; (repeat ((conv => whnf); (with_reducible refine And.intro ?_ ?_); · first | assumption | omega | (intro _; refine ⟨?_, ?_⟩ <;> first | assumption | omega | exact True.intro | (refine decide_eq_true ?_; omega) | (simp [appG, Cd.holds]; omega)) | (intro _; refine ⟨And.intro ?_ ?_, ?_⟩ <;> first | assumption | omega | (refine decide_eq_true ?_; omega)) | (simp only [hg0, Bool.and_self, Bool.true_and]; done) | (intro hg1; simp only [hg0, hg1, Bool.and_self, Bool.true_and]; done) | (simp [hg0]; done))); (conv => whnf); exact True.intro))
  conv => whnf
  refine ⟨fun h1 => ?_, fun h1 => ?_⟩
  · have h0 := hnl h1
    subst h0
    subst h1
    repeat ((conv => whnf); (with_reducible refine And.intro ?_ ?_); · first | exact True.intro | (intro hg0; simp only [hg0, Bool.not_false, Bool.not_true]; done) | assumption | omega | (intro _; refine ⟨True.intro, ?_⟩; omega) | (intro _; refine ⟨?_, True.intro⟩; omega) | (intro _; refine ⟨decide_eq_true ?_, ?_⟩ <;> omega) | (intro _; refine ⟨?_, ?_⟩ <;> first | omega | (simp [appG, Cd.holds]; done) | (simp [appG, Cd.holds]; omega)) | (refine decide_eq_true ?_; omega) | (intro _; omega) | (simp only [w_i64, w_u64, w_u32, w_u8]; omega) | exact ⟨U_nonneg _, U_lt32 _⟩ | exact R8_UL _ _ | exact R32_UL _ _ | (intro hg0; (repeat ((conv => whnf); (with_reducible refine And.intro ?_ ?_); · first | assumption | omega | (intro _; refine ⟨?_, ?_⟩ <;> first | assumption | omega | exact True.intro | (refine decide_eq_true ?_; omega) | (simp [appG, Cd.holds]; omega)) | (intro _; refine ⟨And.intro ?_ ?_, ?_⟩ <;> first | assumption | omega | (refine decide_eq_true ?_; omega)) | (simp only [hg0, Bool.and_self, Bool.true_and]; done) | (intro hg1; simp only [hg0, hg1, Bool.and_self, Bool.true_and]; done) | (simp [hg0]; done))); (conv => whnf); exact True.intro))
    conv => whnf
    refine ⟨[(0, 999999)], ?_⟩
    repeat ((conv => whnf); (with_reducible refine And.intro ?_ ?_); · first | with_reducible rfl | exact (Bool.and_false _).symm | (intro _ _; with_reducible rfl) | exact True.intro | assumption | (intro h; exact absurd h (by decide)) | omega | (intro _; omega) | (intro _; refine ⟨?_, True.intro⟩; omega) | (intro _; refine ⟨?_, True.intro⟩; intro _; omega) | (refine decide_eq_false ?_; omega) | (refine decide_eq_true ?_; omega) | (simp only [w_i64, w_u64, w_u32, w_u8]; omega) | exact fun j hj => (put_0 hj).symm | (intro j _; simp only [Nat.zero_add]; done) | (simp [appG]; done) | (simp [appG]; omega) | (intro hgd; (try replace hgd := of_decide_eq_true hgd); (repeat ((conv => whnf); (with_reducible refine And.intro ?_ ?_); · first | with_reducible rfl | exact (Bool.and_false _).symm | (intro _ _; with_reducible rfl) | exact True.intro | assumption | (intro h; exact absurd h (by decide)) | omega | (intro _; omega) | (intro _; refine ⟨?_, True.intro⟩; omega) | (intro _; refine ⟨?_, True.intro⟩; intro _; omega) | (refine decide_eq_false ?_; omega) | (refine decide_eq_true ?_; omega) | (simp only [w_i64, w_u64, w_u32, w_u8]; omega) | exact fun j hj => (put_0 hj).symm | (intro j _; simp only [Nat.zero_add]; done) | (simp [appG]; done) | (simp [appG]; omega))); (conv => whnf); exact True.intro))
    conv => whnf
    exact True.intro
  · subst h1
    repeat ((conv => whnf); (with_reducible refine And.intro ?_ ?_); · first | exact True.intro | (intro hg0; simp only [hg0, Bool.not_false, Bool.not_true]; done) | assumption | omega | (intro _; refine ⟨True.intro, ?_⟩; omega) | (intro _; refine ⟨?_, True.intro⟩; omega) | (intro _; refine ⟨decide_eq_true ?_, ?_⟩ <;> omega) | (intro _; refine ⟨?_, ?_⟩ <;> first | omega | (simp [appG, Cd.holds]; done) | (simp [appG, Cd.holds]; omega)) | (refine decide_eq_true ?_; omega) | (intro _; omega) | (simp only [w_i64, w_u64, w_u32, w_u8]; omega) | exact ⟨U_nonneg _, U_lt32 _⟩ | exact R8_UL _ _ | exact R32_UL _ _ | (intro hg0; (repeat ((conv => whnf); (with_reducible refine And.intro ?_ ?_); · first | assumption | omega | (intro _; refine ⟨?_, ?_⟩ <;> first | assumption | omega | exact True.intro | (refine decide_eq_true ?_; omega) | (simp [appG, Cd.holds]; omega)) | (intro _; refine ⟨And.intro ?_ ?_, ?_⟩ <;> first | assumption | omega | (refine decide_eq_true ?_; omega)) | (simp only [hg0, Bool.and_self, Bool.true_and]; done) | (intro hg1; simp only [hg0, hg1, Bool.and_self, Bool.true_and]; done) | (simp [hg0]; done))); (conv => whnf); exact True.intro))
    conv => whnf
    refine ⟨[(0, 1)], ?_⟩
    repeat ((conv => whnf); (with_reducible refine And.intro ?_ ?_); · first | with_reducible rfl | exact (Bool.and_false _).symm | (intro _ _; with_reducible rfl) | exact True.intro | assumption | (intro h; exact absurd h (by decide)) | omega | (intro _; omega) | (intro _; refine ⟨?_, True.intro⟩; omega) | (intro _; refine ⟨?_, True.intro⟩; intro _; omega) | (refine decide_eq_false ?_; omega) | (refine decide_eq_true ?_; omega) | (simp only [w_i64, w_u64, w_u32, w_u8]; omega) | exact fun j hj => (put_0 hj).symm | (intro j _; simp only [Nat.zero_add]; done) | (simp [appG]; done) | (simp [appG]; omega) | (intro hgd; (try replace hgd := of_decide_eq_true hgd); (repeat ((conv => whnf); (with_reducible refine And.intro ?_ ?_); · first | with_reducible rfl | exact (Bool.and_false _).symm | (intro _ _; with_reducible rfl) | exact True.intro | assumption | (intro h; exact absurd h (by decide)) | omega | (intro _; omega) | (intro _; refine ⟨?_, True.intro⟩; omega) | (intro _; refine ⟨?_, True.intro⟩; intro _; omega) | (refine decide_eq_false ?_; omega) | (refine decide_eq_true ?_; omega) | (simp only [w_i64, w_u64, w_u32, w_u8]; omega) | exact fun j hj => (put_0 hj).symm | (intro j _; simp only [Nat.zero_add]; done) | (simp [appG]; done) | (simp [appG]; omega))); (conv => whnf); exact True.intro))
    conv => whnf
    exact True.intro

theorem cok3 : COk Try.prog (tab [(66, mixS), (67, cloneS)]) := cok_cons mixS_ok (cok_cons cloneS_ok cok_nil)
/-- A state: its words, what is left, how many bytes. -/
def stB (h : Nat → Int) (nl : Bool) (n τ : Nat) (N : Int) : SB := .own 82 [.ints .u32 h 8, .one (ownA nl n τ), .one (.int .u64 N)] false
def stM : Md := .p 82 [.i .u32 8, .a 5 .u8, .s]
/-- (*sha.State).Copy. -/
def copyS1 : Summary := mkS false [stM] fun
  | [.p [.i h, .a nl f n, .s (.int .u64 N)]] => some ⟨.p (n ≤ 140737488355328), some (sc (.ptr 2 0 0)), [(0, stB h nl n 1 N), (1, ownB 5 .u8 f n), (2, stB h nl n 3 N), (3, ownB 5 .u8 f n)], 4⟩
  | _ => none
theorem copyS1_ok : SumOk Try.prog 36 copyS1 := by
  unfold copyS1
  apply sum_ok
  intro vs A H n o r hb h
  split at h
  rotate_left
  · cases h
  rename_i h nl f n0 N
  injection h with h
  subst h
  cases hb
  refine fsound_of_run tt_ok cok3 mixed_ok Try.call36 Try.func36 rfl (rs := _) Try.results36 (size := 15) Try.ntmps36 (Nat.le_of_ble_eq_true rfl) rfl fun hp hfa hfh => ?_
  have hn : n0 ≤ 140737488355328 := hp
  repeat ((conv => whnf); (with_reducible refine And.intro ?_ ?_); · first | exact True.intro | (intro hg0; simp only [hg0, Bool.not_false, Bool.not_true]; done) | assumption | omega | (intro _; refine ⟨True.intro, ?_⟩; omega) | (intro _; refine ⟨?_, True.intro⟩; omega) | (intro _; refine ⟨decide_eq_true ?_, ?_⟩ <;> omega) | (intro _; refine ⟨?_, ?_⟩ <;> first | omega | (simp [appG, Cd.holds]; done) | (simp [appG, Cd.holds]; omega)) | (refine decide_eq_true ?_; omega) | (intro _; omega) | (simp only [w_i64, w_u64, w_u32, w_u8]; omega) | exact ⟨U_nonneg _, U_lt32 _⟩ | exact R8_UL _ _ | exact R32_UL _ _ | (intro hg0; (repeat ((conv => whnf); (with_reducible refine And.intro ?_ ?_); · first | assumption | omega | (intro _; refine ⟨?_, ?_⟩ <;> first | assumption | omega | exact True.intro | (refine decide_eq_true ?_; omega) | (simp [appG, Cd.holds]; omega)) | (intro _; refine ⟨And.intro ?_ ?_, ?_⟩ <;> first | assumption | omega | (refine decide_eq_true ?_; omega)) | (simp only [hg0, Bool.and_self, Bool.true_and]; done) | (intro hg1; simp only [hg0, hg1, Bool.and_self, Bool.true_and]; done) | (simp [hg0]; done))); (conv => whnf); exact True.intro))
  conv => whnf
  refine ⟨(fun h1 => nomatch h1), fun h1 => ?_⟩
  repeat ((conv => whnf); (with_reducible refine And.intro ?_ ?_); · first | exact True.intro | (intro hg0; simp only [hg0, Bool.not_false, Bool.not_true]; done) | assumption | omega | (intro _; refine ⟨True.intro, ?_⟩; omega) | (intro _; refine ⟨?_, True.intro⟩; omega) | (intro _; refine ⟨decide_eq_true ?_, ?_⟩ <;> omega) | (intro _; refine ⟨?_, ?_⟩ <;> first | omega | (simp [appG, Cd.holds]; done) | (simp [appG, Cd.holds]; omega)) | (refine decide_eq_true ?_; omega) | (intro _; omega) | (simp only [w_i64, w_u64, w_u32, w_u8]; omega) | exact ⟨U_nonneg _, U_lt32 _⟩ | exact R8_UL _ _ | exact R32_UL _ _ | (intro hg0; (repeat ((conv => whnf); (with_reducible refine And.intro ?_ ?_); · first | assumption | omega | (intro _; refine ⟨?_, ?_⟩ <;> first | assumption | omega | exact True.intro | (refine decide_eq_true ?_; omega) | (simp [appG, Cd.holds]; omega)) | (intro _; refine ⟨And.intro ?_ ?_, ?_⟩ <;> first | assumption | omega | (refine decide_eq_true ?_; omega)) | (simp only [hg0, Bool.and_self, Bool.true_and]; done) | (intro hg1; simp only [hg0, hg1, Bool.and_self, Bool.true_and]; done) | (simp [hg0]; done))); (conv => whnf); exact True.intro))
  conv => whnf
  have hnl : nl = true → n0 = 0 := hfh.1.1.1
  refine ⟨[], ?_⟩
  repeat ((conv => whnf); (with_reducible refine And.intro ?_ ?_); · first | with_reducible rfl | exact (Bool.and_false _).symm | (intro _ _; with_reducible rfl) | exact True.intro | assumption | (intro h; exact absurd h (by decide)) | omega | (intro _; omega) | (intro _; refine ⟨?_, True.intro⟩; omega) | (intro _; refine ⟨?_, True.intro⟩; intro _; omega) | (refine decide_eq_false ?_; omega) | (refine decide_eq_true ?_; omega) | (simp only [w_i64, w_u64, w_u32, w_u8]; omega) | exact fun j hj => (put_0 hj).symm | (intro j _; simp only [Nat.zero_add]; done) | (simp [appG]; done) | (simp [appG]; omega) | (intro hgd; (try replace hgd := of_decide_eq_true hgd); (repeat ((conv => whnf); (with_reducible refine And.intro ?_ ?_); · first | with_reducible rfl | exact (Bool.and_false _).symm | (intro _ _; with_reducible rfl) | exact True.intro | assumption | (intro h; exact absurd h (by decide)) | omega | (intro _; omega) | (intro _; refine ⟨?_, True.intro⟩; omega) | (intro _; refine ⟨?_, True.intro⟩; intro _; omega) | (refine decide_eq_false ?_; omega) | (refine decide_eq_true ?_; omega) | (simp only [w_i64, w_u64, w_u32, w_u8]; omega) | exact fun j hj => (put_0 hj).symm | (intro j _; simp only [Nat.zero_add]; done) | (simp [appG]; done) | (simp [appG]; omega))); (conv => whnf); exact True.intro))
  conv => whnf
  exact True.intro

def copyS0 : Summary := mkS false [.v] fun
  | [.v (.sc .nilp)] => some ⟨.tt, some (sc .nilp), [], 0⟩
  | _ => none
theorem copyS0_ok : SumOk Try.prog 36 copyS0 := by
  unfold copyS0
  apply sum_ok
  intro vs A H n o r hb h
  split at h
  rotate_left
  · cases h
  injection h with h
  subst h
  cases hb
  refine fsound_of_run tt_ok cok3 mixed_ok Try.call36 Try.func36 rfl (rs := _) Try.results36 (size := 15) Try.ntmps36 (Nat.le_of_ble_eq_true rfl) rfl fun hp hfa hfh => ?_
  repeat ((conv => whnf); (with_reducible refine And.intro ?_ ?_); · first | exact True.intro | (intro hg0; simp only [hg0, Bool.not_false, Bool.not_true]; done) | assumption | omega | (intro _; refine ⟨True.intro, ?_⟩; omega) | (intro _; refine ⟨?_, True.intro⟩; omega) | (intro _; refine ⟨decide_eq_true ?_, ?_⟩ <;> omega) | (intro _; refine ⟨?_, ?_⟩ <;> first | omega | (simp [appG, Cd.holds]; done) | (simp [appG, Cd.holds]; omega)) | (refine decide_eq_true ?_; omega) | (intro _; omega) | (simp only [w_i64, w_u64, w_u32, w_u8]; omega) | exact ⟨U_nonneg _, U_lt32 _⟩ | exact R8_UL _ _ | exact R32_UL _ _ | (intro hg0; (repeat ((conv => whnf); (with_reducible refine And.intro ?_ ?_); · first | assumption | omega | (intro _; refine ⟨?_, ?_⟩ <;> first | assumption | omega | exact True.intro | (refine decide_eq_true ?_; omega) | (simp [appG, Cd.holds]; omega)) | (intro _; refine ⟨And.intro ?_ ?_, ?_⟩ <;> first | assumption | omega | (refine decide_eq_true ?_; omega)) | (simp only [hg0, Bool.and_self, Bool.true_and]; done) | (intro hg1; simp only [hg0, hg1, Bool.and_self, Bool.true_and]; done) | (simp [hg0]; done))); (conv => whnf); exact True.intro))
  conv => whnf
  refine ⟨fun h1 => ?_, (fun h1 => nomatch h1)⟩
  repeat ((conv => whnf); (with_reducible refine And.intro ?_ ?_); · first | exact True.intro | (intro hg0; simp only [hg0, Bool.not_false, Bool.not_true]; done) | assumption | omega | (intro _; refine ⟨True.intro, ?_⟩; omega) | (intro _; refine ⟨?_, True.intro⟩; omega) | (intro _; refine ⟨decide_eq_true ?_, ?_⟩ <;> omega) | (intro _; refine ⟨?_, ?_⟩ <;> first | omega | (simp [appG, Cd.holds]; done) | (simp [appG, Cd.holds]; omega)) | (refine decide_eq_true ?_; omega) | (intro _; omega) | (simp only [w_i64, w_u64, w_u32, w_u8]; omega) | exact ⟨U_nonneg _, U_lt32 _⟩ | exact R8_UL _ _ | exact R32_UL _ _ | (intro hg0; (repeat ((conv => whnf); (with_reducible refine And.intro ?_ ?_); · first | assumption | omega | (intro _; refine ⟨?_, ?_⟩ <;> first | assumption | omega | exact True.intro | (refine decide_eq_true ?_; omega) | (simp [appG, Cd.holds]; omega)) | (intro _; refine ⟨And.intro ?_ ?_, ?_⟩ <;> first | assumption | omega | (refine decide_eq_true ?_; omega)) | (simp only [hg0, Bool.and_self, Bool.true_and]; done) | (intro hg1; simp only [hg0, hg1, Bool.and_self, Bool.true_and]; done) | (simp [hg0]; done))); (conv => whnf); exact True.intro))
  conv => whnf
  refine ⟨[], ?_⟩
  repeat ((conv => whnf); (with_reducible refine And.intro ?_ ?_); · first | with_reducible rfl | exact (Bool.and_false _).symm | (intro _ _; with_reducible rfl) | exact True.intro | assumption | (intro h; exact absurd h (by decide)) | omega | (intro _; omega) | (intro _; refine ⟨?_, True.intro⟩; omega) | (intro _; refine ⟨?_, True.intro⟩; intro _; omega) | (refine decide_eq_false ?_; omega) | (refine decide_eq_true ?_; omega) | (simp only [w_i64, w_u64, w_u32, w_u8]; omega) | exact fun j hj => (put_0 hj).symm | (intro j _; simp only [Nat.zero_add]; done) | (simp [appG]; done) | (simp [appG]; omega) | (intro hgd; (try replace hgd := of_decide_eq_true hgd); (repeat ((conv => whnf); (with_reducible refine And.intro ?_ ?_); · first | with_reducible rfl | exact (Bool.and_false _).symm | (intro _ _; with_reducible rfl) | exact True.intro | assumption | (intro h; exact absurd h (by decide)) | omega | (intro _; omega) | (intro _; refine ⟨?_, True.intro⟩; omega) | (intro _; refine ⟨?_, True.intro⟩; intro _; omega) | (refine decide_eq_false ?_; omega) | (refine decide_eq_true ?_; omega) | (simp only [w_i64, w_u64, w_u32, w_u8]; omega) | exact fun j hj => (put_0 hj).symm | (intro j _; simp only [Nat.zero_add]; done) | (simp [appG]; done) | (simp [appG]; omega))); (conv => whnf); exact True.intro))
  conv => whnf
  exact True.intro

/-- (*sha.State).Write. -/
def writeS1 : Summary := mkS false [stM, .r .u8] fun
  | [.p [.i h, .a nl f n, .s (.int .u64 N)], .r nl2 g m] => some ⟨.and (.p (R32 h 8)) (.and (.p (R8 f n)) (.and (.p (R8 g m)) (.p (n + m ≤ 140737488355328)))), some (.tup []),
      [(0, stB (UL (absorb (L32 h 8) (L8 f n ++ L8 g m))) (nl && Nat.beq m 0) ((n + m) % 64) 2 (IntKind.u64.wrap (N + IntKind.u64.wrap m))), (1, .dead), (2, ownB 5 .u8 (UL (rest (L8 f n ++ L8 g m))) ((n + m) % 64))], 3⟩
  | _ => none
theorem writeS1_ok : SumOk Try.prog 33 writeS1 := by
  unfold writeS1
  apply sum_ok
  intro vs A H n o r hb h
  split at h
  rotate_left
  · cases h
  rename_i h nl f n0 N nl2 g m
  injection h with h
  subst h
  cases hb
  refine fsound_of_run tt_ok cok3 mixed_ok Try.call33 Try.func33 rfl (rs := _) Try.results33 (size := 54) Try.ntmps33 (Nat.le_of_ble_eq_true rfl) rfl fun hp hfa hfh => ?_
  obtain ⟨hh, hf, hg, hs⟩ := hp
  have hh : R32 h 8 := hh
  have hf : R8 f n0 := hf
  have hg : R8 g m := hg
  have hs : n0 + m ≤ 140737488355328 := hs
  have hnl : nl = true → n0 = 0 := hfh.1.1.1
  have hnl' : (nl && Nat.beq m 0) = true → n0 + m = 0 := fun e => by
    simp only [Bool.and_eq_true, Nat.beq_eq] at e
    have := hnl e.1
    omega
  have hR : R8 (put_ f n0 m g) (n0 + m) := R8_put hf hg
  have hL : L8 (put_ f n0 m g) (n0 + m) = L8 f n0 ++ L8 g m := L8_put _ _ _ _
  repeat ((conv => whnf); (with_reducible refine And.intro ?_ ?_); · first | exact True.intro | (intro hg0; simp only [hg0, Bool.not_false, Bool.not_true]; done) | assumption | omega | (intro _; refine ⟨True.intro, ?_⟩; omega) | (intro _; refine ⟨?_, True.intro⟩; omega) | (intro _; refine ⟨decide_eq_true ?_, ?_⟩ <;> omega) | (intro _; refine ⟨?_, ?_⟩ <;> first | omega | (simp [appG, Cd.holds]; done) | (simp [appG, Cd.holds]; omega)) | (refine decide_eq_true ?_; omega) | (intro _; omega) | (simp only [w_i64, w_u64, w_u32, w_u8]; omega) | exact ⟨U_nonneg _, U_lt32 _⟩ | exact R8_UL _ _ | exact R32_UL _ _ | (intro hg0; (repeat ((conv => whnf); (with_reducible refine And.intro ?_ ?_); · first | assumption | omega | (intro _; refine ⟨?_, ?_⟩ <;> first | assumption | omega | exact True.intro | (refine decide_eq_true ?_; omega) | (simp [appG, Cd.holds]; omega)) | (intro _; refine ⟨And.intro ?_ ?_, ?_⟩ <;> first | assumption | omega | (refine decide_eq_true ?_; omega)) | (simp only [hg0, Bool.and_self, Bool.true_and]; done) | (intro hg1; simp only [hg0, hg1, Bool.and_self, Bool.true_and]; done) | (simp [hg0]; done))); (conv => whnf); exact True.intro))
  conv => whnf
  refine ⟨(fun h1 => nomatch h1), fun h1 => ?_⟩
  repeat ((conv => whnf); (with_reducible refine And.intro ?_ ?_); · first | exact True.intro | (intro hg0; simp only [hg0, Bool.not_false, Bool.not_true]; done) | assumption | omega | (intro _; refine ⟨True.intro, ?_⟩; omega) | (intro _; refine ⟨?_, True.intro⟩; omega) | (intro _; refine ⟨decide_eq_true ?_, ?_⟩ <;> omega) | (intro _; refine ⟨?_, ?_⟩ <;> first | omega | (simp [appG, Cd.holds]; done) | (simp [appG, Cd.holds]; omega)) | (refine decide_eq_true ?_; omega) | (intro _; omega) | (simp only [w_i64, w_u64, w_u32, w_u8]; omega) | exact ⟨U_nonneg _, U_lt32 _⟩ | exact R8_UL _ _ | exact R32_UL _ _ | (intro hg0; (repeat ((conv => whnf); (with_reducible refine And.intro ?_ ?_); · first | assumption | omega | (intro _; refine ⟨?_, ?_⟩ <;> first | assumption | omega | exact True.intro | (refine decide_eq_true ?_; omega) | (simp [appG, Cd.holds]; omega)) | (intro _; refine ⟨And.intro ?_ ?_, ?_⟩ <;> first | assumption | omega | (refine decide_eq_true ?_; omega)) | (simp only [hg0, Bool.and_self, Bool.true_and]; done) | (intro hg1; simp only [hg0, hg1, Bool.and_self, Bool.true_and]; done) | (simp [hg0]; done))); (conv => whnf); exact True.intro))
  conv => whnf
  refine ⟨0, Nat, fun k => ⟨54, [(0, .sa (.sc (.ptr 0 0 0)))], [(0, .own 82 [.ints .u32 (UL (absorbN k (L32 h 8) (L8 f n0 ++ L8 g m))) 8, .one (.sl (nl && Nat.beq m 0) false false 2 0 (64 * k) (n0 + m - 64 * k) (n0 + m - 64 * k)), .one (.int .u64 (IntKind.u64.wrap (N + IntKind.u64.wrap m)))] false),
    (1, .dead), (2, .gd (decide (0 < n0 + m)) (.own 5 [.ints .u8 (put_ f n0 m g) (n0 + m)] true))], 3⟩, fun k => 64 * k ≤ n0 + m, fun k => n0 + m - 64 * k, ⟨0, by omega, le_of [] ?_⟩, fun k hk => ?_⟩
  · repeat ((conv => whnf); (with_reducible refine And.intro ?_ ?_); · first | with_reducible rfl | exact (Bool.and_false _).symm | (intro _ _; with_reducible rfl) | exact True.intro | assumption | (intro h; exact absurd h (by decide)) | omega | (intro _; omega) | (intro _; refine ⟨?_, True.intro⟩; omega) | (intro _; refine ⟨?_, True.intro⟩; intro _; omega) | (refine decide_eq_false ?_; omega) | (refine decide_eq_true ?_; omega) | (simp only [w_i64, w_u64, w_u32, w_u8]; omega) | exact fun j hj => (put_0 hj).symm | (intro j _; simp only [Nat.zero_add]; done) | (simp [appG]; done) | (simp [appG]; omega) | exact fun j hj => UL_L32 hh j hj | (intro h; have := hnl' h; omega) | (intro hgd; (try replace hgd := of_decide_eq_true hgd); (repeat ((conv => whnf); (with_reducible refine And.intro ?_ ?_); · first | with_reducible rfl | exact (Bool.and_false _).symm | (intro _ _; with_reducible rfl) | exact True.intro | assumption | (intro h; exact absurd h (by decide)) | omega | (intro _; omega) | (intro _; refine ⟨?_, True.intro⟩; omega) | (intro _; refine ⟨?_, True.intro⟩; intro _; omega) | (refine decide_eq_false ?_; omega) | (refine decide_eq_true ?_; omega) | (simp only [w_i64, w_u64, w_u32, w_u8]; omega) | exact fun j hj => (put_0 hj).symm | (intro j _; simp only [Nat.zero_add]; done) | (simp [appG]; done) | (simp [appG]; omega) | exact fun j hj => UL_L32 hh j hj | (intro h; have := hnl' h; omega))); (conv => whnf); exact True.intro))
    conv => whnf
    exact True.intro
  have hk : 64 * k ≤ n0 + m := hk
  repeat ((conv => whnf); (with_reducible refine And.intro ?_ ?_); · first | exact True.intro | (intro hg0; simp only [hg0, Bool.not_false, Bool.not_true]; done) | assumption | omega | (intro _; refine ⟨True.intro, ?_⟩; omega) | (intro _; refine ⟨?_, True.intro⟩; omega) | (intro _; refine ⟨decide_eq_true ?_, ?_⟩ <;> omega) | (intro _; refine ⟨?_, ?_⟩ <;> first | omega | (simp [appG, Cd.holds]; done) | (simp [appG, Cd.holds]; omega)) | (refine decide_eq_true ?_; omega) | (intro _; omega) | (simp only [w_i64, w_u64, w_u32, w_u8]; omega) | exact ⟨U_nonneg _, U_lt32 _⟩ | exact R8_UL _ _ | exact R32_UL _ _ | (intro hg0; (repeat ((conv => whnf); (with_reducible refine And.intro ?_ ?_); · first | assumption | omega | (intro _; refine ⟨?_, ?_⟩ <;> first | assumption | omega | exact True.intro | (refine decide_eq_true ?_; omega) | (simp [appG, Cd.holds]; omega)) | (intro _; refine ⟨And.intro ?_ ?_, ?_⟩ <;> first | assumption | omega | (refine decide_eq_true ?_; omega)) | (simp only [hg0, Bool.and_self, Bool.true_and]; done) | (intro hg1; simp only [hg0, hg1, Bool.and_self, Bool.true_and]; done) | (simp [hg0]; done))); (conv => whnf); exact True.intro))
  conv => whnf
  refine ⟨fun h1 => ?_, fun h1 => ?_⟩
  · have h2 : ((n0 + m - 64 * k : Nat) : Int) ≥ 64 := of_decide_eq_true h1
    repeat ((conv => whnf); (with_reducible refine And.intro ?_ ?_); · first | exact True.intro | (intro hg0; simp only [hg0, Bool.not_false, Bool.not_true]; done) | assumption | omega | (intro _; refine ⟨True.intro, ?_⟩; omega) | (intro _; refine ⟨?_, True.intro⟩; omega) | (intro _; refine ⟨decide_eq_true ?_, ?_⟩ <;> omega) | (intro _; refine ⟨?_, ?_⟩ <;> first | omega | (simp [appG, Cd.holds]; done) | (simp [appG, Cd.holds]; omega)) | (refine decide_eq_true ?_; omega) | (intro _; omega) | (simp only [w_i64, w_u64, w_u32, w_u8]; omega) | exact ⟨U_nonneg _, U_lt32 _⟩ | exact R8_UL _ _ | exact R32_UL _ _ | (intro hg0; (repeat ((conv => whnf); (with_reducible refine And.intro ?_ ?_); · first | assumption | omega | (intro _; refine ⟨?_, ?_⟩ <;> first | assumption | omega | exact True.intro | (refine decide_eq_true ?_; omega) | (simp [appG, Cd.holds]; omega)) | (intro _; refine ⟨And.intro ?_ ?_, ?_⟩ <;> first | assumption | omega | (refine decide_eq_true ?_; omega)) | (simp only [hg0, Bool.and_self, Bool.true_and]; done) | (intro hg1; simp only [hg0, hg1, Bool.and_self, Bool.true_and]; done) | (simp [hg0]; done) | (intro j hj; exact hR _ (by omega)))); (conv => whnf); exact True.intro) | (intro j hj; exact hR _ (by omega)))
    conv => whnf
    refine ⟨k + 1, ⟨by omega, by dsimp only; omega⟩, le_of [] ?_⟩
    repeat ((conv => whnf); (with_reducible refine And.intro ?_ ?_); · first | with_reducible rfl | exact (Bool.and_false _).symm | (intro _ _; with_reducible rfl) | exact True.intro | assumption | (intro h; exact absurd h (by decide)) | omega | (intro _; omega) | (intro _; refine ⟨?_, True.intro⟩; omega) | (intro _; refine ⟨?_, True.intro⟩; intro _; omega) | (refine decide_eq_false ?_; omega) | (refine decide_eq_true ?_; omega) | (simp only [w_i64, w_u64, w_u32, w_u8]; omega) | exact fun j hj => (put_0 hj).symm | (intro j _; simp only [Nat.zero_add]; done) | (simp [appG]; done) | (simp [appG]; omega) | (intro hgd; (try replace hgd := of_decide_eq_true hgd); (repeat ((conv => whnf); (with_reducible refine And.intro ?_ ?_); · first | with_reducible rfl | exact (Bool.and_false _).symm | (intro _ _; with_reducible rfl) | exact True.intro | assumption | (intro h; exact absurd h (by decide)) | omega | (intro _; omega) | (intro _; refine ⟨?_, True.intro⟩; omega) | (intro _; refine ⟨?_, True.intro⟩; intro _; omega) | (refine decide_eq_false ?_; omega) | (refine decide_eq_true ?_; omega) | (simp only [w_i64, w_u64, w_u32, w_u8]; omega) | exact fun j hj => (put_0 hj).symm | (intro j _; simp only [Nat.zero_add]; done) | (simp [appG]; done) | (simp [appG]; omega))); (conv => whnf); exact True.intro))
    conv => whnf
    refine ⟨fun j _ => ?_, ?_⟩
    rotate_left
    · repeat ((conv => whnf); (with_reducible refine And.intro ?_ ?_); · first | with_reducible rfl | exact (Bool.and_false _).symm | (intro _ _; with_reducible rfl) | exact True.intro | assumption | (intro h; exact absurd h (by decide)) | omega | (intro _; omega) | (intro _; refine ⟨?_, True.intro⟩; omega) | (intro _; refine ⟨?_, True.intro⟩; intro _; omega) | (refine decide_eq_false ?_; omega) | (refine decide_eq_true ?_; omega) | (simp only [w_i64, w_u64, w_u32, w_u8]; omega) | exact fun j hj => (put_0 hj).symm | (intro j _; simp only [Nat.zero_add]; done) | (simp [appG]; done) | (simp [appG]; omega) | (intro h; have := hnl' h; omega) | (intro hgd; (try replace hgd := of_decide_eq_true hgd); (repeat ((conv => whnf); (with_reducible refine And.intro ?_ ?_); · first | with_reducible rfl | exact (Bool.and_false _).symm | (intro _ _; with_reducible rfl) | exact True.intro | assumption | (intro h; exact absurd h (by decide)) | omega | (intro _; omega) | (intro _; refine ⟨?_, True.intro⟩; omega) | (intro _; refine ⟨?_, True.intro⟩; intro _; omega) | (refine decide_eq_false ?_; omega) | (refine decide_eq_true ?_; omega) | (simp only [w_i64, w_u64, w_u32, w_u8]; omega) | exact fun j hj => (put_0 hj).symm | (intro j _; simp only [Nat.zero_add]; done) | (simp [appG]; done) | (simp [appG]; omega) | (intro h; have := hnl' h; omega))); (conv => whnf); exact True.intro))
      conv => whnf
      exact True.intro
    rw [absorbN_succ, L32_UL' (absorbN_length _ _ _ (L32_length _ _)).symm, L8_sub _ (n0 + m) _ _ (by omega), hL]
    rfl
  · have h2 : ¬ ((n0 + m - 64 * k : Nat) : Int) ≥ 64 := of_decide_eq_false h1
    have hq : k = (n0 + m) / 64 := by omega
    have hlen : (L8 f n0 ++ L8 g m).length = n0 + m := by rw [List.length_append, L8_length, L8_length]
    have habs : ∀ j, j < 8 → UL (absorb (L32 h 8) (L8 f n0 ++ L8 g m)) j = UL (absorbN k (L32 h 8) (L8 f n0 ++ L8 g m)) j := fun j _ => by unfold absorb; rw [hlen, ← hq]
    have hrest : ∀ j, j < (n0 + m) % 64 → UL (rest (L8 f n0 ++ L8 g m)) j = put_ f n0 m g (64 * k + j) := fun j hj => by
      have e : rest (L8 f n0 ++ L8 g m) = L8 (fun j => put_ f n0 m g (64 * k + j)) (n0 + m - 64 * k) := by rw [L8_drop, hL, rest, hlen, ← hq]
      rw [e, UL_L8 (fun j hj => hR _ (by omega)) j (by omega)]
    repeat ((conv => whnf); (with_reducible refine And.intro ?_ ?_); · first | exact True.intro | (intro hg0; simp only [hg0, Bool.not_false, Bool.not_true]; done) | assumption | omega | (intro _; refine ⟨True.intro, ?_⟩; omega) | (intro _; refine ⟨?_, True.intro⟩; omega) | (intro _; refine ⟨decide_eq_true ?_, ?_⟩ <;> omega) | (intro _; refine ⟨?_, ?_⟩ <;> first | omega | (simp [appG, Cd.holds]; done) | (simp [appG, Cd.holds]; omega)) | (refine decide_eq_true ?_; omega) | (intro _; omega) | (simp only [w_i64, w_u64, w_u32, w_u8]; omega) | exact ⟨U_nonneg _, U_lt32 _⟩ | exact R8_UL _ _ | exact R32_UL _ _ | (intro hg0; (repeat ((conv => whnf); (with_reducible refine And.intro ?_ ?_); · first | assumption | omega | (intro _; refine ⟨?_, ?_⟩ <;> first | assumption | omega | exact True.intro | (refine decide_eq_true ?_; omega) | (simp [appG, Cd.holds]; omega)) | (intro _; refine ⟨And.intro ?_ ?_, ?_⟩ <;> first | assumption | omega | (refine decide_eq_true ?_; omega)) | (simp only [hg0, Bool.and_self, Bool.true_and]; done) | (intro hg1; simp only [hg0, hg1, Bool.and_self, Bool.true_and]; done) | (simp [hg0]; done))); (conv => whnf); exact True.intro))
    conv => whnf
    refine ⟨[(2, 3)], ?_⟩
    repeat ((conv => whnf); (with_reducible refine And.intro ?_ ?_); · first | with_reducible rfl | exact (Bool.and_false _).symm | (intro _ _; with_reducible rfl) | exact True.intro | assumption | (intro h; exact absurd h (by decide)) | omega | (intro _; omega) | (intro _; refine ⟨?_, True.intro⟩; omega) | (intro _; refine ⟨?_, True.intro⟩; intro _; omega) | (refine decide_eq_false ?_; omega) | (refine decide_eq_true ?_; omega) | (simp only [w_i64, w_u64, w_u32, w_u8]; omega) | exact fun j hj => (put_0 hj).symm | (intro j _; simp only [Nat.zero_add]; done) | (simp [appG]; done) | (simp [appG]; omega) | exact habs | exact hrest | (intro h; have := hnl' h; omega) | (intro hgd; (try replace hgd := of_decide_eq_true hgd); (repeat ((conv => whnf); (with_reducible refine And.intro ?_ ?_); · first | with_reducible rfl | exact (Bool.and_false _).symm | (intro _ _; with_reducible rfl) | exact True.intro | assumption | (intro h; exact absurd h (by decide)) | omega | (intro _; omega) | (intro _; refine ⟨?_, True.intro⟩; omega) | (intro _; refine ⟨?_, True.intro⟩; intro _; omega) | (refine decide_eq_false ?_; omega) | (refine decide_eq_true ?_; omega) | (simp only [w_i64, w_u64, w_u32, w_u8]; omega) | exact fun j hj => (put_0 hj).symm | (intro j _; simp only [Nat.zero_add]; done) | (simp [appG]; done) | (simp [appG]; omega) | exact habs | exact hrest | (intro h; have := hnl' h; omega))); (conv => whnf); exact True.intro))
    conv => whnf
    exact True.intro
end Go.Proofs.Ytogijkmflhjhkaa

/- Functions through the evaluator: sha's sums. No condition. -/
namespace Go.Proofs.Ytogijkmflhjhkaa
open Go.Sx Go.RowKit
set_option linter.unusedSimpArgs false
set_option maxRecDepth 100000
set_option linter.unusedVariables false

def writeS0 : Summary := mkS false [.v, .r .u8] fun
  | [.v (.sc .nilp), .r _ _ _] => some ⟨.tt, some (.tup []), [], 0⟩
  | _ => none
theorem writeS0_ok : SumOk Try.prog 33 writeS0 := by
  unfold writeS0
  apply sum_ok
  intro vs A H n o r hb h
  split at h
  rotate_left
  · cases h
  rename_i x1 x2 x3
  injection h with h
  subst h
  cases hb
  refine fsound_of_run tt_ok cok3 mixed_ok Try.call33 Try.func33 rfl (rs := _) Try.results33 (size := 54) Try.ntmps33 (Nat.le_of_ble_eq_true rfl) rfl fun hp hfa hfh => ?_
  repeat ((conv => whnf); (with_reducible refine And.intro ?_ ?_); · first | exact True.intro | with_reducible assumption | omega | (intro _; refine ⟨True.intro, ?_⟩; omega) | (intro _; refine ⟨?_, True.intro⟩; omega) | (intro _; omega) | (refine decide_eq_true ?_; omega) | (intro _; refine ⟨decide_eq_true ?_, ?_⟩ <;> omega) | (simp only [w_i64, w_u64, w_u32, w_u8]; omega) | exact R8_UL _ _ | (intro hg0; (repeat ((conv => whnf); (with_reducible refine And.intro ?_ ?_); · first | assumption | omega | (intro _; refine ⟨?_, ?_⟩ <;> first | assumption | omega) | (simp only [hg0, Bool.and_self, Bool.true_and]; done))); (conv => whnf); exact True.intro))
  conv => whnf
  refine ⟨fun h1 => ?_, (fun h1 => nomatch h1)⟩
  repeat ((conv => whnf); (with_reducible refine And.intro ?_ ?_); · first | exact True.intro | with_reducible assumption | omega | (intro _; refine ⟨True.intro, ?_⟩; omega) | (intro _; refine ⟨?_, True.intro⟩; omega) | (intro _; omega) | (refine decide_eq_true ?_; omega) | (intro _; refine ⟨decide_eq_true ?_, ?_⟩ <;> omega) | (simp only [w_i64, w_u64, w_u32, w_u8]; omega) | exact R8_UL _ _ | (intro hg0; (repeat ((conv => whnf); (with_reducible refine And.intro ?_ ?_); · first | assumption | omega | (intro _; refine ⟨?_, ?_⟩ <;> first | assumption | omega) | (simp only [hg0, Bool.and_self, Bool.true_and]; done))); (conv => whnf); exact True.intro))
  conv => whnf
  refine ⟨[], ?_⟩
  repeat ((conv => whnf); (with_reducible refine And.intro ?_ ?_); · first | with_reducible rfl | exact (Bool.and_false _).symm | (intro _ _; with_reducible rfl) | exact True.intro | assumption | (intro h; exact absurd h (by decide)) | omega | (intro _; omega) | (intro _; refine ⟨?_, True.intro⟩; omega) | (intro _; refine ⟨?_, True.intro⟩; intro _; omega) | (refine decide_eq_false ?_; omega) | (refine decide_eq_true ?_; omega) | (simp only [w_i64, w_u64, w_u32, w_u8]; omega) | exact fun j hj => (put_0 hj).symm | (intro j _; simp only [Nat.zero_add]; done) | (simp [appG]; done) | (simp [appG]; omega) | (intro hgd; (try replace hgd := of_decide_eq_true hgd); (repeat ((conv => whnf); (with_reducible refine And.intro ?_ ?_); · first | with_reducible rfl | exact (Bool.and_false _).symm | (intro _ _; with_reducible rfl) | exact True.intro | assumption | (intro h; exact absurd h (by decide)) | omega | (intro _; omega) | (intro _; refine ⟨?_, True.intro⟩; omega) | (intro _; refine ⟨?_, True.intro⟩; intro _; omega) | (refine decide_eq_false ?_; omega) | (refine decide_eq_true ?_; omega) | (simp only [w_i64, w_u64, w_u32, w_u8]; omega) | exact fun j hj => (put_0 hj).symm | (intro j _; simp only [Nat.zero_add]; done) | (simp [appG]; done) | (simp [appG]; omega))); (conv => whnf); exact True.intro))
  conv => whnf
  exact True.intro
def writeS : Summary := orS writeS1 writeS0
def copyS : Summary := orS copyS1 copyS0
theorem cok4 : COk Try.prog (tab [(33, writeS), (36, copyS)]) := cok_cons (orS_ok writeS1_ok writeS0_ok) (cok_cons (orS_ok copyS1_ok copyS0_ok) cok_nil)

/-- 0x80 and k noughts. -/
def padL (k : Nat) : List B8 := (0x80 : B8) :: List.replicate k (0 : B8)
theorem padL_length (k : Nat) : (padL k).length = 1 + k := by simp [padL]; omega
theorem padL_succ (k : Nat) : padL (k + 1) = padL k ++ [0] := by simp [padL, List.replicate_succ']
theorem app1 {l : List B8} {m : Nat} {g : Nat → Int} {b : B8} (hm : m = l.length) (hz : g 0 = U b) (j : Nat) (hj : j < m + 1) : UL (l ++ [b]) j = put_ (UL l) m 1 g j := by
  subst hm
  rw [← UL_app l [b] j (by simpa using hj)]
  simp only [put_, List.length_singleton]
  split
  · rw [show j - l.length = 0 by omega, hz]; rfl
  · rfl
theorem shr64 (x : BitVec 64) (s : Nat) : U x / 2 ^ s = U (x >>> s) := by
  unfold U
  rw [BitVec.toNat_ushiftRight, Nat.shiftRight_eq_div_pow]; simp
theorem mul8 {N : Int} (h : 0 ≤ N ∧ N < 18446744073709551616) : IntKind.u64.wrap (N * 8) = U (BitVec.ofInt 64 N * 8) := by
  unfold U
  rw [BitVec.toNat_mul, BitVec.toNat_ofInt, w_u64]
  have e1 : ((2 ^ 64 : Nat) : Int) = 18446744073709551616 := by decide
  have e2 : (2 : Nat) ^ 64 = 18446744073709551616 := by decide
  have e3 : (8 : BitVec 64).toNat = 8 := rfl
  rw [e1, e2, e3, Int.emod_eq_of_lt h.1 h.2]
  omega
theorem be8_byte (W : BitVec 64) {i : Nat} (hi : i < 8) : IntKind.u8.wrap (U W / 2 ^ min (IntKind.i64.wrap (56 - IntKind.i64.wrap (8 * (i : Int)))).toNat IntKind.u64.bits) = U ((be8 W).getD i 0) := by
  have e : min (IntKind.i64.wrap (56 - IntKind.i64.wrap (8 * (i : Int)))).toNat IntKind.u64.bits = 56 - 8 * i := by
    rw [w_i64 (8 * (i : Int)), Int.emod_eq_of_lt (by omega) (by omega), w_i64, Int.emod_eq_of_lt (by omega) (by omega)]
    show min _ 64 = _
    omega
  rw [e, shr64, byte64]
  congr 1
  simp [be8, hi]
def outF (D : List B8) (i j : Nat) : Int := if j < 4 * i then UL D j else 0
theorem out_step {A : List W32} {i : Nat} (hA : A.length = 8) (hi : i < 8) (j : Nat) :
    outF (digest A) (i + 1) j = upd (upd (upd (upd (outF (digest A) i) (4 * i) (IntKind.u8.wrap (UL A i / 2 ^ min (Int.toNat 24) IntKind.u32.bits))) (4 * i + 1) (IntKind.u8.wrap (UL A i / 2 ^ min (Int.toNat 16) IntKind.u32.bits)))
      (4 * i + 2) (IntKind.u8.wrap (UL A i / 2 ^ min (Int.toNat 8) IntKind.u32.bits))) (4 * i + 3) (IntKind.u8.wrap (UL A i)) j := by
  have hd : ∀ r, r < 4 → (digest A).getD (4 * i + r) 0 = (w4 (A.getD i 0)).getD r 0 := fun r hr => digest_get A i r (by omega) hr
  simp only [sh24, sh16, sh8, UL_getD, shr32, byte32]
  unfold upd outF
  by_cases h3 : j = 4 * i + 3
  · subst h3; rw [if_pos (by omega), if_pos rfl, UL_getD, hd 3 (by omega)]; rfl
  rw [if_neg h3]
  by_cases h2 : j = 4 * i + 2
  · subst h2; rw [if_pos (by omega), if_pos rfl, UL_getD, hd 2 (by omega)]; rfl
  rw [if_neg h2]
  by_cases h1 : j = 4 * i + 1
  · subst h1; rw [if_pos (by omega), if_pos rfl, UL_getD, hd 1 (by omega)]; rfl
  rw [if_neg h1]
  by_cases h0 : j = 4 * i
  · subst h0; rw [if_pos (by omega), if_pos rfl, UL_getD]; have := hd 0 (by omega); rw [Nat.add_zero] at this; rw [this]; rfl
  rw [if_neg h0]
  by_cases hq : j < 4 * i
  · rw [if_pos (by omega), if_pos hq]
  · rw [if_neg (by omega), if_neg hq]
theorem R8_z (l : List B8) (n : Nat) : R8 (fun j => UL l (0 + j)) n := fun j _ => ⟨U_nonneg _, U_lt8 _⟩
/-- (*sha.State).Sum. -/
def sumS1 : Summary := mkS false [stM] fun
  | [.p [.i h, .a nl f n, .s (.int .u64 N)]] => some ⟨.and (.p (R32 h 8)) (.and (.p (R8 f n)) (.and (.p (n ≤ 1000000)) (.p (0 ≤ N ∧ N < 18446744073709551616)))),
      some (.sa (.agg [.ints .u8 (UL (digest (absorb (L32 h 8) (L8 f n ++ tail2 n (BitVec.ofInt 64 N))))) 32])), [(0, stB h nl n 1 N), (1, ownB 5 .u8 f n)], 2⟩
  | _ => none
theorem sumS1_ok : SumOk Try.prog 34 sumS1 := by
  unfold sumS1
  apply sum_ok
  intro vs A H n o r hb h
  split at h
  rotate_left
  · cases h
  rename_i h nl f n0 N
  injection h with h
  subst h
  cases hb
  refine fsound_of_run tt_ok cok4 mixed_ok Try.call34 Try.func34 rfl (rs := _) Try.results34 (size := 86) Try.ntmps34 (Nat.le_of_ble_eq_true rfl) rfl fun hp hfa hfh => ?_
  obtain ⟨hh, hf, hn, hN⟩ := hp
  have hh : R32 h 8 := hh
  have hf : R8 f n0 := hf
  have hn : n0 ≤ 1000000 := hn
  have hN : 0 ≤ N ∧ N < 18446744073709551616 := hN
  have hnl : nl = true → n0 = 0 := hfh.1.1.1
  repeat ((conv => whnf); (with_reducible refine And.intro ?_ ?_); · first | exact True.intro | with_reducible assumption | omega | (intro _; refine ⟨True.intro, ?_⟩; omega) | (intro _; refine ⟨?_, True.intro⟩; omega) | (intro _; omega) | (refine decide_eq_true ?_; omega) | (intro _; refine ⟨decide_eq_true ?_, ?_⟩ <;> omega) | (simp only [w_i64, w_u64, w_u32, w_u8]; omega) | exact R8_UL _ _ | (intro hg0; (repeat ((conv => whnf); (with_reducible refine And.intro ?_ ?_); · first | assumption | omega | (intro _; refine ⟨?_, ?_⟩ <;> first | assumption | omega) | (simp only [hg0, Bool.and_self, Bool.true_and]; done))); (conv => whnf); exact True.intro))
  conv => whnf
  refine ⟨(fun h1 => nomatch h1), fun h1 => ?_⟩
  repeat ((conv => whnf); (with_reducible refine And.intro ?_ ?_); · first | exact True.intro | with_reducible assumption | omega | (intro _; refine ⟨True.intro, ?_⟩; omega) | (intro _; refine ⟨?_, True.intro⟩; omega) | (intro _; omega) | (refine decide_eq_true ?_; omega) | (intro _; refine ⟨decide_eq_true ?_, ?_⟩ <;> omega) | (simp only [w_i64, w_u64, w_u32, w_u8]; omega) | exact R8_UL _ _ | (intro hg0; (repeat ((conv => whnf); (with_reducible refine And.intro ?_ ?_); · first | assumption | omega | (intro _; refine ⟨?_, ?_⟩ <;> first | assumption | omega) | (simp only [hg0, Bool.and_self, Bool.true_and]; done))); (conv => whnf); exact True.intro))
  conv => whnf
  refine ⟨0, Nat, fun k => ⟨86, [(4, .sa (.sc (.ptr 4 0 0))), (3, .sa (.sc (.ptr 3 0 0))), (2, .sa (.sc (.ptr 2 0 0))), (5, .sa (.sc (.int .u64 (IntKind.u64.wrap (N * 8))))), (6, .sa (.sc (ownA false (1 + k) 6)))],
    [(0, stB h nl n0 1 N), (1, ownB 5 .u8 f n0), (2, .own 30 [.ints .u8 (fun _ => 0) 32] false), (3, .own 30 [.ints .u8 (fun _ => 0) 32] false), (4, stB h nl n0 5 N), (5, ownB 5 .u8 f n0), (6, ownB 5 .u8 (UL (padL k)) (1 + k))], 7⟩,
    fun k => k ≤ zeros n0, fun k => zeros n0 - k, ⟨0, by omega, le_of [] ?_⟩, fun k hk => ?_⟩
  · repeat ((conv => whnf); (with_reducible refine And.intro ?_ ?_); · first | with_reducible rfl | exact (Bool.and_false _).symm | (intro _ _; with_reducible rfl) | exact True.intro | assumption | (intro h; exact absurd h (by decide)) | omega | (intro _; omega) | (intro _; refine ⟨?_, True.intro⟩; omega) | (intro _; refine ⟨?_, True.intro⟩; intro _; omega) | (refine decide_eq_false ?_; omega) | (refine decide_eq_true ?_; omega) | (simp only [w_i64, w_u64, w_u32, w_u8]; omega) | exact fun j hj => (put_0 hj).symm | (intro j _; simp only [Nat.zero_add]; done) | (simp [appG]; done) | (simp [appG]; omega) | (intro j hj; rw [show j = 0 by omega]; rfl) | (intro hgd; (try replace hgd := of_decide_eq_true hgd); (repeat ((conv => whnf); (with_reducible refine And.intro ?_ ?_); · first | with_reducible rfl | exact (Bool.and_false _).symm | (intro _ _; with_reducible rfl) | exact True.intro | assumption | (intro h; exact absurd h (by decide)) | omega | (intro _; omega) | (intro _; refine ⟨?_, True.intro⟩; omega) | (intro _; refine ⟨?_, True.intro⟩; intro _; omega) | (refine decide_eq_false ?_; omega) | (refine decide_eq_true ?_; omega) | (simp only [w_i64, w_u64, w_u32, w_u8]; omega) | exact fun j hj => (put_0 hj).symm | (intro j _; simp only [Nat.zero_add]; done) | (simp [appG]; done) | (simp [appG]; omega) | (intro j hj; rw [show j = 0 by omega]; rfl))); (conv => whnf); exact True.intro))
    conv => whnf
    exact True.intro
  have hk : k ≤ zeros n0 := hk
  have hz64 : zeros n0 < 64 := by unfold zeros; omega
  have hzd : zeros n0 = (119 - n0 % 64) % 64 := rfl
  have hmod : (IntKind.i64.wrap ((n0 : Int) + ((1 + k : Nat) : Int))).tmod 64 = (((n0 + (1 + k)) % 64 : Nat) : Int) := by
    rw [w_i64, Int.emod_eq_of_lt (by omega) (by omega), show (n0 : Int) + ((1 + k : Nat) : Int) + 9223372036854775808 - 9223372036854775808 = ((n0 + (1 + k) : Nat) : Int) by omega]; rfl
  repeat ((conv => whnf); (with_reducible refine And.intro ?_ ?_); · first | exact True.intro | with_reducible assumption | omega | (intro _; refine ⟨True.intro, ?_⟩; omega) | (intro _; refine ⟨?_, True.intro⟩; omega) | (intro _; omega) | (refine decide_eq_true ?_; omega) | (intro _; refine ⟨decide_eq_true ?_, ?_⟩ <;> omega) | (simp only [w_i64, w_u64, w_u32, w_u8]; omega) | exact R8_UL _ _ | (intro hg0; (repeat ((conv => whnf); (with_reducible refine And.intro ?_ ?_); · first | assumption | omega | (intro _; refine ⟨?_, ?_⟩ <;> first | assumption | omega) | (simp only [hg0, Bool.and_self, Bool.true_and]; done))); (conv => whnf); exact True.intro))
  conv => whnf
  refine ⟨fun h2 => ?_, fun h2 => ?_⟩
  · rw [hmod, bne_iff_ne] at h2
    repeat ((conv => whnf); (with_reducible refine And.intro ?_ ?_); · first | exact True.intro | with_reducible assumption | omega | (intro _; refine ⟨True.intro, ?_⟩; omega) | (intro _; refine ⟨?_, True.intro⟩; omega) | (intro _; omega) | (refine decide_eq_true ?_; omega) | (intro _; refine ⟨decide_eq_true ?_, ?_⟩ <;> omega) | (simp only [w_i64, w_u64, w_u32, w_u8]; omega) | exact R8_UL _ _ | (intro hg0; (repeat ((conv => whnf); (with_reducible refine And.intro ?_ ?_); · first | assumption | omega | (intro _; refine ⟨?_, ?_⟩ <;> first | assumption | omega) | (simp only [hg0, Bool.and_self, Bool.true_and]; done))); (conv => whnf); exact True.intro))
    conv => whnf
    refine ⟨k + 1, ⟨by show k + 1 ≤ zeros n0; omega, by show zeros n0 - (k + 1) < zeros n0 - k; omega⟩, le_of [(6, 8)] ?_⟩
    simp only [padL_succ]
    repeat ((conv => whnf); (with_reducible refine And.intro ?_ ?_); · first | with_reducible rfl | exact (Bool.and_false _).symm | (intro _ _; with_reducible rfl) | exact True.intro | assumption | (intro h; exact absurd h (by decide)) | omega | (intro _; omega) | (intro _; refine ⟨?_, True.intro⟩; omega) | (intro _; refine ⟨?_, True.intro⟩; intro _; omega) | (refine decide_eq_false ?_; omega) | (refine decide_eq_true ?_; omega) | (simp only [w_i64, w_u64, w_u32, w_u8]; omega) | exact fun j hj => (put_0 hj).symm | (intro j _; simp only [Nat.zero_add]; done) | (simp [appG]; done) | (simp [appG]; omega) | exact app1 (padL_length k).symm rfl | (intro hgd; (try replace hgd := of_decide_eq_true hgd); (repeat ((conv => whnf); (with_reducible refine And.intro ?_ ?_); · first | with_reducible rfl | exact (Bool.and_false _).symm | (intro _ _; with_reducible rfl) | exact True.intro | assumption | (intro h; exact absurd h (by decide)) | omega | (intro _; omega) | (intro _; refine ⟨?_, True.intro⟩; omega) | (intro _; refine ⟨?_, True.intro⟩; intro _; omega) | (refine decide_eq_false ?_; omega) | (refine decide_eq_true ?_; omega) | (simp only [w_i64, w_u64, w_u32, w_u8]; omega) | exact fun j hj => (put_0 hj).symm | (intro j _; simp only [Nat.zero_add]; done) | (simp [appG]; done) | (simp [appG]; omega) | exact app1 (padL_length k).symm rfl)); (conv => whnf); exact True.intro))
    conv => whnf
    exact True.intro
  · rw [hmod, bne_eq_false_iff_eq] at h2
    have hkz : k = zeros n0 := by omega
    subst hkz
    rw [mul8 hN]
    repeat ((conv => whnf); (with_reducible refine And.intro ?_ ?_); · first | exact True.intro | with_reducible assumption | omega | (intro _; refine ⟨True.intro, ?_⟩; omega) | (intro _; refine ⟨?_, True.intro⟩; omega) | (intro _; omega) | (refine decide_eq_true ?_; omega) | (intro _; refine ⟨decide_eq_true ?_, ?_⟩ <;> omega) | (simp only [w_i64, w_u64, w_u32, w_u8]; omega) | exact R8_UL _ _ | (intro hg0; (repeat ((conv => whnf); (with_reducible refine And.intro ?_ ?_); · first | assumption | omega | (intro _; refine ⟨?_, ?_⟩ <;> first | assumption | omega) | (simp only [hg0, Bool.and_self, Bool.true_and]; done))); (conv => whnf); exact True.intro))
    conv => whnf
    refine ⟨0, Nat, fun i => ⟨86, [(4, .sa (.sc (.ptr 4 0 0))), (3, .sa (.sc (.ptr 3 0 0))), (2, .sa (.sc (.ptr 2 0 0))), (5, .sa (.sc (.int .u64 (U (BitVec.ofInt 64 N * 8))))), (34, .sa (.sc (.int .i64 i))), (6, .sa (.sc (ownA false (1 + zeros n0 + i) 6)))],
      [(0, stB h nl n0 1 N), (1, ownB 5 .u8 f n0), (2, .own 30 [.ints .u8 (fun _ => 0) 32] false), (3, .own 30 [.ints .u8 (fun _ => 0) 32] false), (4, stB h nl n0 5 N), (5, ownB 5 .u8 f n0), (6, ownB 5 .u8 (UL (padL (zeros n0) ++ (be8 (BitVec.ofInt 64 N * 8)).take i)) (1 + zeros n0 + i))], 7⟩,
      fun i => i ≤ 8, fun i => 8 - i, ⟨0, by omega, le_of [] ?_⟩, fun i hi => ?_⟩
    · repeat ((conv => whnf); (with_reducible refine And.intro ?_ ?_); · first | with_reducible rfl | exact (Bool.and_false _).symm | (intro _ _; with_reducible rfl) | exact True.intro | assumption | (intro h; exact absurd h (by decide)) | omega | (intro _; omega) | (intro _; refine ⟨?_, True.intro⟩; omega) | (intro _; refine ⟨?_, True.intro⟩; intro _; omega) | (refine decide_eq_false ?_; omega) | (refine decide_eq_true ?_; omega) | (simp only [w_i64, w_u64, w_u32, w_u8]; omega) | exact fun j hj => (put_0 hj).symm | (intro j _; simp only [Nat.zero_add]; done) | (simp [appG]; done) | (simp [appG]; omega) | (intro j hj; rw [List.take_zero, List.append_nil]) | (intro hgd; (try replace hgd := of_decide_eq_true hgd); (repeat ((conv => whnf); (with_reducible refine And.intro ?_ ?_); · first | with_reducible rfl | exact (Bool.and_false _).symm | (intro _ _; with_reducible rfl) | exact True.intro | assumption | (intro h; exact absurd h (by decide)) | omega | (intro _; omega) | (intro _; refine ⟨?_, True.intro⟩; omega) | (intro _; refine ⟨?_, True.intro⟩; intro _; omega) | (refine decide_eq_false ?_; omega) | (refine decide_eq_true ?_; omega) | (simp only [w_i64, w_u64, w_u32, w_u8]; omega) | exact fun j hj => (put_0 hj).symm | (intro j _; simp only [Nat.zero_add]; done) | (simp [appG]; done) | (simp [appG]; omega) | (intro j hj; rw [List.take_zero, List.append_nil]))); (conv => whnf); exact True.intro))
      conv => whnf
      exact True.intro
    have hi : i ≤ 8 := hi
    repeat ((conv => whnf); (with_reducible refine And.intro ?_ ?_); · first | exact True.intro | with_reducible assumption | omega | (intro _; refine ⟨True.intro, ?_⟩; omega) | (intro _; refine ⟨?_, True.intro⟩; omega) | (intro _; omega) | (refine decide_eq_true ?_; omega) | (intro _; refine ⟨decide_eq_true ?_, ?_⟩ <;> omega) | (simp only [w_i64, w_u64, w_u32, w_u8]; omega) | exact R8_UL _ _ | (intro hg0; (repeat ((conv => whnf); (with_reducible refine And.intro ?_ ?_); · first | assumption | omega | (intro _; refine ⟨?_, ?_⟩ <;> first | assumption | omega) | (simp only [hg0, Bool.and_self, Bool.true_and]; done))); (conv => whnf); exact True.intro))
    conv => whnf
    refine ⟨fun h3 => ?_, fun h3 => ?_⟩
    · replace h3 := of_decide_eq_true h3
      have ht : (be8 (BitVec.ofInt 64 N * 8)).take (i + 1) = (be8 (BitVec.ofInt 64 N * 8)).take i ++ [(be8 (BitVec.ofInt 64 N * 8)).getD i 0] := by
        have hl := be8_length (BitVec.ofInt 64 N * 8)
        rw [List.take_succ_eq_append_getElem (by omega), List.getD_eq_getElem?_getD, List.getElem?_eq_getElem (by omega)]
        rfl
      have hlen : (padL (zeros n0) ++ (be8 (BitVec.ofInt 64 N * 8)).take i).length = 1 + zeros n0 + i := by
        rw [List.length_append, padL_length, List.length_take, be8_length]; omega
      have h56 : 0 ≤ IntKind.i64.wrap (56 - IntKind.i64.wrap (8 * (i : Int))) := by
        rw [w_i64 (8 * (i : Int)), Int.emod_eq_of_lt (by omega) (by omega), w_i64, Int.emod_eq_of_lt (by omega) (by omega)]; omega
      repeat ((conv => whnf); (with_reducible refine And.intro ?_ ?_); · first | exact True.intro | with_reducible assumption | omega | (intro _; refine ⟨True.intro, ?_⟩; omega) | (intro _; refine ⟨?_, True.intro⟩; omega) | (intro _; omega) | (refine decide_eq_true ?_; omega) | (intro _; refine ⟨decide_eq_true ?_, ?_⟩ <;> omega) | (simp only [w_i64, w_u64, w_u32, w_u8]; omega) | exact R8_UL _ _ | (intro hg0; (repeat ((conv => whnf); (with_reducible refine And.intro ?_ ?_); · first | assumption | omega | (intro _; refine ⟨?_, ?_⟩ <;> first | assumption | omega) | (simp only [hg0, Bool.and_self, Bool.true_and]; done))); (conv => whnf); exact True.intro))
      conv => whnf
      refine ⟨i + 1, ⟨by show i + 1 ≤ 8; omega, by show 8 - (i + 1) < 8 - i; omega⟩, le_of [(6, 8)] ?_⟩
      simp only [ht, ← List.append_assoc]
      repeat ((conv => whnf); (with_reducible refine And.intro ?_ ?_); · first | with_reducible rfl | exact (Bool.and_false _).symm | (intro _ _; with_reducible rfl) | exact True.intro | assumption | (intro h; exact absurd h (by decide)) | omega | (intro _; omega) | (intro _; refine ⟨?_, True.intro⟩; omega) | (intro _; refine ⟨?_, True.intro⟩; intro _; omega) | (refine decide_eq_false ?_; omega) | (refine decide_eq_true ?_; omega) | (simp only [w_i64, w_u64, w_u32, w_u8]; omega) | exact fun j hj => (put_0 hj).symm | (intro j _; simp only [Nat.zero_add]; done) | (simp [appG]; done) | (simp [appG]; omega) | exact app1 hlen.symm (be8_byte _ (by omega)) | (intro hgd; (try replace hgd := of_decide_eq_true hgd); (repeat ((conv => whnf); (with_reducible refine And.intro ?_ ?_); · first | with_reducible rfl | exact (Bool.and_false _).symm | (intro _ _; with_reducible rfl) | exact True.intro | assumption | (intro h; exact absurd h (by decide)) | omega | (intro _; omega) | (intro _; refine ⟨?_, True.intro⟩; omega) | (intro _; refine ⟨?_, True.intro⟩; intro _; omega) | (refine decide_eq_false ?_; omega) | (refine decide_eq_true ?_; omega) | (simp only [w_i64, w_u64, w_u32, w_u8]; omega) | exact fun j hj => (put_0 hj).symm | (intro j _; simp only [Nat.zero_add]; done) | (simp [appG]; done) | (simp [appG]; omega) | exact app1 hlen.symm (be8_byte _ (by omega)))); (conv => whnf); exact True.intro))
      conv => whnf
      exact True.intro
    · replace h3 := of_decide_eq_false h3
      have hi8 : i = 8 := by omega
      subst hi8
      have ht8 : padL (zeros n0) ++ (be8 (BitVec.ofInt 64 N * 8)).take 8 = tail2 n0 (BitVec.ofInt 64 N) := by
        rw [List.take_of_length_le (by rw [be8_length]; omega)]; rfl
      rw [ht8]
      have hl2 : L8 (fun j => UL (tail2 n0 (BitVec.ofInt 64 N)) (0 + j)) (1 + zeros n0 + 8) = tail2 n0 (BitVec.ofInt 64 N) := by
        rw [show (fun j => UL (tail2 n0 (BitVec.ofInt 64 N)) (0 + j)) = UL (tail2 n0 (BitVec.ofInt 64 N)) from funext fun j => by rw [Nat.zero_add]]
        exact L8_UL' (by rw [tail2_length]; omega)
      have hAl : (absorb (L32 h 8) (L8 f n0 ++ tail2 n0 (BitVec.ofInt 64 N))).length = 8 := absorb_length _ _ (L32_length _ _)
      repeat ((conv => whnf); (with_reducible refine And.intro ?_ ?_); · first | exact True.intro | with_reducible assumption | omega | (intro _; refine ⟨True.intro, ?_⟩; omega) | (intro _; refine ⟨?_, True.intro⟩; omega) | (intro _; omega) | (refine decide_eq_true ?_; omega) | (intro _; refine ⟨decide_eq_true ?_, ?_⟩ <;> omega) | (simp only [w_i64, w_u64, w_u32, w_u8]; omega) | exact R8_UL _ _ | (intro hg0; (repeat ((conv => whnf); (with_reducible refine And.intro ?_ ?_); · first | assumption | omega | (intro _; refine ⟨?_, ?_⟩ <;> first | assumption | omega) | (simp only [hg0, Bool.and_self, Bool.true_and]; done) | exact R8_z _ _)); (conv => whnf); exact True.intro) | exact R8_z _ _)
      conv => whnf
      simp only [hl2]
      generalize absorb (L32 h 8) (L8 f n0 ++ tail2 n0 (BitVec.ofInt 64 N)) = A at *
      refine ⟨0, Nat, fun i => ⟨86, [(53, .sa (.agg [.ints .u32 (UL A) 8])), (54, .sa (.sc (.int .i64 i))), (3, .sa (.sc (.ptr 3 0 0))), (2, .sa (.sc (.ptr 2 0 0)))],
        [(0, stB h nl n0 1 N), (1, ownB 5 .u8 f n0), (2, .own 30 [.ints .u8 (fun _ => 0) 32] false), (3, .own 30 [.ints .u8 (outF (digest A) i) 32] false)], 7⟩,
        fun i => i ≤ 8, fun i => 8 - i, ⟨0, by omega, le_of [] ?_⟩, fun i hi => ?_⟩
      · repeat ((conv => whnf); (with_reducible refine And.intro ?_ ?_); · first | with_reducible rfl | exact (Bool.and_false _).symm | (intro _ _; with_reducible rfl) | exact True.intro | assumption | (intro h; exact absurd h (by decide)) | omega | (intro _; omega) | (intro _; refine ⟨?_, True.intro⟩; omega) | (intro _; refine ⟨?_, True.intro⟩; intro _; omega) | (refine decide_eq_false ?_; omega) | (refine decide_eq_true ?_; omega) | (simp only [w_i64, w_u64, w_u32, w_u8]; omega) | exact fun j hj => (put_0 hj).symm | (intro j _; simp only [Nat.zero_add]; done) | (simp [appG]; done) | (simp [appG]; omega) | (intro j _; exact if_neg (by omega)) | (intro hgd; (try replace hgd := of_decide_eq_true hgd); (repeat ((conv => whnf); (with_reducible refine And.intro ?_ ?_); · first | with_reducible rfl | exact (Bool.and_false _).symm | (intro _ _; with_reducible rfl) | exact True.intro | assumption | (intro h; exact absurd h (by decide)) | omega | (intro _; omega) | (intro _; refine ⟨?_, True.intro⟩; omega) | (intro _; refine ⟨?_, True.intro⟩; intro _; omega) | (refine decide_eq_false ?_; omega) | (refine decide_eq_true ?_; omega) | (simp only [w_i64, w_u64, w_u32, w_u8]; omega) | exact fun j hj => (put_0 hj).symm | (intro j _; simp only [Nat.zero_add]; done) | (simp [appG]; done) | (simp [appG]; omega) | (intro j _; exact if_neg (by omega)))); (conv => whnf); exact True.intro))
        conv => whnf
        exact True.intro
      have hi : i ≤ 8 := hi
      repeat ((conv => whnf); (with_reducible refine And.intro ?_ ?_); · first | exact True.intro | with_reducible assumption | omega | (intro _; refine ⟨True.intro, ?_⟩; omega) | (intro _; refine ⟨?_, True.intro⟩; omega) | (intro _; omega) | (refine decide_eq_true ?_; omega) | (intro _; refine ⟨decide_eq_true ?_, ?_⟩ <;> omega) | (simp only [w_i64, w_u64, w_u32, w_u8]; omega) | exact R8_UL _ _ | (intro hg0; (repeat ((conv => whnf); (with_reducible refine And.intro ?_ ?_); · first | assumption | omega | (intro _; refine ⟨?_, ?_⟩ <;> first | assumption | omega) | (simp only [hg0, Bool.and_self, Bool.true_and]; done))); (conv => whnf); exact True.intro))
      conv => whnf
      refine ⟨fun h4 => ?_, fun h4 => ?_⟩
      · replace h4 := of_decide_eq_true h4
        have h4' : i < 8 := by omega
        have w0 : (IntKind.i64.wrap (4 * (i : Int))) = ((4 * i : Nat) : Int) := by rw [w_i64, Int.emod_eq_of_lt (by omega) (by omega)]; omega
        have w1 : (IntKind.i64.wrap (IntKind.i64.wrap (4 * (i : Int)) + 1)) = ((4 * i + 1 : Nat) : Int) := by rw [w0, w_i64, Int.emod_eq_of_lt (by omega) (by omega)]; omega
        have w2 : (IntKind.i64.wrap (IntKind.i64.wrap (4 * (i : Int)) + 2)) = ((4 * i + 2 : Nat) : Int) := by rw [w0, w_i64, Int.emod_eq_of_lt (by omega) (by omega)]; omega
        have w3 : (IntKind.i64.wrap (IntKind.i64.wrap (4 * (i : Int)) + 3)) = ((4 * i + 3 : Nat) : Int) := by rw [w0, w_i64, Int.emod_eq_of_lt (by omega) (by omega)]; omega
        repeat ((conv => whnf); (with_reducible refine And.intro ?_ ?_); · first | omega | (rw [w3]; omega) | (rw [w2]; omega) | (rw [w1]; omega) | (rw [w0]; omega))
        conv => whnf
        refine ⟨i + 1, ⟨by show i + 1 ≤ 8; omega, by show 8 - (i + 1) < 8 - i; omega⟩, le_of [] ?_⟩
        rw [w0] at w1 w2 w3
        simp only [w0, w1, w2, w3, Int.toNat_natCast]
        repeat ((conv => whnf); (with_reducible refine And.intro ?_ ?_); · first | with_reducible rfl | exact (Bool.and_false _).symm | (intro _ _; with_reducible rfl) | exact True.intro | assumption | (intro h; exact absurd h (by decide)) | omega | (intro _; omega) | (intro _; refine ⟨?_, True.intro⟩; omega) | (intro _; refine ⟨?_, True.intro⟩; intro _; omega) | (refine decide_eq_false ?_; omega) | (refine decide_eq_true ?_; omega) | (simp only [w_i64, w_u64, w_u32, w_u8]; omega) | exact fun j hj => (put_0 hj).symm | (intro j _; simp only [Nat.zero_add]; done) | (simp [appG]; done) | (simp [appG]; omega) | exact fun j _ => out_step hAl h4' j | (intro hgd; (try replace hgd := of_decide_eq_true hgd); (repeat ((conv => whnf); (with_reducible refine And.intro ?_ ?_); · first | with_reducible rfl | exact (Bool.and_false _).symm | (intro _ _; with_reducible rfl) | exact True.intro | assumption | (intro h; exact absurd h (by decide)) | omega | (intro _; omega) | (intro _; refine ⟨?_, True.intro⟩; omega) | (intro _; refine ⟨?_, True.intro⟩; intro _; omega) | (refine decide_eq_false ?_; omega) | (refine decide_eq_true ?_; omega) | (simp only [w_i64, w_u64, w_u32, w_u8]; omega) | exact fun j hj => (put_0 hj).symm | (intro j _; simp only [Nat.zero_add]; done) | (simp [appG]; done) | (simp [appG]; omega) | exact fun j _ => out_step hAl h4' j)); (conv => whnf); exact True.intro))
        conv => whnf
        exact True.intro
      · replace h4 := of_decide_eq_false h4
        have hi8 : i = 8 := by omega
        subst hi8
        repeat ((conv => whnf); (with_reducible refine And.intro ?_ ?_); · first | exact True.intro | with_reducible assumption | omega | (intro _; refine ⟨True.intro, ?_⟩; omega) | (intro _; refine ⟨?_, True.intro⟩; omega) | (intro _; omega) | (refine decide_eq_true ?_; omega) | (intro _; refine ⟨decide_eq_true ?_, ?_⟩ <;> omega) | (simp only [w_i64, w_u64, w_u32, w_u8]; omega) | exact R8_UL _ _ | (intro hg0; (repeat ((conv => whnf); (with_reducible refine And.intro ?_ ?_); · first | assumption | omega | (intro _; refine ⟨?_, ?_⟩ <;> first | assumption | omega) | (simp only [hg0, Bool.and_self, Bool.true_and]; done))); (conv => whnf); exact True.intro))
        conv => whnf
        refine ⟨[], ?_⟩
        repeat ((conv => whnf); (with_reducible refine And.intro ?_ ?_); · first | with_reducible rfl | exact (Bool.and_false _).symm | (intro _ _; with_reducible rfl) | exact True.intro | assumption | (intro h; exact absurd h (by decide)) | omega | (intro _; omega) | (intro _; refine ⟨?_, True.intro⟩; omega) | (intro _; refine ⟨?_, True.intro⟩; intro _; omega) | (refine decide_eq_false ?_; omega) | (refine decide_eq_true ?_; omega) | (simp only [w_i64, w_u64, w_u32, w_u8]; omega) | exact fun j hj => (put_0 hj).symm | (intro j _; simp only [Nat.zero_add]; done) | (simp [appG]; done) | (simp [appG]; omega) | (intro j hj; unfold outF; rw [if_pos (by omega)]) | (intro hgd; (try replace hgd := of_decide_eq_true hgd); (repeat ((conv => whnf); (with_reducible refine And.intro ?_ ?_); · first | with_reducible rfl | exact (Bool.and_false _).symm | (intro _ _; with_reducible rfl) | exact True.intro | assumption | (intro h; exact absurd h (by decide)) | omega | (intro _; omega) | (intro _; refine ⟨?_, True.intro⟩; omega) | (intro _; refine ⟨?_, True.intro⟩; intro _; omega) | (refine decide_eq_false ?_; omega) | (refine decide_eq_true ?_; omega) | (simp only [w_i64, w_u64, w_u32, w_u8]; omega) | exact fun j hj => (put_0 hj).symm | (intro j _; simp only [Nat.zero_add]; done) | (simp [appG]; done) | (simp [appG]; omega) | (intro j hj; unfold outF; rw [if_pos (by omega)]))); (conv => whnf); exact True.intro))
        conv => whnf
        exact True.intro

def sumS0 : Summary := mkS false [.v] fun
  | [.v (.sc .nilp)] => some ⟨.tt, some (.sa (.agg [.ints .u8 (fun _ => 0) 32])), [], 0⟩
  | _ => none
theorem sumS0_ok : SumOk Try.prog 34 sumS0 := by
  unfold sumS0
  apply sum_ok
  intro vs A H n o r hb h
  split at h
  rotate_left
  · cases h
  injection h with h
  subst h
  cases hb
  refine fsound_of_run tt_ok cok4 mixed_ok Try.call34 Try.func34 rfl (rs := _) Try.results34 (size := 86) Try.ntmps34 (Nat.le_of_ble_eq_true rfl) rfl fun hp hfa hfh => ?_
  repeat ((conv => whnf); (with_reducible refine And.intro ?_ ?_); · first | exact True.intro | with_reducible assumption | omega | (intro _; refine ⟨True.intro, ?_⟩; omega) | (intro _; refine ⟨?_, True.intro⟩; omega) | (intro _; omega) | (refine decide_eq_true ?_; omega) | (intro _; refine ⟨decide_eq_true ?_, ?_⟩ <;> omega) | (simp only [w_i64, w_u64, w_u32, w_u8]; omega) | exact R8_UL _ _ | (intro hg0; (repeat ((conv => whnf); (with_reducible refine And.intro ?_ ?_); · first | assumption | omega | (intro _; refine ⟨?_, ?_⟩ <;> first | assumption | omega) | (simp only [hg0, Bool.and_self, Bool.true_and]; done))); (conv => whnf); exact True.intro))
  conv => whnf
  refine ⟨fun h1 => ?_, (fun h1 => nomatch h1)⟩
  repeat ((conv => whnf); (with_reducible refine And.intro ?_ ?_); · first | exact True.intro | with_reducible assumption | omega | (intro _; refine ⟨True.intro, ?_⟩; omega) | (intro _; refine ⟨?_, True.intro⟩; omega) | (intro _; omega) | (refine decide_eq_true ?_; omega) | (intro _; refine ⟨decide_eq_true ?_, ?_⟩ <;> omega) | (simp only [w_i64, w_u64, w_u32, w_u8]; omega) | exact R8_UL _ _ | (intro hg0; (repeat ((conv => whnf); (with_reducible refine And.intro ?_ ?_); · first | assumption | omega | (intro _; refine ⟨?_, ?_⟩ <;> first | assumption | omega) | (simp only [hg0, Bool.and_self, Bool.true_and]; done))); (conv => whnf); exact True.intro))
  conv => whnf
  refine ⟨[], ?_⟩
  repeat ((conv => whnf); (with_reducible refine And.intro ?_ ?_); · first | with_reducible rfl | exact (Bool.and_false _).symm | (intro _ _; with_reducible rfl) | exact True.intro | assumption | (intro h; exact absurd h (by decide)) | omega | (intro _; omega) | (intro _; refine ⟨?_, True.intro⟩; omega) | (intro _; refine ⟨?_, True.intro⟩; intro _; omega) | (refine decide_eq_false ?_; omega) | (refine decide_eq_true ?_; omega) | (simp only [w_i64, w_u64, w_u32, w_u8]; omega) | exact fun j hj => (put_0 hj).symm | (intro j _; simp only [Nat.zero_add]; done) | (simp [appG]; done) | (simp [appG]; omega) | (intro hgd; (try replace hgd := of_decide_eq_true hgd); (repeat ((conv => whnf); (with_reducible refine And.intro ?_ ?_); · first | with_reducible rfl | exact (Bool.and_false _).symm | (intro _ _; with_reducible rfl) | exact True.intro | assumption | (intro h; exact absurd h (by decide)) | omega | (intro _; omega) | (intro _; refine ⟨?_, True.intro⟩; omega) | (intro _; refine ⟨?_, True.intro⟩; intro _; omega) | (refine decide_eq_false ?_; omega) | (refine decide_eq_true ?_; omega) | (simp only [w_i64, w_u64, w_u32, w_u8]; omega) | exact fun j hj => (put_0 hj).symm | (intro j _; simp only [Nat.zero_add]; done) | (simp [appG]; done) | (simp [appG]; omega))); (conv => whnf); exact True.intro))
  conv => whnf
  exact True.intro
def sumS : Summary := orS sumS1 sumS0
theorem sumS_ok : SumOk Try.prog 34 sumS := orS_ok sumS1_ok sumS0_ok
end Go.Proofs.Ytogijkmflhjhkaa

/- Functions through the evaluator: the sum of parts. No condition. -/
namespace Go.Proofs.Ytogijkmflhjhkaa
open Go.Sx Go.RowKit
set_option linter.unusedSimpArgs false
set_option maxRecDepth 100000
set_option linter.unusedVariables false

/-- Parts, one behind the other. -/
def cat (g : Nat → Row) : Nat → List B8
  | 0 => []
  | k + 1 => cat g k ++ L8 (g k).f (g k).n
theorem cat_mono (g : Nat → Row) (k : Nat) : ∀ n, k ≤ n → (cat g k).length ≤ (cat g n).length
  | 0, h => by rw [Nat.le_zero.1 h]; exact Nat.le_refl _
  | n + 1, h => by
    by_cases e : k = n + 1
    · rw [e]; exact Nat.le_refl _
    · have := cat_mono g k n (by omega)
      rw [cat, List.length_append]; omega
theorem cok5 : COk Try.prog (tab [(32, newS), (33, writeS), (34, sumS)]) := cok_cons newS_ok (cok_cons (orS_ok writeS1_ok writeS0_ok) (cok_cons sumS_ok cok_nil))
theorem beq_and (a m : Nat) : (Nat.beq a 0 && Nat.beq m 0) = Nat.beq (a + m) 0 := by
  cases a with
  | zero => simp
  | succ a => rw [Nat.succ_add]; rfl
/-- What a state holds that has taken in l. -/
def stL (l : List B8) : SB := stB (UL (absorb H256 l)) (Nat.beq l.length 0) (l.length % 64) 2 (l.length : Int)
/-- sha.Sum. -/
def sumVS : Summary := mkS false [.rr .u8] fun
  | [.rr nl g n] => some ⟨.and (.p (∀ j, j < n → R8 (g j).f (g j).n)) (.p ((cat g n).length ≤ 900000)), some (.sa (.agg [.ints .u8 (UL (sha (cat g n))) 32])), [], 0⟩
  | _ => none
theorem sumVS_ok : SumOk Try.prog 37 sumVS := by
  unfold sumVS
  apply sum_ok
  intro vs A H n o r hb h
  split at h
  rotate_left
  · cases h
  rename_i nl g n0
  injection h with h
  subst h
  cases hb
  refine fsound_of_run tt_ok cok5 mixed_ok Try.call37 Try.func37 rfl (rs := _) Try.results37 (size := 19) Try.ntmps37 (Nat.le_of_ble_eq_true rfl) rfl fun hp hfa hfh => ?_
  obtain ⟨hg, hl⟩ := hp
  have hg : ∀ j, j < n0 → R8 (g j).f (g j).n := hg
  have hl : (cat g n0).length ≤ 900000 := hl
  have hn63 : n0 ≤ 9223372036854775807 := hfa.1.2
  repeat ((conv => whnf); (with_reducible refine And.intro ?_ ?_); · first | exact True.intro | (intro hg0; simp only [hg0, Bool.not_false, Bool.not_true]; done) | assumption | omega | (intro _; refine ⟨True.intro, ?_⟩; omega) | (intro _; refine ⟨?_, True.intro⟩; omega) | (intro _; refine ⟨decide_eq_true ?_, ?_⟩ <;> omega) | (intro _; refine ⟨?_, ?_⟩ <;> first | omega | (simp [appG, Cd.holds]; done) | (simp [appG, Cd.holds]; omega)) | (refine decide_eq_true ?_; omega) | (intro _; omega) | (simp only [w_i64, w_u64, w_u32, w_u8]; omega) | exact ⟨U_nonneg _, U_lt32 _⟩ | exact R8_UL _ _ | exact R32_UL _ _ | (intro hg0; (repeat ((conv => whnf); (with_reducible refine And.intro ?_ ?_); · first | assumption | omega | (intro _; refine ⟨?_, ?_⟩ <;> first | assumption | omega | exact True.intro | (refine decide_eq_true ?_; omega) | (simp [appG, Cd.holds]; omega)) | (intro _; refine ⟨And.intro ?_ ?_, ?_⟩ <;> first | assumption | omega | (refine decide_eq_true ?_; omega)) | (simp only [hg0, Bool.and_self, Bool.true_and]; done) | (intro hg1; simp only [hg0, hg1, Bool.and_self, Bool.true_and]; done) | (simp [hg0]; done))); (conv => whnf); exact True.intro))
  conv => whnf
  refine ⟨0, Nat, fun k => ⟨19, [(3, .sa (.sc (.ptr 1 0 0))), (2, .sa (.sc (.ptr 0 0 0))), (7, .sa (.sc (.rows nl .u8 g n0))), (8, .sa (.sc (.int .i64 n0))), (9, .sa (.sc (.int .i64 k)))],
    [(0, .own 30 [.ints .u8 (fun _ => 0) 32] false), (1, .own 82 [.ints .u32 (UL (absorb H256 (cat g k))) 8, .one (ownA (Nat.beq (cat g k).length 0) ((cat g k).length % 64) 2), .one (.int .u64 ((cat g k).length : Int))] false), (2, ownB 5 .u8 (UL (rest (cat g k))) ((cat g k).length % 64))], 3⟩,
    fun k => k ≤ n0, fun k => n0 - k, ⟨0, by omega, le_of [] ?_⟩, fun k hk => ?_⟩
  · simp only [show (cat g 0).length = 0 from rfl]
    repeat ((conv => whnf); (with_reducible refine And.intro ?_ ?_); · first | with_reducible rfl | exact (Bool.and_false _).symm | (intro _ _; with_reducible rfl) | exact True.intro | assumption | (intro h; exact absurd h (by decide)) | omega | (intro _; omega) | (intro _; refine ⟨?_, True.intro⟩; omega) | (intro _; refine ⟨?_, True.intro⟩; intro _; omega) | (refine decide_eq_false ?_; omega) | (refine decide_eq_true ?_; omega) | (simp only [w_i64, w_u64, w_u32, w_u8]; omega) | exact fun j hj => (put_0 hj).symm | (intro j _; simp only [Nat.zero_add]; done) | (simp [appG]; done) | (simp [appG]; omega) | (intro j _; rw [show absorb H256 (cat g 0) = H256 from absorb_small _ _ (show 0 < 64 by omega)]; done) | (intro hgd; (try replace hgd := of_decide_eq_true hgd); (repeat ((conv => whnf); (with_reducible refine And.intro ?_ ?_); · first | with_reducible rfl | exact (Bool.and_false _).symm | (intro _ _; with_reducible rfl) | exact True.intro | assumption | (intro h; exact absurd h (by decide)) | omega | (intro _; omega) | (intro _; refine ⟨?_, True.intro⟩; omega) | (intro _; refine ⟨?_, True.intro⟩; intro _; omega) | (refine decide_eq_false ?_; omega) | (refine decide_eq_true ?_; omega) | (simp only [w_i64, w_u64, w_u32, w_u8]; omega) | exact fun j hj => (put_0 hj).symm | (intro j _; simp only [Nat.zero_add]; done) | (simp [appG]; done) | (simp [appG]; omega) | (intro j _; rw [show absorb H256 (cat g 0) = H256 from absorb_small _ _ (show 0 < 64 by omega)]; done))); (conv => whnf); exact True.intro))
    conv => whnf
    exact True.intro
  have hk : k ≤ n0 := hk
  have hkl := cat_mono g k n0 hk
  have hx1 : L32 (UL (absorb H256 (cat g k))) 8 = absorb H256 (cat g k) := L32_UL' (absorb_length _ _ H256_length).symm
  have hx2 : L8 (UL (rest (cat g k))) ((cat g k).length % 64) = rest (cat g k) := L8_UL' (rest_length _).symm
  repeat ((conv => whnf); (with_reducible refine And.intro ?_ ?_); · first | exact True.intro | (intro hg0; simp only [hg0, Bool.not_false, Bool.not_true]; done) | assumption | omega | (intro _; refine ⟨True.intro, ?_⟩; omega) | (intro _; refine ⟨?_, True.intro⟩; omega) | (intro _; refine ⟨decide_eq_true ?_, ?_⟩ <;> omega) | (intro _; refine ⟨?_, ?_⟩ <;> first | omega | (simp [appG, Cd.holds]; done) | (simp [appG, Cd.holds]; omega)) | (refine decide_eq_true ?_; omega) | (intro _; omega) | (simp only [w_i64, w_u64, w_u32, w_u8]; omega) | exact ⟨U_nonneg _, U_lt32 _⟩ | exact R8_UL _ _ | exact R32_UL _ _ | (intro hg0; (repeat ((conv => whnf); (with_reducible refine And.intro ?_ ?_); · first | assumption | omega | (intro _; refine ⟨?_, ?_⟩ <;> first | assumption | omega | exact True.intro | (refine decide_eq_true ?_; omega) | (simp [appG, Cd.holds]; omega)) | (intro _; refine ⟨And.intro ?_ ?_, ?_⟩ <;> first | assumption | omega | (refine decide_eq_true ?_; omega)) | (simp only [hg0, Bool.and_self, Bool.true_and]; done) | (intro hg1; simp only [hg0, hg1, Bool.and_self, Bool.true_and]; done) | (simp [hg0]; done))); (conv => whnf); exact True.intro))
  conv => whnf
  refine ⟨fun h1 => ?_, fun h1 => ?_⟩
  · replace h1 := of_decide_eq_true h1
    have hgk := hg k (by omega)
    have hlen : (cat g (k + 1)).length = (cat g k).length + (g k).n := by rw [cat, List.length_append, L8_length]
    have hkl1 := cat_mono g (k + 1) n0 (by omega)
    have hgn : (g (k : Int).toNat).n ≤ 900000 := by rw [Int.toNat_natCast]; omega
    have e1 : absorb (absorb H256 (cat g k)) (rest (cat g k) ++ L8 (g k).f (g k).n) = absorb H256 (cat g (k + 1)) := (absorb_append _ _ _).symm
    have e2 : rest (rest (cat g k) ++ L8 (g k).f (g k).n) = rest (cat g (k + 1)) := (rest_append _ _).symm
    repeat ((conv => whnf); (with_reducible refine And.intro ?_ ?_); · first | exact True.intro | (intro hg0; simp only [hg0, Bool.not_false, Bool.not_true]; done) | assumption | omega | (intro _; refine ⟨True.intro, ?_⟩; omega) | (intro _; refine ⟨?_, True.intro⟩; omega) | (intro _; refine ⟨decide_eq_true ?_, ?_⟩ <;> omega) | (intro _; refine ⟨?_, ?_⟩ <;> first | omega | (simp [appG, Cd.holds]; done) | (simp [appG, Cd.holds]; omega)) | (refine decide_eq_true ?_; omega) | (intro _; omega) | (simp only [w_i64, w_u64, w_u32, w_u8]; omega) | exact ⟨U_nonneg _, U_lt32 _⟩ | exact R8_UL _ _ | exact R32_UL _ _ | (intro hg0; (repeat ((conv => whnf); (with_reducible refine And.intro ?_ ?_); · first | assumption | omega | (intro _; refine ⟨?_, ?_⟩ <;> first | assumption | omega | exact True.intro | (refine decide_eq_true ?_; omega) | (simp [appG, Cd.holds]; omega)) | (intro _; refine ⟨And.intro ?_ ?_, ?_⟩ <;> first | assumption | omega | (refine decide_eq_true ?_; omega)) | (simp only [hg0, Bool.and_self, Bool.true_and]; done) | (intro hg1; simp only [hg0, hg1, Bool.and_self, Bool.true_and]; done) | (simp [hg0]; done))); (conv => whnf); exact True.intro))
    conv => whnf
    refine ⟨k + 1, ⟨by show k + 1 ≤ n0; omega, by show n0 - (k + 1) < n0 - k; omega⟩, le_of [(2, 3)] ?_⟩
    simp only [Int.toNat_natCast, hx1, hx2, e1, e2, hlen]
    repeat ((conv => whnf); (with_reducible refine And.intro ?_ ?_); · first | with_reducible rfl | exact (Bool.and_false _).symm | (intro _ _; with_reducible rfl) | exact True.intro | assumption | (intro h; exact absurd h (by decide)) | omega | (intro _; omega) | (intro _; refine ⟨?_, True.intro⟩; omega) | (intro _; refine ⟨?_, True.intro⟩; intro _; omega) | (refine decide_eq_false ?_; omega) | (refine decide_eq_true ?_; omega) | (simp only [w_i64, w_u64, w_u32, w_u8]; omega) | exact fun j hj => (put_0 hj).symm | (intro j _; simp only [Nat.zero_add]; done) | (simp [appG]; done) | (simp [appG]; omega) | exact (beq_and _ _).symm | (intro h; rw [Nat.beq_eq] at h; omega) | (intro hgd; (try replace hgd := of_decide_eq_true hgd); (repeat ((conv => whnf); (with_reducible refine And.intro ?_ ?_); · first | with_reducible rfl | exact (Bool.and_false _).symm | (intro _ _; with_reducible rfl) | exact True.intro | assumption | (intro h; exact absurd h (by decide)) | omega | (intro _; omega) | (intro _; refine ⟨?_, True.intro⟩; omega) | (intro _; refine ⟨?_, True.intro⟩; intro _; omega) | (refine decide_eq_false ?_; omega) | (refine decide_eq_true ?_; omega) | (simp only [w_i64, w_u64, w_u32, w_u8]; omega) | exact fun j hj => (put_0 hj).symm | (intro j _; simp only [Nat.zero_add]; done) | (simp [appG]; done) | (simp [appG]; omega) | exact (beq_and _ _).symm | (intro h; rw [Nat.beq_eq] at h; omega))); (conv => whnf); exact True.intro))
    conv => whnf
    exact True.intro
  · replace h1 := of_decide_eq_false h1
    have hkn : k = n0 := by omega
    subst hkn
    have e3 : digest (absorb (absorb H256 (cat g k)) (rest (cat g k) ++ tail2 ((cat g k).length % 64) (BitVec.ofInt 64 ((cat g k).length : Int)))) = sha (cat g k) := by
      rw [BitVec.ofInt_natCast, tail2_eq, ← absorb_append]; rfl
    repeat ((conv => whnf); (with_reducible refine And.intro ?_ ?_); · first | exact True.intro | (intro hg0; simp only [hg0, Bool.not_false, Bool.not_true]; done) | assumption | omega | (intro _; refine ⟨True.intro, ?_⟩; omega) | (intro _; refine ⟨?_, True.intro⟩; omega) | (intro _; refine ⟨decide_eq_true ?_, ?_⟩ <;> omega) | (intro _; refine ⟨?_, ?_⟩ <;> first | omega | (simp [appG, Cd.holds]; done) | (simp [appG, Cd.holds]; omega)) | (refine decide_eq_true ?_; omega) | (intro _; omega) | (simp only [w_i64, w_u64, w_u32, w_u8]; omega) | exact ⟨U_nonneg _, U_lt32 _⟩ | exact R8_UL _ _ | exact R32_UL _ _ | (intro hg0; (repeat ((conv => whnf); (with_reducible refine And.intro ?_ ?_); · first | assumption | omega | (intro _; refine ⟨?_, ?_⟩ <;> first | assumption | omega | exact True.intro | (refine decide_eq_true ?_; omega) | (simp [appG, Cd.holds]; omega)) | (intro _; refine ⟨And.intro ?_ ?_, ?_⟩ <;> first | assumption | omega | (refine decide_eq_true ?_; omega)) | (simp only [hg0, Bool.and_self, Bool.true_and]; done) | (intro hg1; simp only [hg0, hg1, Bool.and_self, Bool.true_and]; done) | (simp [hg0]; done))); (conv => whnf); exact True.intro))
    conv => whnf
    refine ⟨[], ?_⟩
    simp only [hx1, hx2, e3]
    repeat ((conv => whnf); (with_reducible refine And.intro ?_ ?_); · first | with_reducible rfl | exact (Bool.and_false _).symm | (intro _ _; with_reducible rfl) | exact True.intro | assumption | (intro h; exact absurd h (by decide)) | omega | (intro _; omega) | (intro _; refine ⟨?_, True.intro⟩; omega) | (intro _; refine ⟨?_, True.intro⟩; intro _; omega) | (refine decide_eq_false ?_; omega) | (refine decide_eq_true ?_; omega) | (simp only [w_i64, w_u64, w_u32, w_u8]; omega) | exact fun j hj => (put_0 hj).symm | (intro j _; simp only [Nat.zero_add]; done) | (simp [appG]; done) | (simp [appG]; omega) | (intro hgd; (try replace hgd := of_decide_eq_true hgd); (repeat ((conv => whnf); (with_reducible refine And.intro ?_ ?_); · first | with_reducible rfl | exact (Bool.and_false _).symm | (intro _ _; with_reducible rfl) | exact True.intro | assumption | (intro h; exact absurd h (by decide)) | omega | (intro _; omega) | (intro _; refine ⟨?_, True.intro⟩; omega) | (intro _; refine ⟨?_, True.intro⟩; intro _; omega) | (refine decide_eq_false ?_; omega) | (refine decide_eq_true ?_; omega) | (simp only [w_i64, w_u64, w_u32, w_u8]; omega) | exact fun j hj => (put_0 hj).symm | (intro j _; simp only [Nat.zero_add]; done) | (simp [appG]; done) | (simp [appG]; omega))); (conv => whnf); exact True.intro))
    conv => whnf
    exact True.intro
end Go.Proofs.Ytogijkmflhjhkaa

/- Functions through the evaluator: mac. No condition. -/
namespace Go.Proofs.Ytogijkmflhjhkaa
open Go.Sx Go.RowKit
set_option linter.unusedSimpArgs false
set_option maxRecDepth 100000
set_option linter.unusedVariables false

/-- A key's block. -/
def kblock (k : List B8) : List B8 := (if 64 < k.length then sha k else k) ++ List.replicate (64 - (if 64 < k.length then sha k else k).length) 0
def kturn (k : List B8) (b : B8) : List B8 := (kblock k).map (· ^^^ b)
theorem kblock_length (k : List B8) : (kblock k).length = 64 := by
  unfold kblock
  rw [List.length_append, List.length_replicate]
  split
  · rw [sha_length]
  · omega
/-- i bytes have been turned. -/
def turF (B : List B8) (b : B8) (i j : Nat) : Int := if j < i then U (B.getD j 0 ^^^ b) else UL B j
theorem pad_eq {K : List B8} {g : Nat → Int} {m r : Nat} (hm : m = K.length) (hg : ∀ j, j < m → g j = UL K j) (j : Nat) : UL (K ++ List.replicate r 0) j = put_ (fun _ => 0) 0 m g j := by
  subst hm
  unfold put_
  by_cases h : j < K.length
  · rw [if_pos (by omega), Nat.sub_zero, hg j h]
    unfold UL
    rw [List.getD_eq_getElem?_getD, List.getD_eq_getElem?_getD, List.getElem?_append_left h]
  · rw [if_neg (by omega)]
    unfold UL
    rw [List.getD_eq_getElem?_getD, List.getElem?_append_right (by omega), List.getElem?_replicate]
    split <;> rfl
theorem turF_step {B : List B8} {x : Int} (hx : 0 ≤ x ∧ x < 256) (i j : Nat) : turF B (BitVec.ofInt 8 x) (i + 1) j = upd (turF B (BitVec.ofInt 8 x) i) i (bits .xor .u8 (turF B (BitVec.ofInt 8 x) i i) x) j := by
  have e : x = U (BitVec.ofInt 8 x) := (U_ofInt8 hx.1 hx.2).symm
  have e2 : turF B (BitVec.ofInt 8 x) i i = U (B.getD i 0) := by unfold turF; rw [if_neg (by omega)]; rfl
  rw [e2]
  generalize BitVec.ofInt 8 x = b at *
  rw [e, xor8]
  unfold upd turF
  by_cases h : j = i
  · subst h; rw [if_pos (by omega), if_pos rfl]
  · rw [if_neg h]
    by_cases h2 : j < i
    · rw [if_pos (by omega), if_pos h2]
    · rw [if_neg (by omega), if_neg h2]
theorem turF_end {B : List B8} {b : B8} (hB : B.length = 64) (j : Nat) (hj : j < 64) : UL (B.map (· ^^^ b)) j = turF B b 64 j := by
  unfold turF UL
  rw [if_pos hj]
  congr 1
  simp [List.getD_eq_getElem?_getD, hB, hj]
theorem cok6 : COk Try.prog (tab [(37, sumVS)]) := cok_cons sumVS_ok cok_nil
def turnS : Summary := mkS false [.r .u8, .v] fun
  | [.r nl g n, .v (.sc (.int .u8 x))] => some ⟨.and (.p (R8 g n)) (.and (.p (n ≤ 900000)) (.p (0 ≤ x ∧ x < 256))), some (.sa (.sc (.sl false true false 0 0 0 64 64))),
      [(0, .own 5 [.ints .u8 (UL (kturn (L8 g n) (BitVec.ofInt 8 x))) 64] false)], 1⟩
  | _ => none
theorem turnS_ok : SumOk Try.prog 69 turnS := by
  unfold turnS
  apply sum_ok
  intro vs A H n o r hb h
  split at h
  rotate_left
  · cases h
  rename_i nl g n0 x
  injection h with h
  subst h
  cases hb
  refine fsound_of_run tt_ok cok6 mixed_ok Try.call69 Try.func69 rfl (rs := _) Try.results69 (size := 33) Try.ntmps69 (Nat.le_of_ble_eq_true rfl) rfl fun hp hfa hfh => ?_
  obtain ⟨hg, hn, hx⟩ := hp
  have hg : R8 g n0 := hg
  have hn : n0 ≤ 900000 := hn
  have hx : 0 ≤ x ∧ x < 256 := hx
  repeat ((conv => whnf); (with_reducible refine And.intro ?_ ?_); · first | exact True.intro | with_reducible assumption | omega | (intro _; refine ⟨True.intro, ?_⟩; omega) | (intro _; refine ⟨?_, True.intro⟩; omega) | (intro _; omega) | (refine decide_eq_true ?_; omega) | (intro _; refine ⟨decide_eq_true ?_, ?_⟩ <;> omega) | (simp only [w_i64, w_u64, w_u32, w_u8]; omega) | exact R8_UL _ _ | (intro hg0; (repeat ((conv => whnf); (with_reducible refine And.intro ?_ ?_); · first | assumption | omega | (intro _; refine ⟨?_, ?_⟩ <;> first | assumption | omega) | (simp only [hg0, Bool.and_self, Bool.true_and]; done))); (conv => whnf); exact True.intro))
  conv => whnf
  refine ⟨fun h1 => ?_, fun h1 => ?_⟩
  · replace h1 := of_decide_eq_true h1
    have hkb : kblock (L8 g n0) = sha (L8 g n0) ++ List.replicate 32 0 := by
      unfold kblock; rw [if_pos (by rw [L8_length]; omega), sha_length]
    repeat ((conv => whnf); (with_reducible refine And.intro ?_ ?_); · first | exact True.intro | with_reducible assumption | omega | (intro _; refine ⟨True.intro, ?_⟩; omega) | (intro _; refine ⟨?_, True.intro⟩; omega) | (intro _; omega) | (refine decide_eq_true ?_; omega) | (intro _; refine ⟨decide_eq_true ?_, ?_⟩ <;> omega) | (simp only [w_i64, w_u64, w_u32, w_u8]; omega) | exact R8_UL _ _ | (intro hg0; (repeat ((conv => whnf); (with_reducible refine And.intro ?_ ?_); · first | assumption | omega | (intro _; refine ⟨?_, ?_⟩ <;> first | assumption | omega) | (simp only [hg0, Bool.and_self, Bool.true_and]; done) | exact fun j _ => hg | (show (L8 g n0).length ≤ 900000; rw [L8_length]; omega))); (conv => whnf); exact True.intro) | exact fun j _ => hg | (show (L8 g n0).length ≤ 900000; rw [L8_length]; omega))
    conv => whnf
    have hst : ∀ j, j < 64 → turF (kblock (L8 g n0)) (BitVec.ofInt 8 x) 0 j = put_ (fun _ => 0) 0 (min (32 - Int.toNat 0) (Int.toNat 64)) (fun j => UL (sha (L8 g n0)) (Int.toNat 0 + j)) j := fun j hj => by
      unfold turF
      rw [if_neg (by omega), hkb]
      exact pad_eq (by rw [sha_length]; rfl) (fun j _ => by show UL _ (0 + j) = _; rw [Nat.zero_add]) j
    refine ⟨0, Nat, fun i => ⟨33, [(6, .sa (.sc (.sl false true false 0 0 0 64 64))), (20, .sa (.sc (.int .i64 64))), (21, .sa (.sc (.int .i64 i))), (1, .sa (.sc (.int .u8 x)))],
      [(0, .own 5 [.ints .u8 (turF (kblock (L8 g n0)) (BitVec.ofInt 8 x) i) 64] false)], 1⟩, fun i => i ≤ 64, fun i => 64 - i, ⟨0, by omega, le_of [(0, 2)] ?_⟩, fun i hi => ?_⟩
    · repeat ((conv => whnf); (with_reducible refine And.intro ?_ ?_); · first | with_reducible rfl | exact (Bool.and_false _).symm | (intro _ _; with_reducible rfl) | exact True.intro | assumption | (intro h; exact absurd h (by decide)) | omega | (intro _; omega) | (intro _; refine ⟨?_, True.intro⟩; omega) | (intro _; refine ⟨?_, True.intro⟩; intro _; omega) | (refine decide_eq_false ?_; omega) | (refine decide_eq_true ?_; omega) | (simp only [w_i64, w_u64, w_u32, w_u8]; omega) | exact fun j hj => (put_0 hj).symm | (intro j _; simp only [Nat.zero_add]; done) | (simp [appG]; done) | (simp [appG]; omega) | exact hst | (intro hgd; (try replace hgd := of_decide_eq_true hgd); (repeat ((conv => whnf); (with_reducible refine And.intro ?_ ?_); · first | with_reducible rfl | exact (Bool.and_false _).symm | (intro _ _; with_reducible rfl) | exact True.intro | assumption | (intro h; exact absurd h (by decide)) | omega | (intro _; omega) | (intro _; refine ⟨?_, True.intro⟩; omega) | (intro _; refine ⟨?_, True.intro⟩; intro _; omega) | (refine decide_eq_false ?_; omega) | (refine decide_eq_true ?_; omega) | (simp only [w_i64, w_u64, w_u32, w_u8]; omega) | exact fun j hj => (put_0 hj).symm | (intro j _; simp only [Nat.zero_add]; done) | (simp [appG]; done) | (simp [appG]; omega) | exact hst)); (conv => whnf); exact True.intro))
      conv => whnf
      exact True.intro
    have hi : i ≤ 64 := hi
    repeat ((conv => whnf); (with_reducible refine And.intro ?_ ?_); · first | exact True.intro | with_reducible assumption | omega | (intro _; refine ⟨True.intro, ?_⟩; omega) | (intro _; refine ⟨?_, True.intro⟩; omega) | (intro _; omega) | (refine decide_eq_true ?_; omega) | (intro _; refine ⟨decide_eq_true ?_, ?_⟩ <;> omega) | (simp only [w_i64, w_u64, w_u32, w_u8]; omega) | exact R8_UL _ _ | (intro hg0; (repeat ((conv => whnf); (with_reducible refine And.intro ?_ ?_); · first | assumption | omega | (intro _; refine ⟨?_, ?_⟩ <;> first | assumption | omega) | (simp only [hg0, Bool.and_self, Bool.true_and]; done))); (conv => whnf); exact True.intro))
    conv => whnf
    refine ⟨fun h2 => ?_, fun h2 => ?_⟩
    · replace h2 := of_decide_eq_true h2
      repeat ((conv => whnf); (with_reducible refine And.intro ?_ ?_); · first | exact True.intro | with_reducible assumption | omega | (intro _; refine ⟨True.intro, ?_⟩; omega) | (intro _; refine ⟨?_, True.intro⟩; omega) | (intro _; omega) | (refine decide_eq_true ?_; omega) | (intro _; refine ⟨decide_eq_true ?_, ?_⟩ <;> omega) | (simp only [w_i64, w_u64, w_u32, w_u8]; omega) | exact R8_UL _ _ | (intro hg0; (repeat ((conv => whnf); (with_reducible refine And.intro ?_ ?_); · first | assumption | omega | (intro _; refine ⟨?_, ?_⟩ <;> first | assumption | omega) | (simp only [hg0, Bool.and_self, Bool.true_and]; done))); (conv => whnf); exact True.intro))
      conv => whnf
      refine ⟨i + 1, ⟨by show i + 1 ≤ 64; omega, by show 64 - (i + 1) < 64 - i; omega⟩, le_of [] ?_⟩
      simp only [Int.toNat_natCast, Nat.zero_add]
      repeat ((conv => whnf); (with_reducible refine And.intro ?_ ?_); · first | with_reducible rfl | exact (Bool.and_false _).symm | (intro _ _; with_reducible rfl) | exact True.intro | assumption | (intro h; exact absurd h (by decide)) | omega | (intro _; omega) | (intro _; refine ⟨?_, True.intro⟩; omega) | (intro _; refine ⟨?_, True.intro⟩; intro _; omega) | (refine decide_eq_false ?_; omega) | (refine decide_eq_true ?_; omega) | (simp only [w_i64, w_u64, w_u32, w_u8]; omega) | exact fun j hj => (put_0 hj).symm | (intro j _; simp only [Nat.zero_add]; done) | (simp [appG]; done) | (simp [appG]; omega) | exact fun j _ => turF_step hx i j | (intro hgd; (try replace hgd := of_decide_eq_true hgd); (repeat ((conv => whnf); (with_reducible refine And.intro ?_ ?_); · first | with_reducible rfl | exact (Bool.and_false _).symm | (intro _ _; with_reducible rfl) | exact True.intro | assumption | (intro h; exact absurd h (by decide)) | omega | (intro _; omega) | (intro _; refine ⟨?_, True.intro⟩; omega) | (intro _; refine ⟨?_, True.intro⟩; intro _; omega) | (refine decide_eq_false ?_; omega) | (refine decide_eq_true ?_; omega) | (simp only [w_i64, w_u64, w_u32, w_u8]; omega) | exact fun j hj => (put_0 hj).symm | (intro j _; simp only [Nat.zero_add]; done) | (simp [appG]; done) | (simp [appG]; omega) | exact fun j _ => turF_step hx i j)); (conv => whnf); exact True.intro))
      conv => whnf
      exact True.intro
    · replace h2 := of_decide_eq_false h2
      have hi64 : i = 64 := by omega
      subst hi64
      repeat ((conv => whnf); (with_reducible refine And.intro ?_ ?_); · first | exact True.intro | with_reducible assumption | omega | (intro _; refine ⟨True.intro, ?_⟩; omega) | (intro _; refine ⟨?_, True.intro⟩; omega) | (intro _; omega) | (refine decide_eq_true ?_; omega) | (intro _; refine ⟨decide_eq_true ?_, ?_⟩ <;> omega) | (simp only [w_i64, w_u64, w_u32, w_u8]; omega) | exact R8_UL _ _ | (intro hg0; (repeat ((conv => whnf); (with_reducible refine And.intro ?_ ?_); · first | assumption | omega | (intro _; refine ⟨?_, ?_⟩ <;> first | assumption | omega) | (simp only [hg0, Bool.and_self, Bool.true_and]; done))); (conv => whnf); exact True.intro))
      conv => whnf
      refine ⟨[], ?_⟩
      repeat ((conv => whnf); (with_reducible refine And.intro ?_ ?_); · first | with_reducible rfl | exact (Bool.and_false _).symm | (intro _ _; with_reducible rfl) | exact True.intro | assumption | (intro h; exact absurd h (by decide)) | omega | (intro _; omega) | (intro _; refine ⟨?_, True.intro⟩; omega) | (intro _; refine ⟨?_, True.intro⟩; intro _; omega) | (refine decide_eq_false ?_; omega) | (refine decide_eq_true ?_; omega) | (simp only [w_i64, w_u64, w_u32, w_u8]; omega) | exact fun j hj => (put_0 hj).symm | (intro j _; simp only [Nat.zero_add]; done) | (simp [appG]; done) | (simp [appG]; omega) | exact fun j hj => turF_end (kblock_length _) j hj | (intro hgd; (try replace hgd := of_decide_eq_true hgd); (repeat ((conv => whnf); (with_reducible refine And.intro ?_ ?_); · first | with_reducible rfl | exact (Bool.and_false _).symm | (intro _ _; with_reducible rfl) | exact True.intro | assumption | (intro h; exact absurd h (by decide)) | omega | (intro _; omega) | (intro _; refine ⟨?_, True.intro⟩; omega) | (intro _; refine ⟨?_, True.intro⟩; intro _; omega) | (refine decide_eq_false ?_; omega) | (refine decide_eq_true ?_; omega) | (simp only [w_i64, w_u64, w_u32, w_u8]; omega) | exact fun j hj => (put_0 hj).symm | (intro j _; simp only [Nat.zero_add]; done) | (simp [appG]; done) | (simp [appG]; omega) | exact fun j hj => turF_end (kblock_length _) j hj)); (conv => whnf); exact True.intro))
      conv => whnf
      exact True.intro
  · replace h1 := of_decide_eq_false h1
    have hkb : kblock (L8 g n0) = L8 g n0 ++ List.replicate (64 - n0) 0 := by
      unfold kblock; rw [if_neg (by rw [L8_length]; omega), L8_length]
    repeat ((conv => whnf); (with_reducible refine And.intro ?_ ?_); · first | exact True.intro | with_reducible assumption | omega | (intro _; refine ⟨True.intro, ?_⟩; omega) | (intro _; refine ⟨?_, True.intro⟩; omega) | (intro _; omega) | (refine decide_eq_true ?_; omega) | (intro _; refine ⟨decide_eq_true ?_, ?_⟩ <;> omega) | (simp only [w_i64, w_u64, w_u32, w_u8]; omega) | exact R8_UL _ _ | (intro hg0; (repeat ((conv => whnf); (with_reducible refine And.intro ?_ ?_); · first | assumption | omega | (intro _; refine ⟨?_, ?_⟩ <;> first | assumption | omega) | (simp only [hg0, Bool.and_self, Bool.true_and]; done))); (conv => whnf); exact True.intro))
    conv => whnf
    have hst : ∀ j, j < 64 → turF (kblock (L8 g n0)) (BitVec.ofInt 8 x) 0 j = put_ (fun _ => 0) 0 (min n0 (Int.toNat 64)) g j := fun j hj => by
      unfold turF
      rw [if_neg (by omega), hkb]
      exact pad_eq (by rw [L8_length]; show min n0 64 = n0; omega) (fun j hj => (UL_L8 hg j (by have : min n0 (Int.toNat 64) = min n0 64 := rfl; omega)).symm) j
    refine ⟨0, Nat, fun i => ⟨33, [(6, .sa (.sc (.sl false true false 0 0 0 64 64))), (20, .sa (.sc (.int .i64 64))), (21, .sa (.sc (.int .i64 i))), (1, .sa (.sc (.int .u8 x)))],
      [(0, .own 5 [.ints .u8 (turF (kblock (L8 g n0)) (BitVec.ofInt 8 x) i) 64] false)], 1⟩, fun i => i ≤ 64, fun i => 64 - i, ⟨0, by omega, le_of [] ?_⟩, fun i hi => ?_⟩
    · repeat ((conv => whnf); (with_reducible refine And.intro ?_ ?_); · first | with_reducible rfl | exact (Bool.and_false _).symm | (intro _ _; with_reducible rfl) | exact True.intro | assumption | (intro h; exact absurd h (by decide)) | omega | (intro _; omega) | (intro _; refine ⟨?_, True.intro⟩; omega) | (intro _; refine ⟨?_, True.intro⟩; intro _; omega) | (refine decide_eq_false ?_; omega) | (refine decide_eq_true ?_; omega) | (simp only [w_i64, w_u64, w_u32, w_u8]; omega) | exact fun j hj => (put_0 hj).symm | (intro j _; simp only [Nat.zero_add]; done) | (simp [appG]; done) | (simp [appG]; omega) | exact hst | (intro hgd; (try replace hgd := of_decide_eq_true hgd); (repeat ((conv => whnf); (with_reducible refine And.intro ?_ ?_); · first | with_reducible rfl | exact (Bool.and_false _).symm | (intro _ _; with_reducible rfl) | exact True.intro | assumption | (intro h; exact absurd h (by decide)) | omega | (intro _; omega) | (intro _; refine ⟨?_, True.intro⟩; omega) | (intro _; refine ⟨?_, True.intro⟩; intro _; omega) | (refine decide_eq_false ?_; omega) | (refine decide_eq_true ?_; omega) | (simp only [w_i64, w_u64, w_u32, w_u8]; omega) | exact fun j hj => (put_0 hj).symm | (intro j _; simp only [Nat.zero_add]; done) | (simp [appG]; done) | (simp [appG]; omega) | exact hst)); (conv => whnf); exact True.intro))
      conv => whnf
      exact True.intro
    have hi : i ≤ 64 := hi
    repeat ((conv => whnf); (with_reducible refine And.intro ?_ ?_); · first | exact True.intro | with_reducible assumption | omega | (intro _; refine ⟨True.intro, ?_⟩; omega) | (intro _; refine ⟨?_, True.intro⟩; omega) | (intro _; omega) | (refine decide_eq_true ?_; omega) | (intro _; refine ⟨decide_eq_true ?_, ?_⟩ <;> omega) | (simp only [w_i64, w_u64, w_u32, w_u8]; omega) | exact R8_UL _ _ | (intro hg0; (repeat ((conv => whnf); (with_reducible refine And.intro ?_ ?_); · first | assumption | omega | (intro _; refine ⟨?_, ?_⟩ <;> first | assumption | omega) | (simp only [hg0, Bool.and_self, Bool.true_and]; done))); (conv => whnf); exact True.intro))
    conv => whnf
    refine ⟨fun h2 => ?_, fun h2 => ?_⟩
    · replace h2 := of_decide_eq_true h2
      repeat ((conv => whnf); (with_reducible refine And.intro ?_ ?_); · first | exact True.intro | with_reducible assumption | omega | (intro _; refine ⟨True.intro, ?_⟩; omega) | (intro _; refine ⟨?_, True.intro⟩; omega) | (intro _; omega) | (refine decide_eq_true ?_; omega) | (intro _; refine ⟨decide_eq_true ?_, ?_⟩ <;> omega) | (simp only [w_i64, w_u64, w_u32, w_u8]; omega) | exact R8_UL _ _ | (intro hg0; (repeat ((conv => whnf); (with_reducible refine And.intro ?_ ?_); · first | assumption | omega | (intro _; refine ⟨?_, ?_⟩ <;> first | assumption | omega) | (simp only [hg0, Bool.and_self, Bool.true_and]; done))); (conv => whnf); exact True.intro))
      conv => whnf
      refine ⟨i + 1, ⟨by show i + 1 ≤ 64; omega, by show 64 - (i + 1) < 64 - i; omega⟩, le_of [] ?_⟩
      simp only [Int.toNat_natCast, Nat.zero_add]
      repeat ((conv => whnf); (with_reducible refine And.intro ?_ ?_); · first | with_reducible rfl | exact (Bool.and_false _).symm | (intro _ _; with_reducible rfl) | exact True.intro | assumption | (intro h; exact absurd h (by decide)) | omega | (intro _; omega) | (intro _; refine ⟨?_, True.intro⟩; omega) | (intro _; refine ⟨?_, True.intro⟩; intro _; omega) | (refine decide_eq_false ?_; omega) | (refine decide_eq_true ?_; omega) | (simp only [w_i64, w_u64, w_u32, w_u8]; omega) | exact fun j hj => (put_0 hj).symm | (intro j _; simp only [Nat.zero_add]; done) | (simp [appG]; done) | (simp [appG]; omega) | exact fun j _ => turF_step hx i j | (intro hgd; (try replace hgd := of_decide_eq_true hgd); (repeat ((conv => whnf); (with_reducible refine And.intro ?_ ?_); · first | with_reducible rfl | exact (Bool.and_false _).symm | (intro _ _; with_reducible rfl) | exact True.intro | assumption | (intro h; exact absurd h (by decide)) | omega | (intro _; omega) | (intro _; refine ⟨?_, True.intro⟩; omega) | (intro _; refine ⟨?_, True.intro⟩; intro _; omega) | (refine decide_eq_false ?_; omega) | (refine decide_eq_true ?_; omega) | (simp only [w_i64, w_u64, w_u32, w_u8]; omega) | exact fun j hj => (put_0 hj).symm | (intro j _; simp only [Nat.zero_add]; done) | (simp [appG]; done) | (simp [appG]; omega) | exact fun j _ => turF_step hx i j)); (conv => whnf); exact True.intro))
      conv => whnf
      exact True.intro
    · replace h2 := of_decide_eq_false h2
      have hi64 : i = 64 := by omega
      subst hi64
      repeat ((conv => whnf); (with_reducible refine And.intro ?_ ?_); · first | exact True.intro | with_reducible assumption | omega | (intro _; refine ⟨True.intro, ?_⟩; omega) | (intro _; refine ⟨?_, True.intro⟩; omega) | (intro _; omega) | (refine decide_eq_true ?_; omega) | (intro _; refine ⟨decide_eq_true ?_, ?_⟩ <;> omega) | (simp only [w_i64, w_u64, w_u32, w_u8]; omega) | exact R8_UL _ _ | (intro hg0; (repeat ((conv => whnf); (with_reducible refine And.intro ?_ ?_); · first | assumption | omega | (intro _; refine ⟨?_, ?_⟩ <;> first | assumption | omega) | (simp only [hg0, Bool.and_self, Bool.true_and]; done))); (conv => whnf); exact True.intro))
      conv => whnf
      refine ⟨[], ?_⟩
      repeat ((conv => whnf); (with_reducible refine And.intro ?_ ?_); · first | with_reducible rfl | exact (Bool.and_false _).symm | (intro _ _; with_reducible rfl) | exact True.intro | assumption | (intro h; exact absurd h (by decide)) | omega | (intro _; omega) | (intro _; refine ⟨?_, True.intro⟩; omega) | (intro _; refine ⟨?_, True.intro⟩; intro _; omega) | (refine decide_eq_false ?_; omega) | (refine decide_eq_true ?_; omega) | (simp only [w_i64, w_u64, w_u32, w_u8]; omega) | exact fun j hj => (put_0 hj).symm | (intro j _; simp only [Nat.zero_add]; done) | (simp [appG]; done) | (simp [appG]; omega) | exact fun j hj => turF_end (kblock_length _) j hj | (intro hgd; (try replace hgd := of_decide_eq_true hgd); (repeat ((conv => whnf); (with_reducible refine And.intro ?_ ?_); · first | with_reducible rfl | exact (Bool.and_false _).symm | (intro _ _; with_reducible rfl) | exact True.intro | assumption | (intro h; exact absurd h (by decide)) | omega | (intro _; omega) | (intro _; refine ⟨?_, True.intro⟩; omega) | (intro _; refine ⟨?_, True.intro⟩; intro _; omega) | (refine decide_eq_false ?_; omega) | (refine decide_eq_true ?_; omega) | (simp only [w_i64, w_u64, w_u32, w_u8]; omega) | exact fun j hj => (put_0 hj).symm | (intro j _; simp only [Nat.zero_add]; done) | (simp [appG]; done) | (simp [appG]; omega) | exact fun j hj => turF_end (kblock_length _) j hj)); (conv => whnf); exact True.intro))
      conv => whnf
      exact True.intro
end Go.Proofs.Ytogijkmflhjhkaa

/- Functions through the evaluator: HMAC. No condition. -/
namespace Go.Proofs.Ytogijkmflhjhkaa
open Go.Sx Go.RowKit
set_option linter.unusedSimpArgs false
set_option maxRecDepth 100000
set_option linter.unusedVariables false

def hmac (k d : List B8) : List B8 := sha (kturn k 0x5c ++ sha (kturn k 0x36 ++ d))
theorem kturn_length (k : List B8) (b : B8) : (kturn k b).length = 64 := by unfold kturn; rw [List.length_map, kblock_length]
theorem cat_put1 (r : Row) (h : Nat → Row) : ∀ m, cat (putR (fun _ => r) 1 h) (1 + m) = L8 r.f r.n ++ cat h m
  | 0 => by show [] ++ L8 r.f r.n = _; rw [List.nil_append]; exact (List.append_nil _).symm
  | m + 1 => by
    rw [← Nat.add_assoc, cat, cat_put1 r h m, cat, List.append_assoc]
    have : putR (fun _ => r) 1 h (1 + m) = h m := by unfold putR; rw [if_neg (by omega)]; congr 1; omega
    rw [this]
theorem L8_z {l : List B8} {n : Nat} (h : n = l.length) : L8 (fun j => UL l (0 + j)) n = l := by
  rw [show (fun j => UL l (0 + j)) = UL l from funext fun j => by rw [Nat.zero_add]]
  exact L8_UL' h
theorem put1_R8 {r : Row} {h : Nat → Row} {m : Nat} (hr : R8 r.f r.n) (hh : ∀ j, j < m → R8 (h j).f (h j).n) : ∀ j, j < 1 + m → R8 (putR (fun _ => r) 1 h j).f (putR (fun _ => r) 1 h j).n := by
  intro j hj
  unfold putR
  split
  · exact hr
  · exact hh _ (by omega)
theorem cok7 : COk Try.prog (tab [(37, sumVS), (69, turnS)]) := cok_cons sumVS_ok (cok_cons turnS_ok cok_nil)
def hmacS : Summary := mkS false [.r .u8, .rr .u8] fun
  | [.r nl g n, .rr nl2 h m] => some ⟨.and (.p (R8 g n)) (.and (.p (n ≤ 900000)) (.and (.p (∀ j, j < m → R8 (h j).f (h j).n)) (.and (.p ((cat h m).length ≤ 800000)) (.p (m ≤ 1000000))))), some (.sa (.agg [.ints .u8 (UL (hmac (L8 g n) (cat h m))) 32])), [], 0⟩
  | _ => none
theorem hmacS_ok : SumOk Try.prog 38 hmacS := by
  unfold hmacS
  apply sum_ok
  intro vs A H n o r hb h
  split at h
  rotate_left
  · cases h
  rename_i nl g n0 nl2 h m
  injection h with h
  subst h
  cases hb
  refine fsound_of_run tt_ok cok7 mixed_ok Try.call38 Try.func38 rfl (rs := _) Try.results38 (size := 17) Try.ntmps38 (Nat.le_of_ble_eq_true rfl) rfl fun hp hfa hfh => ?_
  obtain ⟨hg, hn, hh, hl, hm⟩ := hp
  have hg : R8 g n0 := hg
  have hn : n0 ≤ 900000 := hn
  have hh : ∀ j, j < m → R8 (h j).f (h j).n := hh
  have hl : (cat h m).length ≤ 800000 := hl
  have hm : m ≤ 1000000 := hm
  have hk1 : L8 (fun j => UL (kturn (L8 g n0) (BitVec.ofInt 8 54)) (0 + j)) 64 = kturn (L8 g n0) 0x36 := L8_z (kturn_length _ _).symm
  have hc1 : cat (putR (fun x => ⟨false, fun j => UL (kturn (L8 g n0) (BitVec.ofInt 8 54)) (0 + j), 64⟩) 1 h) (1 + m) = kturn (L8 g n0) 0x36 ++ cat h m := by
    rw [cat_put1]; exact congrArg (· ++ cat h m) hk1
  have hcl : (cat (putR (fun x => ⟨false, fun j => UL (kturn (L8 g n0) (BitVec.ofInt 8 54)) (0 + j), 64⟩) 1 h) (1 + m)).length ≤ 900000 := by
    rw [hc1, List.length_append, kturn_length]; omega
  repeat ((conv => whnf); (with_reducible refine And.intro ?_ ?_); · first | exact True.intro | with_reducible assumption | omega | (intro _; refine ⟨True.intro, ?_⟩; omega) | (intro _; refine ⟨?_, True.intro⟩; omega) | (intro _; omega) | (refine decide_eq_true ?_; omega) | (intro _; refine ⟨decide_eq_true ?_, ?_⟩ <;> omega) | (simp only [w_i64, w_u64, w_u32, w_u8]; omega) | exact R8_UL _ _ | (intro hg0; (repeat ((conv => whnf); (with_reducible refine And.intro ?_ ?_); · first | assumption | omega | (intro _; refine ⟨?_, ?_⟩ <;> first | assumption | omega) | (simp only [hg0, Bool.and_self, Bool.true_and]; done) | exact Eq.refl 1 | (intro _; simp [appG, Cd.holds]; done) | exact put1_R8 (R8_z _ _) hh | exact hcl)); (conv => whnf); exact True.intro) | exact Eq.refl 1 | (intro _; simp [appG, Cd.holds]; done) | exact put1_R8 (R8_z _ _) hh | exact hcl)
  conv => whnf
  simp only [hc1]
  have hk2 : L8 (fun j => UL (kturn (L8 g n0) (BitVec.ofInt 8 92)) (0 + j)) 64 = kturn (L8 g n0) 0x5c := L8_z (kturn_length _ _).symm
  have hk3 : L8 (fun j => UL (sha (kturn (L8 g n0) 54 ++ cat h m)) (Int.toNat 0 + j)) (32 - Int.toNat 0) = sha (kturn (L8 g n0) 54 ++ cat h m) := L8_z (n := 32) (sha_length _).symm
  have hc2 : cat (putR (fun x => ⟨false, fun j => UL (kturn (L8 g n0) (BitVec.ofInt 8 92)) (0 + j), 64⟩) 1 (fun x => ⟨false, fun j => UL (sha (kturn (L8 g n0) 54 ++ cat h m)) (Int.toNat 0 + j), 32 - Int.toNat 0⟩)) 2 =
      kturn (L8 g n0) 0x5c ++ sha (kturn (L8 g n0) 54 ++ cat h m) := by
    rw [show (2 : Nat) = 1 + 1 from rfl, cat_put1]
    exact congr (congrArg (· ++ ·) hk2) ((List.nil_append _).trans hk3)
  have hcl2 : (cat (putR (fun x => ⟨false, fun j => UL (kturn (L8 g n0) (BitVec.ofInt 8 92)) (0 + j), 64⟩) 1 (fun x => ⟨false, fun j => UL (sha (kturn (L8 g n0) 54 ++ cat h m)) (Int.toNat 0 + j), 32 - Int.toNat 0⟩)) 2).length ≤ 900000 := by
    rw [hc2, List.length_append, kturn_length, sha_length]; omega
  refine ⟨[(0, ⟨0, some 12, []⟩), (1, ⟨1, some 13, [21]⟩), (2, ⟨0, some 14, []⟩), (3, ⟨7, some 15, [53]⟩), (4, ⟨15, some 16, []⟩), (5, ⟨31, none, [0]⟩)], 101, ?_⟩
  repeat ((conv => whnf); (with_reducible refine And.intro ?_ ?_); · first | exact True.intro | with_reducible assumption | omega | (intro _; refine ⟨True.intro, ?_⟩; omega) | (intro _; refine ⟨?_, True.intro⟩; omega) | (intro _; omega) | (refine decide_eq_true ?_; omega) | (intro _; refine ⟨decide_eq_true ?_, ?_⟩ <;> omega) | (simp only [w_i64, w_u64, w_u32, w_u8]; omega) | exact R8_UL _ _ | (intro hg0; (repeat ((conv => whnf); (with_reducible refine And.intro ?_ ?_); · first | assumption | omega | (intro _; refine ⟨?_, ?_⟩ <;> first | assumption | omega) | (simp only [hg0, Bool.and_self, Bool.true_and]; done) | exact Eq.refl 2 | exact put1_R8 (m := 1) (R8_z _ _) (fun j _ => R8_z _ _) | exact hcl2)); (conv => whnf); exact True.intro) | exact Eq.refl 2 | exact put1_R8 (m := 1) (R8_z _ _) (fun j _ => R8_z _ _) | exact hcl2)
  conv => whnf
  refine ⟨[], ?_⟩
  simp only [hc2]
  repeat ((conv => whnf); (with_reducible refine And.intro ?_ ?_); · first | with_reducible rfl | exact (Bool.and_false _).symm | (intro _ _; with_reducible rfl) | exact True.intro | assumption | (intro h; exact absurd h (by decide)) | omega | (intro _; omega) | (intro _; refine ⟨?_, True.intro⟩; omega) | (intro _; refine ⟨?_, True.intro⟩; intro _; omega) | (refine decide_eq_false ?_; omega) | (refine decide_eq_true ?_; omega) | (simp only [w_i64, w_u64, w_u32, w_u8]; omega) | exact fun j hj => (put_0 hj).symm | (intro j _; simp only [Nat.zero_add]; done) | (simp [appG]; done) | (simp [appG]; omega) | exact fun j _ => rfl | (intro hgd; (try replace hgd := of_decide_eq_true hgd); (repeat ((conv => whnf); (with_reducible refine And.intro ?_ ?_); · first | with_reducible rfl | exact (Bool.and_false _).symm | (intro _ _; with_reducible rfl) | exact True.intro | assumption | (intro h; exact absurd h (by decide)) | omega | (intro _; omega) | (intro _; refine ⟨?_, True.intro⟩; omega) | (intro _; refine ⟨?_, True.intro⟩; intro _; omega) | (refine decide_eq_false ?_; omega) | (refine decide_eq_true ?_; omega) | (simp only [w_i64, w_u64, w_u32, w_u8]; omega) | exact fun j hj => (put_0 hj).symm | (intro j _; simp only [Nat.zero_add]; done) | (simp [appG]; done) | (simp [appG]; omega) | exact fun j _ => rfl)); (conv => whnf); exact True.intro))
  conv => whnf
  exact True.intro
end Go.Proofs.Ytogijkmflhjhkaa
