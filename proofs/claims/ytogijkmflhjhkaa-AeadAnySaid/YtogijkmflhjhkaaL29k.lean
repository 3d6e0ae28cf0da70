/- The law of turned bytes, through the evaluator: what is opened is what the document opens. No condition. -/
import Derived.Test.YtogijkmflhjhkaaKG5
namespace Go.Proofs.Ytogijkmflhjhkaa
open Go.Sx Go.RowKit
set_option linter.unusedSimpArgs false
set_option maxRecDepth 100000
set_option maxHeartbeats 2000000
set_option linter.unusedVariables false

theorem R8_app2 {S : List (BitVec 8)} {y : Nat → Int} {m v : Nat} (hy : R8 y v) :
    R8 (fun j => put_ (put_ (fun _ => 0) 0 m fun j => UL S (0 + j)) (0 + m) v y (0 + j)) (0 + m + v) := fun j hj => by
  show 0 ≤ put_ _ _ _ _ _ ∧ put_ _ _ _ _ _ < 256
  unfold put_
  split
  · exact hy _ (by omega)
  · split
    · exact ⟨U_nonneg _, U_lt8 _⟩
    · omega
theorem aeadAny_law (nlk : Bool) (k : Nat → Int) (nk : Nat) (nln : Bool) (n : Nat → Int) (nn : Nat) (nla : Bool) (a : Nat → Int) (na : Nat) (nlb : Bool) (b : Nat → Int) (nb : Nat) (nly : Bool) (y : Nat → Int) (ny : Nat) (at_ x : Int) (hk : R8 k nk) (hn : R8 n nn) (ha : R8 a na) (hb : R8 b nb) (hy : R8 y ny)
    (hat : -9223372036854775808 ≤ at_ ∧ at_ ≤ 9223372036854775807) (hx : 0 ≤ x ∧ x < 256) :
    FCalls Try.prog 24 [.sc (.im nlk .u8 k nk), .sc (.im nln .u8 n nn), .sc (.im nla .u8 a na), .sc (.im nlb .u8 b nb), .sc (.im nly .u8 y ny), .sc (.int .i64 at_), .sc (.int .u8 x)] [] 0 isTrue := by
  refine fcalls_of_run tt_ok cokS mixed_ok Try.func24 rfl (rs := _) Try.results24 (size := 106) Try.ntmps24 (Nat.le_of_ble_eq_true rfl) rfl fun hp hfa hfh => ?_
  have hra : R8 a (min na (Int.toNat 30)) := R8_le ha (by omega)
  have hma : min na (Int.toNat 30) ≤ 30 := Nat.min_le_right _ _
  have hrb : R8 b (min nb (Int.toNat 60)) := R8_le hb (by omega)
  have hmb : min nb (Int.toNat 60) ≤ 60 := Nat.min_le_right _ _
  have hry : R8 y (min ny (Int.toNat 60)) := R8_le hy (by omega)
  have hmy : min ny (Int.toNat 60) ≤ 60 := Nat.min_le_right _ _
  repeat ((conv => whnf); (with_reducible refine And.intro ?_ ?_); · omega)
  conv => whnf
  refine ⟨fun h1 => (nomatch h1), fun h1 => ?_⟩
  repeat (first | ((with_reducible refine (Cd.then_iff _ _).2 (And.intro ?_ ?_)); · repeat' ((conv => arg 1; whnf); first | (refine Cd.holds_p ?_; first | with_reducible exact hra | with_reducible exact hrb | with_reducible exact hry | exact fun j hj => ⟨U_nonneg _, U_lt8 _⟩ | omega) | refine Cd.holds_and ?_ ?_)) | ((conv => whnf); (with_reducible refine And.intro ?_ ?_); · first | exact fun j hj => ⟨U_nonneg _, U_lt8 _⟩ | (intro hg0; simp only [hg0, Bool.not_false, Bool.not_true]; done) | with_reducible assumption | omega | (intro _; refine ⟨?_, True.intro⟩; omega)))
  conv => whnf
  generalize min na (Int.toNat 30) = l at *
  generalize min nb (Int.toNat 60) = m at *
  generalize min ny (Int.toNat 60) = v at *
  obtain ⟨K, hK⟩ : ∃ K, K = kpad 32 (L8 k nk) := ⟨_, rfl⟩
  obtain ⟨N, hN⟩ : ∃ N, N = kpad 12 (L8 n nn) := ⟨_, rfl⟩
  have hl0 : (((m + 16 : Nat) : Int) == 0) = false := beq_eq_false_iff_ne.mpr (by omega)
  simp only [← hK, ← hN, hl0, Bool.not_true, cond_false]
  obtain ⟨S, hS⟩ : ∃ S, S = aeSeal (L8 (UL K) 32) (L8 (UL N) 12) (L8 a l) (L8 b m) := ⟨_, rfl⟩
  simp only [← hS]
  repeat (((conv => whnf); (with_reducible refine And.intro ?_ ?_); · (intro hz; rw [hz]; rfl)))
  conv => whnf
  refine ⟨fun h2 => ?_, fun h2 => ?_⟩
  · repeat (((conv => whnf); (with_reducible refine And.intro ?_ ?_); · omega))
    conv => whnf
    refine And.intro (fun hg => (Cd.then_iff _ _).2 (And.intro ?_ True.intro)) ?_
    · repeat' (with_reducible first | exact Cd.holds_tt | refine Cd.holds_and ?_ ?_ | exact Cd.holds_p hg | exact Cd.holds_p (R8_UL _ _) | exact Cd.holds_p hra | exact Cd.holds_p hry | (refine Cd.holds_p (And.intro ?_ ?_) <;> omega))
    repeat (((conv => whnf); (with_reducible refine And.intro ?_ ?_); · first | (intro hg0; simp only [hg0, Bool.not_false, Bool.not_true]; done) | (intro _; refine ⟨?_, True.intro⟩; omega)))
    conv => whnf
    refine ⟨[], ?_⟩
    have hl1 : decide (((m + 16 : Nat) : Int) > 0) = true := decide_eq_true (by omega)
    have h3 : decide (at_ < 0) = true := by
      cases h4 : decide (at_ < 0) with
      | true => rfl
      | false => rw [h4] at h2; exact nomatch h2
    simp only [hl1, h3, cond_true]
    repeat ((conv => whnf); (with_reducible refine And.intro ?_ ?_); · with_reducible rfl)
    conv => whnf
    exact True.intro
  · replace h2 : decide (at_ < 0) = false := by
      cases h3 : decide (at_ < 0) with
      | false => rfl
      | true => rw [h3] at h2; exact nomatch h2
    replace h2 := of_decide_eq_false h2
    obtain ⟨T, rfl⟩ := Int.eq_ofNat_of_zero_le (show 0 ≤ at_ by omega)
    have m1 : ((T : Nat) : Int).tmod ((0 + (m + 16) : Nat) : Int) = ((T % (0 + (m + 16)) : Nat) : Int) := rfl
    have hm1 : T % (0 + (m + 16)) < m + 16 := Nat.lt_of_lt_of_eq (Nat.mod_lt _ (by omega)) (Nat.zero_add _)
    have m2 : ((T : Nat) : Int).tmod ((m + 16 : Nat) : Int) = ((T % (m + 16) : Nat) : Int) := rfl
    have hm2 : T % (m + 16) < m + 16 := Nat.mod_lt _ (by omega)
    have m3 : 0 + (m + 16) = m + 16 := Nat.zero_add _
    have hG : appG true false 0 (m + 16) = true := decide_eq_true (show 0 < 0 + (m + 16) by omega)
    obtain ⟨D, hD⟩ : ∃ D : Nat → Int, D = put_ (fun _ => 0) 0 (m + 16) (fun j => UL S (0 + j)) := ⟨_, rfl⟩
    have hrD : R8 D (0 + (m + 16)) := fun j hj => by
      rw [hD]
      unfold put_
      rw [if_pos (by omega)]
      exact ⟨U_nonneg _, U_lt8 _⟩
    repeat ((conv => whnf); (with_reducible refine And.intro ?_ ?_); · first | with_reducible with_reducible assumption | omega | (intro _; refine ⟨decide_eq_true ?_, ?_⟩ <;> omega))
    conv => whnf
    simp only [m1, m2, ← hD]
    obtain ⟨E, hE⟩ : ∃ E : Nat → Int, E = upd D (0 + (((T % (0 + (m + 16)) : Nat) : Int)).toNat) (bits .xor .u8 (D (0 + (((T % (0 + (m + 16)) : Nat) : Int)).toNat)) x) := ⟨_, rfl⟩
    have hrE : R8 E (0 + (m + 16)) := by rw [hE]; exact R8_upa hrD
    simp only [← hE]
    refine ⟨[(0, ⟨0, some 79, []⟩), (1, ⟨0, some 80, []⟩), (2, ⟨0, some 81, []⟩), (3, ⟨0, some 82, []⟩), (4, ⟨15, some 83, []⟩), (5, ⟨31, some 84, []⟩), (6, ⟨63, some 85, []⟩), (7, ⟨63, some 86, []⟩), (8, ⟨63, some 87, []⟩), (9, ⟨63, some 88, []⟩), (10, ⟨63, some 89, []⟩), (11, ⟨63, some 90, []⟩), (12, ⟨2111, some 91, []⟩), (13, ⟨7231, some 92, []⟩), (14, ⟨15935, some 93, []⟩), (15, ⟨32767, some 94, []⟩), (16, ⟨65535, some 95, []⟩), (17, ⟨131071, some 96, []⟩), (18, ⟨262143, some 97, []⟩), (19, ⟨262143, some 98, []⟩), (20, ⟨262143, some 99, []⟩), (21, ⟨262143, some 100, []⟩), (22, ⟨2359295, some 101, [356]⟩), (23, ⟨262143, some 102, []⟩), (24, ⟨14942207, some 103, [388, 356]⟩), (25, ⟨33554431, some 104, []⟩), (26, ⟨67108863, some 105, []⟩), (27, ⟨134217727, some 14, []⟩)], 452, ?_⟩
    repeat (first | ((with_reducible refine (Cd.then_iff _ _).2 (And.intro ?_ ?_)); · repeat' ((conv => arg 1; whnf); first | exact Cd.holds_tt | (refine Cd.holds_p ?_; first | with_reducible exact hra | exact fun j hj => hrE _ (by omega) | omega | exact R8_UL _ _) | refine Cd.holds_and ?_ ?_)) | ((conv => whnf); (with_reducible refine And.intro ?_ ?_); · first | (intro _; refine ⟨True.intro, ?_⟩; omega) | (intro _; refine ⟨?_, True.intro⟩; omega) | (intro hg0; (repeat ((conv => whnf); (with_reducible refine And.intro ?_ ?_); · first | with_reducible assumption | omega | (intro _; refine ⟨?_, ?_⟩ <;> first | omega | (refine decide_eq_true ?_; omega)))); (conv => whnf); exact True.intro)))
    conv => whnf
    simp only [m2]
    refine And.intro (fun hg => (Cd.then_iff _ _).2 (And.intro ?_ True.intro)) ?_
    · repeat' (first | (with_reducible first | exact Cd.holds_tt | refine Cd.holds_and ?_ ?_ | exact Cd.holds_p hg | exact Cd.holds_p (R8_UL _ _) | exact Cd.holds_p hra | (refine Cd.holds_p (And.intro ?_ ?_) <;> omega) | exact Cd.holds_p fun h0 => And.intro (Cd.holds_p (decide_eq_true (by omega))) (by omega)) | exact Cd.holds_p (fun j hj => And.intro (U_nonneg _) (U_lt8 _)))
    repeat (((conv => whnf); (with_reducible refine And.intro ?_ ?_); · first | (intro hg0; simp only [hg0, Bool.not_false, Bool.not_true]; done) | (intro hg0; (repeat ((conv => whnf); (with_reducible refine And.intro ?_ ?_); · first | with_reducible assumption | omega | (intro _; refine ⟨?_, ?_⟩ <;> first | omega | (refine decide_eq_true ?_; omega)))); (conv => whnf); exact True.intro)))
    conv => whnf
    refine And.intro (fun hg => (Cd.then_iff _ _).2 (And.intro (Cd.holds_and (Cd.holds_p hg) (Cd.holds_and (Cd.holds_p hg) (Cd.holds_and (Cd.holds_p fun h0 => And.intro (And.intro hg hG) (Nat.le_refl _)) (Cd.holds_and Cd.holds_tt (Cd.holds_p (And.intro (by omega) (by omega))))))) True.intro)) ?_
    repeat (((conv => whnf); (with_reducible refine And.intro ?_ ?_); · omega))
    conv => whnf
    refine And.intro (fun hg => (Cd.then_iff _ _).2 (And.intro ?_ True.intro)) ?_
    · repeat' (first | (with_reducible first | exact Cd.holds_tt | refine Cd.holds_and ?_ ?_ | exact Cd.holds_p hg | exact Cd.holds_p (R8_UL _ _) | exact Cd.holds_p hra | exact Cd.holds_p (R8_app2 hry) | (refine Cd.holds_p (And.intro ?_ ?_) <;> omega)) | exact Cd.holds_p fun h0 => And.intro (Cd.holds_and (Cd.holds_p hg) (Cd.holds_p (decide_eq_true h0))) (by omega))
    repeat (((conv => whnf); (with_reducible refine And.intro ?_ ?_); · (intro hg0; simp only [hg0, Bool.not_false, Bool.not_true]; done)))
    conv => whnf
    refine ⟨[], ?_⟩
    repeat ((conv => whnf); (with_reducible refine And.intro ?_ ?_); · assumption)
    conv => whnf
    exact True.intro
end Go.Proofs.Ytogijkmflhjhkaa
