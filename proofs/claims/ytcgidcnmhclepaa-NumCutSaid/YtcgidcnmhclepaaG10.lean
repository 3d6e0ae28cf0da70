/- The laws of num, through the evaluator: there and back. No condition. -/
import Derived.Test.YtcgidcnmhclepaaSxT
import Derived.Test.YtcgidcnmhclepaaSxU
import Derived.Test.YtcgidcnmhclepaaG6
namespace Go.Proofs.Ytcgidcnmhclepaa
open Go.Sx Go.RowKit
set_option maxRecDepth 100000
set_option linter.unusedVariables false

theorem strI_size (f : Nat → Int) (n : Nat) : (strI f n).size = n := by simp [strI, ByteArray.size]
theorem strI_UL {l : List B8} {g : Nat → Int} {m : Nat} (hg : ∀ j, g j = UL l j) (hm : m = l.length) : strI g m = sb l := by
  subst hm
  rw [show g = UL l from funext hg, strI_sb (R8_UL _ _), L8_UL]
theorem back_eq {l a N : List B8} {m0 m1 q : Nat} {f1 : Nat → Int} (hl : l = a ++ N) (h0 : m0 = a.length) (hq : q = N.length) :
    L8 (fun j => put_ (put_ (fun x => 0) 0 q (fun j => UL l (0 + m0 + j))) (0 + q) m1 f1 (0 + j)) (0 + q + m1) = N ++ L8 f1 m1 := by
  rw [show (fun j => put_ (put_ (fun x => 0) 0 q (fun j => UL l (0 + m0 + j))) (0 + q) m1 f1 (0 + j)) = put_ (put_ (fun x => 0) 0 q (fun j => UL l (0 + m0 + j))) (0 + q) m1 f1 from funext fun j => by rw [Nat.zero_add j], L8_put, L8_put]
  congr 1
  subst hl; subst h0; subst hq
  have := L8_drop (UL (a ++ N)) (a ++ N).length a.length
  rw [L8_UL, List.drop_left, List.length_append, Nat.add_sub_cancel_left] at this
  rw [show (fun j => UL (a ++ N) (0 + a.length + j)) = fun j => UL (a ++ N) (a.length + j) from funext fun j => by rw [Nat.zero_add], this]
  rfl
theorem numBack_law (nl0 : Bool) (f0 : Nat → Int) (n0 : Nat) (nl1 : Bool) (f1 : Nat → Int) (n1 : Nat) (n : Int) (s : ByteArray) (u : Int) (hf0 : R8 f0 n0) (hf1 : R8 f1 n1)
    (hn : -9223372036854775808 ≤ n ∧ n ≤ 9223372036854775807) (hu : 0 ≤ u ∧ u < 4294967296) :
    FCalls Try.prog 4 [.sc (.im nl0 .u8 f0 n0), .sc (.im nl1 .u8 f1 n1), .sc (.int .i64 n), .sc (.str s), .sc (.int .u32 u)] [] 0 isTrue := by
  refine fcalls_of_run tt_ok cokL mixed_ok Try.func4 rfl (rs := _) Try.results4 (size := 136) Try.ntmps4 (Nat.le_of_ble_eq_true rfl) rfl fun hp hfa hfh => ?_
  have hb1 := putL_pos n
  have hb2 := putL_le hn.1 hn.2
  have hg0 : R8 f0 (min n0 (Int.toNat 20)) := R8_le hf0 (by omega)
  have hg1 : R8 f1 (min n1 (Int.toNat 20)) := R8_le hf1 (by omega)
  have hnl0 : nl0 = true → min n0 (Int.toNat 20) = 0 := fun h => by have := hfa.1.1 h; omega
  have hnl1 : nl1 = true → min n1 (Int.toNat 20) = 0 := fun h => by have := hfa.2.1.1 h; omega
  have hm0 : min n0 (Int.toNat 20) ≤ 20 := Nat.min_le_right _ _
  have hm1 : min n1 (Int.toNat 20) ≤ 20 := Nat.min_le_right _ _
  have ht : (List.take (Int.toNat 100) (ls s)).length ≤ 100 := by rw [List.length_take]; exact Nat.min_le_left _ _
  repeat ((conv => whnf); (with_reducible refine And.intro ?_ ?_); · first | exact True.intro | (intro hg0; simp only [hg0, Bool.not_false, Bool.not_true]; done) | assumption | omega | (intro _; refine ⟨True.intro, ?_⟩; omega) | (intro _; refine ⟨?_, True.intro⟩; omega) | (intro _; refine ⟨decide_eq_true ?_, ?_⟩ <;> omega) | (intro _; refine ⟨?_, ?_⟩ <;> first | omega | (simp [appG, Cd.holds]; done) | (simp [appG, Cd.holds]; omega)) | (refine decide_eq_true ?_; omega) | (intro _; omega) | (simp only [w_i64, w_u64, w_u32, w_u8]; omega) | exact ⟨U_nonneg _, U_lt32 _⟩ | exact R8_UL _ _ | exact R32_UL _ _ | exact fun j _ => ⟨U_nonneg _, U_lt8 _⟩ | decide | (unfold R8; decide) | (refine R8_put ?_ ?_ <;> first | exact R8_UL _ _ | assumption | (unfold R8; decide)) | (intro hg0; (repeat ((conv => whnf); (with_reducible refine And.intro ?_ ?_); · first | assumption | omega | (intro _; refine ⟨?_, ?_⟩ <;> first | assumption | omega | exact True.intro | (refine decide_eq_true ?_; omega) | (simp [appG, Cd.holds]; omega)) | (intro _; refine ⟨And.intro ?_ ?_, ?_⟩ <;> first | assumption | omega | (refine decide_eq_true ?_; omega)) | (simp only [hg0, Bool.and_self, Bool.true_and]; done) | (intro hg1; simp only [hg0, hg1, Bool.and_self, Bool.true_and]; done) | (simp [hg0]; done))); (conv => whnf); exact True.intro))
  conv => whnf
  refine ⟨fun h1 => (nomatch h1), fun h1 => ?_⟩
  repeat ((conv => whnf); (with_reducible refine And.intro ?_ ?_); · first | exact True.intro | (intro hg0; simp only [hg0, Bool.not_false, Bool.not_true]; done) | assumption | omega | (intro _; refine ⟨True.intro, ?_⟩; omega) | (intro _; refine ⟨?_, True.intro⟩; omega) | (intro _; refine ⟨decide_eq_true ?_, ?_⟩ <;> omega) | (intro _; refine ⟨?_, ?_⟩ <;> first | omega | (simp [appG, Cd.holds]; done) | (simp [appG, Cd.holds]; omega)) | (refine decide_eq_true ?_; omega) | (intro _; omega) | (simp only [w_i64, w_u64, w_u32, w_u8]; omega) | exact ⟨U_nonneg _, U_lt32 _⟩ | exact R8_UL _ _ | exact R32_UL _ _ | exact fun j _ => ⟨U_nonneg _, U_lt8 _⟩ | decide | (unfold R8; decide) | (refine R8_put ?_ ?_ <;> first | exact R8_UL _ _ | assumption | (unfold R8; decide)) | (intro hg0; (repeat ((conv => whnf); (with_reducible refine And.intro ?_ ?_); · first | assumption | omega | (intro _; refine ⟨?_, ?_⟩ <;> first | assumption | omega | exact True.intro | (refine decide_eq_true ?_; omega) | (simp [appG, Cd.holds]; omega)) | (intro _; refine ⟨And.intro ?_ ?_, ?_⟩ <;> first | assumption | omega | (refine decide_eq_true ?_; omega)) | (simp only [hg0, Bool.and_self, Bool.true_and]; done) | (intro hg1; simp only [hg0, hg1, Bool.and_self, Bool.true_and]; done) | (simp [hg0]; done))); (conv => whnf); exact True.intro))
  conv => whnf
  generalize min n0 (Int.toNat 20) = m0 at *
  generalize min n1 (Int.toNat 20) = m1 at *
  generalize List.take (Int.toNat 100) (ls s) = t at *
  refine ⟨[(0, ⟨0, some 34, []⟩), (1, ⟨1, some 35, []⟩), (2, ⟨0, some 36, []⟩), (3, ⟨4, some 37, []⟩), (4, ⟨0, some 38, []⟩), (5, ⟨16, some 39, [82]⟩), (6, ⟨48, some 40, []⟩), (7, ⟨124, some 41, []⟩), (8, ⟨255, some 42, []⟩)], 146, ?_⟩
  repeat ((conv => whnf); (with_reducible refine And.intro ?_ ?_); · first | exact True.intro | (intro hg0; simp only [hg0, Bool.not_false, Bool.not_true]; done) | assumption | omega | (intro _; refine ⟨True.intro, ?_⟩; omega) | (intro _; refine ⟨?_, True.intro⟩; omega) | (intro _; refine ⟨decide_eq_true ?_, ?_⟩ <;> omega) | (intro _; refine ⟨?_, ?_⟩ <;> first | omega | (simp [appG, Cd.holds]; done) | (simp [appG, Cd.holds]; omega)) | (refine decide_eq_true ?_; omega) | (intro _; omega) | (simp only [w_i64, w_u64, w_u32, w_u8]; omega) | exact ⟨U_nonneg _, U_lt32 _⟩ | exact R8_UL _ _ | exact R32_UL _ _ | exact fun j _ => ⟨U_nonneg _, U_lt8 _⟩ | decide | (unfold R8; decide) | (refine R8_put ?_ ?_ <;> first | exact R8_UL _ _ | assumption | (unfold R8; decide)) | (intro hg0; (repeat ((conv => whnf); (with_reducible refine And.intro ?_ ?_); · first | assumption | omega | (intro _; refine ⟨?_, ?_⟩ <;> first | assumption | omega | exact True.intro | (refine decide_eq_true ?_; omega) | (simp [appG, Cd.holds]; omega)) | (intro _; refine ⟨And.intro ?_ ?_, ?_⟩ <;> first | assumption | omega | (refine decide_eq_true ?_; omega)) | (simp only [hg0, Bool.and_self, Bool.true_and]; done) | (intro hg1; simp only [hg0, hg1, Bool.and_self, Bool.true_and]; done) | (simp [hg0]; done) | (refine R8_sub0 (R8_put ?_ ?_) ?_ <;> first | exact R8_UL _ _ | assumption | omega | (unfold R8; decide)) | (rw [strI_size, strI_size]; omega))); (conv => whnf); exact True.intro) | (refine R8_sub0 (R8_put ?_ ?_) ?_ <;> first | exact R8_UL _ _ | assumption | omega | (unfold R8; decide)) | (rw [strI_size, strI_size]; omega))
  conv => whnf
  have hA : L8 (put_ (fun x => 0) 0 m0 f0) (0 + m0) = L8 f0 m0 := by rw [L8_put]; rfl
  have hal : (L8 f0 m0).length = m0 := L8_length _ _
  have eq1 : ∀ N : List B8, strI (fun j => UL (L8 (put_ (fun x => 0) 0 m0 f0) (0 + m0) ++ N) (0 + j)) (0 + m0 + N.length) =
      strI f0 m0 ++ strI (fun j => UL N (0 + j)) N.length := fun N => by
    rw [hA, strI_UL (l := L8 f0 m0 ++ N) (fun j => by rw [Nat.zero_add]) (by rw [List.length_append, hal, Nat.zero_add]), strI_UL (l := N) (fun j => by rw [Nat.zero_add]) rfl, strI_sb hg0, sb_append]
  have hT1 : (putT (ls (sb t))).length = (putL (t.length : Int)).length + t.length := by rw [ls_sb]; exact List.length_append
  have hT2 : (putT t).length = (putL (t.length : Int)).length + t.length := List.length_append
  have hp1 := putL_pos (t.length : Int)
  have hp2 := putL_le (x := (t.length : Int)) (by omega) (by omega)
  refine ⟨fun h2 => absurd h2 (by rw [eq1, beq_self_eq_true]; decide), fun _ => ?_⟩
  repeat ((conv => whnf); (with_reducible refine And.intro ?_ ?_); · first | exact True.intro | (intro hg0; simp only [hg0, Bool.not_false, Bool.not_true]; done) | assumption | omega | (intro _; refine ⟨True.intro, ?_⟩; omega) | (intro _; refine ⟨?_, True.intro⟩; omega) | (intro _; refine ⟨decide_eq_true ?_, ?_⟩ <;> omega) | (intro _; refine ⟨?_, ?_⟩ <;> first | omega | (simp [appG, Cd.holds]; done) | (simp [appG, Cd.holds]; omega)) | (refine decide_eq_true ?_; omega) | (intro _; omega) | (simp only [w_i64, w_u64, w_u32, w_u8]; omega) | exact ⟨U_nonneg _, U_lt32 _⟩ | exact R8_UL _ _ | exact R32_UL _ _ | exact fun j _ => ⟨U_nonneg _, U_lt8 _⟩ | decide | (unfold R8; decide) | (refine R8_put ?_ ?_ <;> first | exact R8_UL _ _ | assumption | (unfold R8; decide)) | (intro hg0; (repeat ((conv => whnf); (with_reducible refine And.intro ?_ ?_); · first | assumption | omega | (intro _; refine ⟨?_, ?_⟩ <;> first | assumption | omega | exact True.intro | (refine decide_eq_true ?_; omega) | (simp [appG, Cd.holds]; omega)) | (intro _; refine ⟨And.intro ?_ ?_, ?_⟩ <;> first | assumption | omega | (refine decide_eq_true ?_; omega)) | (simp only [hg0, Bool.and_self, Bool.true_and]; done) | (intro hg1; simp only [hg0, hg1, Bool.and_self, Bool.true_and]; done) | (simp [hg0]; done) | (refine R8_sub0 (R8_put (R8_put ?_ ?_) ?_) ?_ <;> first | exact R8_UL _ _ | assumption | (unfold R8; decide) | exact fun j _ => ⟨U_nonneg _, U_lt8 _⟩ | omega) | (rw [strI_size, strI_size]; omega) | (rw [sb_size]; omega) | (refine R8_put ?_ ?_ <;> first | assumption | (unfold R8; decide)))); (conv => whnf); exact True.intro) | (refine R8_sub0 (R8_put (R8_put ?_ ?_) ?_) ?_ <;> first | exact R8_UL _ _ | assumption | (unfold R8; decide) | exact fun j _ => ⟨U_nonneg _, U_lt8 _⟩ | omega) | (rw [strI_size, strI_size]; omega) | (rw [sb_size]; omega) | (refine R8_put ?_ ?_ <;> first | assumption | (unfold R8; decide)))
  conv => whnf
  have hget : getL (L8 (fun j => put_ (put_ (fun x => 0) 0 (0 + m0 + (putL n).length - (m0 : Int).toNat) fun j => UL (L8 (put_ (fun x => 0) 0 m0 f0) (0 + m0) ++ putL n) (0 + (m0 : Int).toNat + j)) (0 + (0 + m0 + (putL n).length - (m0 : Int).toNat)) m1 f1 (0 + j))
      (0 + (0 + m0 + (putL n).length - (m0 : Int).toNat) + m1)) = (n, (putL n).length, 0) :=
    (congrArg getL (back_eq (N := putL n) (congrArg (· ++ putL n) hA) hal.symm (by omega))).trans (getL_put hn.1 hn.2 _)
  have hgt : getT (L8 (fun j => put_ (put_ (fun x => 0) 0 (0 + m0 + (putT (ls (sb t))).length - (m0 : Int).toNat) fun j => UL (L8 (put_ (fun x => 0) 0 m0 f0) (0 + m0) ++ putT (ls (sb t))) (0 + (m0 : Int).toNat + j)) (0 + (0 + m0 + (putT (ls (sb t))).length - (m0 : Int).toNat)) m1 f1 (0 + j))
      (0 + (0 + m0 + (putT (ls (sb t))).length - (m0 : Int).toNat) + m1)) = (t, (putT t).length, 0) :=
    (congrArg getT (back_eq (N := putT (ls (sb t))) (congrArg (· ++ putT (ls (sb t))) hA) hal.symm (by omega))).trans (by rw [ls_sb]; exact getT_put (by omega) _)
  simp only [hget, hgt]
  refine ⟨[(0, ⟨0, some 84, []⟩), (1, ⟨1, some 85, []⟩), (2, ⟨3, some 86, []⟩), (3, ⟨7, some 87, []⟩), (4, ⟨7, some 88, []⟩), (5, ⟨31, some 89, []⟩), (6, ⟨63, some 90, []⟩), (7, ⟨127, some 91, []⟩), (8, ⟨255, some 92, []⟩), (9, ⟨255, some 93, []⟩), (10, ⟨767, some 94, []⟩), (11, ⟨255, some 95, []⟩), (12, ⟨2303, some 96, []⟩), (13, ⟨7935, some 97, []⟩), (14, ⟨16383, some 98, []⟩), (15, ⟨32767, some 99, []⟩), (16, ⟨65535, some 100, []⟩), (17, ⟨131071, some 101, []⟩), (18, ⟨262143, some 102, []⟩), (19, ⟨131071, some 103, []⟩), (20, ⟨655359, some 104, []⟩), (21, ⟨131071, some 105, []⟩), (22, ⟨2228223, some 106, [505]⟩), (23, ⟨6422527, some 107, []⟩), (24, ⟨16383999, some 108, []⟩), (25, ⟨33554431, some 109, []⟩), (26, ⟨67108863, some 110, []⟩), (27, ⟨134217727, some 111, []⟩), (28, ⟨268435455, some 112, []⟩), (29, ⟨536870911, some 113, []⟩), (30, ⟨1073741823, some 114, []⟩), (31, ⟨2147483647, some 115, []⟩), (32, ⟨4294967295, some 116, []⟩), (33, ⟨4294967295, some 117, []⟩), (34, ⟨17179869183, some 118, []⟩), (35, ⟨34359738367, some 119, []⟩), (36, ⟨68719476735, some 120, []⟩), (37, ⟨137438953471, some 121, []⟩), (38, ⟨137438953471, some 122, []⟩), (39, ⟨412316860415, some 123, []⟩), (40, ⟨137438953471, some 124, []⟩), (41, ⟨1236950581247, some 125, []⟩), (42, ⟨4260607557631, some 126, []⟩), (43, ⟨8796093022207, some 127, []⟩), (44, ⟨17592186044415, some 128, []⟩), (45, ⟨35184372088831, some 129, []⟩), (46, ⟨70368744177663, some 130, []⟩), (47, ⟨140737488355327, some 131, [905]⟩), (48, ⟨281474976710655, some 132, []⟩), (49, ⟨70368744177663, some 133, []⟩), (50, ⟨1125899906842623, some 134, []⟩), (51, ⟨2251799813685247, some 135, []⟩), (52, ⟨4503599627370495, some 10, []⟩)], 1001, ?_⟩
  repeat ((conv => whnf); (with_reducible refine And.intro ?_ ?_); · first | exact True.intro | (intro hg0; simp only [hg0, Bool.not_false, Bool.not_true]; done) | assumption | omega | (intro _; refine ⟨True.intro, ?_⟩; omega) | (intro _; refine ⟨?_, True.intro⟩; omega) | (intro _; refine ⟨decide_eq_true ?_, ?_⟩ <;> omega) | (intro _; refine ⟨?_, ?_⟩ <;> first | omega | (simp [appG, Cd.holds]; done) | (simp [appG, Cd.holds]; omega)) | (refine decide_eq_true ?_; omega) | (intro _; omega) | (simp only [w_i64, w_u64, w_u32, w_u8]; omega) | exact ⟨U_nonneg _, U_lt32 _⟩ | exact R8_UL _ _ | exact R32_UL _ _ | exact fun j _ => ⟨U_nonneg _, U_lt8 _⟩ | decide | (unfold R8; decide) | (refine R8_put ?_ ?_ <;> first | exact R8_UL _ _ | assumption | (unfold R8; decide)) | (intro hg0; (repeat ((conv => whnf); (with_reducible refine And.intro ?_ ?_); · first | assumption | omega | (intro _; refine ⟨?_, ?_⟩ <;> first | assumption | omega | exact True.intro | (refine decide_eq_true ?_; omega) | (simp [appG, Cd.holds]; omega)) | (intro _; refine ⟨And.intro ?_ ?_, ?_⟩ <;> first | assumption | omega | (refine decide_eq_true ?_; omega)) | (simp only [hg0, Bool.and_self, Bool.true_and]; done) | (intro hg1; simp only [hg0, hg1, Bool.and_self, Bool.true_and]; done) | (simp [hg0]; done) | (rw [strI_size, strI_size]; omega) | (rw [sb_size]; omega))); (conv => whnf); exact True.intro) | (rw [strI_size, strI_size]; omega) | (rw [sb_size]; omega))
  conv => whnf
  refine ⟨[], ?_⟩
  have hw1 : IntKind.i64.wrap (((0 + m0 + (putL n).length : Nat) : Int) - (m0 : Int)) = ((putL n).length : Int) := by rw [w_i64, Int.emod_eq_of_lt (by omega) (by omega)]; omega
  have hw2 : IntKind.i64.wrap (((0 + m0 + (putT (ls (sb t))).length : Nat) : Int) - (m0 : Int)) = ((putT t).length : Int) := by rw [w_i64, Int.emod_eq_of_lt (by omega) (by omega)]; omega
  conv => whnf
  refine ⟨?_, True.intro⟩
  simp only [hw1, hw2, beq_self_eq_true]
  have eq4 : strI (fun j => UL (four (BitVec.ofInt 32 u)) (0 + j)) 4 = strI (fun j => listI [IntKind.u8.wrap u, IntKind.u8.wrap (u / 2 ^ min (Int.toNat 8) IntKind.u32.bits), IntKind.u8.wrap (u / 2 ^ min (Int.toNat 16) IntKind.u32.bits), IntKind.u8.wrap (u / 2 ^ min (Int.toNat 24) IntKind.u32.bits)].reverse (0 + j)) 4 :=
    congrArg (fun g => strI g 4) (funext fun j => (listI_map _ _).symm.trans (congrArg (fun l => listI l (0 + j)) (four_eq hu)))
  rw [eq1, eq4, beq_self_eq_true, beq_self_eq_true]
  rfl
end Go.Proofs.Ytcgidcnmhclepaa
