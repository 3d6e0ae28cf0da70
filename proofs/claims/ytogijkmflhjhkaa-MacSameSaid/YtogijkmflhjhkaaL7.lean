/- The law of the same bytes, through the evaluator. No condition. -/
import Derived.Test.YtogijkmflhjhkaaSxT
import Derived.Test.YtogijkmflhjhkaaSxU
import Derived.Test.YtogijkmflhjhkaaL1
import Derived.Test.YtogijkmflhjhkaaStr
namespace Go.Proofs.Ytogijkmflhjhkaa
open Go.Sx Go.RowKit
set_option linter.unusedSimpArgs false
set_option maxRecDepth 100000
set_option maxHeartbeats 1000000
set_option linter.unusedVariables false

theorem cat_one (r : Row) : cat (fun _ => r) 1 = L8 r.f r.n := rfl
theorem R8_upd {f : Nat → Int} {n i : Nat} {x : Int} (hf : R8 f n) (hx : 0 ≤ x ∧ x < 256) : R8 (upd f i x) n := fun j hj => by
  unfold upd
  split
  · exact hx
  · exact hf j hj
theorem bits8 (x y : Int) : 0 ≤ bits .xor .u8 x y ∧ bits .xor .u8 x y < 256 := by
  show 0 ≤ IntKind.u8.wrap _ ∧ IntKind.u8.wrap _ < 256
  rw [w_u8]; omega
theorem set_getD {α : Type} {l : List α} {i : Nat} {d : α} : l.set i (l.getD i d) = l := by
  by_cases h : i < l.length
  · rw [List.getD_eq_getElem?_getD, List.getElem?_eq_getElem h]; simp
  · rw [List.set_eq_of_length_le (by omega)]
theorem getD_set {α : Type} {l : List α} {i : Nat} {x d : α} (h : i < l.length) : (l.set i x).getD i d = x := by
  simp [List.getD_eq_getElem?_getD, h]
theorem L8_upd (f : Nat → Int) (n i : Nat) (v : Int) : L8 (upd f i v) n = (L8 f n).set i (BitVec.ofInt 8 v) := by
  refine list_ext 0 (by rw [List.length_set, L8_length, L8_length]) fun j hj => ?_
  rw [L8_length] at hj
  rw [L8_get _ _ _ hj]
  unfold upd
  by_cases h : j = i
  · subst h
    rw [if_pos rfl, getD_set (by rw [L8_length]; exact hj)]
  · rw [if_neg h, List.getD_eq_getElem?_getD, List.getElem?_set_ne (Ne.symm h), ← List.getD_eq_getElem?_getD, L8_get _ _ _ hj]
theorem macSame_law (nl1 : Bool) (a : Nat → Int) (na : Nat) (nl2 : Bool) (b : Nat → Int) (nb : Nat) (at_ x : Int) (ha : R8 a na) (hb : R8 b nb) (hat : -9223372036854775808 ≤ at_ ∧ at_ ≤ 9223372036854775807) (hx : 0 ≤ x ∧ x < 256) :
    FCalls Try.prog 9 [.sc (.im nl1 .u8 a na), .sc (.im nl2 .u8 b nb), .sc (.int .i64 at_), .sc (.int .u8 x)] [] 0 isTrue := by
  refine fcalls_of_run tt_ok cokL3 mixed_ok Try.func9 rfl (rs := _) Try.results9 (size := 67) Try.ntmps9 (Nat.le_of_ble_eq_true rfl) rfl fun hp hfa hfh => ?_
  have hra : R8 a (min na (Int.toNat 60)) := R8_le ha (by omega)
  have hma : min na (Int.toNat 60) ≤ 60 := Nat.min_le_right _ _
  have hrb : R8 b (min nb (Int.toNat 60)) := R8_le hb (by omega)
  have hmb : min nb (Int.toNat 60) ≤ 60 := Nat.min_le_right _ _
  repeat ((conv => whnf); (with_reducible refine And.intro ?_ ?_); · first | exact True.intro | (intro hg0; simp only [hg0, Bool.not_false, Bool.not_true]; done) | assumption | omega | (intro _; refine ⟨True.intro, ?_⟩; omega) | (intro _; refine ⟨?_, True.intro⟩; omega) | (intro _; refine ⟨decide_eq_true ?_, ?_⟩ <;> omega) | (intro _; refine ⟨?_, ?_⟩ <;> first | omega | (simp [appG, Cd.holds]; done) | (simp [appG, Cd.holds]; omega)) | (refine decide_eq_true ?_; omega) | (intro _; omega) | (simp only [w_i64, w_u64, w_u32, w_u8]; omega) | exact ⟨U_nonneg _, U_lt32 _⟩ | exact R8_UL _ _ | exact R32_UL _ _ | (intro hg0; (repeat ((conv => whnf); (with_reducible refine And.intro ?_ ?_); · first | assumption | omega | (intro _; refine ⟨?_, ?_⟩ <;> first | assumption | omega | exact True.intro | (refine decide_eq_true ?_; omega) | (simp [appG, Cd.holds]; omega)) | (intro _; refine ⟨And.intro ?_ ?_, ?_⟩ <;> first | assumption | omega | (refine decide_eq_true ?_; omega)) | (simp only [hg0, Bool.and_self, Bool.true_and]; done) | (intro hg1; simp only [hg0, hg1, Bool.and_self, Bool.true_and]; done) | (simp [hg0]; done))); (conv => whnf); exact True.intro))
  conv => whnf
  refine ⟨fun h1 => (nomatch h1), fun h1 => ?_⟩
  repeat ((conv => whnf); (with_reducible refine And.intro ?_ ?_); · first | exact True.intro | (intro hg0; simp only [hg0, Bool.not_false, Bool.not_true]; done) | assumption | omega | (intro _; refine ⟨True.intro, ?_⟩; omega) | (intro _; refine ⟨?_, True.intro⟩; omega) | (intro _; refine ⟨decide_eq_true ?_, ?_⟩ <;> omega) | (intro _; refine ⟨?_, ?_⟩ <;> first | omega | (simp [appG, Cd.holds]; done) | (simp [appG, Cd.holds]; omega)) | (refine decide_eq_true ?_; omega) | (intro _; omega) | (simp only [w_i64, w_u64, w_u32, w_u8]; omega) | exact ⟨U_nonneg _, U_lt32 _⟩ | exact R8_UL _ _ | exact R32_UL _ _ | (intro hg0; (repeat ((conv => whnf); (with_reducible refine And.intro ?_ ?_); · first | assumption | omega | (intro _; refine ⟨?_, ?_⟩ <;> first | assumption | omega | exact True.intro | (refine decide_eq_true ?_; omega) | (simp [appG, Cd.holds]; omega)) | (intro _; refine ⟨And.intro ?_ ?_, ?_⟩ <;> first | assumption | omega | (refine decide_eq_true ?_; omega)) | (simp only [hg0, Bool.and_self, Bool.true_and]; done) | (intro hg1; simp only [hg0, hg1, Bool.and_self, Bool.true_and]; done) | (simp [hg0]; done))); (conv => whnf); exact True.intro))
  conv => whnf
  generalize min na (Int.toNat 60) = m at *
  generalize min nb (Int.toNat 60) = m2 at *
  refine ⟨[(0, ⟨0, some 20, []⟩), (1, ⟨0, some 21, []⟩), (2, ⟨3, some 22, []⟩), (3, ⟨0, some 23, []⟩), (4, ⟨8, some 24, []⟩), (5, ⟨0, some 25, []⟩), (6, ⟨32, some 26, []⟩), (7, ⟨120, some 27, []⟩), (8, ⟨255, some 28, []⟩), (9, ⟨511, some 29, []⟩), (10, ⟨1023, some 30, []⟩), (11, ⟨1023, some 31, []⟩), (12, ⟨4095, some 32, []⟩), (13, ⟨8191, some 33, []⟩), (14, ⟨16383, some 34, []⟩), (15, ⟨32767, some 35, []⟩), (16, ⟨65535, some 36, []⟩), (17, ⟨65535, some 37, []⟩), (18, ⟨65535, some 38, [289]⟩), (19, ⟨458751, some 39, [305, 0]⟩), (20, ⟨1048575, some 40, []⟩), (21, ⟨2097151, some 41, []⟩)], 353, ?_⟩
  have hR1 : R8 (fun j => put_ (fun _ => 0) 0 m a (0 + j)) (0 + m) := R8_put0 (R8_0 _) hra
  have hR2 : R8 (fun j => put_ (put_ (fun _ => 0) 0 m a) (0 + m) 1 (fun j => listI [0].reverse (0 + j)) (0 + j)) (0 + m + 1) := R8_put0 (R8_put (R8_0 _) hra) (R8_b (by decide))
  have hz : (0 : Int) ≤ 0 ∧ (0 : Int) < 256 := by omega
  have s1 : ((strI a m).toList == (strI b m2).toList) = decide (L8 a m = L8 b m2) := by rw [strI_sb hra, strI_sb hrb, eq_sb]
  have s2 : L8 (fun j => put_ (fun _ => 0) 0 m a (0 + j)) (0 + m) = L8 a m := by simp only [Nat.zero_add]; exact L8_congr fun j hj => put_0 hj
  have s3 : decide (L8 a m = L8 (fun j => put_ (put_ (fun _ => 0) 0 m a) (0 + m) 1 (fun j => listI [0].reverse (0 + j)) (0 + j)) (0 + m + 1)) = false := by
    refine decide_eq_false fun h => ?_
    have := congrArg List.length h
    rw [L8_length, L8_length] at this
    omega
  have hgt : (!bif !(decide (L8 a m = L8 b m2) == ((strI a m).toList == (strI b m2).toList)) then true else !decide (L8 a m = L8 (fun j => put_ (fun _ => 0) 0 m a (0 + j)) (0 + m))) = true := by
    rw [s1, s2, beq_self_eq_true]
    simp
  repeat ((conv => whnf); (with_reducible refine And.intro ?_ ?_); · first | exact True.intro | (intro hg0; simp only [hg0, Bool.not_false, Bool.not_true]; done) | assumption | omega | (intro _; refine ⟨True.intro, ?_⟩; omega) | (intro _; refine ⟨?_, True.intro⟩; omega) | (intro _; refine ⟨decide_eq_true ?_, ?_⟩ <;> omega) | (intro _; refine ⟨?_, ?_⟩ <;> first | omega | (simp [appG, Cd.holds]; done) | (simp [appG, Cd.holds]; omega)) | (refine decide_eq_true ?_; omega) | (intro _; omega) | (simp only [w_i64, w_u64, w_u32, w_u8]; omega) | exact ⟨U_nonneg _, U_lt32 _⟩ | exact R8_UL _ _ | exact R32_UL _ _ | (intro hg0; (repeat ((conv => whnf); (with_reducible refine And.intro ?_ ?_); · first | assumption | omega | (intro _; refine ⟨?_, ?_⟩ <;> first | assumption | omega | exact True.intro | (refine decide_eq_true ?_; omega) | (simp [appG, Cd.holds]; omega)) | (intro _; refine ⟨And.intro ?_ ?_, ?_⟩ <;> first | assumption | omega | (refine decide_eq_true ?_; omega)) | (simp only [hg0, Bool.and_self, Bool.true_and]; done) | (intro hg1; simp only [hg0, hg1, Bool.and_self, Bool.true_and]; done) | (simp [hg0]; done) | exact hR1 | exact hR2 | exact hra | exact hrb | exact hgt | (intro _; exact And.intro hgt (Nat.le_refl _)) | (intro _; refine ⟨?_, ?_⟩ <;> first | omega | (simp [appG, Cd.holds]; done)) | (intro _; refine ⟨hg0, ?_⟩; omega) | (intro _; refine ⟨And.intro ?_ ?_, ?_⟩ <;> first | assumption | omega | (simp [appG, Cd.holds]; done)))); (conv => whnf); exact True.intro) | exact hR1 | exact hR2 | exact hra | exact hrb | exact hgt | (intro _; exact And.intro hgt (Nat.le_refl _)) | (intro _; refine ⟨?_, ?_⟩ <;> first | omega | (simp [appG, Cd.holds]; done)) | (intro _; refine ⟨hg0, ?_⟩; omega) | (intro _; refine ⟨And.intro ?_ ?_, ?_⟩ <;> first | assumption | omega | (simp [appG, Cd.holds]; done)))
  conv => whnf
  simp only [s1, s2, s3, beq_self_eq_true, Bool.not_true, decide_true, cond_false]
  refine ⟨fun h => (nomatch h), fun h => ?_⟩
  repeat ((conv => whnf); (with_reducible refine And.intro ?_ ?_); · first | exact True.intro | (intro hg0; simp only [hg0, Bool.not_false, Bool.not_true]; done) | assumption | omega | (intro _; refine ⟨True.intro, ?_⟩; omega) | (intro _; refine ⟨?_, True.intro⟩; omega) | (intro _; refine ⟨decide_eq_true ?_, ?_⟩ <;> omega) | (intro _; refine ⟨?_, ?_⟩ <;> first | omega | (simp [appG, Cd.holds]; done) | (simp [appG, Cd.holds]; omega)) | (refine decide_eq_true ?_; omega) | (intro _; omega) | (simp only [w_i64, w_u64, w_u32, w_u8]; omega) | exact ⟨U_nonneg _, U_lt32 _⟩ | exact R8_UL _ _ | exact R32_UL _ _ | (intro hg0; (repeat ((conv => whnf); (with_reducible refine And.intro ?_ ?_); · first | assumption | omega | (intro _; refine ⟨?_, ?_⟩ <;> first | assumption | omega | exact True.intro | (refine decide_eq_true ?_; omega) | (simp [appG, Cd.holds]; omega)) | (intro _; refine ⟨And.intro ?_ ?_, ?_⟩ <;> first | assumption | omega | (refine decide_eq_true ?_; omega)) | (simp only [hg0, Bool.and_self, Bool.true_and]; done) | (intro hg1; simp only [hg0, hg1, Bool.and_self, Bool.true_and]; done) | (simp [hg0]; done))); (conv => whnf); exact True.intro))
  conv => whnf
  refine ⟨fun h2 => ?_, fun h2 => ?_⟩
  · repeat ((conv => whnf); (with_reducible refine And.intro ?_ ?_); · first | exact True.intro | (intro hg0; simp only [hg0, Bool.not_false, Bool.not_true]; done) | assumption | omega | (intro _; refine ⟨True.intro, ?_⟩; omega) | (intro _; refine ⟨?_, True.intro⟩; omega) | (intro _; refine ⟨decide_eq_true ?_, ?_⟩ <;> omega) | (intro _; refine ⟨?_, ?_⟩ <;> first | omega | (simp [appG, Cd.holds]; done) | (simp [appG, Cd.holds]; omega)) | (refine decide_eq_true ?_; omega) | (intro _; omega) | (simp only [w_i64, w_u64, w_u32, w_u8]; omega) | exact ⟨U_nonneg _, U_lt32 _⟩ | exact R8_UL _ _ | exact R32_UL _ _ | (intro hg0; (repeat ((conv => whnf); (with_reducible refine And.intro ?_ ?_); · first | assumption | omega | (intro _; refine ⟨?_, ?_⟩ <;> first | assumption | omega | exact True.intro | (refine decide_eq_true ?_; omega) | (simp [appG, Cd.holds]; omega)) | (intro _; refine ⟨And.intro ?_ ?_, ?_⟩ <;> first | assumption | omega | (refine decide_eq_true ?_; omega)) | (simp only [hg0, Bool.and_self, Bool.true_and]; done) | (intro hg1; simp only [hg0, hg1, Bool.and_self, Bool.true_and]; done) | (simp [hg0]; done))); (conv => whnf); exact True.intro))
    conv => whnf
    refine ⟨[], ?_⟩
    repeat ((conv => whnf); (with_reducible refine And.intro ?_ ?_); · first | with_reducible rfl | exact (Bool.and_false _).symm | (intro _ _; with_reducible rfl) | exact True.intro | assumption | (intro h; exact absurd h (by decide)) | omega | (intro _; omega) | (intro _; refine ⟨?_, True.intro⟩; omega) | (intro _; refine ⟨?_, True.intro⟩; intro _; omega) | (refine decide_eq_false ?_; omega) | (refine decide_eq_true ?_; omega) | (simp only [w_i64, w_u64, w_u32, w_u8]; omega) | exact fun j hj => (put_0 hj).symm | (intro j _; simp only [Nat.zero_add]; done) | (simp [appG]; done) | (simp [appG]; omega) | (intro hgd; (try replace hgd := of_decide_eq_true hgd); (repeat ((conv => whnf); (with_reducible refine And.intro ?_ ?_); · first | with_reducible rfl | exact (Bool.and_false _).symm | (intro _ _; with_reducible rfl) | exact True.intro | assumption | (intro h; exact absurd h (by decide)) | omega | (intro _; omega) | (intro _; refine ⟨?_, True.intro⟩; omega) | (intro _; refine ⟨?_, True.intro⟩; intro _; omega) | (refine decide_eq_false ?_; omega) | (refine decide_eq_true ?_; omega) | (simp only [w_i64, w_u64, w_u32, w_u8]; omega) | exact fun j hj => (put_0 hj).symm | (intro j _; simp only [Nat.zero_add]; done) | (simp [appG]; done) | (simp [appG]; omega))); (conv => whnf); exact True.intro))
    conv => whnf
    exact True.intro
  have hg : m ≠ 0 ∧ 0 ≤ at_ := by
    obtain ⟨q1, q2⟩ := orF h2
    replace q2 := of_decide_eq_false q2
    rw [beq_eq_false_iff_ne] at q1
    omega
  clear h2
  have hq0 : 0 ≤ at_.tmod ((0 + m : Nat) : Int) ∧ at_.tmod ((0 + m : Nat) : Int) < ((0 + m : Nat) : Int) := ⟨Int.tmod_nonneg _ hg.2, Int.tmod_lt_of_pos _ (by omega)⟩
  obtain ⟨q, hq⟩ : ∃ q : Nat, at_.tmod ((0 + m : Nat) : Int) = (q : Int) := ⟨(at_.tmod ((0 + m : Nat) : Int)).toNat, by omega⟩
  have hqm : q < m := by omega
  have hX : BitVec.ofInt 8 (bits .xor .u8 (a q) x) = BitVec.ofInt 8 (a q) ^^^ BitVec.ofInt 8 x := by
    have e1 : a q = U (BitVec.ofInt 8 (a q)) := (U_ofInt8 (hra q hqm).1 (hra q hqm).2).symm
    have e2 : x = U (BitVec.ofInt 8 x) := (U_ofInt8 hx.1 hx.2).symm
    rw [e1, e2, xor8, ofInt_U, ofInt_U, ofInt_U]
  have hfin : decide (L8 a m = L8 (fun j => upd (put_ (fun _ => 0) 0 m a) q (bits .xor .u8 (put_ (fun _ => 0) 0 m a q) x) j) m) = (x == 0) := by
    rw [put_0 hqm]
    show decide (L8 a m = L8 (upd (put_ (fun _ => 0) 0 m a) q (bits .xor .u8 (a q) x)) m) = _
    rw [L8_upd, L8_congr (g := a) (fun j hj => put_0 hj), hX]
    have e3 : (L8 a m).getD q 0 = BitVec.ofInt 8 (a q) := L8_get a m q hqm
    rw [← e3]
    by_cases h0 : x = 0
    · subst h0
      rw [show BitVec.ofInt 8 0 = 0#8 from rfl, BitVec.xor_zero, set_getD]
      simp
    · have hne : ¬ L8 a m = (L8 a m).set q ((L8 a m).getD q 0 ^^^ BitVec.ofInt 8 x) := fun hh => by
        have h3 : (L8 a m).getD q 0 = ((L8 a m).set q ((L8 a m).getD q 0 ^^^ BitVec.ofInt 8 x)).getD q 0 := congrArg (fun l => l.getD q 0) hh
        rw [getD_set (by rw [L8_length]; exact hqm)] at h3
        have h4 : BitVec.ofInt 8 x = 0#8 := by
          have := congrArg (fun z => (L8 a m).getD q 0 ^^^ z) h3
          simp only [BitVec.xor_self, ← BitVec.xor_assoc, BitVec.zero_xor] at this
          exact this.symm
        have h5 := congrArg U h4
        rw [U_ofInt8 hx.1 hx.2] at h5
        exact h0 h5
      rw [decide_eq_false hne, eq_comm, beq_eq_false_iff_ne]
      exact h0
  have hRf : R8 (fun j => upd (put_ (fun _ => 0) 0 m a) (0 + ((q : Nat) : Int).toNat) (bits .xor .u8 (put_ (fun _ => 0) 0 m a (0 + ((q : Nat) : Int).toNat)) x) (0 + j)) (0 + m) := fun j hj => by
    show 0 ≤ upd _ _ _ _ ∧ upd _ _ _ _ < 256
    exact R8_upd (R8_put (R8_0 _) hra) (bits8 _ _) (0 + j) (by omega)
  repeat ((conv => whnf); (with_reducible refine And.intro ?_ ?_); · first | exact True.intro | (intro hg0; simp only [hg0, Bool.not_false, Bool.not_true]; done) | assumption | omega | (intro _; refine ⟨True.intro, ?_⟩; omega) | (intro _; refine ⟨?_, True.intro⟩; omega) | (intro _; refine ⟨decide_eq_true ?_, ?_⟩ <;> omega) | (intro _; refine ⟨?_, ?_⟩ <;> first | omega | (simp [appG, Cd.holds]; done) | (simp [appG, Cd.holds]; omega)) | (refine decide_eq_true ?_; omega) | (intro _; omega) | (simp only [hq]; omega) | (simp only [hq]; intro _; refine ⟨?_, ?_⟩ <;> first | omega | (refine decide_eq_true ?_; omega)) | exact ⟨U_nonneg _, U_lt32 _⟩ | exact R8_UL _ _ | exact R32_UL _ _ | (intro hg0; (repeat ((conv => whnf); (with_reducible refine And.intro ?_ ?_); · first | assumption | omega | (intro _; refine ⟨?_, ?_⟩ <;> first | assumption | omega | exact True.intro | (refine decide_eq_true ?_; omega) | (simp [appG, Cd.holds]; omega)) | (intro _; refine ⟨And.intro ?_ ?_, ?_⟩ <;> first | assumption | omega | (refine decide_eq_true ?_; omega)) | (simp only [hg0, Bool.and_self, Bool.true_and]; done) | (intro hg1; simp only [hg0, hg1, Bool.and_self, Bool.true_and]; done) | (simp [hg0]; done) | exact hra | (simp only [hq]; exact hRf))); (conv => whnf); exact True.intro) | exact hra | (simp only [hq]; exact hRf))
  conv => whnf
  refine ⟨[], ?_⟩
  rw [Nat.zero_add] at hq
  simp only [hq, Int.toNat_natCast, Nat.zero_add, hfin, beq_self_eq_true]
  repeat ((conv => whnf); (with_reducible refine And.intro ?_ ?_); · first | with_reducible rfl | exact (Bool.and_false _).symm | (intro _ _; with_reducible rfl) | exact True.intro | assumption | (intro h; exact absurd h (by decide)) | omega | (intro _; omega) | (intro _; refine ⟨?_, True.intro⟩; omega) | (intro _; refine ⟨?_, True.intro⟩; intro _; omega) | (refine decide_eq_false ?_; omega) | (refine decide_eq_true ?_; omega) | (simp only [w_i64, w_u64, w_u32, w_u8]; omega) | exact fun j hj => (put_0 hj).symm | (intro j _; simp only [Nat.zero_add]; done) | (simp [appG]; done) | (simp [appG]; omega) | (intro hgd; (try replace hgd := of_decide_eq_true hgd); (repeat ((conv => whnf); (with_reducible refine And.intro ?_ ?_); · first | with_reducible rfl | exact (Bool.and_false _).symm | (intro _ _; with_reducible rfl) | exact True.intro | assumption | (intro h; exact absurd h (by decide)) | omega | (intro _; omega) | (intro _; refine ⟨?_, True.intro⟩; omega) | (intro _; refine ⟨?_, True.intro⟩; intro _; omega) | (refine decide_eq_false ?_; omega) | (refine decide_eq_true ?_; omega) | (simp only [w_i64, w_u64, w_u32, w_u8]; omega) | exact fun j hj => (put_0 hj).symm | (intro j _; simp only [Nat.zero_add]; done) | (simp [appG]; done) | (simp [appG]; omega))); (conv => whnf); exact True.intro))
  conv => whnf
  exact True.intro
end Go.Proofs.Ytogijkmflhjhkaa
