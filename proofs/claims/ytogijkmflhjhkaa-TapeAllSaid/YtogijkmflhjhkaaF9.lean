/- Functions through the evaluator: HKDF's Expand. No condition. -/
import Derived.Test.YtogijkmflhjhkaaSxT
import Derived.Test.YtogijkmflhjhkaaSxU
import Derived.Test.YtogijkmflhjhkaaF8
namespace Go.Proofs.Ytogijkmflhjhkaa
open Go.Sx Go.RowKit
set_option linter.unusedSimpArgs false
set_option maxRecDepth 100000
set_option linter.unusedVariables false

/-- The blocks of RFC 5869. -/
def hkT (k f : List B8) : Nat → List B8
  | 0 => []
  | i + 1 => hmac k (hkT k f i ++ f ++ [BitVec.ofNat 8 (i + 1)])
def hkO (k f : List B8) : Nat → List B8
  | 0 => []
  | i + 1 => hkO k f i ++ hkT k f (i + 1)
theorem hmac_length (k d : List B8) : (hmac k d).length = 32 := sha_length _
theorem hkT_length (k f : List B8) (i : Nat) : (hkT k f (i + 1)).length = 32 := hmac_length _ _
theorem hkO_length (k f : List B8) (i : Nat) : (hkO k f i).length = 32 * i := by
  induction i with
  | zero => rfl
  | succ i ih => rw [hkO, List.length_append, ih, hkT_length]; omega
theorem hkO_front (k f : List B8) (i : Nat) : ∀ m, i ≤ m → (hkO k f m).take (32 * i) = hkO k f i
  | 0, h => by rw [Nat.le_zero.1 h]; rfl
  | m + 1, h => by
    by_cases e : i = m + 1
    · rw [e, List.take_of_length_le (by rw [hkO_length]; omega)]
    · rw [hkO, List.take_append_of_le_length (by rw [hkO_length]; omega), hkO_front k f i m (by omega)]
theorem cat3 (r1 r2 r3 : Row) : cat (putR (fun _ => r1) 1 (putR (fun _ => r2) 1 (fun _ => r3))) 3 = L8 r1.f r1.n ++ (L8 r2.f r2.n ++ L8 r3.f r3.n) := by
  rw [show (3 : Nat) = 1 + (1 + 1) from rfl, cat_put1, cat_put1]
  rfl
theorem R8_3 {r1 r2 r3 : Row} (h1 : R8 r1.f r1.n) (h2 : R8 r2.f r2.n) (h3 : R8 r3.f r3.n) : ∀ j, j < 3 → R8 (putR (fun _ => r1) 1 (putR (fun _ => r2) 1 (fun _ => r3)) j).f (putR (fun _ => r1) 1 (putR (fun _ => r2) 1 (fun _ => r3)) j).n :=
  put1_R8 (m := 2) h1 (put1_R8 (m := 1) h2 fun _ _ => h3)
theorem R8_b {x : Int} (h : 0 ≤ x ∧ x < 256) : R8 (fun j => listI [x].reverse (0 + j)) 1 := fun j hj => by
  have : j = 0 := by omega
  subst this
  exact h
theorem out_app {A B : List B8} {a b : Nat} (ha : a = A.length) (hb : b = B.length) (j : Nat) (hj : j < a + b) : UL (A ++ B) j = put_ (UL A) a b (fun j => UL B (0 + j)) j := by
  subst ha; subst hb
  rw [← UL_app A B j hj, show (fun j => UL B (0 + j)) = UL B from funext fun j => by rw [Nat.zero_add]]
theorem out_app0 {B : List B8} {b : Nat} (j : Nat) (hj : j < b) : UL B j = put_ (fun _ => 0) 0 b (fun j => UL B (0 + j)) j := by
  rw [put_0 hj, Nat.zero_add]
theorem UL_take {l : List B8} {n j : Nat} (h : j < n) : UL (l.take n) j = UL l j := by
  unfold UL; rw [List.getD_eq_getElem?_getD, List.getD_eq_getElem?_getD, List.getElem?_take_of_lt h]
/-- None; how many; which. -/
def xNil (N : Int) : Bool := decide (N < 1 ∨ 8160 < N)
def xLen (N : Int) : Nat := if N < 1 ∨ 8160 < N then 0 else N.toNat
def expandS : Summary := mkS false [.r .u8, .r .u8, .v] fun
  | [.r nl g n, .r nl2 h m, .v (.sc (.int .i64 N))] => some ⟨.and (.p (R8 g n)) (.and (.p (n ≤ 100000)) (.and (.p (R8 h m)) (.and (.p (m ≤ 100000)) (.p (-9223372036854775808 ≤ N ∧ N ≤ 9223372036854775807))))),
      some (.sa (.sc (.sl (xNil N) false false 0 0 0 (xLen N) (xLen N)))), [(0, .gd (decide (0 < xLen N)) (.own 5 [.ints .u8 (UL (hkO (L8 g n) (L8 h m) 255)) (xLen N)] true))], 1⟩
  | _ => none
theorem expandS_ok : SumOk Try.prog 40 expandS := by
  unfold expandS
  apply sum_ok
  intro vs A H n o r hb h
  split at h
  rotate_left
  · cases h
  rename_i nl g n0 nl2 h m N
  injection h with h
  subst h
  cases hb
  refine fsound_of_run tt_ok cok8 mixed_ok Try.call40 Try.func40 rfl (rs := _) Try.results40 (size := 37) Try.ntmps40 (Nat.le_of_ble_eq_true rfl) rfl fun hp hfa hfh => ?_
  obtain ⟨hg, hn, hh, hm, hN⟩ := hp
  have hg : R8 g n0 := hg
  have hn : n0 ≤ 100000 := hn
  have hh : R8 h m := hh
  have hm : m ≤ 100000 := hm
  repeat ((conv => whnf); (with_reducible refine And.intro ?_ ?_); · first | exact True.intro | (intro hg0; simp only [hg0, Bool.not_false, Bool.not_true]; done) | assumption | omega | (intro _; refine ⟨True.intro, ?_⟩; omega) | (intro _; refine ⟨?_, True.intro⟩; omega) | (intro _; refine ⟨decide_eq_true ?_, ?_⟩ <;> omega) | (intro _; refine ⟨?_, ?_⟩ <;> first | omega | (simp [appG, Cd.holds]; done) | (simp [appG, Cd.holds]; omega)) | (refine decide_eq_true ?_; omega) | (intro _; omega) | (simp only [w_i64, w_u64, w_u32, w_u8]; omega) | exact ⟨U_nonneg _, U_lt32 _⟩ | exact R8_UL _ _ | exact R32_UL _ _ | (intro hg0; (repeat ((conv => whnf); (with_reducible refine And.intro ?_ ?_); · first | assumption | omega | (intro _; refine ⟨?_, ?_⟩ <;> first | assumption | omega | exact True.intro | (refine decide_eq_true ?_; omega) | (simp [appG, Cd.holds]; omega)) | (intro _; refine ⟨And.intro ?_ ?_, ?_⟩ <;> first | assumption | omega | (refine decide_eq_true ?_; omega)) | (simp only [hg0, Bool.and_self, Bool.true_and]; done) | (intro hg1; simp only [hg0, hg1, Bool.and_self, Bool.true_and]; done) | (simp [hg0]; done))); (conv => whnf); exact True.intro))
  conv => whnf
  refine ⟨fun h1 => ?_, fun h1 => ?_⟩
  · have hx : N < 1 ∨ 8160 < N := by
      cases hq : decide (N < 1) with
      | true => exact .inl (of_decide_eq_true hq)
      | false => rw [hq] at h1; exact .inr (of_decide_eq_true h1)
    have e1 : xNil N = true := decide_eq_true hx
    have e2 : xLen N = 0 := if_pos hx
    repeat ((conv => whnf); (with_reducible refine And.intro ?_ ?_); · first | exact True.intro | (intro hg0; simp only [hg0, Bool.not_false, Bool.not_true]; done) | assumption | omega | (intro _; refine ⟨True.intro, ?_⟩; omega) | (intro _; refine ⟨?_, True.intro⟩; omega) | (intro _; refine ⟨decide_eq_true ?_, ?_⟩ <;> omega) | (intro _; refine ⟨?_, ?_⟩ <;> first | omega | (simp [appG, Cd.holds]; done) | (simp [appG, Cd.holds]; omega)) | (refine decide_eq_true ?_; omega) | (intro _; omega) | (simp only [w_i64, w_u64, w_u32, w_u8]; omega) | exact ⟨U_nonneg _, U_lt32 _⟩ | exact R8_UL _ _ | exact R32_UL _ _ | (intro hg0; (repeat ((conv => whnf); (with_reducible refine And.intro ?_ ?_); · first | assumption | omega | (intro _; refine ⟨?_, ?_⟩ <;> first | assumption | omega | exact True.intro | (refine decide_eq_true ?_; omega) | (simp [appG, Cd.holds]; omega)) | (intro _; refine ⟨And.intro ?_ ?_, ?_⟩ <;> first | assumption | omega | (refine decide_eq_true ?_; omega)) | (simp only [hg0, Bool.and_self, Bool.true_and]; done) | (intro hg1; simp only [hg0, hg1, Bool.and_self, Bool.true_and]; done) | (simp [hg0]; done))); (conv => whnf); exact True.intro))
    conv => whnf
    refine ⟨[], ?_⟩
    simp only [e1, e2]
    repeat ((conv => whnf); (with_reducible refine And.intro ?_ ?_); · first | with_reducible rfl | exact (Bool.and_false _).symm | (intro _ _; with_reducible rfl) | exact True.intro | assumption | (intro h; exact absurd h (by decide)) | omega | (intro _; omega) | (intro _; refine ⟨?_, True.intro⟩; omega) | (intro _; refine ⟨?_, True.intro⟩; intro _; omega) | (refine decide_eq_false ?_; omega) | (refine decide_eq_true ?_; omega) | (simp only [w_i64, w_u64, w_u32, w_u8]; omega) | exact fun j hj => (put_0 hj).symm | (intro j _; simp only [Nat.zero_add]; done) | (simp [appG]; done) | (simp [appG]; omega) | (intro hgd; (try replace hgd := of_decide_eq_true hgd); (repeat ((conv => whnf); (with_reducible refine And.intro ?_ ?_); · first | with_reducible rfl | exact (Bool.and_false _).symm | (intro _ _; with_reducible rfl) | exact True.intro | assumption | (intro h; exact absurd h (by decide)) | omega | (intro _; omega) | (intro _; refine ⟨?_, True.intro⟩; omega) | (intro _; refine ⟨?_, True.intro⟩; intro _; omega) | (refine decide_eq_false ?_; omega) | (refine decide_eq_true ?_; omega) | (simp only [w_i64, w_u64, w_u32, w_u8]; omega) | exact fun j hj => (put_0 hj).symm | (intro j _; simp only [Nat.zero_add]; done) | (simp [appG]; done) | (simp [appG]; omega))); (conv => whnf); exact True.intro))
    conv => whnf
    exact True.intro
  · have hx : ¬ (N < 1 ∨ 8160 < N) := by
      cases hq : decide (N < 1) with
      | true => rw [hq] at h1; cases h1
      | false =>
        rw [hq] at h1
        have q1 := of_decide_eq_false hq
        have q2 : ¬ N > 8160 := of_decide_eq_false h1
        omega
    have e1 : xNil N = false := decide_eq_false hx
    have e2 : xLen N = N.toNat := if_neg hx
    repeat ((conv => whnf); (with_reducible refine And.intro ?_ ?_); · first | exact True.intro | (intro hg0; simp only [hg0, Bool.not_false, Bool.not_true]; done) | assumption | omega | (intro _; refine ⟨True.intro, ?_⟩; omega) | (intro _; refine ⟨?_, True.intro⟩; omega) | (intro _; refine ⟨decide_eq_true ?_, ?_⟩ <;> omega) | (intro _; refine ⟨?_, ?_⟩ <;> first | omega | (simp [appG, Cd.holds]; done) | (simp [appG, Cd.holds]; omega)) | (refine decide_eq_true ?_; omega) | (intro _; omega) | (simp only [w_i64, w_u64, w_u32, w_u8]; omega) | exact ⟨U_nonneg _, U_lt32 _⟩ | exact R8_UL _ _ | exact R32_UL _ _ | (intro hg0; (repeat ((conv => whnf); (with_reducible refine And.intro ?_ ?_); · first | assumption | omega | (intro _; refine ⟨?_, ?_⟩ <;> first | assumption | omega | exact True.intro | (refine decide_eq_true ?_; omega) | (simp [appG, Cd.holds]; omega)) | (intro _; refine ⟨And.intro ?_ ?_, ?_⟩ <;> first | assumption | omega | (refine decide_eq_true ?_; omega)) | (simp only [hg0, Bool.and_self, Bool.true_and]; done) | (intro hg1; simp only [hg0, hg1, Bool.and_self, Bool.true_and]; done) | (simp [hg0]; done))); (conv => whnf); exact True.intro))
    conv => whnf
    refine ⟨1, ?_⟩
    repeat ((conv => whnf); (with_reducible refine And.intro ?_ ?_); · first | exact True.intro | (intro hg0; simp only [hg0, Bool.not_false, Bool.not_true]; done) | assumption | omega | (intro _; refine ⟨True.intro, ?_⟩; omega) | (intro _; refine ⟨?_, True.intro⟩; omega) | (intro _; refine ⟨decide_eq_true ?_, ?_⟩ <;> omega) | (intro _; refine ⟨?_, ?_⟩ <;> first | omega | (simp [appG, Cd.holds]; done) | (simp [appG, Cd.holds]; omega)) | (refine decide_eq_true ?_; omega) | (intro _; omega) | (simp only [w_i64, w_u64, w_u32, w_u8]; omega) | exact ⟨U_nonneg _, U_lt32 _⟩ | exact R8_UL _ _ | exact R32_UL _ _ | (intro hg0; (repeat ((conv => whnf); (with_reducible refine And.intro ?_ ?_); · first | assumption | omega | (intro _; refine ⟨?_, ?_⟩ <;> first | assumption | omega | exact True.intro | (refine decide_eq_true ?_; omega) | (simp [appG, Cd.holds]; omega)) | (intro _; refine ⟨And.intro ?_ ?_, ?_⟩ <;> first | assumption | omega | (refine decide_eq_true ?_; omega)) | (simp only [hg0, Bool.and_self, Bool.true_and]; done) | (intro hg1; simp only [hg0, hg1, Bool.and_self, Bool.true_and]; done) | (simp [hg0]; done))); (conv => whnf); exact True.intro))
    conv => whnf
    refine ⟨fun h2 => ?_, fun h2 => absurd (of_decide_eq_false h2) (by omega)⟩
    have hc1 : cat (putR (fun x => ⟨true, fun x => 0, 0⟩) 1 (putR (fun x => ⟨nl2, h, m⟩) 1 fun x => ⟨false, fun j => listI [1].reverse (0 + j), 1⟩)) 3 = hkT (L8 g n0) (L8 h m) 0 ++ L8 h m ++ [BitVec.ofNat 8 (0 + 1)] := by
      rw [cat3, List.append_assoc]; rfl
    have hcl1 : (cat (putR (fun x => ⟨true, fun x => 0, 0⟩) 1 (putR (fun x => ⟨nl2, h, m⟩) 1 fun x => ⟨false, fun j => listI [1].reverse (0 + j), 1⟩)) 3).length ≤ 800000 := by
      rw [hc1]; simp only [List.length_append, L8_length, hkT, List.length_nil, List.length_singleton]; omega
    repeat ((conv => whnf); (with_reducible refine And.intro ?_ ?_); · first | exact True.intro | (intro hg0; simp only [hg0, Bool.not_false, Bool.not_true]; done) | assumption | omega | (intro _; refine ⟨True.intro, ?_⟩; omega) | (intro _; refine ⟨?_, True.intro⟩; omega) | (intro _; refine ⟨decide_eq_true ?_, ?_⟩ <;> omega) | (intro _; refine ⟨?_, ?_⟩ <;> first | omega | (simp [appG, Cd.holds]; done) | (simp [appG, Cd.holds]; omega)) | (refine decide_eq_true ?_; omega) | (intro _; omega) | (simp only [w_i64, w_u64, w_u32, w_u8]; omega) | exact ⟨U_nonneg _, U_lt32 _⟩ | exact R8_UL _ _ | exact R32_UL _ _ | (intro hg0; (repeat ((conv => whnf); (with_reducible refine And.intro ?_ ?_); · first | assumption | omega | (intro _; refine ⟨?_, ?_⟩ <;> first | assumption | omega | exact True.intro | (refine decide_eq_true ?_; omega) | (simp [appG, Cd.holds]; omega)) | (intro _; refine ⟨And.intro ?_ ?_, ?_⟩ <;> first | assumption | omega | (refine decide_eq_true ?_; omega)) | (simp only [hg0, Bool.and_self, Bool.true_and]; done) | (intro hg1; simp only [hg0, hg1, Bool.and_self, Bool.true_and]; done) | (simp [hg0]; done) | exact Eq.refl 3 | exact R8_3 (fun j hj => absurd hj (by show ¬ j < 0; omega)) hh (R8_b (by decide)) | exact hcl1)); (conv => whnf); exact True.intro) | exact Eq.refl 3 | exact R8_3 (fun j hj => absurd hj (by show ¬ j < 0; omega)) hh (R8_b (by decide)) | exact hcl1)
    conv => whnf
    simp only [hc1]
    refine ⟨Nat, fun i => ⟨37, [(0, .sa (.sc (.im nl .u8 g n0))), (1, .sa (.sc (.im nl2 .u8 h m))), (2, .sa (.sc (.int .i64 N))), (7, .sa (.sc (ownA false (32 * i) 0))), (8, .sa (.sc (.sl false true false 1 0 0 32 32))), (9, .sa (.sc (.int .u8 (IntKind.u8.wrap (i + 1)))))],
      [(0, ownB 5 .u8 (UL (hkO (L8 g n0) (L8 h m) i)) (32 * i)), (1, .own 30 [.ints .u8 (UL (hkT (L8 g n0) (L8 h m) i)) 32] false)], 2⟩, fun i => 1 ≤ i ∧ (32 * i : Int) < N + 32, fun i => 255 - i, ⟨1, ⟨by omega, by omega⟩, le_of [(0, 3), (1, 2)] ?_⟩, fun i hi => ?_⟩
    · repeat ((conv => whnf); (with_reducible refine And.intro ?_ ?_); · first | with_reducible rfl | exact (Bool.and_false _).symm | (intro _ _; with_reducible rfl) | exact True.intro | assumption | (intro h; exact absurd h (by decide)) | omega | (intro _; omega) | (intro _; refine ⟨?_, True.intro⟩; omega) | (intro _; refine ⟨?_, True.intro⟩; intro _; omega) | (refine decide_eq_false ?_; omega) | (refine decide_eq_true ?_; omega) | (simp only [w_i64, w_u64, w_u32, w_u8]; omega) | exact fun j hj => (put_0 hj).symm | (intro j _; simp only [Nat.zero_add]; done) | (simp [appG]; done) | (simp [appG]; omega) | exact fun j hj => out_app0 (b := 32) j hj | exact fun j _ => rfl | (intro hgd; (try replace hgd := of_decide_eq_true hgd); (repeat ((conv => whnf); (with_reducible refine And.intro ?_ ?_); · first | with_reducible rfl | exact (Bool.and_false _).symm | (intro _ _; with_reducible rfl) | exact True.intro | assumption | (intro h; exact absurd h (by decide)) | omega | (intro _; omega) | (intro _; refine ⟨?_, True.intro⟩; omega) | (intro _; refine ⟨?_, True.intro⟩; intro _; omega) | (refine decide_eq_false ?_; omega) | (refine decide_eq_true ?_; omega) | (simp only [w_i64, w_u64, w_u32, w_u8]; omega) | exact fun j hj => (put_0 hj).symm | (intro j _; simp only [Nat.zero_add]; done) | (simp [appG]; done) | (simp [appG]; omega) | exact fun j hj => out_app0 (b := 32) j hj | exact fun j _ => rfl)); (conv => whnf); exact True.intro))
      conv => whnf
      exact True.intro
    obtain ⟨hi1, hi2⟩ := hi
    have hi2 : (32 * i : Int) < N + 32 := hi2
    repeat ((conv => whnf); (with_reducible refine And.intro ?_ ?_); · first | exact True.intro | (intro hg0; simp only [hg0, Bool.not_false, Bool.not_true]; done) | assumption | omega | (intro _; refine ⟨True.intro, ?_⟩; omega) | (intro _; refine ⟨?_, True.intro⟩; omega) | (intro _; refine ⟨decide_eq_true ?_, ?_⟩ <;> omega) | (intro _; refine ⟨?_, ?_⟩ <;> first | omega | (simp [appG, Cd.holds]; done) | (simp [appG, Cd.holds]; omega)) | (refine decide_eq_true ?_; omega) | (intro _; omega) | (simp only [w_i64, w_u64, w_u32, w_u8]; omega) | exact ⟨U_nonneg _, U_lt32 _⟩ | exact R8_UL _ _ | exact R32_UL _ _ | (intro hg0; (repeat ((conv => whnf); (with_reducible refine And.intro ?_ ?_); · first | assumption | omega | (intro _; refine ⟨?_, ?_⟩ <;> first | assumption | omega | exact True.intro | (refine decide_eq_true ?_; omega) | (simp [appG, Cd.holds]; omega)) | (intro _; refine ⟨And.intro ?_ ?_, ?_⟩ <;> first | assumption | omega | (refine decide_eq_true ?_; omega)) | (simp only [hg0, Bool.and_self, Bool.true_and]; done) | (intro hg1; simp only [hg0, hg1, Bool.and_self, Bool.true_and]; done) | (simp [hg0]; done))); (conv => whnf); exact True.intro))
    conv => whnf
    refine ⟨fun h3 => ?_, fun h3 => ?_⟩
    · replace h3 := of_decide_eq_true h3
      have hi3 : i ≤ 254 := by omega
      have hb : L8 (fun j => listI [IntKind.u8.wrap ((i : Int) + 1)].reverse (0 + j)) 1 = [BitVec.ofNat 8 (i + 1)] := by
        show [BitVec.ofInt 8 (IntKind.u8.wrap ((i : Int) + 1))] = _
        rw [show ((i : Int) + 1) = ((i + 1 : Nat) : Int) by omega, w8_cast, ofInt_toNat]
      have hwb : 0 ≤ IntKind.u8.wrap ((i : Int) + 1) ∧ IntKind.u8.wrap ((i : Int) + 1) < 256 := by rw [w_u8]; omega
      have hTl : (hkT (L8 g n0) (L8 h m) i).length = 32 := by
        cases i with
        | zero => omega
        | succ i => exact hkT_length _ _ _
      have hc2 : cat (putR (fun x => ⟨false, fun j => UL (hkT (L8 g n0) (L8 h m) i) (0 + j), 32⟩) 1 (putR (fun x => ⟨nl2, h, m⟩) 1 fun x => ⟨false, fun j => listI [IntKind.u8.wrap ((i : Int) + 1)].reverse (0 + j), 1⟩)) 3 =
          hkT (L8 g n0) (L8 h m) i ++ L8 h m ++ [BitVec.ofNat 8 (i + 1)] := by
        rw [cat3, List.append_assoc]
        exact congr (congrArg (· ++ ·) (L8_z hTl.symm)) (congrArg (L8 h m ++ ·) hb)
      have hcl2 : (cat (putR (fun x => ⟨false, fun j => UL (hkT (L8 g n0) (L8 h m) i) (0 + j), 32⟩) 1 (putR (fun x => ⟨nl2, h, m⟩) 1 fun x => ⟨false, fun j => listI [IntKind.u8.wrap ((i : Int) + 1)].reverse (0 + j), 1⟩)) 3).length ≤ 800000 := by
        rw [hc2, List.length_append, List.length_append, L8_length, hTl, List.length_singleton]; omega
      repeat ((conv => whnf); (with_reducible refine And.intro ?_ ?_); · first | exact True.intro | (intro hg0; simp only [hg0, Bool.not_false, Bool.not_true]; done) | assumption | omega | (intro _; refine ⟨True.intro, ?_⟩; omega) | (intro _; refine ⟨?_, True.intro⟩; omega) | (intro _; refine ⟨decide_eq_true ?_, ?_⟩ <;> omega) | (intro _; refine ⟨?_, ?_⟩ <;> first | omega | (simp [appG, Cd.holds]; done) | (simp [appG, Cd.holds]; omega)) | (refine decide_eq_true ?_; omega) | (intro _; omega) | (simp only [w_i64, w_u64, w_u32, w_u8]; omega) | exact ⟨U_nonneg _, U_lt32 _⟩ | exact R8_UL _ _ | exact R32_UL _ _ | (intro hg0; (repeat ((conv => whnf); (with_reducible refine And.intro ?_ ?_); · first | assumption | omega | (intro _; refine ⟨?_, ?_⟩ <;> first | assumption | omega | exact True.intro | (refine decide_eq_true ?_; omega) | (simp [appG, Cd.holds]; omega)) | (intro _; refine ⟨And.intro ?_ ?_, ?_⟩ <;> first | assumption | omega | (refine decide_eq_true ?_; omega)) | (simp only [hg0, Bool.and_self, Bool.true_and]; done) | (intro hg1; simp only [hg0, hg1, Bool.and_self, Bool.true_and]; done) | (simp [hg0]; done) | exact Eq.refl 3 | exact R8_3 (R8_z _ _) hh (R8_b hwb) | exact hcl2)); (conv => whnf); exact True.intro) | exact Eq.refl 3 | exact R8_3 (R8_z _ _) hh (R8_b hwb) | exact hcl2)
      conv => whnf
      refine ⟨i + 1, ⟨⟨by omega, by show (32 * ((i + 1 : Nat) : Int)) < N + 32; omega⟩, by show 255 - (i + 1) < 255 - i; omega⟩, le_of [(0, 5), (1, 4)] ?_⟩
      simp only [hc2]
      repeat ((conv => whnf); (with_reducible refine And.intro ?_ ?_); · first | with_reducible rfl | exact (Bool.and_false _).symm | (intro _ _; with_reducible rfl) | exact True.intro | assumption | (intro h; exact absurd h (by decide)) | omega | (intro _; omega) | (intro _; refine ⟨?_, True.intro⟩; omega) | (intro _; refine ⟨?_, True.intro⟩; intro _; omega) | (refine decide_eq_false ?_; omega) | (refine decide_eq_true ?_; omega) | (simp only [w_i64, w_u64, w_u32, w_u8]; omega) | exact fun j hj => (put_0 hj).symm | (intro j _; simp only [Nat.zero_add]; done) | (simp [appG]; done) | (simp [appG]; omega) | exact fun j hj => out_app (b := 32) (hkO_length _ _ _).symm (hkT_length _ _ _).symm j hj | exact fun j _ => rfl | (intro hgd; (try replace hgd := of_decide_eq_true hgd); (repeat ((conv => whnf); (with_reducible refine And.intro ?_ ?_); · first | with_reducible rfl | exact (Bool.and_false _).symm | (intro _ _; with_reducible rfl) | exact True.intro | assumption | (intro h; exact absurd h (by decide)) | omega | (intro _; omega) | (intro _; refine ⟨?_, True.intro⟩; omega) | (intro _; refine ⟨?_, True.intro⟩; intro _; omega) | (refine decide_eq_false ?_; omega) | (refine decide_eq_true ?_; omega) | (simp only [w_i64, w_u64, w_u32, w_u8]; omega) | exact fun j hj => (put_0 hj).symm | (intro j _; simp only [Nat.zero_add]; done) | (simp [appG]; done) | (simp [appG]; omega) | exact fun j hj => out_app (b := 32) (hkO_length _ _ _).symm (hkT_length _ _ _).symm j hj | exact fun j _ => rfl)); (conv => whnf); exact True.intro))
      conv => whnf
      exact True.intro
    · replace h3 := of_decide_eq_false h3
      repeat ((conv => whnf); (with_reducible refine And.intro ?_ ?_); · first | exact True.intro | (intro hg0; simp only [hg0, Bool.not_false, Bool.not_true]; done) | assumption | omega | (intro _; refine ⟨True.intro, ?_⟩; omega) | (intro _; refine ⟨?_, True.intro⟩; omega) | (intro _; refine ⟨decide_eq_true ?_, ?_⟩ <;> omega) | (intro _; refine ⟨?_, ?_⟩ <;> first | omega | (simp [appG, Cd.holds]; done) | (simp [appG, Cd.holds]; omega)) | (refine decide_eq_true ?_; omega) | (intro _; omega) | (simp only [w_i64, w_u64, w_u32, w_u8]; omega) | exact ⟨U_nonneg _, U_lt32 _⟩ | exact R8_UL _ _ | exact R32_UL _ _ | (intro hg0; (repeat ((conv => whnf); (with_reducible refine And.intro ?_ ?_); · first | assumption | omega | (intro _; refine ⟨?_, ?_⟩ <;> first | assumption | omega | exact True.intro | (refine decide_eq_true ?_; omega) | (simp [appG, Cd.holds]; omega)) | (intro _; refine ⟨And.intro ?_ ?_, ?_⟩ <;> first | assumption | omega | (refine decide_eq_true ?_; omega)) | (simp only [hg0, Bool.and_self, Bool.true_and]; done) | (intro hg1; simp only [hg0, hg1, Bool.and_self, Bool.true_and]; done) | (simp [hg0]; done))); (conv => whnf); exact True.intro))
      conv => whnf
      refine ⟨[], ?_⟩
      simp only [e1, e2]
      have hi255 : i ≤ 255 := by omega
      have hf := hkO_front (L8 g n0) (L8 h m) i 255 hi255
      have hcont : ∀ j, j < N.toNat → UL (hkO (L8 g n0) (L8 h m) 255) j = UL (hkO (L8 g n0) (L8 h m) i) j := fun j hj => by
        rw [← hf, UL_take (by omega)]
      repeat ((conv => whnf); (with_reducible refine And.intro ?_ ?_); · first | with_reducible rfl | exact (Bool.and_false _).symm | (intro _ _; with_reducible rfl) | exact True.intro | assumption | (intro h; exact absurd h (by decide)) | omega | (intro _; omega) | (intro _; refine ⟨?_, True.intro⟩; omega) | (intro _; refine ⟨?_, True.intro⟩; intro _; omega) | (refine decide_eq_false ?_; omega) | (refine decide_eq_true ?_; omega) | (simp only [w_i64, w_u64, w_u32, w_u8]; omega) | exact fun j hj => (put_0 hj).symm | (intro j _; simp only [Nat.zero_add]; done) | (simp [appG]; done) | (simp [appG]; omega) | exact hcont | (intro hgd; (try replace hgd := of_decide_eq_true hgd); (repeat ((conv => whnf); (with_reducible refine And.intro ?_ ?_); · first | with_reducible rfl | exact (Bool.and_false _).symm | (intro _ _; with_reducible rfl) | exact True.intro | assumption | (intro h; exact absurd h (by decide)) | omega | (intro _; omega) | (intro _; refine ⟨?_, True.intro⟩; omega) | (intro _; refine ⟨?_, True.intro⟩; intro _; omega) | (refine decide_eq_false ?_; omega) | (refine decide_eq_true ?_; omega) | (simp only [w_i64, w_u64, w_u32, w_u8]; omega) | exact fun j hj => (put_0 hj).symm | (intro j _; simp only [Nat.zero_add]; done) | (simp [appG]; done) | (simp [appG]; omega) | exact hcont)); (conv => whnf); exact True.intro))
      conv => whnf
      exact True.intro
end Go.Proofs.Ytogijkmflhjhkaa
