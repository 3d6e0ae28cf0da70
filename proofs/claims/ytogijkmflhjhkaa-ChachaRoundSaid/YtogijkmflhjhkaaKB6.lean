/- Many texts in one: F37, F17, Str, Cdt, F38, F40, F41, F42, L22, Lnk. No condition. -/
import Derived.Test.YtogijkmflhjhkaaKA5
import Derived.ProofKit
import Derived.OpenShut
import Derived.ShutString
import Derived.ChangeOld
import Derived.SizedLaws
import Derived.Carry

/- Functions through the evaluator: sealed bytes, opened ones. No condition. -/
namespace Go.Proofs.Ytogijkmflhjhkaa
open Go.Sx Go.RowKit
set_option maxRecDepth 100000
set_option maxHeartbeats 2000000
set_option linter.unusedVariables false
set_option linter.unusedSimpArgs false

theorem cok40 : COk Try.prog (tab [(55, blockS), (101, fillS), (102, lengthS), (59, tagS)]) := cok_cons blockS_ok (cok_cons fillS_ok (cok_cons lengthS_ok (cok_cons tagS_ok cok_nil)))
/-- aead.mark. -/
noncomputable def markS : Summary := mkS false [.v, .v, .r .u8, .r .u8] fun
  | [.v (.agg [.ints .u8 k 32]), .v (.agg [.ints .u8 n 12]), .r nl1 a l, .r nl2 c m] => some ⟨.and (.p (R8 k 32)) (.and (.p (R8 n 12)) (.and (.p (R8 a l)) (.and (.p (R8 c m)) (.p (l ≤ 10000 ∧ m ≤ 10000))))),
      some (.sa (.agg [.ints .u8 (UL (aeMark (L8 k 32) (L8 n 12) (L8 a l) (L8 c m))) 16])), [], 0⟩
  | _ => none
theorem markS_ok : SumOk Try.prog 86 markS := by
  unfold markS
  apply sum_ok
  intro vs A H n o r hb h
  split at h
  rotate_left
  · cases h
  rename_i k n nl1 a l nl2 c m
  injection h with h
  subst h
  cases hb
  refine fsound_of_run tt_ok cok40 mixed_ok Try.call86 Try.func86 rfl (rs := _) Try.results86 (size := 35) Try.ntmps86 (Nat.le_of_ble_eq_true rfl) rfl fun hp hfa hfh => ?_
  obtain ⟨hk, hn, ha, hc, hl, hm⟩ := hp
  have hk : R8 k 32 := hk
  have hn : R8 n 12 := hn
  have ha : R8 a l := ha
  have hc : R8 c m := hc
  have u0 : u32R 0 := ⟨by decide, by decide⟩
  repeat ((conv => whnf); (with_reducible refine And.intro ?_ ?_); · first | exact True.intro | (intro hg0; simp only [hg0, Bool.not_false, Bool.not_true]; done) | with_reducible assumption | omega | (intro _; refine ⟨True.intro, ?_⟩; omega) | (intro _; refine ⟨?_, True.intro⟩; omega) | (intro _; refine ⟨decide_eq_true ?_, ?_⟩ <;> omega) | (intro _; refine ⟨?_, ?_⟩ <;> first | omega | (simp [appG, Cd.holds]; done) | (simp [appG, Cd.holds]; omega)) | (refine decide_eq_true ?_; omega) | (intro _; omega) | (simp only [w_i64, w_u64, w_u32, w_u8]; omega) | exact ⟨U_nonneg _, U_lt32 _⟩ | exact R8_UL _ _ | exact R32_UL _ _ | (intro hg0; (repeat ((conv => whnf); (with_reducible refine And.intro ?_ ?_); · first | with_reducible assumption | omega | (intro _; refine ⟨?_, ?_⟩ <;> first | with_reducible assumption | omega | exact True.intro | (refine decide_eq_true ?_; omega) | (simp [appG, Cd.holds]; omega)) | (intro _; refine ⟨And.intro ?_ ?_, ?_⟩ <;> first | with_reducible assumption | omega | (refine decide_eq_true ?_; omega)) | (simp only [hg0, Bool.and_self, Bool.true_and]; done) | (intro hg1; simp only [hg0, hg1, Bool.and_self, Bool.true_and]; done) | (simp [hg0]; done) | exact u0)); (conv => whnf); exact True.intro) | exact u0)
  conv => whnf
  obtain ⟨Bk, hB⟩ : ∃ Bk, Bk = chBlock (L8 k 32) (BitVec.ofInt 32 0) (L8 n 12) := ⟨_, rfl⟩
  have hBl : Bk.length = 64 := by rw [hB, chBlock_length]
  simp only [← hB]
  refine ⟨[(0, ⟨0, some 15, []⟩), (1, ⟨0, some 16, []⟩), (2, ⟨3, some 17, [4]⟩)], 53, ?_⟩
  repeat ((conv => whnf); (with_reducible refine And.intro ?_ ?_); · first | exact True.intro | (intro hg0; simp only [hg0, Bool.not_false, Bool.not_true]; done) | with_reducible assumption | omega | (intro _; refine ⟨True.intro, ?_⟩; omega) | (intro _; refine ⟨?_, True.intro⟩; omega) | (intro _; refine ⟨decide_eq_true ?_, ?_⟩ <;> omega) | (intro _; refine ⟨?_, ?_⟩ <;> first | omega | (simp [appG, Cd.holds]; done) | (simp [appG, Cd.holds]; omega)) | (refine decide_eq_true ?_; omega) | (intro _; omega) | (simp only [w_i64, w_u64, w_u32, w_u8]; omega) | exact ⟨U_nonneg _, U_lt32 _⟩ | exact R8_UL _ _ | exact R32_UL _ _ | (intro hg0; (repeat ((conv => whnf); (with_reducible refine And.intro ?_ ?_); · first | with_reducible assumption | omega | (intro _; refine ⟨?_, ?_⟩ <;> first | with_reducible assumption | omega | exact True.intro | (refine decide_eq_true ?_; omega) | (simp [appG, Cd.holds]; omega)) | (intro _; refine ⟨And.intro ?_ ?_, ?_⟩ <;> first | with_reducible assumption | omega | (refine decide_eq_true ?_; omega)) | (simp only [hg0, Bool.and_self, Bool.true_and]; done) | (intro hg1; simp only [hg0, hg1, Bool.and_self, Bool.true_and]; done) | (simp [hg0]; done))); (conv => whnf); exact True.intro))
  conv => whnf
  have hA : R8 (put_ (listI [].reverse) 0 l a) (0 + l) := fun j hj => by rw [put_0 (by omega)]; exact ha _ (by omega)
  have eA : L8 (put_ (listI [].reverse) 0 l a) l = L8 a l := L8_congr fun j hj => put_0 hj
  refine ⟨hA, ?_⟩
  simp only [Nat.zero_add, eA]
  obtain ⟨A, hAe⟩ : ∃ A, A = L8 a l := ⟨_, rfl⟩
  have hAl : A.length = l := by rw [hAe, L8_length]
  obtain ⟨C, hCe⟩ : ∃ C, C = L8 c m := ⟨_, rfl⟩
  have hCl : C.length = m := by rw [hCe, L8_length]
  simp only [← hAe, ← hCe]
  have hfl := fillN_lt l
  have hfl2 := fillN_lt (l + fillN l + m)
  have hFl : (fill A).length = l + fillN l := by rw [fill_length, hAl]
  have hC : R8 (put_ (UL (fill A)) (l + fillN l) m c) (l + fillN l + m) := R8_put (R8_UL _ _) hc
  have eC : L8 (put_ (UL (fill A)) (l + fillN l) m c) (l + fillN l + m) = fill A ++ C := by rw [L8_put, L8_UL' hFl.symm, hCe]
  repeat ((conv => whnf); (with_reducible refine And.intro ?_ ?_); · first | exact True.intro | (intro hg0; simp only [hg0, Bool.not_false, Bool.not_true]; done) | with_reducible assumption | omega | (intro _; refine ⟨True.intro, ?_⟩; omega) | (intro _; refine ⟨?_, True.intro⟩; omega) | (intro _; refine ⟨decide_eq_true ?_, ?_⟩ <;> omega) | (intro _; refine ⟨?_, ?_⟩ <;> first | omega | (simp [appG, Cd.holds]; done) | (simp [appG, Cd.holds]; omega)) | (refine decide_eq_true ?_; omega) | (intro _; omega) | (simp only [w_i64, w_u64, w_u32, w_u8]; omega) | exact ⟨U_nonneg _, U_lt32 _⟩ | exact R8_UL _ _ | exact R32_UL _ _ | (intro hg0; (repeat ((conv => whnf); (with_reducible refine And.intro ?_ ?_); · first | with_reducible assumption | omega | (intro _; refine ⟨?_, ?_⟩ <;> first | with_reducible assumption | omega | exact True.intro | (refine decide_eq_true ?_; omega) | (simp [appG, Cd.holds]; omega)) | (intro _; refine ⟨And.intro ?_ ?_, ?_⟩ <;> first | with_reducible assumption | omega | (refine decide_eq_true ?_; omega)) | (simp only [hg0, Bool.and_self, Bool.true_and]; done) | (intro hg1; simp only [hg0, hg1, Bool.and_self, Bool.true_and]; done) | (simp [hg0]; done) | exact hC)); (conv => whnf); exact True.intro) | exact hC)
  conv => whnf
  simp only [eC]
  have hDl : (fill (fill A ++ C)).length = l + fillN l + m + fillN (l + fillN l + m) := by rw [fill_length, List.length_append, hFl, hCl]
  obtain ⟨D, hD⟩ : ∃ D, D = fill (fill A ++ C) := ⟨_, rfl⟩
  have hM : aeM A C = D ++ leB 8 l ++ leB 8 m := by unfold aeM; rw [← hD, hAl, hCl]
  rw [← hD] at hDl
  simp only [← hD]
  obtain ⟨d, hd⟩ : ∃ d, d = l + fillN l + m + fillN (l + fillN l + m) := ⟨_, rfl⟩
  have hd2 : d ≤ 100000 := by omega
  rw [← hd] at hDl
  simp only [← hd]
  refine ⟨[(0, ⟨0, some 26, []⟩), (1, ⟨0, some 27, []⟩), (2, ⟨0, some 28, []⟩), (3, ⟨4, some 29, []⟩), (4, ⟨14, some 30, [57, 122]⟩), (5, ⟨0, some 31, []⟩), (6, ⟨32, some 32, []⟩), (7, ⟨126, some 33, [122, 170]⟩), (8, ⟨255, some 34, []⟩), (9, ⟨511, none, [2]⟩)], 218, ?_⟩
  have hKj : ∀ j, j < 32 → (put_ (fun _ => 0) (Int.toNat 0) (min (64 - Int.toNat 0) (32 - Int.toNat 0)) fun j => UL Bk (Int.toNat 0 + j)) j = UL Bk j := fun j hj => by
    unfold put_
    rw [if_pos ⟨Nat.zero_le _, by show j < 0 + 32; omega⟩]
    show UL Bk (0 + (j - 0)) = _
    rw [Nat.zero_add, Nat.sub_zero]
  have hK8 : R8 (put_ (fun _ => 0) (Int.toNat 0) (min (64 - Int.toNat 0) (32 - Int.toNat 0)) fun j => UL Bk (Int.toNat 0 + j)) 32 := fun j hj => by rw [hKj j hj]; exact R8_UL Bk 32 j hj
  have eK : L8 (put_ (fun _ => 0) (Int.toNat 0) (min (64 - Int.toNat 0) (32 - Int.toNat 0)) fun j => UL Bk (Int.toNat 0 + j)) 32 = aeK (L8 k 32) (L8 n 12) := by
    rw [L8_congr hKj, L8_take _ 64 32 (by omega), L8_UL' hBl.symm, hB]
    rfl
  have eM : L8 (fun j => UL (L8 (UL (L8 (UL D) d ++ leB 8 (Int.toNat (l : Int)))) (d + 8) ++ leB 8 (Int.toNat (m : Int))) (0 + j)) (d + 8 + 8) = aeM A C := by
    rw [hM, Int.toNat_natCast, Int.toNat_natCast, L8_UL' hDl.symm, L8_UL' (l := D ++ leB 8 l) (by rw [List.length_append, hDl, leB_length])]
    rw [show (fun j => UL (D ++ leB 8 l ++ leB 8 m) (0 + j)) = UL (D ++ leB 8 l ++ leB 8 m) from funext fun j => by rw [Nat.zero_add]]
    exact L8_UL' (by rw [List.length_append, List.length_append, hDl, leB_length, leB_length])
  repeat ((conv => whnf); (with_reducible refine And.intro ?_ ?_); · first | exact True.intro | (intro hg0; simp only [hg0, Bool.not_false, Bool.not_true]; done) | with_reducible assumption | omega | (intro _; refine ⟨True.intro, ?_⟩; omega) | (intro _; refine ⟨?_, True.intro⟩; omega) | (intro _; refine ⟨decide_eq_true ?_, ?_⟩ <;> omega) | (intro _; refine ⟨?_, ?_⟩ <;> first | omega | (simp [appG, Cd.holds]; done) | (simp [appG, Cd.holds]; omega)) | (refine decide_eq_true ?_; omega) | (intro _; omega) | (simp only [w_i64, w_u64, w_u32, w_u8]; omega) | exact ⟨U_nonneg _, U_lt32 _⟩ | exact R8_UL _ _ | exact R32_UL _ _ | (intro hg0; (repeat ((conv => whnf); (with_reducible refine And.intro ?_ ?_); · first | with_reducible assumption | omega | (intro _; refine ⟨?_, ?_⟩ <;> first | with_reducible assumption | omega | exact True.intro | (refine decide_eq_true ?_; omega) | (simp [appG, Cd.holds]; omega)) | (intro _; refine ⟨And.intro ?_ ?_, ?_⟩ <;> first | with_reducible assumption | omega | (refine decide_eq_true ?_; omega)) | (simp only [hg0, Bool.and_self, Bool.true_and]; done) | (intro hg1; simp only [hg0, hg1, Bool.and_self, Bool.true_and]; done) | (simp [hg0]; done) | exact hK8 | exact fun j hj => ⟨U_nonneg _, U_lt8 _⟩)); (conv => whnf); exact True.intro) | exact hK8 | exact fun j hj => ⟨U_nonneg _, U_lt8 _⟩)
  conv => whnf
  refine ⟨[], ?_⟩
  simp only [eK, eM]
  repeat ((conv => whnf); (with_reducible refine And.intro ?_ ?_); · first | with_reducible rfl | exact (Bool.and_false _).symm | (intro _ _; with_reducible rfl) | exact True.intro | exact fun _ _ => rfl | omega | (simp only [w_i64, w_u64, w_u32, w_u8]; omega))
  conv => whnf
  exact True.intro

theorem cok41 : COk Try.prog (tab [(57, xorS), (86, markS), (41, sameS)]) := cok_cons xorS_ok (cok_cons markS_ok (cok_cons sameS_ok cok_nil))
/-- aead.Seal. -/
noncomputable def sealS : Summary := mkS false [.v, .v, .r .u8, .r .u8] fun
  | [.v (.agg [.ints .u8 k 32]), .v (.agg [.ints .u8 n 12]), .r nl1 a l, .r nl2 c m] => some ⟨.and (.p (R8 k 32)) (.and (.p (R8 n 12)) (.and (.p (R8 a l)) (.and (.p (R8 c m)) (.p (l ≤ 10000 ∧ m ≤ 10000))))),
      some (.sa (.sc (.sl false true false 0 0 0 (m + 16) (m + 16)))), [(0, ownB 5 .u8 (UL (aeSeal (L8 k 32) (L8 n 12) (L8 a l) (L8 c m))) (m + 16))], 1⟩
  | _ => none
theorem sealS_ok : SumOk Try.prog 61 sealS := by
  unfold sealS
  apply sum_ok
  intro vs A H n o r hb h
  split at h
  rotate_left
  · cases h
  rename_i k n nl1 a l nl2 c m
  injection h with h
  subst h
  cases hb
  refine fsound_of_run tt_ok cok41 mixed_ok Try.call61 Try.func61 rfl (rs := _) Try.results61 (size := 23) Try.ntmps61 (Nat.le_of_ble_eq_true rfl) rfl fun hp hfa hfh => ?_
  obtain ⟨hk, hn, ha, hc, hl, hm⟩ := hp
  have hk : R8 k 32 := hk
  have hn : R8 n 12 := hn
  have ha : R8 a l := ha
  have hc : R8 c m := hc
  have hl : l ≤ 10000 := hl
  have hm : m ≤ 10000 := hm
  have u1 : u32R 1 := ⟨by decide, by decide⟩
  repeat ((conv => whnf); (with_reducible refine And.intro ?_ ?_); · first | exact True.intro | (intro hg0; simp only [hg0, Bool.not_false, Bool.not_true]; done) | with_reducible assumption | omega | (intro _; refine ⟨True.intro, ?_⟩; omega) | (intro _; refine ⟨?_, True.intro⟩; omega) | (intro _; refine ⟨decide_eq_true ?_, ?_⟩ <;> omega) | (intro _; refine ⟨?_, ?_⟩ <;> first | omega | (simp [appG, Cd.holds]; done) | (simp [appG, Cd.holds]; omega)) | (refine decide_eq_true ?_; omega) | (intro _; omega) | (simp only [w_i64, w_u64, w_u32, w_u8]; omega) | exact ⟨U_nonneg _, U_lt32 _⟩ | exact R8_UL _ _ | exact R32_UL _ _ | (intro hg0; (repeat ((conv => whnf); (with_reducible refine And.intro ?_ ?_); · first | with_reducible assumption | omega | (intro _; refine ⟨?_, ?_⟩ <;> first | with_reducible assumption | omega | exact True.intro | (refine decide_eq_true ?_; omega) | (simp [appG, Cd.holds]; omega)) | (intro _; refine ⟨And.intro ?_ ?_, ?_⟩ <;> first | with_reducible assumption | omega | (refine decide_eq_true ?_; omega)) | (simp only [hg0, Bool.and_self, Bool.true_and]; done) | (intro hg1; simp only [hg0, hg1, Bool.and_self, Bool.true_and]; done) | (simp [hg0]; done) | exact u1 | exact fun j hj => ⟨U_nonneg _, U_lt8 _⟩)); (conv => whnf); exact True.intro) | exact u1 | exact fun j hj => ⟨U_nonneg _, U_lt8 _⟩)
  conv => whnf
  obtain ⟨X, hX⟩ : ∃ X, X = chXor (L8 k 32) (BitVec.ofInt 32 1) (L8 n 12) (L8 c m) := ⟨_, rfl⟩
  have hXl : X.length = m := by rw [hX, chXor_length, L8_length]
  have eX : L8 (fun j => UL X (0 + j)) m = X := by
    rw [show (fun j => UL X (0 + j)) = UL X from funext fun j => by rw [Nat.zero_add]]
    exact L8_UL' hXl.symm
  have hS : aeSeal (L8 k 32) (L8 n 12) (L8 a l) (L8 c m) = X ++ aeMark (L8 k 32) (L8 n 12) (L8 a l) X := by rw [hX]; rfl
  obtain ⟨S, hSe⟩ : ∃ S, S = aeMark (L8 k 32) (L8 n 12) (L8 a l) X := ⟨_, rfl⟩
  have hSl : S.length = 16 := by rw [hSe, aeMark_length]
  have hfin : ∀ j, j < m + 16 → UL (X ++ S) j = put_ (UL X) m (16 - Int.toNat 0) (fun j => UL S (Int.toNat 0 + j)) j := fun j hj => by
    rw [← UL_app X S j (by omega), hXl, hSl]
    congr 1
    funext j
    show UL S j = UL S (0 + j)
    rw [Nat.zero_add]
  refine ⟨[(0, 4)], ?_⟩
  simp only [← hX, eX, hS, ← hSe]
  repeat ((conv => whnf); (with_reducible refine And.intro ?_ ?_); · first | with_reducible rfl | exact (Bool.and_false _).symm | (intro _ _; with_reducible rfl) | exact True.intro | assumption | (intro h; exact absurd h (by decide)) | omega | (intro _; omega) | (intro _; refine ⟨?_, True.intro⟩; omega) | (intro _; refine ⟨?_, True.intro⟩; intro _; omega) | (refine decide_eq_false ?_; omega) | (refine decide_eq_true ?_; omega) | (simp only [w_i64, w_u64, w_u32, w_u8]; omega) | exact fun j hj => (put_0 hj).symm | (intro j _; simp only [Nat.zero_add]; done) | (simp [appG]; done) | (simp [appG]; omega) | exact hfin | (intro hgd; (try replace hgd := of_decide_eq_true hgd); (repeat ((conv => whnf); (with_reducible refine And.intro ?_ ?_); · first | with_reducible rfl | exact (Bool.and_false _).symm | (intro _ _; with_reducible rfl) | exact True.intro | assumption | (intro h; exact absurd h (by decide)) | omega | (intro _; omega) | (intro _; refine ⟨?_, True.intro⟩; omega) | (intro _; refine ⟨?_, True.intro⟩; intro _; omega) | (refine decide_eq_false ?_; omega) | (refine decide_eq_true ?_; omega) | (simp only [w_i64, w_u64, w_u32, w_u8]; omega) | exact fun j hj => (put_0 hj).symm | (intro j _; simp only [Nat.zero_add]; done) | (simp [appG]; done) | (simp [appG]; omega) | exact hfin)); (conv => whnf); exact True.intro))
  conv => whnf
  exact True.intro

/-- What Open gives. -/
noncomputable def openS : Summary := mkS false [.v, .v, .r .u8, .r .u8] fun
  | [.v (.agg [.ints .u8 k 32]), .v (.agg [.ints .u8 n 12]), .r nl1 a l, .r nl2 c m] => some ⟨.and (.p (R8 k 32)) (.and (.p (R8 n 12)) (.and (.p (R8 a l)) (.and (.p (R8 c m)) (.p (l ≤ 10000 ∧ m ≤ 10000))))),
      some (.tup [.sc (.sl (!(aeIs (L8 k 32) (L8 n 12) (L8 a l) (L8 c m))) false false 0 0 0 (aeOut (L8 k 32) (L8 n 12) (L8 a l) (L8 c m)).length (aeOut (L8 k 32) (L8 n 12) (L8 a l) (L8 c m)).length), .sc (.bool (aeIs (L8 k 32) (L8 n 12) (L8 a l) (L8 c m)))]),
      [(0, ownB 5 .u8 (UL (aeOut (L8 k 32) (L8 n 12) (L8 a l) (L8 c m))) (aeOut (L8 k 32) (L8 n 12) (L8 a l) (L8 c m)).length)], 1⟩
  | _ => none
theorem openS_ok : SumOk Try.prog 62 openS := by
  unfold openS
  apply sum_ok
  intro vs A H n o r hb h
  split at h
  rotate_left
  · cases h
  rename_i k n nl1 a l nl2 c m
  injection h with h
  subst h
  cases hb
  refine fsound_of_run tt_ok cok41 mixed_ok Try.call62 Try.func62 rfl (rs := _) Try.results62 (size := 36) Try.ntmps62 (Nat.le_of_ble_eq_true rfl) rfl fun hp hfa hfh => ?_
  obtain ⟨hk, hn, ha, hc, hl, hm⟩ := hp
  have hk : R8 k 32 := hk
  have hn : R8 n 12 := hn
  have ha : R8 a l := ha
  have hc : R8 c m := hc
  have hl : l ≤ 10000 := hl
  have hm : m ≤ 10000 := hm
  have u1 : u32R 1 := ⟨by decide, by decide⟩
  have hCl : (L8 c m).length = m := L8_length _ _
  have hout : ∀ C, aeOut (L8 k 32) (L8 n 12) (L8 a l) C = if aeIs (L8 k 32) (L8 n 12) (L8 a l) C = true then chXor (L8 k 32) 1 (L8 n 12) (C.take (C.length - 16)) else [] := fun _ => aeOut_eq _ _ _ _
  have his : aeIs (L8 k 32) (L8 n 12) (L8 a l) (L8 c m) = decide (16 ≤ m ∧ aeMark (L8 k 32) (L8 n 12) (L8 a l) ((L8 c m).take (m - 16)) = (L8 c m).drop (m - 16)) := by rw [aeIs_eq, hCl]
  have ho := hout (L8 c m)
  rw [hCl] at ho
  obtain ⟨B, hB⟩ : ∃ B, B = aeIs (L8 k 32) (L8 n 12) (L8 a l) (L8 c m) := ⟨_, rfl⟩
  obtain ⟨O, hO⟩ : ∃ O, O = aeOut (L8 k 32) (L8 n 12) (L8 a l) (L8 c m) := ⟨_, rfl⟩
  rw [← hB] at his
  rw [← hB, ← hO] at ho
  simp only [← hB, ← hO]
  have w0 : IntKind.i64.wrap ((m : Int) - 16) = (m : Int) - 16 := by rw [w_i64]; omega
  repeat ((conv => whnf); (with_reducible refine And.intro ?_ ?_); · first | exact True.intro | (intro hg0; simp only [hg0, Bool.not_false, Bool.not_true]; done) | with_reducible assumption | omega | (intro _; refine ⟨True.intro, ?_⟩; omega) | (intro _; refine ⟨?_, True.intro⟩; omega) | (intro _; refine ⟨decide_eq_true ?_, ?_⟩ <;> omega) | (intro _; refine ⟨?_, ?_⟩ <;> first | omega | (simp [appG, Cd.holds]; done) | (simp [appG, Cd.holds]; omega)) | (refine decide_eq_true ?_; omega) | (intro _; omega) | (simp only [w_i64, w_u64, w_u32, w_u8]; omega) | exact ⟨U_nonneg _, U_lt32 _⟩ | exact R8_UL _ _ | exact R32_UL _ _ | (intro hg0; (repeat ((conv => whnf); (with_reducible refine And.intro ?_ ?_); · first | with_reducible assumption | omega | (intro _; refine ⟨?_, ?_⟩ <;> first | with_reducible assumption | omega | exact True.intro | (refine decide_eq_true ?_; omega) | (simp [appG, Cd.holds]; omega)) | (intro _; refine ⟨And.intro ?_ ?_, ?_⟩ <;> first | with_reducible assumption | omega | (refine decide_eq_true ?_; omega)) | (simp only [hg0, Bool.and_self, Bool.true_and]; done) | (intro hg1; simp only [hg0, hg1, Bool.and_self, Bool.true_and]; done) | (simp [hg0]; done))); (conv => whnf); exact True.intro))
  conv => whnf
  refine ⟨fun h1 => ?_, fun h1 => ?_⟩
  · replace h1 := of_decide_eq_true h1
    rw [w0] at h1
    have hBf : B = false := by rw [his]; exact decide_eq_false fun h => by omega
    rw [hBf] at ho ⊢
    rw [if_neg (by decide)] at ho
    subst ho
    repeat ((conv => whnf); (with_reducible refine And.intro ?_ ?_); · first | exact True.intro | (intro hg0; simp only [hg0, Bool.not_false, Bool.not_true]; done) | with_reducible assumption | omega | (intro _; refine ⟨True.intro, ?_⟩; omega) | (intro _; refine ⟨?_, True.intro⟩; omega) | (intro _; refine ⟨decide_eq_true ?_, ?_⟩ <;> omega) | (intro _; refine ⟨?_, ?_⟩ <;> first | omega | (simp [appG, Cd.holds]; done) | (simp [appG, Cd.holds]; omega)) | (refine decide_eq_true ?_; omega) | (intro _; omega) | (simp only [w_i64, w_u64, w_u32, w_u8]; omega) | exact ⟨U_nonneg _, U_lt32 _⟩ | exact R8_UL _ _ | exact R32_UL _ _ | (intro hg0; (repeat ((conv => whnf); (with_reducible refine And.intro ?_ ?_); · first | with_reducible assumption | omega | (intro _; refine ⟨?_, ?_⟩ <;> first | with_reducible assumption | omega | exact True.intro | (refine decide_eq_true ?_; omega) | (simp [appG, Cd.holds]; omega)) | (intro _; refine ⟨And.intro ?_ ?_, ?_⟩ <;> first | with_reducible assumption | omega | (refine decide_eq_true ?_; omega)) | (simp only [hg0, Bool.and_self, Bool.true_and]; done) | (intro hg1; simp only [hg0, hg1, Bool.and_self, Bool.true_and]; done) | (simp [hg0]; done))); (conv => whnf); exact True.intro))
    conv => whnf
    refine ⟨[], ?_⟩
    repeat ((conv => whnf); (with_reducible refine And.intro ?_ ?_); · first | with_reducible rfl | exact (Bool.and_false _).symm | (intro _ _; with_reducible rfl) | exact True.intro | assumption | (intro h; exact absurd h (by decide)) | omega | (intro _; omega) | (intro _; refine ⟨?_, True.intro⟩; omega) | (intro _; refine ⟨?_, True.intro⟩; intro _; omega) | (refine decide_eq_false ?_; omega) | (refine decide_eq_true ?_; omega) | (simp only [w_i64, w_u64, w_u32, w_u8]; omega) | exact fun j hj => (put_0 hj).symm | (intro j _; simp only [Nat.zero_add]; done) | (simp [appG]; done) | (simp [appG]; omega) | (intro hgd; (try replace hgd := of_decide_eq_true hgd); (repeat ((conv => whnf); (with_reducible refine And.intro ?_ ?_); · first | with_reducible rfl | exact (Bool.and_false _).symm | (intro _ _; with_reducible rfl) | exact True.intro | assumption | (intro h; exact absurd h (by decide)) | omega | (intro _; omega) | (intro _; refine ⟨?_, True.intro⟩; omega) | (intro _; refine ⟨?_, True.intro⟩; intro _; omega) | (refine decide_eq_false ?_; omega) | (refine decide_eq_true ?_; omega) | (simp only [w_i64, w_u64, w_u32, w_u8]; omega) | exact fun j hj => (put_0 hj).symm | (intro j _; simp only [Nat.zero_add]; done) | (simp [appG]; done) | (simp [appG]; omega))); (conv => whnf); exact True.intro))
    conv => whnf
    exact True.intro
  · replace h1 := of_decide_eq_false h1
    rw [w0] at h1
    have h16 : 16 ≤ m := by omega
    have hm16 : IntKind.i64.wrap ((m : Int) - 16) = ((m - 16 : Nat) : Int) := by rw [w0]; omega
    repeat ((conv => whnf); (with_reducible refine And.intro ?_ ?_); · first | exact True.intro | (intro hg0; simp only [hg0, Bool.not_false, Bool.not_true]; done) | with_reducible assumption | omega | (intro _; refine ⟨True.intro, ?_⟩; omega) | (intro _; refine ⟨?_, True.intro⟩; omega) | (intro _; refine ⟨decide_eq_true ?_, ?_⟩ <;> omega) | (intro _; refine ⟨?_, ?_⟩ <;> first | omega | (simp [appG, Cd.holds]; done) | (simp [appG, Cd.holds]; omega)) | (refine decide_eq_true ?_; omega) | (intro _; omega) | (simp only [hm16, Int.toNat_natCast]; omega) | (simp only [hm16, Int.toNat_natCast]; intro _; refine ⟨?_, ?_⟩ <;> first | omega | (refine decide_eq_true ?_; omega)) | exact ⟨U_nonneg _, U_lt32 _⟩ | exact R8_UL _ _ | exact R32_UL _ _ | (intro hg0; (repeat ((conv => whnf); (with_reducible refine And.intro ?_ ?_); · first | with_reducible assumption | omega | (intro _; refine ⟨?_, ?_⟩ <;> first | with_reducible assumption | omega | exact True.intro | (refine decide_eq_true ?_; omega) | (simp [appG, Cd.holds]; omega)) | (intro _; refine ⟨And.intro ?_ ?_, ?_⟩ <;> first | with_reducible assumption | omega | (refine decide_eq_true ?_; omega)) | (simp only [hg0, Bool.and_self, Bool.true_and]; done) | (intro hg1; simp only [hg0, hg1, Bool.and_self, Bool.true_and]; done) | (simp [hg0]; done))); (conv => whnf); exact True.intro))
    conv => whnf
    simp only [hm16, Int.toNat_natCast]
    have hT8 : R8 (fun j => c (Int.toNat 0 + j)) (Int.toNat ((m - 16 : Nat) : Int) - Int.toNat 0) := fun j hj => hc (0 + j) (by have : j < m - 16 - 0 := hj; omega)
    have eT : L8 (fun j => c (Int.toNat 0 + j)) (Int.toNat ((m - 16 : Nat) : Int) - Int.toNat 0) = (L8 c m).take (m - 16) := by
      rw [← L8_take c m (m - 16) (by omega)]
      show L8 (fun j => c (0 + j)) (m - 16) = _
      exact L8_congr fun j _ => by rw [Nat.zero_add]
    have hD8 : R8 (fun j => c (Int.toNat ((m - 16 : Nat) : Int) + j)) (m - Int.toNat ((m - 16 : Nat) : Int)) := fun j hj => hc (m - 16 + j) (by have : j < m - (m - 16) := hj; omega)
    have eD : L8 (fun j => c (Int.toNat ((m - 16 : Nat) : Int) + j)) (m - Int.toNat ((m - 16 : Nat) : Int)) = (L8 c m).drop (m - 16) := L8_drop c m (m - 16)
    obtain ⟨S, hS⟩ : ∃ S, S = aeMark (L8 k 32) (L8 n 12) (L8 a l) ((L8 c m).take (m - 16)) := ⟨_, rfl⟩
    have hSl : S.length = 16 := by rw [hS, aeMark_length]
    have eS : L8 (fun j => UL S (Int.toNat 0 + j)) (16 - Int.toNat 0) = S := by
      rw [show (fun j => UL S (Int.toNat 0 + j)) = UL S from funext fun j => by show UL S (0 + j) = _; rw [Nat.zero_add]]
      exact L8_UL' hSl.symm
    rw [← hS] at his
    refine ⟨[(0, ⟨0, some 17, []⟩), (1, ⟨0, some 18, []⟩), (2, ⟨0, some 19, []⟩), (3, ⟨0, some 20, []⟩), (4, ⟨0, some 21, []⟩), (5, ⟨24, some 22, []⟩), (6, ⟨63, some 23, []⟩), (7, ⟨0, some 11, [114]⟩), (8, ⟨255, none, [114]⟩)], 146, ?_⟩
    repeat ((conv => whnf); (with_reducible refine And.intro ?_ ?_); · first | exact True.intro | (intro hg0; simp only [hg0, Bool.not_false, Bool.not_true]; done) | with_reducible assumption | omega | (intro _; refine ⟨True.intro, ?_⟩; omega) | (intro _; refine ⟨?_, True.intro⟩; omega) | (intro _; refine ⟨decide_eq_true ?_, ?_⟩ <;> omega) | (intro _; refine ⟨?_, ?_⟩ <;> first | omega | (simp [appG, Cd.holds]; done) | (simp [appG, Cd.holds]; omega)) | (refine decide_eq_true ?_; omega) | (intro _; omega) | (simp only [w_i64, w_u64, w_u32, w_u8]; omega) | exact ⟨U_nonneg _, U_lt32 _⟩ | exact R8_UL _ _ | exact R32_UL _ _ | (intro hg0; (repeat ((conv => whnf); (with_reducible refine And.intro ?_ ?_); · first | with_reducible assumption | omega | (intro _; refine ⟨?_, ?_⟩ <;> first | with_reducible assumption | omega | exact True.intro | (refine decide_eq_true ?_; omega) | (simp [appG, Cd.holds]; omega)) | (intro _; refine ⟨And.intro ?_ ?_, ?_⟩ <;> first | with_reducible assumption | omega | (refine decide_eq_true ?_; omega)) | (simp only [hg0, Bool.and_self, Bool.true_and]; done) | (intro hg1; simp only [hg0, hg1, Bool.and_self, Bool.true_and]; done) | (simp [hg0]; done) | exact hT8)); (conv => whnf); exact True.intro) | exact hT8)
    conv => whnf
    simp only [eT, ← hS]
    refine ⟨[(0, ⟨0, some 24, []⟩), (1, ⟨0, some 25, []⟩), (2, ⟨0, some 26, []⟩), (3, ⟨6, some 27, []⟩), (4, ⟨15, some 28, []⟩), (5, ⟨31, some 29, []⟩)], 242, ?_⟩
    repeat ((conv => whnf); (with_reducible refine And.intro ?_ ?_); · first | exact True.intro | (intro hg0; simp only [hg0, Bool.not_false, Bool.not_true]; done) | with_reducible assumption | omega | (intro _; refine ⟨True.intro, ?_⟩; omega) | (intro _; refine ⟨?_, True.intro⟩; omega) | (intro _; refine ⟨decide_eq_true ?_, ?_⟩ <;> omega) | (intro _; refine ⟨?_, ?_⟩ <;> first | omega | (simp [appG, Cd.holds]; done) | (simp [appG, Cd.holds]; omega)) | (refine decide_eq_true ?_; omega) | (intro _; omega) | (simp only [w_i64, w_u64, w_u32, w_u8]; omega) | exact ⟨U_nonneg _, U_lt32 _⟩ | exact R8_UL _ _ | exact R32_UL _ _ | (intro hg0; (repeat ((conv => whnf); (with_reducible refine And.intro ?_ ?_); · first | with_reducible assumption | omega | (intro _; refine ⟨?_, ?_⟩ <;> first | with_reducible assumption | omega | exact True.intro | (refine decide_eq_true ?_; omega) | (simp [appG, Cd.holds]; omega)) | (intro _; refine ⟨And.intro ?_ ?_, ?_⟩ <;> first | with_reducible assumption | omega | (refine decide_eq_true ?_; omega)) | (simp only [hg0, Bool.and_self, Bool.true_and]; done) | (intro hg1; simp only [hg0, hg1, Bool.and_self, Bool.true_and]; done) | (simp [hg0]; done) | exact hD8 | exact fun j hj => ⟨U_nonneg _, U_lt8 _⟩)); (conv => whnf); exact True.intro) | exact hD8 | exact fun j hj => ⟨U_nonneg _, U_lt8 _⟩)
    conv => whnf
    simp only [eS, eD]
    refine ⟨fun h2 => ?_, fun h2 => ?_⟩
    · have hBf : B = false := by
        rw [his]
        refine decide_eq_false fun h => ?_
        rw [Bool.not_eq_true', decide_eq_false_iff_not] at h2
        exact h2 h.2
      rw [hBf] at ho ⊢
      rw [if_neg (by decide)] at ho
      subst ho
      repeat ((conv => whnf); (with_reducible refine And.intro ?_ ?_); · first | exact True.intro | (intro hg0; simp only [hg0, Bool.not_false, Bool.not_true]; done) | with_reducible assumption | omega | (intro _; refine ⟨True.intro, ?_⟩; omega) | (intro _; refine ⟨?_, True.intro⟩; omega) | (intro _; refine ⟨decide_eq_true ?_, ?_⟩ <;> omega) | (intro _; refine ⟨?_, ?_⟩ <;> first | omega | (simp [appG, Cd.holds]; done) | (simp [appG, Cd.holds]; omega)) | (refine decide_eq_true ?_; omega) | (intro _; omega) | (simp only [w_i64, w_u64, w_u32, w_u8]; omega) | exact ⟨U_nonneg _, U_lt32 _⟩ | exact R8_UL _ _ | exact R32_UL _ _ | (intro hg0; (repeat ((conv => whnf); (with_reducible refine And.intro ?_ ?_); · first | with_reducible assumption | omega | (intro _; refine ⟨?_, ?_⟩ <;> first | with_reducible assumption | omega | exact True.intro | (refine decide_eq_true ?_; omega) | (simp [appG, Cd.holds]; omega)) | (intro _; refine ⟨And.intro ?_ ?_, ?_⟩ <;> first | with_reducible assumption | omega | (refine decide_eq_true ?_; omega)) | (simp only [hg0, Bool.and_self, Bool.true_and]; done) | (intro hg1; simp only [hg0, hg1, Bool.and_self, Bool.true_and]; done) | (simp [hg0]; done))); (conv => whnf); exact True.intro))
      conv => whnf
      refine ⟨[], ?_⟩
      repeat ((conv => whnf); (with_reducible refine And.intro ?_ ?_); · first | with_reducible rfl | exact (Bool.and_false _).symm | (intro _ _; with_reducible rfl) | exact True.intro | assumption | (intro h; exact absurd h (by decide)) | omega | (intro _; omega) | (intro _; refine ⟨?_, True.intro⟩; omega) | (intro _; refine ⟨?_, True.intro⟩; intro _; omega) | (refine decide_eq_false ?_; omega) | (refine decide_eq_true ?_; omega) | (simp only [w_i64, w_u64, w_u32, w_u8]; omega) | exact fun j hj => (put_0 hj).symm | (intro j _; simp only [Nat.zero_add]; done) | (simp [appG]; done) | (simp [appG]; omega) | (intro hgd; (try replace hgd := of_decide_eq_true hgd); (repeat ((conv => whnf); (with_reducible refine And.intro ?_ ?_); · first | with_reducible rfl | exact (Bool.and_false _).symm | (intro _ _; with_reducible rfl) | exact True.intro | assumption | (intro h; exact absurd h (by decide)) | omega | (intro _; omega) | (intro _; refine ⟨?_, True.intro⟩; omega) | (intro _; refine ⟨?_, True.intro⟩; intro _; omega) | (refine decide_eq_false ?_; omega) | (refine decide_eq_true ?_; omega) | (simp only [w_i64, w_u64, w_u32, w_u8]; omega) | exact fun j hj => (put_0 hj).symm | (intro j _; simp only [Nat.zero_add]; done) | (simp [appG]; done) | (simp [appG]; omega))); (conv => whnf); exact True.intro))
      conv => whnf
      exact True.intro
    · have hBt : B = true := by
        rw [his]
        refine decide_eq_true ⟨h16, ?_⟩
        rw [Bool.not_eq_false', decide_eq_true_iff] at h2
        exact h2
      rw [hBt] at ho ⊢
      rw [if_pos rfl] at ho
      have hOl : O.length = m - 16 := by rw [ho, chXor_length, List.length_take, hCl, Nat.min_eq_left (by omega)]
      repeat ((conv => whnf); (with_reducible refine And.intro ?_ ?_); · first | exact True.intro | (intro hg0; simp only [hg0, Bool.not_false, Bool.not_true]; done) | with_reducible assumption | omega | (intro _; refine ⟨True.intro, ?_⟩; omega) | (intro _; refine ⟨?_, True.intro⟩; omega) | (intro _; refine ⟨decide_eq_true ?_, ?_⟩ <;> omega) | (intro _; refine ⟨?_, ?_⟩ <;> first | omega | (simp [appG, Cd.holds]; done) | (simp [appG, Cd.holds]; omega)) | (refine decide_eq_true ?_; omega) | (intro _; omega) | (simp only [w_i64, w_u64, w_u32, w_u8]; omega) | exact ⟨U_nonneg _, U_lt32 _⟩ | exact R8_UL _ _ | exact R32_UL _ _ | (intro hg0; (repeat ((conv => whnf); (with_reducible refine And.intro ?_ ?_); · first | with_reducible assumption | omega | (intro _; refine ⟨?_, ?_⟩ <;> first | with_reducible assumption | omega | exact True.intro | (refine decide_eq_true ?_; omega) | (simp [appG, Cd.holds]; omega)) | (intro _; refine ⟨And.intro ?_ ?_, ?_⟩ <;> first | with_reducible assumption | omega | (refine decide_eq_true ?_; omega)) | (simp only [hg0, Bool.and_self, Bool.true_and]; done) | (intro hg1; simp only [hg0, hg1, Bool.and_self, Bool.true_and]; done) | (simp [hg0]; done))); (conv => whnf); exact True.intro))
      conv => whnf
      refine ⟨[(0, ⟨0, some 30, []⟩), (1, ⟨0, some 31, []⟩), (2, ⟨0, some 32, []⟩), (3, ⟨0, some 33, []⟩), (4, ⟨12, some 34, []⟩), (5, ⟨31, some 35, [322]⟩), (6, ⟨63, some 8, []⟩), (7, ⟨127, some 9, []⟩)], 370, ?_⟩
      repeat ((conv => whnf); (with_reducible refine And.intro ?_ ?_); · first | exact True.intro | (intro hg0; simp only [hg0, Bool.not_false, Bool.not_true]; done) | with_reducible assumption | omega | (intro _; refine ⟨True.intro, ?_⟩; omega) | (intro _; refine ⟨?_, True.intro⟩; omega) | (intro _; refine ⟨decide_eq_true ?_, ?_⟩ <;> omega) | (intro _; refine ⟨?_, ?_⟩ <;> first | omega | (simp [appG, Cd.holds]; done) | (simp [appG, Cd.holds]; omega)) | (refine decide_eq_true ?_; omega) | (intro _; omega) | (simp only [w_i64, w_u64, w_u32, w_u8]; omega) | exact ⟨U_nonneg _, U_lt32 _⟩ | exact R8_UL _ _ | exact R32_UL _ _ | (intro hg0; (repeat ((conv => whnf); (with_reducible refine And.intro ?_ ?_); · first | with_reducible assumption | omega | (intro _; refine ⟨?_, ?_⟩ <;> first | with_reducible assumption | omega | exact True.intro | (refine decide_eq_true ?_; omega) | (simp [appG, Cd.holds]; omega)) | (intro _; refine ⟨And.intro ?_ ?_, ?_⟩ <;> first | with_reducible assumption | omega | (refine decide_eq_true ?_; omega)) | (simp only [hg0, Bool.and_self, Bool.true_and]; done) | (intro hg1; simp only [hg0, hg1, Bool.and_self, Bool.true_and]; done) | (simp [hg0]; done) | exact hT8 | exact u1)); (conv => whnf); exact True.intro) | exact hT8 | exact u1)
      conv => whnf
      simp only [eT]
      refine ⟨[(0, 322)], ?_⟩
      have ho2 : chXor (L8 k 32) (BitVec.ofInt 32 1) (L8 n 12) (List.take (m - 16) (L8 c m)) = O := by rw [ho]; rfl
      simp only [ho2, hOl]
      repeat ((conv => whnf); (with_reducible refine And.intro ?_ ?_); · first | with_reducible rfl | exact (Bool.and_false _).symm | (intro _ _; with_reducible rfl) | exact True.intro | assumption | (intro h; exact absurd h (by decide)) | omega | (intro _; omega) | (intro _; refine ⟨?_, True.intro⟩; omega) | (intro _; refine ⟨?_, True.intro⟩; intro _; omega) | (refine decide_eq_false ?_; omega) | (refine decide_eq_true ?_; omega) | (simp only [w_i64, w_u64, w_u32, w_u8]; omega) | exact fun j hj => (put_0 hj).symm | (intro j _; simp only [Nat.zero_add]; done) | (simp [appG]; done) | (simp [appG]; omega) | (intro hgd; (try replace hgd := of_decide_eq_true hgd); (repeat ((conv => whnf); (with_reducible refine And.intro ?_ ?_); · first | with_reducible rfl | exact (Bool.and_false _).symm | (intro _ _; with_reducible rfl) | exact True.intro | assumption | (intro h; exact absurd h (by decide)) | omega | (intro _; omega) | (intro _; refine ⟨?_, True.intro⟩; omega) | (intro _; refine ⟨?_, True.intro⟩; intro _; omega) | (refine decide_eq_false ?_; omega) | (refine decide_eq_true ?_; omega) | (simp only [w_i64, w_u64, w_u32, w_u8]; omega) | exact fun j hj => (put_0 hj).symm | (intro j _; simp only [Nat.zero_add]; done) | (simp [appG]; done) | (simp [appG]; omega))); (conv => whnf); exact True.intro))
      conv => whnf
      exact True.intro
end Go.Proofs.Ytogijkmflhjhkaa

/- Functions through the evaluator: what each law of mac begins with. No condition. -/
namespace Go.Proofs.Ytogijkmflhjhkaa
open Go.Sx Go.RowKit
set_option linter.unusedSimpArgs false
set_option maxRecDepth 100000
set_option linter.unusedVariables false

theorem cok17 : COk Try.prog (tab [(37, sumVS), (38, hmacS), (40, expandS), (41, sameS)]) := cok_cons sumVS_ok (cok_cons hmacS_ok (cok_cons expandS_ok (cok_cons sameS_ok cok_nil)))
def yesS : Summary := mkS false [] fun
  | [] => some ⟨.tt, some (.sa (.sc (.bool true))), [], 0⟩
  | _ => none
theorem yesS30_ok : SumOk Try.prog 30 yesS := by
  unfold yesS
  apply sum_ok
  intro vs A H n o r hb h
  split at h
  rotate_left
  · cases h
  injection h with h
  subst h
  cases hb
  refine fsound_of_run tt_ok cok17 mixed_ok Try.call30 Try.func30 rfl (rs := _) Try.results30 (size := 60) Try.ntmps30 (Nat.le_of_ble_eq_true rfl) rfl fun hp hfa hfh => ?_
  iterate 15 ((conv => whnf); (with_reducible refine And.intro ?_ ?_); · first | decide +kernel | (intro _; exact True.intro) | (intro _; refine ⟨True.intro, ?_⟩; omega) | (unfold R8; decide +kernel))
  generalize hA : sha (cat (fun _ => ⟨false, fun j => listI [99, 98, 97].reverse (0 + 0 + j), 3⟩) 1) = A
  generalize hB : hmac _ _ = B
  have a0 : UL A (Int.toNat 0) = 186 := by rw [← hA]; decide +kernel
  have a1 : UL A (Int.toNat 1) = 120 := by rw [← hA]; decide +kernel
  have a2 : UL A (Int.toNat 31) = 173 := by rw [← hA]; decide +kernel
  have b0 : UL B (Int.toNat 0) = 91 := by rw [← hB]; decide +kernel
  have b1 : UL B (Int.toNat 1) = 220 := by rw [← hB]; decide +kernel
  have b2 : UL B (Int.toNat 31) = 67 := by rw [← hB]; decide +kernel
  clear hA hB
  repeat ((conv => whnf); (with_reducible refine And.intro ?_ ?_); · first | exact True.intro | (intro hg0; simp only [hg0, Bool.not_false, Bool.not_true]; done) | assumption | omega | (intro _; refine ⟨True.intro, ?_⟩; omega) | (intro _; refine ⟨?_, True.intro⟩; omega) | (intro _; refine ⟨decide_eq_true ?_, ?_⟩ <;> omega) | (intro _; refine ⟨?_, ?_⟩ <;> first | omega | (simp [appG, Cd.holds]; done) | (simp [appG, Cd.holds]; omega)) | (refine decide_eq_true ?_; omega) | (intro _; omega) | (simp only [w_i64, w_u64, w_u32, w_u8]; omega) | exact ⟨U_nonneg _, U_lt32 _⟩ | exact R8_UL _ _ | exact R32_UL _ _ | (intro hg0; (repeat ((conv => whnf); (with_reducible refine And.intro ?_ ?_); · first | assumption | omega | (intro _; refine ⟨?_, ?_⟩ <;> first | assumption | omega | exact True.intro | (refine decide_eq_true ?_; omega) | (simp [appG, Cd.holds]; omega)) | (intro _; refine ⟨And.intro ?_ ?_, ?_⟩ <;> first | assumption | omega | (refine decide_eq_true ?_; omega)) | (simp only [hg0, Bool.and_self, Bool.true_and]; done) | (intro hg1; simp only [hg0, hg1, Bool.and_self, Bool.true_and]; done) | (simp [hg0]; done) | exact fun j _ => ⟨U_nonneg _, U_lt8 _⟩ | (unfold R8; decide +kernel) | decide +kernel)); (conv => whnf); exact True.intro) | exact fun j _ => ⟨U_nonneg _, U_lt8 _⟩ | (unfold R8; decide +kernel) | decide +kernel)
  conv => whnf
  refine ⟨[], ?_⟩
  repeat ((conv => whnf); (with_reducible refine And.intro ?_ ?_); · first | with_reducible rfl | exact (Bool.and_false _).symm | (intro _ _; with_reducible rfl) | exact True.intro | assumption | (intro h; exact absurd h (by decide)) | omega | (intro _; omega) | (intro _; refine ⟨?_, True.intro⟩; omega) | (intro _; refine ⟨?_, True.intro⟩; intro _; omega) | (refine decide_eq_false ?_; omega) | (refine decide_eq_true ?_; omega) | (simp only [w_i64, w_u64, w_u32, w_u8]; omega) | exact fun j hj => (put_0 hj).symm | (intro j _; simp only [Nat.zero_add]; done) | (simp [appG]; done) | (simp [appG]; omega) | (simp only [a0, a1, a2, b0, b1, b2]; decide +kernel) | (intro hgd; (try replace hgd := of_decide_eq_true hgd); (repeat ((conv => whnf); (with_reducible refine And.intro ?_ ?_); · first | with_reducible rfl | exact (Bool.and_false _).symm | (intro _ _; with_reducible rfl) | exact True.intro | assumption | (intro h; exact absurd h (by decide)) | omega | (intro _; omega) | (intro _; refine ⟨?_, True.intro⟩; omega) | (intro _; refine ⟨?_, True.intro⟩; intro _; omega) | (refine decide_eq_false ?_; omega) | (refine decide_eq_true ?_; omega) | (simp only [w_i64, w_u64, w_u32, w_u8]; omega) | exact fun j hj => (put_0 hj).symm | (intro j _; simp only [Nat.zero_add]; done) | (simp [appG]; done) | (simp [appG]; omega) | (simp only [a0, a1, a2, b0, b1, b2]; decide +kernel))); (conv => whnf); exact True.intro))
  conv => whnf
  exact True.intro
theorem cok17b : COk Try.prog (tab [(30, yesS)]) := cok_cons yesS30_ok cok_nil
theorem yesS70_ok : SumOk Try.prog 70 yesS := by
  unfold yesS
  apply sum_ok
  intro vs A H n o r hb h
  split at h
  rotate_left
  · cases h
  injection h with h
  subst h
  cases hb
  refine fsound_of_run tt_ok cok17b mixed_ok Try.call70 Try.func70 rfl (rs := _) Try.results70 (size := 2) Try.ntmps70 (Nat.le_of_ble_eq_true rfl) rfl fun hp hfa hfh => ?_
  repeat ((conv => whnf); (with_reducible refine And.intro ?_ ?_); · first | exact True.intro | (intro hg0; simp only [hg0, Bool.not_false, Bool.not_true]; done) | assumption | omega | (intro _; refine ⟨True.intro, ?_⟩; omega) | (intro _; refine ⟨?_, True.intro⟩; omega) | (intro _; refine ⟨decide_eq_true ?_, ?_⟩ <;> omega) | (intro _; refine ⟨?_, ?_⟩ <;> first | omega | (simp [appG, Cd.holds]; done) | (simp [appG, Cd.holds]; omega)) | (refine decide_eq_true ?_; omega) | (intro _; omega) | (simp only [w_i64, w_u64, w_u32, w_u8]; omega) | exact ⟨U_nonneg _, U_lt32 _⟩ | exact R8_UL _ _ | exact R32_UL _ _ | (intro hg0; (repeat ((conv => whnf); (with_reducible refine And.intro ?_ ?_); · first | assumption | omega | (intro _; refine ⟨?_, ?_⟩ <;> first | assumption | omega | exact True.intro | (refine decide_eq_true ?_; omega) | (simp [appG, Cd.holds]; omega)) | (intro _; refine ⟨And.intro ?_ ?_, ?_⟩ <;> first | assumption | omega | (refine decide_eq_true ?_; omega)) | (simp only [hg0, Bool.and_self, Bool.true_and]; done) | (intro hg1; simp only [hg0, hg1, Bool.and_self, Bool.true_and]; done) | (simp [hg0]; done))); (conv => whnf); exact True.intro))
  conv => whnf
  refine ⟨[], ?_⟩
  repeat ((conv => whnf); (with_reducible refine And.intro ?_ ?_); · first | with_reducible rfl | exact (Bool.and_false _).symm | (intro _ _; with_reducible rfl) | exact True.intro | assumption | (intro h; exact absurd h (by decide)) | omega | (intro _; omega) | (intro _; refine ⟨?_, True.intro⟩; omega) | (intro _; refine ⟨?_, True.intro⟩; intro _; omega) | (refine decide_eq_false ?_; omega) | (refine decide_eq_true ?_; omega) | (simp only [w_i64, w_u64, w_u32, w_u8]; omega) | exact fun j hj => (put_0 hj).symm | (intro j _; simp only [Nat.zero_add]; done) | (simp [appG]; done) | (simp [appG]; omega) | (intro hgd; (try replace hgd := of_decide_eq_true hgd); (repeat ((conv => whnf); (with_reducible refine And.intro ?_ ?_); · first | with_reducible rfl | exact (Bool.and_false _).symm | (intro _ _; with_reducible rfl) | exact True.intro | assumption | (intro h; exact absurd h (by decide)) | omega | (intro _; omega) | (intro _; refine ⟨?_, True.intro⟩; omega) | (intro _; refine ⟨?_, True.intro⟩; intro _; omega) | (refine decide_eq_false ?_; omega) | (refine decide_eq_true ?_; omega) | (simp only [w_i64, w_u64, w_u32, w_u8]; omega) | exact fun j hj => (put_0 hj).symm | (intro j _; simp only [Nat.zero_add]; done) | (simp [appG]; done) | (simp [appG]; omega))); (conv => whnf); exact True.intro))
  conv => whnf
  exact True.intro
end Go.Proofs.Ytogijkmflhjhkaa

/- Strings as lists of bytes. Plain lemmas, no condition. -/
namespace Go.Proofs.Ytogijkmflhjhkaa
open Go.Sx Go.RowKit
set_option linter.unusedSimpArgs false
set_option linter.unusedVariables false

/-- The string of bytes; a string's bytes. -/
def sb (l : List (BitVec 8)) : ByteArray := ⟨(l.map UInt8.ofBitVec).toArray⟩
def ls (s : ByteArray) : List (BitVec 8) := s.data.toList.map UInt8.toBitVec
theorem sb_ls (s : ByteArray) : sb (ls s) = s := by
  cases s with
  | mk d =>
    unfold sb ls
    simp only [List.map_map]
    congr 1
    rw [show (UInt8.ofBitVec ∘ UInt8.toBitVec) = id from rfl, List.map_id]
theorem ls_sb (l : List (BitVec 8)) : ls (sb l) = l := by
  unfold sb ls
  simp only [List.map_map]
  rw [show (UInt8.toBitVec ∘ UInt8.ofBitVec) = id from rfl, List.map_id]
theorem ls_length (s : ByteArray) : (ls s).length = s.size := by unfold ls; rw [List.length_map]; exact Array.length_toList
theorem sb_size (l : List (BitVec 8)) : (sb l).size = l.length := by rw [← ls_length, ls_sb]
theorem sb_inj {a b : List (BitVec 8)} (h : sb a = sb b) : a = b := by rw [← ls_sb a, h, ls_sb]
theorem byteArray_ext {a b : ByteArray} (h : a.data.toList = b.data.toList) : a = b := by
  cases a; cases b; simp only at h; congr 1; exact Array.toList_inj.1 h
theorem ls_append (a b : ByteArray) : ls (a ++ b) = ls a ++ ls b := by
  unfold ls
  rw [ByteArray.data_append]
  simp
theorem sb_append (a b : List (BitVec 8)) : sb a ++ sb b = sb (a ++ b) := by
  rw [← sb_ls (sb a ++ sb b), ls_append, ls_sb, ls_sb]
theorem ls_extract (s : ByteArray) (a b : Nat) : ls (s.extract a b) = ((ls s).drop a).take (b - a) := by
  unfold ls
  rw [ByteArray.data_extract]
  simp [List.map_drop, List.map_take, List.extract_eq_take_drop]
theorem sb_extract (l : List (BitVec 8)) (a b : Nat) : (sb l).extract a b = sb ((l.drop a).take (b - a)) := by
  rw [← sb_ls ((sb l).extract a b), ls_extract, ls_sb]
theorem bytesI_ls (s : ByteArray) (j : Nat) : bytesI s j = UL (ls s) j := by
  unfold bytesI UL ls U
  by_cases h : j < s.data.size
  · simp [Array.getD_eq_getD_getElem?, List.getD_eq_getElem?_getD, h]
  · simp [Array.getD_eq_getD_getElem?, List.getD_eq_getElem?_getD, h]
theorem bytesI_sb (l : List (BitVec 8)) (j : Nat) : bytesI (sb l) j = UL l j := by rw [bytesI_ls, ls_sb]
theorem strI_sb {g : Nat → Int} {n : Nat} (h : R8 g n) : strI g n = sb (L8 g n) := by
  apply byteArray_ext
  unfold strI sb L8
  simp only [List.map_map]
  apply List.map_congr_left
  intro j hj
  have hj : j < n := by simpa using hj
  apply UInt8.toBitVec_inj.1
  show BitVec.ofNat 8 (g j).toNat = BitVec.ofInt 8 (g j)
  have := h j hj
  apply BitVec.eq_of_toNat_eq
  rw [BitVec.toNat_ofNat, BitVec.toNat_ofInt]
  have e1 : (2 : Nat) ^ 8 = 256 := rfl
  rw [e1]
  omega
theorem toList_loop (s : ByteArray) : ∀ (k i : Nat) (r : List UInt8), s.size - i = k → ByteArray.toList.loop s i r = r.reverse ++ s.data.toList.drop i := by
  intro k
  induction k with
  | zero =>
    intro i r h
    unfold ByteArray.toList.loop
    rw [if_neg (by omega), List.drop_eq_nil_of_le (by have e0 : s.size = s.data.size := rfl; rw [Array.length_toList]; omega)]
    simp
  | succ k ih =>
    intro i r h
    have hi : i < s.data.size := by have : s.size = s.data.size := rfl; omega
    unfold ByteArray.toList.loop
    rw [if_pos (by have : s.size = s.data.size := rfl; omega), ih (i + 1) _ (by omega)]
    have e : s.data.toList.drop i = s.data.toList[i]'(by simpa using hi) :: s.data.toList.drop (i + 1) := by
      rw [List.getElem_cons_drop]
    rw [e, List.reverse_cons, List.append_assoc, List.singleton_append]
    congr 2
    show s.data[i]! = _
    rw [getElem!_pos s.data i hi, Array.getElem_toList]
theorem toList_data (s : ByteArray) : s.toList = s.data.toList := by
  unfold ByteArray.toList
  rw [toList_loop s s.size 0 [] (by omega)]
  simp
theorem eq_sb (a b : List (BitVec 8)) : ((sb a).toList == (sb b).toList) = decide (a = b) := by
  rw [toList_data, toList_data]
  by_cases h : a = b
  · subst h; simp
  · rw [decide_eq_false h, beq_eq_false_iff_ne]
    intro e
    exact h (sb_inj (byteArray_ext e))
end Go.Proofs.Ytogijkmflhjhkaa

/- The symbolic evaluator: a condition, part by part. Plain lemmas, no condition. -/
namespace Go.Sx
theorem Cd.holds_tt : Cd.tt.holds := True.intro
theorem Cd.holds_p {P : Prop} (h : P) : (Cd.p P).holds := h
theorem Cd.holds_and {a b : Cd} (h : a.holds) (k : b.holds) : (Cd.and a b).holds := ⟨h, k⟩
theorem Cd.holds_imp {g : Bool} {c : Cd} (h : g = true → c.holds) : (Cd.imp g c).holds := h
end Go.Sx

/- Functions through the evaluator: keys and nonces of bytes; what each law of chacha, poly, aead begins with. No condition. -/
namespace Go.Proofs.Ytogijkmflhjhkaa
open Go.Sx Go.RowKit
set_option maxRecDepth 100000
set_option maxHeartbeats 2000000
set_option linter.unusedVariables false
set_option linter.unusedSimpArgs false

/-- So many bytes of a list, noughts behind. -/
def kpad (m : Nat) (l : List B8) : List B8 := (l ++ List.replicate m 0).take m
theorem kpad_length (m : Nat) (l : List B8) : (kpad m l).length = m := by simp [kpad]
theorem kpad_at {m n : Nat} {g : Nat → Int} (hg : R8 g n) {f : Nat → Int} (hf : ∀ j, j < m → f j = if j < n then g j else 0) (j : Nat) (hj : j < m) : UL (kpad m (L8 g n)) j = f j := by
  rw [hf j hj, UL_getD, kpad, getD_take _ _ _ _ hj, List.getD_eq_getElem?_getD]
  by_cases h : j < n
  · rw [if_pos h, List.getElem?_append_left (by rw [L8_length]; exact h), ← List.getD_eq_getElem?_getD, ← UL_getD, UL_L8 hg j h]
  · rw [if_neg h, List.getElem?_append_right (by rw [L8_length]; omega), L8_length]
    simp [show j - n < m by omega, U]
theorem put_if {g : Nat → Int} {n m : Nat} (j : Nat) (hj : j < m) : put_ (fun _ => 0) (Int.toNat 0) (min n (m - Int.toNat 0)) g j = if j < n then g j else 0 := by
  unfold put_
  have e : Int.toNat 0 = 0 := rfl
  rw [e, Nat.sub_zero, Nat.sub_zero, Nat.zero_add]
  by_cases h : j < n
  · rw [if_pos h, if_pos (by omega)]
  · rw [if_neg h, if_neg (by omega)]
/-- indenturelaw4.Key. -/
def keyS : Summary := mkS false [.r .u8] fun
  | [.r nl g n] => some ⟨.p (R8 g n), some (.sa (.agg [.ints .u8 (UL (kpad 32 (L8 g n))) 32])), [], 0⟩
  | _ => none
theorem keyS_ok : SumOk Try.prog 53 keyS := by
  unfold keyS
  apply sum_ok
  intro vs A H n o r hb h
  split at h
  rotate_left
  · cases h
  rename_i nl g n
  injection h with h
  subst h
  cases hb
  refine fsound_of_run tt_ok cok_nil mixed_ok Try.call53 Try.func53 rfl (rs := _) Try.results53 (size := 8) Try.ntmps53 (Nat.le_of_ble_eq_true rfl) rfl fun hp hfa hfh => ?_
  have hg : R8 g n := hp
  repeat ((conv => whnf); (with_reducible refine And.intro ?_ ?_); · first | exact True.intro | (intro hg0; simp only [hg0, Bool.not_false, Bool.not_true]; done) | assumption | omega | (intro _; refine ⟨True.intro, ?_⟩; omega) | (intro _; refine ⟨?_, True.intro⟩; omega) | (intro _; refine ⟨decide_eq_true ?_, ?_⟩ <;> omega) | (intro _; refine ⟨?_, ?_⟩ <;> first | omega | (simp [appG, Cd.holds]; done) | (simp [appG, Cd.holds]; omega)) | (refine decide_eq_true ?_; omega) | (intro _; omega) | (simp only [w_i64, w_u64, w_u32, w_u8]; omega) | exact ⟨U_nonneg _, U_lt32 _⟩ | exact R8_UL _ _ | exact R32_UL _ _ | (intro hg0; (repeat ((conv => whnf); (with_reducible refine And.intro ?_ ?_); · first | assumption | omega | (intro _; refine ⟨?_, ?_⟩ <;> first | assumption | omega | exact True.intro | (refine decide_eq_true ?_; omega) | (simp [appG, Cd.holds]; omega)) | (intro _; refine ⟨And.intro ?_ ?_, ?_⟩ <;> first | assumption | omega | (refine decide_eq_true ?_; omega)) | (simp only [hg0, Bool.and_self, Bool.true_and]; done) | (intro hg1; simp only [hg0, hg1, Bool.and_self, Bool.true_and]; done) | (simp [hg0]; done))); (conv => whnf); exact True.intro))
  conv => whnf
  refine ⟨[], ?_⟩
  repeat ((conv => whnf); (with_reducible refine And.intro ?_ ?_); · first | with_reducible rfl | exact (Bool.and_false _).symm | (intro _ _; with_reducible rfl) | exact True.intro | assumption | (intro h; exact absurd h (by decide)) | omega | (intro _; omega) | (intro _; refine ⟨?_, True.intro⟩; omega) | (intro _; refine ⟨?_, True.intro⟩; intro _; omega) | (refine decide_eq_false ?_; omega) | (refine decide_eq_true ?_; omega) | (simp only [w_i64, w_u64, w_u32, w_u8]; omega) | exact fun j hj => (put_0 hj).symm | (intro j _; simp only [Nat.zero_add]; done) | (simp [appG]; done) | (simp [appG]; omega) | exact kpad_at hg fun j hj => put_if j hj | (intro hgd; (try replace hgd := of_decide_eq_true hgd); (repeat ((conv => whnf); (with_reducible refine And.intro ?_ ?_); · first | with_reducible rfl | exact (Bool.and_false _).symm | (intro _ _; with_reducible rfl) | exact True.intro | assumption | (intro h; exact absurd h (by decide)) | omega | (intro _; omega) | (intro _; refine ⟨?_, True.intro⟩; omega) | (intro _; refine ⟨?_, True.intro⟩; intro _; omega) | (refine decide_eq_false ?_; omega) | (refine decide_eq_true ?_; omega) | (simp only [w_i64, w_u64, w_u32, w_u8]; omega) | exact fun j hj => (put_0 hj).symm | (intro j _; simp only [Nat.zero_add]; done) | (simp [appG]; done) | (simp [appG]; omega) | exact kpad_at hg fun j hj => put_if j hj)); (conv => whnf); exact True.intro))
  conv => whnf
  exact True.intro
/-- indenturelaw4.Nonce. -/
def nonceS : Summary := mkS false [.r .u8] fun
  | [.r nl g n] => some ⟨.p (R8 g n), some (.sa (.agg [.ints .u8 (UL (kpad 12 (L8 g n))) 12])), [], 0⟩
  | _ => none
theorem nonceS_ok : SumOk Try.prog 54 nonceS := by
  unfold nonceS
  apply sum_ok
  intro vs A H n o r hb h
  split at h
  rotate_left
  · cases h
  rename_i nl g n
  injection h with h
  subst h
  cases hb
  refine fsound_of_run tt_ok cok_nil mixed_ok Try.call54 Try.func54 rfl (rs := _) Try.results54 (size := 8) Try.ntmps54 (Nat.le_of_ble_eq_true rfl) rfl fun hp hfa hfh => ?_
  have hg : R8 g n := hp
  repeat ((conv => whnf); (with_reducible refine And.intro ?_ ?_); · first | exact True.intro | (intro hg0; simp only [hg0, Bool.not_false, Bool.not_true]; done) | assumption | omega | (intro _; refine ⟨True.intro, ?_⟩; omega) | (intro _; refine ⟨?_, True.intro⟩; omega) | (intro _; refine ⟨decide_eq_true ?_, ?_⟩ <;> omega) | (intro _; refine ⟨?_, ?_⟩ <;> first | omega | (simp [appG, Cd.holds]; done) | (simp [appG, Cd.holds]; omega)) | (refine decide_eq_true ?_; omega) | (intro _; omega) | (simp only [w_i64, w_u64, w_u32, w_u8]; omega) | exact ⟨U_nonneg _, U_lt32 _⟩ | exact R8_UL _ _ | exact R32_UL _ _ | (intro hg0; (repeat ((conv => whnf); (with_reducible refine And.intro ?_ ?_); · first | assumption | omega | (intro _; refine ⟨?_, ?_⟩ <;> first | assumption | omega | exact True.intro | (refine decide_eq_true ?_; omega) | (simp [appG, Cd.holds]; omega)) | (intro _; refine ⟨And.intro ?_ ?_, ?_⟩ <;> first | assumption | omega | (refine decide_eq_true ?_; omega)) | (simp only [hg0, Bool.and_self, Bool.true_and]; done) | (intro hg1; simp only [hg0, hg1, Bool.and_self, Bool.true_and]; done) | (simp [hg0]; done))); (conv => whnf); exact True.intro))
  conv => whnf
  refine ⟨[], ?_⟩
  repeat ((conv => whnf); (with_reducible refine And.intro ?_ ?_); · first | with_reducible rfl | exact (Bool.and_false _).symm | (intro _ _; with_reducible rfl) | exact True.intro | assumption | (intro h; exact absurd h (by decide)) | omega | (intro _; omega) | (intro _; refine ⟨?_, True.intro⟩; omega) | (intro _; refine ⟨?_, True.intro⟩; intro _; omega) | (refine decide_eq_false ?_; omega) | (refine decide_eq_true ?_; omega) | (simp only [w_i64, w_u64, w_u32, w_u8]; omega) | exact fun j hj => (put_0 hj).symm | (intro j _; simp only [Nat.zero_add]; done) | (simp [appG]; done) | (simp [appG]; omega) | exact kpad_at hg fun j hj => put_if j hj | (intro hgd; (try replace hgd := of_decide_eq_true hgd); (repeat ((conv => whnf); (with_reducible refine And.intro ?_ ?_); · first | with_reducible rfl | exact (Bool.and_false _).symm | (intro _ _; with_reducible rfl) | exact True.intro | assumption | (intro h; exact absurd h (by decide)) | omega | (intro _; omega) | (intro _; refine ⟨?_, True.intro⟩; omega) | (intro _; refine ⟨?_, True.intro⟩; intro _; omega) | (refine decide_eq_false ?_; omega) | (refine decide_eq_true ?_; omega) | (simp only [w_i64, w_u64, w_u32, w_u8]; omega) | exact fun j hj => (put_0 hj).symm | (intro j _; simp only [Nat.zero_add]; done) | (simp [appG]; done) | (simp [appG]; omega) | exact kpad_at hg fun j hj => put_if j hj)); (conv => whnf); exact True.intro))
  conv => whnf
  exact True.intro

theorem R8_list {L : List Int} (h : L.all (fun x => decide (0 ≤ x ∧ x < 256)) = true) (a n : Nat) : R8 (fun j => listI L (a + j)) n := fun j _ => by
  show 0 ≤ L.getD (a + j) 0 ∧ L.getD (a + j) 0 < 256
  rw [List.getD_eq_getElem?_getD]
  cases e : L[a + j]? with
  | none => exact ⟨by decide, by decide⟩
  | some x =>
    have := List.all_eq_true.1 h x (List.mem_of_getElem? e)
    exact of_decide_eq_true this
theorem cokC : COk Try.prog (tab [(51, quarterS), (53, keyS), (54, nonceS), (59, tagS), (61, sealS), (62, openS), (70, yesS)]) :=
  cok_cons quarterS_ok (cok_cons keyS_ok (cok_cons nonceS_ok (cok_cons tagS_ok (cok_cons sealS_ok (cok_cons openS_ok (cok_cons yesS70_ok cok_nil))))))
theorem yesS50_ok : SumOk Try.prog 50 yesS := by
  unfold yesS
  apply sum_ok
  intro vs A H n o r hb h
  split at h
  rotate_left
  · cases h
  injection h with h
  subst h
  cases hb
  refine fsound_of_run tt_ok cokC mixed_ok Try.call50 Try.func50 rfl (rs := _) Try.results50 (size := 72) Try.ntmps50 (Nat.le_of_ble_eq_true rfl) rfl fun hp hfa hfh => ?_
  repeat ((conv => whnf); (with_reducible refine And.intro ?_ ?_); · first | exact True.intro | with_reducible rfl | (refine ⟨?_, ?_⟩ <;> decide))
  conv => whnf
  generalize hG : listI [27, 245, 73, 65, 175, 246, 191, 74, 253, 178, 13, 251, 138, 128, 3, 1, 168, 6, 213, 66, 254, 82, 68, 127, 51, 109, 85, 87, 120, 190, 214, 133].reverse = G
  have hG8 : R8 (fun j => G (0 + j)) 32 := by rw [← hG]; exact R8_list (by decide) 0 32
  repeat ((conv => whnf); (with_reducible refine And.intro ?_ ?_); · first | exact True.intro | with_reducible rfl | exact hG8 | (intro _; exact ⟨True.intro, by decide⟩) | exact fun j hj => ⟨U_nonneg _, U_lt8 _⟩ | decide)
  conv => whnf
  generalize hM : listI [112, 117, 111, 114, 71, 32, 104, 99, 114, 97, 101, 115, 101, 82, 32, 109, 117, 114, 111, 70, 32, 99, 105, 104, 112, 97, 114, 103, 111, 116, 112, 121, 114, 67].reverse = M
  have hM8 : R8 (fun j => M (0 + 0 + j)) 34 := by rw [← hM]; exact R8_list (by decide) (0 + 0) 34
  generalize hT : polyTag (L8 (UL (kpad 32 (L8 (fun j => G (0 + j)) 32))) 32) (L8 (fun j => M (0 + 0 + j)) 34) = T
  generalize hqa : U (q2a (BitVec.ofInt 32 286331153) (BitVec.ofInt 32 16909060) (BitVec.ofInt 32 2609737539) (BitVec.ofInt 32 19088743)) = va
  generalize hqd : U (q2d (BitVec.ofInt 32 286331153) (BitVec.ofInt 32 16909060) (BitVec.ofInt 32 2609737539) (BitVec.ofInt 32 19088743)) = vd
  refine ⟨hM8, ?_⟩
  repeat ((conv => whnf); (with_reducible refine And.intro ?_ ?_); · first | exact True.intro | with_reducible rfl | exact hG8 | exact hM8 | (intro _; exact ⟨True.intro, by decide⟩) | exact fun j hj => ⟨U_nonneg _, U_lt8 _⟩ | decide)
  conv => whnf
  refine ⟨fun j hj => absurd hj (Nat.not_lt_zero j), ?_⟩
  have hk8 : R8 (UL (kpad 32 (L8 (fun j => G (0 + j)) 32))) 32 := R8_UL _ _
  have hn8 : R8 (UL (kpad 12 (L8 (fun _ => 0) 0))) 12 := R8_UL _ _
  generalize hk : UL (kpad 32 (L8 (fun j => G (0 + j)) 32)) = kf at hk8 ⊢
  generalize hn : UL (kpad 12 (L8 (fun _ => 0) 0)) = nf at hn8 ⊢
  repeat (first | ((with_reducible refine (Cd.then_iff _ _).2 (And.intro ?_ ?_)); · repeat' ((conv => arg 1; whnf); first | exact Cd.holds_tt | (refine Cd.holds_p ?_; first | exact hk8 | exact hn8 | (refine R8_list ?_ _ _; decide) | (intro _; exact ⟨True.intro, by decide⟩) | exact fun j hj => ⟨U_nonneg _, U_lt8 _⟩ | exact fun j hj => absurd hj (Nat.not_lt_zero j) | exact True.intro | (intro hg0; simp only [hg0, Bool.not_false, Bool.not_true]; done) | with_reducible assumption | omega | (intro _; refine ⟨True.intro, ?_⟩; omega) | (intro _; refine ⟨?_, True.intro⟩; omega) | (intro _; refine ⟨decide_eq_true ?_, ?_⟩ <;> omega) | (intro _; refine ⟨?_, ?_⟩ <;> first | omega | (simp [appG, Cd.holds]; done) | (simp [appG, Cd.holds]; omega)) | (refine decide_eq_true ?_; omega) | (intro _; omega) | (simp only [w_i64, w_u64, w_u32, w_u8]; omega) | exact ⟨U_nonneg _, U_lt32 _⟩ | exact R8_UL _ _ | exact R32_UL _ _ | (intro hg0; (repeat ((conv => whnf); (with_reducible refine And.intro ?_ ?_); · first | with_reducible assumption | omega | (intro _; refine ⟨?_, ?_⟩ <;> first | with_reducible assumption | omega | exact True.intro | (refine decide_eq_true ?_; omega) | (simp [appG, Cd.holds]; omega)) | (intro _; refine ⟨And.intro ?_ ?_, ?_⟩ <;> first | with_reducible assumption | omega | (refine decide_eq_true ?_; omega)) | (simp only [hg0, Bool.and_self, Bool.true_and]; done) | (intro hg1; simp only [hg0, hg1, Bool.and_self, Bool.true_and]; done) | (simp [hg0]; done))); (conv => whnf); exact True.intro)) | refine Cd.holds_and ?_ ?_ | (refine Cd.holds_imp fun hg0 => ?_))) | ((conv => whnf); (with_reducible refine And.intro ?_ ?_); · first | exact hk8 | exact hn8 | (refine R8_list ?_ _ _; decide) | (intro _; exact ⟨True.intro, by decide⟩) | exact fun j hj => ⟨U_nonneg _, U_lt8 _⟩ | exact fun j hj => absurd hj (Nat.not_lt_zero j) | exact True.intro | (intro hg0; simp only [hg0, Bool.not_false, Bool.not_true]; done) | with_reducible assumption | omega | (intro _; refine ⟨True.intro, ?_⟩; omega) | (intro _; refine ⟨?_, True.intro⟩; omega) | (intro _; refine ⟨decide_eq_true ?_, ?_⟩ <;> omega) | (intro _; refine ⟨?_, ?_⟩ <;> first | omega | (simp [appG, Cd.holds]; done) | (simp [appG, Cd.holds]; omega)) | (refine decide_eq_true ?_; omega) | (intro _; omega) | (simp only [w_i64, w_u64, w_u32, w_u8]; omega) | exact ⟨U_nonneg _, U_lt32 _⟩ | exact R8_UL _ _ | exact R32_UL _ _ | (intro hg0; (repeat ((conv => whnf); (with_reducible refine And.intro ?_ ?_); · first | with_reducible assumption | omega | (intro _; refine ⟨?_, ?_⟩ <;> first | with_reducible assumption | omega | exact True.intro | (refine decide_eq_true ?_; omega) | (simp [appG, Cd.holds]; omega)) | (intro _; refine ⟨And.intro ?_ ?_, ?_⟩ <;> first | with_reducible assumption | omega | (refine decide_eq_true ?_; omega)) | (simp only [hg0, Bool.and_self, Bool.true_and]; done) | (intro hg1; simp only [hg0, hg1, Bool.and_self, Bool.true_and]; done) | (simp [hg0]; done))); (conv => whnf); exact True.intro)))
  conv => whnf
  obtain ⟨A, hA⟩ : ∃ A, A = L8 (fun j => listI [97].reverse (0 + 0 + j)) 1 := ⟨_, rfl⟩
  obtain ⟨P, hP⟩ : ∃ P, P = L8 (fun j => listI [99, 98].reverse (0 + 0 + j)) 2 := ⟨_, rfl⟩
  have hPl : P.length = 2 := by rw [hP, L8_length]
  have eS : L8 (fun j => UL (aeSeal (L8 kf 32) (L8 nf 12) A P) (0 + j)) (2 + 16) = aeSeal (L8 kf 32) (L8 nf 12) A P := by
    rw [show (fun j => UL (aeSeal (L8 kf 32) (L8 nf 12) A P) (0 + j)) = UL (aeSeal (L8 kf 32) (L8 nf 12) A P) from funext fun j => by rw [Nat.zero_add]]
    exact L8_UL' (by rw [aeSeal_length, hPl])
  have eP : (strI (fun j => UL P (0 + j)) P.length).toList == (ByteArray.mk #[98, 99]).toList := by
    rw [strI_sb (R8_z _ _), L8_z rfl, show (ByteArray.mk #[98, 99]) = sb [98, 99] from rfl, eq_sb]
    exact decide_eq_true (by rw [hP]; decide)
  have h1 : (va == 3928658676) = true := by rw [← hqa]; decide
  have h2 : (vd == 1484899515) = true := by rw [← hqd]; decide
  have hTT : T.getD 0 0 = 168 ∧ T.getD 15 0 = 169 := by rw [← hT, ← hG, ← hM, polyTag_eq]; decide +kernel
  have h3 : (UL T (Int.toNat 0) == 168) = true := by show (U (T.getD 0 0) == 168) = true; rw [hTT.1]; decide
  have h4 : (UL T (Int.toNat 15) == 169) = true := by show (U (T.getD 15 0) == 169) = true; rw [hTT.2]; decide
  have h5 : (((2 + 16 : Nat) : Int) == 18) = true := by decide
  refine ⟨[], ?_⟩
  simp only [hk, hn, ← hA, ← hP, eS, aeIs_seal, aeOut_seal, h1, h2, h3, h4, h5, eP, cond_true]
  repeat ((conv => whnf); (with_reducible refine And.intro ?_ ?_); · first | with_reducible rfl | exact (Bool.and_false _).symm | (intro _ _; with_reducible rfl) | exact True.intro | assumption | (intro h; exact absurd h (by decide)) | omega | (intro _; omega) | (intro _; refine ⟨?_, True.intro⟩; omega) | (intro _; refine ⟨?_, True.intro⟩; intro _; omega) | (refine decide_eq_false ?_; omega) | (refine decide_eq_true ?_; omega) | (simp only [w_i64, w_u64, w_u32, w_u8]; omega) | exact fun j hj => (put_0 hj).symm | (intro j _; simp only [Nat.zero_add]; done) | (simp [appG]; done) | (simp [appG]; omega) | (intro hgd; (try replace hgd := of_decide_eq_true hgd); (repeat ((conv => whnf); (with_reducible refine And.intro ?_ ?_); · first | with_reducible rfl | exact (Bool.and_false _).symm | (intro _ _; with_reducible rfl) | exact True.intro | assumption | (intro h; exact absurd h (by decide)) | omega | (intro _; omega) | (intro _; refine ⟨?_, True.intro⟩; omega) | (intro _; refine ⟨?_, True.intro⟩; intro _; omega) | (refine decide_eq_false ?_; omega) | (refine decide_eq_true ?_; omega) | (simp only [w_i64, w_u64, w_u32, w_u8]; omega) | exact fun j hj => (put_0 hj).symm | (intro j _; simp only [Nat.zero_add]; done) | (simp [appG]; done) | (simp [appG]; omega))); (conv => whnf); exact True.intro))
  conv => whnf
  exact True.intro
end Go.Proofs.Ytogijkmflhjhkaa

/- Functions through the evaluator: the document's ChaCha20. No condition. -/
namespace Go.Proofs.Ytogijkmflhjhkaa
open Go.Sx Go.RowKit
set_option maxRecDepth 100000
set_option maxHeartbeats 1000000
set_option linter.unusedVariables false
set_option linter.unusedSimpArgs false

/-- One of four, and another one: the first has more, the third is turned. -/
def trn (l : List W32) (i j k s : Nat) : List W32 := (l.set i (l.getD i 0 + l.getD j 0)).set k (rotl (l.getD k 0 ^^^ (l.getD i 0 + l.getD j 0)) s)
theorem trn_length (l : List W32) (i j k s : Nat) : (trn l i j k s).length = l.length := by simp [trn]
/-- indentureref4.turn. -/
def turn4S : Summary := mkS false [.a 57 .u32, .v, .v, .v, .v] fun
  | [.a nl f n, .v (.sc (.int .i64 i)), .v (.sc (.int .i64 j)), .v (.sc (.int .i64 k)), .v (.sc (.int .u64 s))] =>
    some ⟨.and (.p (R32 f n)) (.and (.p (n = 4 ∧ nl = false)) (.p (0 ≤ i ∧ i < 4 ∧ 0 ≤ j ∧ j < 4 ∧ 0 ≤ k ∧ k < 4 ∧ i ≠ k ∧ 0 < s ∧ s < 32))), some (.tup []),
      [(0, ownB 57 .u32 (UL (trn (L32 f 4) i.toNat j.toNat k.toNat s.toNat)) n)], 1⟩
  | _ => none
theorem turn4S_ok : SumOk Try.prog 74 turn4S := by
  unfold turn4S
  apply sum_ok
  intro vs A H n o r hb h
  split at h
  rotate_left
  · cases h
  rename_i nl f n i j k s
  injection h with h
  subst h
  cases hb
  refine fsound_of_run tt_ok cok_nil mixed_ok Try.call74 Try.func74 rfl (rs := _) Try.results74 (size := 41) Try.ntmps74 (Nat.le_of_ble_eq_true rfl) rfl fun hp hfa hfh => ?_
  obtain ⟨hf, ⟨hn, hnl⟩, hi0, hi1, hj0, hj1, hk0, hk1, hik, hs0, hs1⟩ := hp
  have hf : R32 f n := hf
  have hn : n = 4 := hn
  subst hn
  have hnl : nl = false := hnl
  subst hnl
  obtain ⟨I, rfl⟩ := Int.eq_ofNat_of_zero_le hi0
  obtain ⟨J, rfl⟩ := Int.eq_ofNat_of_zero_le hj0
  obtain ⟨K, rfl⟩ := Int.eq_ofNat_of_zero_le hk0
  obtain ⟨S, rfl⟩ := Int.eq_ofNat_of_zero_le (Int.le_of_lt hs0)
  obtain ⟨F, hF⟩ : ∃ F, F = L32 f 4 := ⟨_, rfl⟩
  have hFl : F.length = 4 := by rw [hF, L32_length]
  have hFj : ∀ j, j < 4 → f j = U (F.getD j 0) := fun j hj => by rw [hF]; exact (UL_L32 hf j hj).symm
  have hI : I < 4 := by omega
  have hJ : J < 4 := by omega
  have hK : K < 4 := by omega
  have hIK : I ≠ K := fun h => hik (by rw [h])
  rw [← hF]
  refine ⟨[(0, ⟨0, some 11, []⟩), (1, ⟨0, some 12, []⟩), (2, ⟨3, some 13, []⟩), (3, ⟨7, some 14, []⟩), (4, ⟨0, some 15, []⟩), (5, ⟨0, some 16, []⟩), (6, ⟨48, some 17, []⟩), (7, ⟨112, some 18, []⟩), (8, ⟨255, some 19, []⟩), (9, ⟨511, some 20, []⟩), (10, ⟨1023, none, [0]⟩)], 177, ?_⟩
  repeat ((conv => whnf); (with_reducible refine And.intro ?_ ?_); · first | exact True.intro | (intro hg0; simp only [hg0, Bool.not_false, Bool.not_true]; done) | with_reducible assumption | omega | (intro _; refine ⟨True.intro, ?_⟩; omega) | (intro _; refine ⟨?_, True.intro⟩; omega) | (intro _; refine ⟨decide_eq_true ?_, ?_⟩ <;> omega) | (intro _; refine ⟨?_, ?_⟩ <;> first | omega | (simp [appG, Cd.holds]; done) | (simp [appG, Cd.holds]; omega)) | (refine decide_eq_true ?_; omega) | (intro _; omega) | (simp only [w_i64, w_u64, w_u32, w_u8]; omega) | exact ⟨U_nonneg _, U_lt32 _⟩ | exact R8_UL _ _ | exact R32_UL _ _ | (intro hg0; (repeat ((conv => whnf); (with_reducible refine And.intro ?_ ?_); · first | with_reducible assumption | omega | (intro _; refine ⟨?_, ?_⟩ <;> first | with_reducible assumption | omega | exact True.intro | (refine decide_eq_true ?_; omega) | (simp [appG, Cd.holds]; omega)) | (intro _; refine ⟨And.intro ?_ ?_, ?_⟩ <;> first | with_reducible assumption | omega | (refine decide_eq_true ?_; omega)) | (simp only [hg0, Bool.and_self, Bool.true_and]; done) | (intro hg1; simp only [hg0, hg1, Bool.and_self, Bool.true_and]; done) | (simp [hg0]; done))); (conv => whnf); exact True.intro))
  conv => whnf
  have fI : f (0 + (I : Int).toNat) = U (F.getD I 0) := by rw [Nat.zero_add]; exact hFj I hI
  have fJ : f (0 + (J : Int).toNat) = U (F.getD J 0) := by rw [Nat.zero_add]; exact hFj J hJ
  simp only [fI, fJ, add32]
  have fK : upd f (0 + (I : Int).toNat) (U (F.getD I 0 + F.getD J 0)) (0 + (K : Int).toNat) = U (F.getD K 0) := by
    unfold upd
    rw [if_neg (by simp only [Int.toNat_natCast, Nat.zero_add]; exact Ne.symm hIK), Nat.zero_add]
    exact hFj K hK
  have fI2 : upd f (0 + (I : Int).toNat) (U (F.getD I 0 + F.getD J 0)) (0 + (I : Int).toNat) = U (F.getD I 0 + F.getD J 0) := if_pos rfl
  refine ⟨[(0, ⟨0, some 21, []⟩), (1, ⟨0, some 22, []⟩), (2, ⟨3, some 23, []⟩), (3, ⟨7, some 24, []⟩), (4, ⟨0, some 25, []⟩), (5, ⟨0, some 26, []⟩), (6, ⟨48, some 27, []⟩), (7, ⟨112, some 28, []⟩), (8, ⟨255, some 29, []⟩), (9, ⟨511, some 10, []⟩)], 337, ?_⟩
  repeat ((conv => whnf); (with_reducible refine And.intro ?_ ?_); · first | exact True.intro | (intro hg0; simp only [hg0, Bool.not_false, Bool.not_true]; done) | with_reducible assumption | omega | (intro _; refine ⟨True.intro, ?_⟩; omega) | (intro _; refine ⟨?_, True.intro⟩; omega) | (intro _; refine ⟨decide_eq_true ?_, ?_⟩ <;> omega) | (intro _; refine ⟨?_, ?_⟩ <;> first | omega | (simp [appG, Cd.holds]; done) | (simp [appG, Cd.holds]; omega)) | (refine decide_eq_true ?_; omega) | (intro _; omega) | (simp only [w_i64, w_u64, w_u32, w_u8]; omega) | exact ⟨U_nonneg _, U_lt32 _⟩ | exact R8_UL _ _ | exact R32_UL _ _ | (intro hg0; (repeat ((conv => whnf); (with_reducible refine And.intro ?_ ?_); · first | with_reducible assumption | omega | (intro _; refine ⟨?_, ?_⟩ <;> first | with_reducible assumption | omega | exact True.intro | (refine decide_eq_true ?_; omega) | (simp [appG, Cd.holds]; omega)) | (intro _; refine ⟨And.intro ?_ ?_, ?_⟩ <;> first | with_reducible assumption | omega | (refine decide_eq_true ?_; omega)) | (simp only [hg0, Bool.and_self, Bool.true_and]; done) | (intro hg1; simp only [hg0, hg1, Bool.and_self, Bool.true_and]; done) | (simp [hg0]; done))); (conv => whnf); exact True.intro))
  conv => whnf
  simp only [fK, fI2, xor32]
  have q1 : IntKind.u64.wrap (32 - (S : Int)) = ((32 - S : Nat) : Int) := by rw [w_u64]; omega
  have q2 : min S IntKind.u32.bits = S := Nat.min_eq_left (by show S ≤ 32; omega)
  have q3 : min (32 - S) IntKind.u32.bits = 32 - S := Nat.min_eq_left (by show 32 - S ≤ 32; omega)
  repeat ((conv => whnf); (with_reducible refine And.intro ?_ ?_); · first | exact True.intro | (intro hg0; simp only [hg0, Bool.not_false, Bool.not_true]; done) | with_reducible assumption | omega | (intro _; refine ⟨True.intro, ?_⟩; omega) | (intro _; refine ⟨?_, True.intro⟩; omega) | (intro _; refine ⟨decide_eq_true ?_, ?_⟩ <;> omega) | (intro _; refine ⟨?_, ?_⟩ <;> first | omega | (simp [appG, Cd.holds]; done) | (simp [appG, Cd.holds]; omega)) | (refine decide_eq_true ?_; omega) | (intro _; omega) | (simp only [q1]; omega) | (simp only [q1]; intro _; refine ⟨?_, ?_⟩ <;> first | omega | (refine decide_eq_true ?_; omega)) | exact ⟨U_nonneg _, U_lt32 _⟩ | exact R8_UL _ _ | exact R32_UL _ _ | (intro hg0; (repeat ((conv => whnf); (with_reducible refine And.intro ?_ ?_); · first | with_reducible assumption | omega | (intro _; refine ⟨?_, ?_⟩ <;> first | with_reducible assumption | omega | exact True.intro | (refine decide_eq_true ?_; omega) | (simp [appG, Cd.holds]; omega)) | (intro _; refine ⟨And.intro ?_ ?_, ?_⟩ <;> first | with_reducible assumption | omega | (refine decide_eq_true ?_; omega)) | (simp only [hg0, Bool.and_self, Bool.true_and]; done) | (intro hg1; simp only [hg0, hg1, Bool.and_self, Bool.true_and]; done) | (simp [hg0]; done))); (conv => whnf); exact True.intro))
  conv => whnf
  simp only [q1, Int.toNat_natCast, q2, q3, shl32, shr32, or32]
  have hfin : ∀ j, j < 4 → UL (trn F I J K S) j = upd (upd f (0 + I) (U (F.getD I 0 + F.getD J 0))) (0 + K) (U ((F.getD K 0 ^^^ (F.getD I 0 + F.getD J 0)) <<< S ||| (F.getD K 0 ^^^ (F.getD I 0 + F.getD J 0)) >>> (32 - S))) j := fun j hj => by
    unfold trn
    rw [UL_set _ _ _ (by rw [List.length_set]; omega), Nat.zero_add, Nat.zero_add]
    unfold upd
    split
    · rfl
    · rw [UL_set _ _ _ (by omega)]
      unfold upd
      split
      · rfl
      · exact (hFj j hj).symm
  refine ⟨[], ?_⟩
  repeat ((conv => whnf); (with_reducible refine And.intro ?_ ?_); · first | with_reducible rfl | exact (Bool.and_false _).symm | (intro _ _; with_reducible rfl) | exact True.intro | assumption | (intro h; exact absurd h (by decide)) | omega | (intro _; omega) | (intro _; refine ⟨?_, True.intro⟩; omega) | (intro _; refine ⟨?_, True.intro⟩; intro _; omega) | (refine decide_eq_false ?_; omega) | (refine decide_eq_true ?_; omega) | (simp only [w_i64, w_u64, w_u32, w_u8]; omega) | exact fun j hj => (put_0 hj).symm | (intro j _; simp only [Nat.zero_add]; done) | (simp [appG]; done) | (simp [appG]; omega) | exact hfin | (intro hgd; (try replace hgd := of_decide_eq_true hgd); (repeat ((conv => whnf); (with_reducible refine And.intro ?_ ?_); · first | with_reducible rfl | exact (Bool.and_false _).symm | (intro _ _; with_reducible rfl) | exact True.intro | assumption | (intro h; exact absurd h (by decide)) | omega | (intro _; omega) | (intro _; refine ⟨?_, True.intro⟩; omega) | (intro _; refine ⟨?_, True.intro⟩; intro _; omega) | (refine decide_eq_false ?_; omega) | (refine decide_eq_true ?_; omega) | (simp only [w_i64, w_u64, w_u32, w_u8]; omega) | exact fun j hj => (put_0 hj).symm | (intro j _; simp only [Nat.zero_add]; done) | (simp [appG]; done) | (simp [appG]; omega) | exact hfin)); (conv => whnf); exact True.intro))
  conv => whnf
  exact True.intro

/-- indentureref4.low. -/
def low4S : Summary := mkS false [.r .u8] fun
  | [.r nl g n] => some ⟨.and (.p (R8 g n)) (.p (4 ≤ n)), some (.sa (.sc (.int .u32 (U (le4 (L8 g n) 0))))), [], 0⟩
  | _ => none
theorem low4S_ok : SumOk Try.prog 77 low4S := by
  unfold low4S
  apply sum_ok
  intro vs A H n o r hb h
  split at h
  rotate_left
  · cases h
  rename_i nl g n0
  injection h with h
  subst h
  cases hb
  refine fsound_of_run tt_ok cok_nil mixed_ok Try.call77 Try.func77 rfl (rs := _) Try.results77 (size := 25) Try.ntmps77 (Nat.le_of_ble_eq_true rfl) rfl fun hp hfa hfh => ?_
  obtain ⟨hg, hn⟩ := hp
  have hg : R8 g n0 := hg
  have hn : 4 ≤ n0 := hn
  refine ⟨[(0, ⟨0, some 3, []⟩), (1, ⟨1, some 4, []⟩), (2, ⟨3, some 5, []⟩), (3, ⟨7, some 6, []⟩), (4, ⟨0, some 7, []⟩), (5, ⟨16, some 8, []⟩), (6, ⟨48, some 9, []⟩), (7, ⟨112, some 10, []⟩), (8, ⟨240, some 11, []⟩), (9, ⟨511, some 12, []⟩), (10, ⟨0, some 13, []⟩), (11, ⟨1024, some 14, []⟩), (12, ⟨3072, some 15, []⟩), (13, ⟨7168, some 16, []⟩), (14, ⟨15360, some 17, []⟩), (15, ⟨32767, some 18, []⟩), (16, ⟨0, some 19, []⟩), (17, ⟨65536, some 20, []⟩), (18, ⟨196608, some 21, []⟩), (19, ⟨458752, some 22, []⟩), (20, ⟨983040, some 23, []⟩), (21, ⟨2097151, some 24, []⟩), (22, ⟨4194303, some 2, []⟩)], 368, ?_⟩
  repeat ((conv => whnf); (with_reducible refine And.intro ?_ ?_); · first | exact True.intro | (intro hg0; simp only [hg0, Bool.not_false, Bool.not_true]; done) | assumption | omega | (intro _; refine ⟨True.intro, ?_⟩; omega) | (intro _; refine ⟨?_, True.intro⟩; omega) | (intro _; refine ⟨decide_eq_true ?_, ?_⟩ <;> omega) | (intro _; refine ⟨?_, ?_⟩ <;> first | omega | (simp [appG, Cd.holds]; done) | (simp [appG, Cd.holds]; omega)) | (refine decide_eq_true ?_; omega) | (intro _; omega) | (simp only [w_i64, w_u64, w_u32, w_u8]; omega) | exact ⟨U_nonneg _, U_lt32 _⟩ | exact R8_UL _ _ | exact R32_UL _ _ | (intro hg0; (repeat ((conv => whnf); (with_reducible refine And.intro ?_ ?_); · first | assumption | omega | (intro _; refine ⟨?_, ?_⟩ <;> first | assumption | omega | exact True.intro | (refine decide_eq_true ?_; omega) | (simp [appG, Cd.holds]; omega)) | (intro _; refine ⟨And.intro ?_ ?_, ?_⟩ <;> first | assumption | omega | (refine decide_eq_true ?_; omega)) | (simp only [hg0, Bool.and_self, Bool.true_and]; done) | (intro hg1; simp only [hg0, hg1, Bool.and_self, Bool.true_and]; done) | (simp [hg0]; done))); (conv => whnf); exact True.intro))
  conv => whnf
  refine ⟨[], ?_⟩
  have g' : ∀ j, j < n0 → g j = U ((L8 g n0).getD j 0) := fun j hj => (UL_L8 hg j hj).symm
  have g0 : g (Int.toNat 0) = U ((L8 g n0).getD 0 0) := g' 0 (by omega)
  have g1 : g (Int.toNat 1) = U ((L8 g n0).getD 1 0) := g' 1 (by omega)
  have g2 : g (Int.toNat 2) = U ((L8 g n0).getD 2 0) := g' 2 (by omega)
  have g3 : g (Int.toNat 3) = U ((L8 g n0).getD 3 0) := g' 3 (by omega)
  simp only [g0, g1, g2, g3, sh24, sh16, sh8, wide32, shl32, w32_self', or32]
  repeat ((conv => whnf); (with_reducible refine And.intro ?_ ?_); · first | with_reducible rfl | exact (Bool.and_false _).symm | (intro _ _; with_reducible rfl) | exact True.intro | assumption | (intro h; exact absurd h (by decide)) | omega | (intro _; omega) | (intro _; refine ⟨?_, True.intro⟩; omega) | (intro _; refine ⟨?_, True.intro⟩; intro _; omega) | (refine decide_eq_false ?_; omega) | (refine decide_eq_true ?_; omega) | (simp only [w_i64, w_u64, w_u32, w_u8]; omega) | exact fun j hj => (put_0 hj).symm | (intro j _; simp only [Nat.zero_add]; done) | (simp [appG]; done) | (simp [appG]; omega) | rfl | (intro hgd; (try replace hgd := of_decide_eq_true hgd); (repeat ((conv => whnf); (with_reducible refine And.intro ?_ ?_); · first | with_reducible rfl | exact (Bool.and_false _).symm | (intro _ _; with_reducible rfl) | exact True.intro | assumption | (intro h; exact absurd h (by decide)) | omega | (intro _; omega) | (intro _; refine ⟨?_, True.intro⟩; omega) | (intro _; refine ⟨?_, True.intro⟩; intro _; omega) | (refine decide_eq_false ?_; omega) | (refine decide_eq_true ?_; omega) | (simp only [w_i64, w_u64, w_u32, w_u8]; omega) | exact fun j hj => (put_0 hj).symm | (intro j _; simp only [Nat.zero_add]; done) | (simp [appG]; done) | (simp [appG]; omega) | rfl)); (conv => whnf); exact True.intro))
  conv => whnf
  exact True.intro

/-- indentureref4.Quarter. -/
def rquarterS : Summary := mkS false [.v, .v, .v, .v] fun
  | [.v (.sc (.int .u32 a)), .v (.sc (.int .u32 b)), .v (.sc (.int .u32 c)), .v (.sc (.int .u32 d))] => some ⟨.and (.p (u32R a)) (.and (.p (u32R b)) (.and (.p (u32R c)) (.p (u32R d)))),
      some (.tup [.sc (.int .u32 (U (q2a (BitVec.ofInt 32 a) (BitVec.ofInt 32 b) (BitVec.ofInt 32 c) (BitVec.ofInt 32 d)))), .sc (.int .u32 (U (q2b (BitVec.ofInt 32 a) (BitVec.ofInt 32 b) (BitVec.ofInt 32 c) (BitVec.ofInt 32 d)))),
        .sc (.int .u32 (U (q2c (BitVec.ofInt 32 a) (BitVec.ofInt 32 b) (BitVec.ofInt 32 c) (BitVec.ofInt 32 d)))), .sc (.int .u32 (U (q2d (BitVec.ofInt 32 a) (BitVec.ofInt 32 b) (BitVec.ofInt 32 c) (BitVec.ofInt 32 d))))]), [], 0⟩
  | _ => none
theorem cok42 : COk Try.prog (tab [(74, turn4S)]) := cok_cons turn4S_ok cok_nil
theorem four {j : Nat} (h : j < 4) : j = 0 ∨ j = 1 ∨ j = 2 ∨ j = 3 := by omega
theorem rquarterS_ok : SumOk Try.prog 52 rquarterS := by
  unfold rquarterS
  apply sum_ok
  intro vs A H n o r hb h
  split at h
  rotate_left
  · cases h
  rename_i a b c d
  injection h with h
  subst h
  cases hb
  refine fsound_of_run tt_ok cok42 mixed_ok Try.call52 Try.func52 rfl (rs := _) Try.results52 (size := 38) Try.ntmps52 (Nat.le_of_ble_eq_true rfl) rfl fun hp hfa hfh => ?_
  obtain ⟨ha, hb, hc, hd⟩ := hp
  obtain ⟨A, rfl⟩ := u32_ex ha
  obtain ⟨B, rfl⟩ := u32_ex hb
  obtain ⟨C, rfl⟩ := u32_ex hc
  obtain ⟨D, rfl⟩ := u32_ex hd
  simp only [ofInt_U]
  have r0 : R32 (listI [U D, U C, U B, U A].reverse) 4 := fun j hj => by
    rcases four hj with rfl | rfl | rfl | rfl <;> exact ⟨U_nonneg _, U_lt32 _⟩
  have e0 : L32 (listI [U D, U C, U B, U A].reverse) 4 = [A, B, C, D] := by
    refine list_ext 0 (L32_length _ _) fun j hj => ?_
    rw [L32_length] at hj
    rcases four hj with rfl | rfl | rfl | rfl <;> exact ofInt_U _
  repeat (first | ((with_reducible refine (Cd.then_iff _ _).2 (And.intro ?_ ?_)); · repeat' ((conv => arg 1; whnf); first | exact Cd.holds_tt | (refine Cd.holds_p ?_; first | exact r0 | exact R32_UL _ _ | exact ⟨rfl, rfl⟩ | (refine ⟨?_, ?_, ?_, ?_, ?_, ?_, ?_, ?_, ?_⟩ <;> decide) | exact True.intro | (intro hg0; simp only [hg0, Bool.not_false, Bool.not_true]; done) | with_reducible assumption | omega | (intro _; refine ⟨True.intro, ?_⟩; omega) | (intro _; refine ⟨?_, True.intro⟩; omega) | (intro _; refine ⟨decide_eq_true ?_, ?_⟩ <;> omega) | (intro _; refine ⟨?_, ?_⟩ <;> first | omega | (simp [appG, Cd.holds]; done) | (simp [appG, Cd.holds]; omega)) | (refine decide_eq_true ?_; omega) | (intro _; omega) | (simp only [w_i64, w_u64, w_u32, w_u8]; omega) | exact ⟨U_nonneg _, U_lt32 _⟩ | exact R8_UL _ _ | exact R32_UL _ _ | (intro hg0; (repeat ((conv => whnf); (with_reducible refine And.intro ?_ ?_); · first | with_reducible assumption | omega | (intro _; refine ⟨?_, ?_⟩ <;> first | with_reducible assumption | omega | exact True.intro | (refine decide_eq_true ?_; omega) | (simp [appG, Cd.holds]; omega)) | (intro _; refine ⟨And.intro ?_ ?_, ?_⟩ <;> first | with_reducible assumption | omega | (refine decide_eq_true ?_; omega)) | (simp only [hg0, Bool.and_self, Bool.true_and]; done) | (intro hg1; simp only [hg0, hg1, Bool.and_self, Bool.true_and]; done) | (simp [hg0]; done) | exact r0 | exact R32_UL _ _ | exact ⟨rfl, rfl⟩ | (refine ⟨?_, ?_, ?_, ?_, ?_, ?_, ?_, ?_, ?_⟩ <;> decide))); (conv => whnf); exact True.intro)) | refine Cd.holds_and ?_ ?_ | (refine Cd.holds_imp fun hg0 => ?_))) | ((conv => whnf); (with_reducible refine And.intro ?_ ?_); · first | exact r0 | exact R32_UL _ _ | exact ⟨rfl, rfl⟩ | (refine ⟨?_, ?_, ?_, ?_, ?_, ?_, ?_, ?_, ?_⟩ <;> decide) | exact True.intro | (intro hg0; simp only [hg0, Bool.not_false, Bool.not_true]; done) | with_reducible assumption | omega | (intro _; refine ⟨True.intro, ?_⟩; omega) | (intro _; refine ⟨?_, True.intro⟩; omega) | (intro _; refine ⟨decide_eq_true ?_, ?_⟩ <;> omega) | (intro _; refine ⟨?_, ?_⟩ <;> first | omega | (simp [appG, Cd.holds]; done) | (simp [appG, Cd.holds]; omega)) | (refine decide_eq_true ?_; omega) | (intro _; omega) | (simp only [w_i64, w_u64, w_u32, w_u8]; omega) | exact ⟨U_nonneg _, U_lt32 _⟩ | exact R8_UL _ _ | exact R32_UL _ _ | (intro hg0; (repeat ((conv => whnf); (with_reducible refine And.intro ?_ ?_); · first | with_reducible assumption | omega | (intro _; refine ⟨?_, ?_⟩ <;> first | with_reducible assumption | omega | exact True.intro | (refine decide_eq_true ?_; omega) | (simp [appG, Cd.holds]; omega)) | (intro _; refine ⟨And.intro ?_ ?_, ?_⟩ <;> first | with_reducible assumption | omega | (refine decide_eq_true ?_; omega)) | (simp only [hg0, Bool.and_self, Bool.true_and]; done) | (intro hg1; simp only [hg0, hg1, Bool.and_self, Bool.true_and]; done) | (simp [hg0]; done) | exact r0 | exact R32_UL _ _ | exact ⟨rfl, rfl⟩ | (refine ⟨?_, ?_, ?_, ?_, ?_, ?_, ?_, ?_, ?_⟩ <;> decide))); (conv => whnf); exact True.intro)))
  conv => whnf
  have eL : ∀ p q r s : W32, L32 (UL [p, q, r, s]) 4 = [p, q, r, s] := fun _ _ _ _ => L32_UL' rfl
  have e1 : trn [A, B, C, D] (Int.toNat 0) (Int.toNat 1) (Int.toNat 3) (Int.toNat 16) = [A + B, B, C, q1d A B D] := rfl
  have e2 : trn [A + B, B, C, q1d A B D] (Int.toNat 2) (Int.toNat 3) (Int.toNat 1) (Int.toNat 12) = [A + B, q1b A B C D, q1c A B C D, q1d A B D] := rfl
  have e3 : trn [A + B, q1b A B C D, q1c A B C D, q1d A B D] (Int.toNat 0) (Int.toNat 1) (Int.toNat 3) (Int.toNat 8) = [q2a A B C D, q1b A B C D, q1c A B C D, q2d A B C D] := rfl
  have e4 : trn [q2a A B C D, q1b A B C D, q1c A B C D, q2d A B C D] (Int.toNat 2) (Int.toNat 3) (Int.toNat 1) (Int.toNat 7) = [q2a A B C D, q2b A B C D, q2c A B C D, q2d A B C D] := rfl
  simp only [e0, e1, eL, e2, e3, e4]
  refine ⟨[(0, ⟨0, some 26, []⟩), (1, ⟨1, some 27, []⟩), (2, ⟨3, some 28, []⟩), (3, ⟨0, some 29, []⟩), (4, ⟨8, some 30, []⟩), (5, ⟨24, some 31, []⟩), (6, ⟨0, some 32, []⟩), (7, ⟨64, some 33, []⟩), (8, ⟨192, some 34, []⟩), (9, ⟨0, some 35, []⟩), (10, ⟨512, some 36, []⟩), (11, ⟨1536, some 37, []⟩), (12, ⟨7, some 8, []⟩), (13, ⟨4159, some 9, []⟩), (14, ⟨12799, some 10, []⟩), (15, ⟨32767, some 11, []⟩)], 257, ?_⟩
  repeat (first | ((with_reducible refine (Cd.then_iff _ _).2 (And.intro ?_ ?_)); · repeat' ((conv => arg 1; whnf); first | exact Cd.holds_tt | (refine Cd.holds_p ?_; first | exact True.intro | (intro hg0; simp only [hg0, Bool.not_false, Bool.not_true]; done) | with_reducible assumption | omega | (intro _; refine ⟨True.intro, ?_⟩; omega) | (intro _; refine ⟨?_, True.intro⟩; omega) | (intro _; refine ⟨decide_eq_true ?_, ?_⟩ <;> omega) | (intro _; refine ⟨?_, ?_⟩ <;> first | omega | (simp [appG, Cd.holds]; done) | (simp [appG, Cd.holds]; omega)) | (refine decide_eq_true ?_; omega) | (intro _; omega) | (simp only [w_i64, w_u64, w_u32, w_u8]; omega) | exact ⟨U_nonneg _, U_lt32 _⟩ | exact R8_UL _ _ | exact R32_UL _ _ | (intro hg0; (repeat ((conv => whnf); (with_reducible refine And.intro ?_ ?_); · first | with_reducible assumption | omega | (intro _; refine ⟨?_, ?_⟩ <;> first | with_reducible assumption | omega | exact True.intro | (refine decide_eq_true ?_; omega) | (simp [appG, Cd.holds]; omega)) | (intro _; refine ⟨And.intro ?_ ?_, ?_⟩ <;> first | with_reducible assumption | omega | (refine decide_eq_true ?_; omega)) | (simp only [hg0, Bool.and_self, Bool.true_and]; done) | (intro hg1; simp only [hg0, hg1, Bool.and_self, Bool.true_and]; done) | (simp [hg0]; done))); (conv => whnf); exact True.intro)) | refine Cd.holds_and ?_ ?_ | (refine Cd.holds_imp fun hg0 => ?_))) | ((conv => whnf); (with_reducible refine And.intro ?_ ?_); · first | exact True.intro | (intro hg0; simp only [hg0, Bool.not_false, Bool.not_true]; done) | with_reducible assumption | omega | (intro _; refine ⟨True.intro, ?_⟩; omega) | (intro _; refine ⟨?_, True.intro⟩; omega) | (intro _; refine ⟨decide_eq_true ?_, ?_⟩ <;> omega) | (intro _; refine ⟨?_, ?_⟩ <;> first | omega | (simp [appG, Cd.holds]; done) | (simp [appG, Cd.holds]; omega)) | (refine decide_eq_true ?_; omega) | (intro _; omega) | (simp only [w_i64, w_u64, w_u32, w_u8]; omega) | exact ⟨U_nonneg _, U_lt32 _⟩ | exact R8_UL _ _ | exact R32_UL _ _ | (intro hg0; (repeat ((conv => whnf); (with_reducible refine And.intro ?_ ?_); · first | with_reducible assumption | omega | (intro _; refine ⟨?_, ?_⟩ <;> first | with_reducible assumption | omega | exact True.intro | (refine decide_eq_true ?_; omega) | (simp [appG, Cd.holds]; omega)) | (intro _; refine ⟨And.intro ?_ ?_, ?_⟩ <;> first | with_reducible assumption | omega | (refine decide_eq_true ?_; omega)) | (simp only [hg0, Bool.and_self, Bool.true_and]; done) | (intro hg1; simp only [hg0, hg1, Bool.and_self, Bool.true_and]; done) | (simp [hg0]; done))); (conv => whnf); exact True.intro)))
  conv => whnf
  refine ⟨[], ?_⟩
  repeat ((conv => whnf); (with_reducible refine And.intro ?_ ?_); · first | with_reducible rfl | exact (Bool.and_false _).symm | (intro _ _; with_reducible rfl) | exact True.intro | assumption | (intro h; exact absurd h (by decide)) | omega | (intro _; omega) | (intro _; refine ⟨?_, True.intro⟩; omega) | (intro _; refine ⟨?_, True.intro⟩; intro _; omega) | (refine decide_eq_false ?_; omega) | (refine decide_eq_true ?_; omega) | (simp only [w_i64, w_u64, w_u32, w_u8]; omega) | exact fun j hj => (put_0 hj).symm | (intro j _; simp only [Nat.zero_add]; done) | (simp [appG]; done) | (simp [appG]; omega) | rfl | (intro hgd; (try replace hgd := of_decide_eq_true hgd); (repeat ((conv => whnf); (with_reducible refine And.intro ?_ ?_); · first | with_reducible rfl | exact (Bool.and_false _).symm | (intro _ _; with_reducible rfl) | exact True.intro | assumption | (intro h; exact absurd h (by decide)) | omega | (intro _; omega) | (intro _; refine ⟨?_, True.intro⟩; omega) | (intro _; refine ⟨?_, True.intro⟩; intro _; omega) | (refine decide_eq_false ?_; omega) | (refine decide_eq_true ?_; omega) | (simp only [w_i64, w_u64, w_u32, w_u8]; omega) | exact fun j hj => (put_0 hj).symm | (intro j _; simp only [Nat.zero_add]; done) | (simp [appG]; done) | (simp [appG]; omega) | rfl)); (conv => whnf); exact True.intro))
  conv => whnf
  exact True.intro
end Go.Proofs.Ytogijkmflhjhkaa

/- Functions through the evaluator: the document's blocks of ChaCha20. No condition. -/
namespace Go.Proofs.Ytogijkmflhjhkaa
open Go.Sx Go.RowKit
set_option maxRecDepth 100000
set_option maxHeartbeats 2000000
set_option linter.unusedVariables false
set_option linter.unusedSimpArgs false

theorem cok43 : COk Try.prog (tab [(52, rquarterS), (77, low4S)]) := cok_cons rquarterS_ok (cok_cons low4S_ok cok_nil)
theorem app1w {l : List W32} {g : Nat → Int} {m : Nat} {b : W32} (hm : m = l.length) (hz : g 0 = U b) (j : Nat) (hj : j < m + 1) : UL (l ++ [b]) j = put_ (UL l) m 1 g j := by
  subst hm
  rw [← UL_app l [b] j hj]
  unfold put_
  show (if l.length ≤ j ∧ j < l.length + 1 then _ else _) = _
  split
  · rename_i h
    rw [show j - l.length = 0 by omega, hz]; rfl
  · rfl
theorem u32_UL (l : List W32) (j : Nat) : u32R (UL l j) := ⟨U_nonneg _, U_lt32 _⟩
theorem ne_of_beq_false {a b : Int} (h : (a == b) = false) : a ≠ b := fun e => by subst e; simp at h
/-- indentureref4.Block. -/
noncomputable def rblockS : Summary := mkS false [.v, .v, .v] fun
  | [.v (.agg [.ints .u8 k 32]), .v (.sc (.int .u32 c)), .v (.agg [.ints .u8 n 12])] => some ⟨.and (.p (R8 k 32)) (.and (.p (u32R c)) (.p (R8 n 12))),
      some (.sa (.agg [.ints .u8 (UL (chBlock (L8 k 32) (BitVec.ofInt 32 c) (L8 n 12))) 64])), [], 0⟩
  | _ => none
theorem rblockS_ok : SumOk Try.prog 56 rblockS := by
  unfold rblockS
  apply sum_ok
  intro vs A H n o r hb h
  split at h
  rotate_left
  · cases h
  rename_i k c n
  injection h with h
  subst h
  cases hb
  refine fsound_of_run tt_ok cok43 mixed_ok Try.call56 Try.func56 rfl (rs := _) Try.results56 (size := 137) Try.ntmps56 (Nat.le_of_ble_eq_true rfl) rfl fun hp hfa hfh => ?_
  obtain ⟨hk, hc, hn⟩ := hp
  have hk : R8 k 32 := hk
  have hn : R8 n 12 := hn
  have hc : u32R c := hc
  obtain ⟨C, rfl⟩ := u32_ex hc
  rw [ofInt_U]
  have hbe := chBlock_eq (L8 k 32) C (L8 n 12)
  repeat ((conv => whnf); (with_reducible refine And.intro ?_ ?_); · first | exact True.intro | (intro hg0; simp only [hg0, Bool.not_false, Bool.not_true]; done) | with_reducible assumption | omega | (intro _; refine ⟨True.intro, ?_⟩; omega) | (intro _; refine ⟨?_, True.intro⟩; omega) | (intro _; refine ⟨decide_eq_true ?_, ?_⟩ <;> omega) | (intro _; refine ⟨?_, ?_⟩ <;> first | omega | (simp [appG, Cd.holds]; done) | (simp [appG, Cd.holds]; omega)) | (refine decide_eq_true ?_; omega) | (intro _; omega) | (simp only [w_i64, w_u64, w_u32, w_u8]; omega) | exact ⟨U_nonneg _, U_lt32 _⟩ | exact R8_UL _ _ | exact R32_UL _ _ | (intro hg0; (repeat ((conv => whnf); (with_reducible refine And.intro ?_ ?_); · first | with_reducible assumption | omega | (intro _; refine ⟨?_, ?_⟩ <;> first | with_reducible assumption | omega | exact True.intro | (refine decide_eq_true ?_; omega) | (simp [appG, Cd.holds]; omega)) | (intro _; refine ⟨And.intro ?_ ?_, ?_⟩ <;> first | with_reducible assumption | omega | (refine decide_eq_true ?_; omega)) | (simp only [hg0, Bool.and_self, Bool.true_and]; done) | (intro hg1; simp only [hg0, hg1, Bool.and_self, Bool.true_and]; done) | (simp [hg0]; done))); (conv => whnf); exact True.intro))
  conv => whnf
  refine ⟨0, Nat, fun i => ⟨137, [(1, .sa (.sc (.int .u32 (U C)))), (3, .sa (.sc (.ptr 0 0 0))), (5, .sa (.sc (.ptr 1 0 0))), (6, .sa (.sc (.ptr 2 0 0))), (7, .sa (.sc (ownA false (4 + i) 3))), (8, .sa (.sc (.int .i64 i)))],
    [(0, .own 29 [.ints .u8 k 32] false), (1, .own 61 [.ints .u8 n 12] false), (2, .own 63 [.ints .u8 (fun _ => 0) 64] false), (3, ownB 57 .u32 (UL (chC ++ chK (L8 k 32) i)) (4 + i))], 4⟩, fun i => i ≤ 8, fun i => 8 - i, ⟨0, by omega, le_of [] ?_⟩, fun i hi => ?_⟩
  · have h0 : ∀ j, j < 4 → UL (chC ++ chK (L8 k 32) 0) j = listI [1797285236, 2036477234, 857760878, 1634760805].reverse j := fun j hj => by
      rw [show chC ++ chK (L8 k 32) 0 = chC from List.append_nil _]
      rcases four hj with rfl | rfl | rfl | rfl <;> decide
    repeat ((conv => whnf); (with_reducible refine And.intro ?_ ?_); · first | with_reducible rfl | exact (Bool.and_false _).symm | (intro _ _; with_reducible rfl) | exact True.intro | assumption | (intro h; exact absurd h (by decide)) | omega | (intro _; omega) | (intro _; refine ⟨?_, True.intro⟩; omega) | (intro _; refine ⟨?_, True.intro⟩; intro _; omega) | (refine decide_eq_false ?_; omega) | (refine decide_eq_true ?_; omega) | (simp only [w_i64, w_u64, w_u32, w_u8]; omega) | exact fun j hj => (put_0 hj).symm | (intro j _; simp only [Nat.zero_add]; done) | (simp [appG]; done) | (simp [appG]; omega) | exact h0 | (intro hgd; (try replace hgd := of_decide_eq_true hgd); (repeat ((conv => whnf); (with_reducible refine And.intro ?_ ?_); · first | with_reducible rfl | exact (Bool.and_false _).symm | (intro _ _; with_reducible rfl) | exact True.intro | assumption | (intro h; exact absurd h (by decide)) | omega | (intro _; omega) | (intro _; refine ⟨?_, True.intro⟩; omega) | (intro _; refine ⟨?_, True.intro⟩; intro _; omega) | (refine decide_eq_false ?_; omega) | (refine decide_eq_true ?_; omega) | (simp only [w_i64, w_u64, w_u32, w_u8]; omega) | exact fun j hj => (put_0 hj).symm | (intro j _; simp only [Nat.zero_add]; done) | (simp [appG]; done) | (simp [appG]; omega) | exact h0)); (conv => whnf); exact True.intro))
    conv => whnf
    exact True.intro
  have hi : i ≤ 8 := hi
  have hl : (chC ++ chK (L8 k 32) i).length = 4 + i := by rw [List.length_append, chK_length]; rfl
  repeat ((conv => whnf); (with_reducible refine And.intro ?_ ?_); · first | exact True.intro | (intro hg0; simp only [hg0, Bool.not_false, Bool.not_true]; done) | with_reducible assumption | omega | (intro _; refine ⟨True.intro, ?_⟩; omega) | (intro _; refine ⟨?_, True.intro⟩; omega) | (intro _; refine ⟨decide_eq_true ?_, ?_⟩ <;> omega) | (intro _; refine ⟨?_, ?_⟩ <;> first | omega | (simp [appG, Cd.holds]; done) | (simp [appG, Cd.holds]; omega)) | (refine decide_eq_true ?_; omega) | (intro _; omega) | (simp only [w_i64, w_u64, w_u32, w_u8]; omega) | exact ⟨U_nonneg _, U_lt32 _⟩ | exact R8_UL _ _ | exact R32_UL _ _ | (intro hg0; (repeat ((conv => whnf); (with_reducible refine And.intro ?_ ?_); · first | with_reducible assumption | omega | (intro _; refine ⟨?_, ?_⟩ <;> first | with_reducible assumption | omega | exact True.intro | (refine decide_eq_true ?_; omega) | (simp [appG, Cd.holds]; omega)) | (intro _; refine ⟨And.intro ?_ ?_, ?_⟩ <;> first | with_reducible assumption | omega | (refine decide_eq_true ?_; omega)) | (simp only [hg0, Bool.and_self, Bool.true_and]; done) | (intro hg1; simp only [hg0, hg1, Bool.and_self, Bool.true_and]; done) | (simp [hg0]; done))); (conv => whnf); exact True.intro))
  conv => whnf
  refine ⟨fun h1 => ?_, fun h1 => ?_⟩
  · replace h1 := of_decide_eq_true h1
    have w0 : IntKind.i64.wrap (4 * (i : Int)) = ((4 * i : Nat) : Int) := by rw [w_i64]; omega
    have hr : R8 (fun j => k (4 * i + j)) (32 - 4 * i) := fun j hj => hk _ (by omega)
    have hb := le_blk (f := k) (a := 4 * i) (n := 32 - 4 * i) (i := i) (N := 32) rfl (by omega) (by omega)
    repeat ((conv => whnf); (with_reducible refine And.intro ?_ ?_); · first | exact True.intro | (intro hg0; simp only [hg0, Bool.not_false, Bool.not_true]; done) | with_reducible assumption | omega | (intro _; refine ⟨True.intro, ?_⟩; omega) | (intro _; refine ⟨?_, True.intro⟩; omega) | (intro _; refine ⟨decide_eq_true ?_, ?_⟩ <;> omega) | (intro _; refine ⟨?_, ?_⟩ <;> first | omega | (simp [appG, Cd.holds]; done) | (simp [appG, Cd.holds]; omega)) | (refine decide_eq_true ?_; omega) | (intro _; omega) | (simp only [w0, Int.toNat_natCast]; omega) | (simp only [w0, Int.toNat_natCast]; intro _; refine ⟨?_, ?_⟩ <;> first | omega | (refine decide_eq_true ?_; omega)) | exact ⟨U_nonneg _, U_lt32 _⟩ | exact R8_UL _ _ | exact R32_UL _ _ | (intro hg0; (repeat ((conv => whnf); (with_reducible refine And.intro ?_ ?_); · first | with_reducible assumption | omega | (intro _; refine ⟨?_, ?_⟩ <;> first | with_reducible assumption | omega | exact True.intro | (refine decide_eq_true ?_; omega) | (simp [appG, Cd.holds]; omega)) | (intro _; refine ⟨And.intro ?_ ?_, ?_⟩ <;> first | with_reducible assumption | omega | (refine decide_eq_true ?_; omega)) | (simp only [hg0, Bool.and_self, Bool.true_and]; done) | (intro hg1; simp only [hg0, hg1, Bool.and_self, Bool.true_and]; done) | (simp [hg0]; done) | (simp only [w0, Int.toNat_natCast]; exact hr) | (simp only [w0, Int.toNat_natCast]; omega))); (conv => whnf); exact True.intro) | (simp only [w0, Int.toNat_natCast]; exact hr) | (simp only [w0, Int.toNat_natCast]; omega))
    conv => whnf
    simp only [w0, Int.toNat_natCast, hb]
    refine ⟨i + 1, ⟨by show i + 1 ≤ 8; omega, by show 8 - (i + 1) < 8 - i; omega⟩, le_of [(3, 5)] ?_⟩
    have hfin : ∀ j, j < 4 + i + 1 → UL (chC ++ chK (L8 k 32) (i + 1)) j = put_ (UL (chC ++ chK (L8 k 32) i)) (4 + i) 1 (fun j => listI [U (le4 (L8 k 32) i)].reverse (0 + j)) j := fun j hj => by
      rw [chK_succ, ← List.append_assoc]
      exact app1w hl.symm rfl j hj
    simp only [← Nat.add_assoc]
    repeat ((conv => whnf); (with_reducible refine And.intro ?_ ?_); · first | with_reducible rfl | exact (Bool.and_false _).symm | (intro _ _; with_reducible rfl) | exact True.intro | assumption | (intro h; exact absurd h (by decide)) | omega | (intro _; omega) | (intro _; refine ⟨?_, True.intro⟩; omega) | (intro _; refine ⟨?_, True.intro⟩; intro _; omega) | (refine decide_eq_false ?_; omega) | (refine decide_eq_true ?_; omega) | (simp only [w_i64, w_u64, w_u32, w_u8]; omega) | exact fun j hj => (put_0 hj).symm | (intro j _; simp only [Nat.zero_add]; done) | (simp [appG]; done) | (simp [appG]; omega) | exact hfin | (intro hgd; (try replace hgd := of_decide_eq_true hgd); (repeat ((conv => whnf); (with_reducible refine And.intro ?_ ?_); · first | with_reducible rfl | exact (Bool.and_false _).symm | (intro _ _; with_reducible rfl) | exact True.intro | assumption | (intro h; exact absurd h (by decide)) | omega | (intro _; omega) | (intro _; refine ⟨?_, True.intro⟩; omega) | (intro _; refine ⟨?_, True.intro⟩; intro _; omega) | (refine decide_eq_false ?_; omega) | (refine decide_eq_true ?_; omega) | (simp only [w_i64, w_u64, w_u32, w_u8]; omega) | exact fun j hj => (put_0 hj).symm | (intro j _; simp only [Nat.zero_add]; done) | (simp [appG]; done) | (simp [appG]; omega) | exact hfin)); (conv => whnf); exact True.intro))
    conv => whnf
    exact True.intro
  · replace h1 := of_decide_eq_false h1
    have hi8 : i = 8 := by omega
    subst hi8
    repeat ((conv => whnf); (with_reducible refine And.intro ?_ ?_); · first | exact True.intro | (intro hg0; simp only [hg0, Bool.not_false, Bool.not_true]; done) | with_reducible assumption | omega | (intro _; refine ⟨True.intro, ?_⟩; omega) | (intro _; refine ⟨?_, True.intro⟩; omega) | (intro _; refine ⟨decide_eq_true ?_, ?_⟩ <;> omega) | (intro _; refine ⟨?_, ?_⟩ <;> first | omega | (simp [appG, Cd.holds]; done) | (simp [appG, Cd.holds]; omega)) | (refine decide_eq_true ?_; omega) | (intro _; omega) | (simp only [w_i64, w_u64, w_u32, w_u8]; omega) | exact ⟨U_nonneg _, U_lt32 _⟩ | exact R8_UL _ _ | exact R32_UL _ _ | (intro hg0; (repeat ((conv => whnf); (with_reducible refine And.intro ?_ ?_); · first | with_reducible assumption | omega | (intro _; refine ⟨?_, ?_⟩ <;> first | with_reducible assumption | omega | exact True.intro | (refine decide_eq_true ?_; omega) | (simp [appG, Cd.holds]; omega)) | (intro _; refine ⟨And.intro ?_ ?_, ?_⟩ <;> first | with_reducible assumption | omega | (refine decide_eq_true ?_; omega)) | (simp only [hg0, Bool.and_self, Bool.true_and]; done) | (intro hg1; simp only [hg0, hg1, Bool.and_self, Bool.true_and]; done) | (simp [hg0]; done))); (conv => whnf); exact True.intro))
    conv => whnf
    have hn0 : R8 (fun j => n (Int.toNat 0 + j)) (12 - Int.toNat 0) := fun j hj => hn (0 + j) (by have : j < 12 - 0 := hj; omega)
    have hn4 : R8 (fun j => n (Int.toNat 4 + j)) (12 - Int.toNat 4) := fun j hj => hn (4 + j) (by have : j < 12 - 4 := hj; omega)
    have hn8 : R8 (fun j => n (Int.toNat 8 + j)) (12 - Int.toNat 8) := fun j hj => hn (8 + j) (by have : j < 12 - 8 := hj; omega)
    have b0 : le4 (L8 (fun j => n (Int.toNat 0 + j)) (12 - Int.toNat 0)) 0 = le4 (L8 n 12) 0 := le_blk (f := n) (a := 0) (n := 12) (i := 0) (N := 12) rfl (by omega) (by omega)
    have b4 : le4 (L8 (fun j => n (Int.toNat 4 + j)) (12 - Int.toNat 4)) 0 = le4 (L8 n 12) 1 := le_blk (f := n) (a := 4) (n := 8) (i := 1) (N := 12) rfl (by omega) (by omega)
    have b8 : le4 (L8 (fun j => n (Int.toNat 8 + j)) (12 - Int.toNat 8)) 0 = le4 (L8 n 12) 2 := le_blk (f := n) (a := 8) (n := 4) (i := 2) (N := 12) rfl (by omega) (by omega)
    refine ⟨[(0, ⟨0, some 33, []⟩), (1, ⟨0, some 34, []⟩), (2, ⟨0, some 35, []⟩), (3, ⟨4, some 36, []⟩), (4, ⟨0, some 37, []⟩), (5, ⟨28, some 38, []⟩), (6, ⟨0, some 39, []⟩), (7, ⟨124, some 40, []⟩), (8, ⟨254, some 41, [132]⟩), (9, ⟨511, some 42, [148, 3]⟩), (10, ⟨1023, some 7, []⟩)], 180, ?_⟩
    repeat (first | ((with_reducible refine (Cd.then_iff _ _).2 (And.intro ?_ ?_)); · repeat' ((conv => arg 1; whnf); first | exact Cd.holds_tt | (refine Cd.holds_p ?_; first | exact hn0 | exact hn4 | exact hn8 | decide | exact True.intro | (intro hg0; simp only [hg0, Bool.not_false, Bool.not_true]; done) | with_reducible assumption | omega | (intro _; refine ⟨True.intro, ?_⟩; omega) | (intro _; refine ⟨?_, True.intro⟩; omega) | (intro _; refine ⟨decide_eq_true ?_, ?_⟩ <;> omega) | (intro _; refine ⟨?_, ?_⟩ <;> first | omega | (simp [appG, Cd.holds]; done) | (simp [appG, Cd.holds]; omega)) | (refine decide_eq_true ?_; omega) | (intro _; omega) | (simp only [w_i64, w_u64, w_u32, w_u8]; omega) | exact ⟨U_nonneg _, U_lt32 _⟩ | exact R8_UL _ _ | exact R32_UL _ _ | (intro hg0; (repeat ((conv => whnf); (with_reducible refine And.intro ?_ ?_); · first | with_reducible assumption | omega | (intro _; refine ⟨?_, ?_⟩ <;> first | with_reducible assumption | omega | exact True.intro | (refine decide_eq_true ?_; omega) | (simp [appG, Cd.holds]; omega)) | (intro _; refine ⟨And.intro ?_ ?_, ?_⟩ <;> first | with_reducible assumption | omega | (refine decide_eq_true ?_; omega)) | (simp only [hg0, Bool.and_self, Bool.true_and]; done) | (intro hg1; simp only [hg0, hg1, Bool.and_self, Bool.true_and]; done) | (simp [hg0]; done) | exact hn0 | exact hn4 | exact hn8 | decide)); (conv => whnf); exact True.intro)) | refine Cd.holds_and ?_ ?_ | (refine Cd.holds_imp fun hg0 => ?_))) | ((conv => whnf); (with_reducible refine And.intro ?_ ?_); · first | exact hn0 | exact hn4 | exact hn8 | decide | exact True.intro | (intro hg0; simp only [hg0, Bool.not_false, Bool.not_true]; done) | with_reducible assumption | omega | (intro _; refine ⟨True.intro, ?_⟩; omega) | (intro _; refine ⟨?_, True.intro⟩; omega) | (intro _; refine ⟨decide_eq_true ?_, ?_⟩ <;> omega) | (intro _; refine ⟨?_, ?_⟩ <;> first | omega | (simp [appG, Cd.holds]; done) | (simp [appG, Cd.holds]; omega)) | (refine decide_eq_true ?_; omega) | (intro _; omega) | (simp only [w_i64, w_u64, w_u32, w_u8]; omega) | exact ⟨U_nonneg _, U_lt32 _⟩ | exact R8_UL _ _ | exact R32_UL _ _ | (intro hg0; (repeat ((conv => whnf); (with_reducible refine And.intro ?_ ?_); · first | with_reducible assumption | omega | (intro _; refine ⟨?_, ?_⟩ <;> first | with_reducible assumption | omega | exact True.intro | (refine decide_eq_true ?_; omega) | (simp [appG, Cd.holds]; omega)) | (intro _; refine ⟨And.intro ?_ ?_, ?_⟩ <;> first | with_reducible assumption | omega | (refine decide_eq_true ?_; omega)) | (simp only [hg0, Bool.and_self, Bool.true_and]; done) | (intro hg1; simp only [hg0, hg1, Bool.and_self, Bool.true_and]; done) | (simp [hg0]; done) | exact hn0 | exact hn4 | exact hn8 | decide)); (conv => whnf); exact True.intro)))
    conv => whnf
    simp only [b0, b4, b8]
    obtain ⟨S, hS⟩ : ∃ S, S = chInit (L8 k 32) C (L8 n 12) := ⟨_, rfl⟩
    have hSl : S.length = 16 := by rw [hS, chInit_length]
    have hSe : S = (chC ++ chK (L8 k 32) 8) ++ [C, le4 (L8 n 12) 0, le4 (L8 n 12) 1, le4 (L8 n 12) 2] := by rw [hS]; unfold chInit; rw [List.append_assoc]; rfl
    rw [← hS] at hbe
    have hSc : ∀ j, j < 16 → UL S j = put_ (UL (chC ++ chK (L8 k 32) 8)) (4 + 8) 4 (fun j => listI [U (le4 (L8 n 12) 2), U (le4 (L8 n 12) 1), U (le4 (L8 n 12) 0), U C].reverse (0 + j)) j := fun j hj => by
      rw [hSe, ← UL_app _ _ _ (by rw [hl]; exact hj), hl]
      unfold put_
      show (if 4 + 8 ≤ j ∧ j < 4 + 8 + 4 then _ else _) = _
      split
      · rename_i h
        rcases four (show j - (4 + 8) < 4 by omega) with e | e | e | e <;> rw [e] <;> rfl
      · rfl
    rw [hbe]
    repeat (first | ((with_reducible refine (Cd.then_iff _ _).2 (And.intro ?_ ?_)); · repeat' ((conv => arg 1; whnf); first | exact Cd.holds_tt | (refine Cd.holds_p ?_; first | exact True.intro | (intro hg0; simp only [hg0, Bool.not_false, Bool.not_true]; done) | with_reducible assumption | omega | (intro _; refine ⟨True.intro, ?_⟩; omega) | (intro _; refine ⟨?_, True.intro⟩; omega) | (intro _; refine ⟨decide_eq_true ?_, ?_⟩ <;> omega) | (intro _; refine ⟨?_, ?_⟩ <;> first | omega | (simp [appG, Cd.holds]; done) | (simp [appG, Cd.holds]; omega)) | (refine decide_eq_true ?_; omega) | (intro _; omega) | (simp only [w_i64, w_u64, w_u32, w_u8]; omega) | exact ⟨U_nonneg _, U_lt32 _⟩ | exact R8_UL _ _ | exact R32_UL _ _ | (intro hg0; (repeat ((conv => whnf); (with_reducible refine And.intro ?_ ?_); · first | with_reducible assumption | omega | (intro _; refine ⟨?_, ?_⟩ <;> first | with_reducible assumption | omega | exact True.intro | (refine decide_eq_true ?_; omega) | (simp [appG, Cd.holds]; omega)) | (intro _; refine ⟨And.intro ?_ ?_, ?_⟩ <;> first | with_reducible assumption | omega | (refine decide_eq_true ?_; omega)) | (simp only [hg0, Bool.and_self, Bool.true_and]; done) | (intro hg1; simp only [hg0, hg1, Bool.and_self, Bool.true_and]; done) | (simp [hg0]; done))); (conv => whnf); exact True.intro)) | refine Cd.holds_and ?_ ?_ | (refine Cd.holds_imp fun hg0 => ?_))) | ((conv => whnf); (with_reducible refine And.intro ?_ ?_); · first | exact True.intro | (intro hg0; simp only [hg0, Bool.not_false, Bool.not_true]; done) | with_reducible assumption | omega | (intro _; refine ⟨True.intro, ?_⟩; omega) | (intro _; refine ⟨?_, True.intro⟩; omega) | (intro _; refine ⟨decide_eq_true ?_, ?_⟩ <;> omega) | (intro _; refine ⟨?_, ?_⟩ <;> first | omega | (simp [appG, Cd.holds]; done) | (simp [appG, Cd.holds]; omega)) | (refine decide_eq_true ?_; omega) | (intro _; omega) | (simp only [w_i64, w_u64, w_u32, w_u8]; omega) | exact ⟨U_nonneg _, U_lt32 _⟩ | exact R8_UL _ _ | exact R32_UL _ _ | (intro hg0; (repeat ((conv => whnf); (with_reducible refine And.intro ?_ ?_); · first | with_reducible assumption | omega | (intro _; refine ⟨?_, ?_⟩ <;> first | with_reducible assumption | omega | exact True.intro | (refine decide_eq_true ?_; omega) | (simp [appG, Cd.holds]; omega)) | (intro _; refine ⟨And.intro ?_ ?_, ?_⟩ <;> first | with_reducible assumption | omega | (refine decide_eq_true ?_; omega)) | (simp only [hg0, Bool.and_self, Bool.true_and]; done) | (intro hg1; simp only [hg0, hg1, Bool.and_self, Bool.true_and]; done) | (simp [hg0]; done))); (conv => whnf); exact True.intro)))
    conv => whnf
    have hW : ∀ j, j < 16 → UL S j = put_ (fun _ => 0) 0 (4 + 8 + 4) (fun j => put_ (UL (chC ++ chK (L8 k 32) 8)) (4 + 8) 4 (fun j => listI [U (le4 (L8 n 12) 2), U (le4 (L8 n 12) 1), U (le4 (L8 n 12) 0), U C].reverse (0 + j)) (0 + j)) j := fun j hj => by
      rw [put_0 (show j < 4 + 8 + 4 from hj), Nat.zero_add]
      exact hSc j hj
    refine ⟨0, Nat, fun i => ⟨137, [(6, .sa (.sc (.ptr 2 0 0))), (7, .sa (.sc (ownA false 16 3))), (9, .sa (.sc (ownA false 16 4))), (10, .sa (.sc (.int .i64 i)))],
      [(2, .own 63 [.ints .u8 (fun _ => 0) 64] false), (3, ownB 57 .u32 (UL S) 16), (4, ownB 57 .u32 (UL (chN S i)) 16)], 5⟩, fun i => i ≤ 20, fun i => 20 - i, ⟨0, by omega, le_of [(3, 148), (4, 180)] ?_⟩, fun i hi => ?_⟩
    · simp only [show chN S 0 = S from rfl]
      repeat ((conv => whnf); (with_reducible refine And.intro ?_ ?_); · first | with_reducible rfl | exact (Bool.and_false _).symm | (intro _ _; with_reducible rfl) | exact True.intro | assumption | (intro h; exact absurd h (by decide)) | omega | (intro _; omega) | (intro _; refine ⟨?_, True.intro⟩; omega) | (intro _; refine ⟨?_, True.intro⟩; intro _; omega) | (refine decide_eq_false ?_; omega) | (refine decide_eq_true ?_; omega) | (simp only [w_i64, w_u64, w_u32, w_u8]; omega) | exact fun j hj => (put_0 hj).symm | (intro j _; simp only [Nat.zero_add]; done) | (simp [appG]; done) | (simp [appG]; omega) | exact hSc | exact hW | (intro hgd; (try replace hgd := of_decide_eq_true hgd); (repeat ((conv => whnf); (with_reducible refine And.intro ?_ ?_); · first | with_reducible rfl | exact (Bool.and_false _).symm | (intro _ _; with_reducible rfl) | exact True.intro | assumption | (intro h; exact absurd h (by decide)) | omega | (intro _; omega) | (intro _; refine ⟨?_, True.intro⟩; omega) | (intro _; refine ⟨?_, True.intro⟩; intro _; omega) | (refine decide_eq_false ?_; omega) | (refine decide_eq_true ?_; omega) | (simp only [w_i64, w_u64, w_u32, w_u8]; omega) | exact fun j hj => (put_0 hj).symm | (intro j _; simp only [Nat.zero_add]; done) | (simp [appG]; done) | (simp [appG]; omega) | exact hSc | exact hW)); (conv => whnf); exact True.intro))
      conv => whnf
      exact True.intro
    have hi : i ≤ 20 := hi
    repeat ((conv => whnf); (with_reducible refine And.intro ?_ ?_); · first | exact True.intro | (intro hg0; simp only [hg0, Bool.not_false, Bool.not_true]; done) | with_reducible assumption | omega | (intro _; refine ⟨True.intro, ?_⟩; omega) | (intro _; refine ⟨?_, True.intro⟩; omega) | (intro _; refine ⟨decide_eq_true ?_, ?_⟩ <;> omega) | (intro _; refine ⟨?_, ?_⟩ <;> first | omega | (simp [appG, Cd.holds]; done) | (simp [appG, Cd.holds]; omega)) | (refine decide_eq_true ?_; omega) | (intro _; omega) | (simp only [w_i64, w_u64, w_u32, w_u8]; omega) | exact ⟨U_nonneg _, U_lt32 _⟩ | exact R8_UL _ _ | exact R32_UL _ _ | (intro hg0; (repeat ((conv => whnf); (with_reducible refine And.intro ?_ ?_); · first | with_reducible assumption | omega | (intro _; refine ⟨?_, ?_⟩ <;> first | with_reducible assumption | omega | exact True.intro | (refine decide_eq_true ?_; omega) | (simp [appG, Cd.holds]; omega)) | (intro _; refine ⟨And.intro ?_ ?_, ?_⟩ <;> first | with_reducible assumption | omega | (refine decide_eq_true ?_; omega)) | (simp only [hg0, Bool.and_self, Bool.true_and]; done) | (intro hg1; simp only [hg0, hg1, Bool.and_self, Bool.true_and]; done) | (simp [hg0]; done))); (conv => whnf); exact True.intro))
    conv => whnf
    refine ⟨fun h2 => ?_, fun h2 => ?_⟩
    · replace h2 := of_decide_eq_true h2
      obtain ⟨X, hX⟩ : ∃ X, X = chN S i := ⟨_, rfl⟩
      have hXl : X.length = 16 := by rw [hX, chN_length, hSl]
      rw [← hX]
      repeat ((conv => whnf); (with_reducible refine And.intro ?_ ?_); · first | exact True.intro | (intro hg0; simp only [hg0, Bool.not_false, Bool.not_true]; done) | with_reducible assumption | omega | (intro _; refine ⟨True.intro, ?_⟩; omega) | (intro _; refine ⟨?_, True.intro⟩; omega) | (intro _; refine ⟨decide_eq_true ?_, ?_⟩ <;> omega) | (intro _; refine ⟨?_, ?_⟩ <;> first | omega | (simp [appG, Cd.holds]; done) | (simp [appG, Cd.holds]; omega)) | (refine decide_eq_true ?_; omega) | (intro _; omega) | (simp only [w_i64, w_u64, w_u32, w_u8]; omega) | exact ⟨U_nonneg _, U_lt32 _⟩ | exact R8_UL _ _ | exact R32_UL _ _ | (intro hg0; (repeat ((conv => whnf); (with_reducible refine And.intro ?_ ?_); · first | with_reducible assumption | omega | (intro _; refine ⟨?_, ?_⟩ <;> first | with_reducible assumption | omega | exact True.intro | (refine decide_eq_true ?_; omega) | (simp [appG, Cd.holds]; omega)) | (intro _; refine ⟨And.intro ?_ ?_, ?_⟩ <;> first | with_reducible assumption | omega | (refine decide_eq_true ?_; omega)) | (simp only [hg0, Bool.and_self, Bool.true_and]; done) | (intro hg1; simp only [hg0, hg1, Bool.and_self, Bool.true_and]; done) | (simp [hg0]; done))); (conv => whnf); exact True.intro))
      conv => whnf
      refine ⟨0, Nat, fun kk => ⟨137, [(6, .sa (.sc (.ptr 2 0 0))), (7, .sa (.sc (ownA false 16 3))), (9, .sa (.sc (ownA false 16 4))), (10, .sa (.sc (.int .i64 i))), (11, .sa (.sc (.int .i64 kk)))],
        [(2, .own 63 [.ints .u8 (fun _ => 0) 64] false), (3, ownB 57 .u32 (UL S) 16), (4, ownB 57 .u32 (UL (single X (i % 2) kk)) 16)], 5⟩, fun kk => kk ≤ 4, fun kk => 4 - kk, ⟨0, by omega, le_of [] ?_⟩, fun kk hkk => ?_⟩
      · simp only [show single X (i % 2) 0 = X from rfl]
        repeat ((conv => whnf); (with_reducible refine And.intro ?_ ?_); · first | with_reducible rfl | exact (Bool.and_false _).symm | (intro _ _; with_reducible rfl) | exact True.intro | assumption | (intro h; exact absurd h (by decide)) | omega | (intro _; omega) | (intro _; refine ⟨?_, True.intro⟩; omega) | (intro _; refine ⟨?_, True.intro⟩; intro _; omega) | (refine decide_eq_false ?_; omega) | (refine decide_eq_true ?_; omega) | (simp only [w_i64, w_u64, w_u32, w_u8]; omega) | exact fun j hj => (put_0 hj).symm | (intro j _; simp only [Nat.zero_add]; done) | (simp [appG]; done) | (simp [appG]; omega) | (intro hgd; (try replace hgd := of_decide_eq_true hgd); (repeat ((conv => whnf); (with_reducible refine And.intro ?_ ?_); · first | with_reducible rfl | exact (Bool.and_false _).symm | (intro _ _; with_reducible rfl) | exact True.intro | assumption | (intro h; exact absurd h (by decide)) | omega | (intro _; omega) | (intro _; refine ⟨?_, True.intro⟩; omega) | (intro _; refine ⟨?_, True.intro⟩; intro _; omega) | (refine decide_eq_false ?_; omega) | (refine decide_eq_true ?_; omega) | (simp only [w_i64, w_u64, w_u32, w_u8]; omega) | exact fun j hj => (put_0 hj).symm | (intro j _; simp only [Nat.zero_add]; done) | (simp [appG]; done) | (simp [appG]; omega))); (conv => whnf); exact True.intro))
        conv => whnf
        exact True.intro
      have hkk : kk ≤ 4 := hkk
      repeat ((conv => whnf); (with_reducible refine And.intro ?_ ?_); · first | exact True.intro | (intro hg0; simp only [hg0, Bool.not_false, Bool.not_true]; done) | with_reducible assumption | omega | (intro _; refine ⟨True.intro, ?_⟩; omega) | (intro _; refine ⟨?_, True.intro⟩; omega) | (intro _; refine ⟨decide_eq_true ?_, ?_⟩ <;> omega) | (intro _; refine ⟨?_, ?_⟩ <;> first | omega | (simp [appG, Cd.holds]; done) | (simp [appG, Cd.holds]; omega)) | (refine decide_eq_true ?_; omega) | (intro _; omega) | (simp only [w_i64, w_u64, w_u32, w_u8]; omega) | exact ⟨U_nonneg _, U_lt32 _⟩ | exact R8_UL _ _ | exact R32_UL _ _ | (intro hg0; (repeat ((conv => whnf); (with_reducible refine And.intro ?_ ?_); · first | with_reducible assumption | omega | (intro _; refine ⟨?_, ?_⟩ <;> first | with_reducible assumption | omega | exact True.intro | (refine decide_eq_true ?_; omega) | (simp [appG, Cd.holds]; omega)) | (intro _; refine ⟨And.intro ?_ ?_, ?_⟩ <;> first | with_reducible assumption | omega | (refine decide_eq_true ?_; omega)) | (simp only [hg0, Bool.and_self, Bool.true_and]; done) | (intro hg1; simp only [hg0, hg1, Bool.and_self, Bool.true_and]; done) | (simp [hg0]; done))); (conv => whnf); exact True.intro))
      conv => whnf
      refine ⟨fun h3 => ?_, fun h3 => ?_⟩
      · replace h3 := of_decide_eq_true h3
        have hk4 : kk < 4 := by omega
        repeat ((conv => whnf); (with_reducible refine And.intro ?_ ?_); · first | exact True.intro | (intro hg0; simp only [hg0, Bool.not_false, Bool.not_true]; done) | with_reducible assumption | omega | (intro _; refine ⟨True.intro, ?_⟩; omega) | (intro _; refine ⟨?_, True.intro⟩; omega) | (intro _; refine ⟨decide_eq_true ?_, ?_⟩ <;> omega) | (intro _; refine ⟨?_, ?_⟩ <;> first | omega | (simp [appG, Cd.holds]; done) | (simp [appG, Cd.holds]; omega)) | (refine decide_eq_true ?_; omega) | (intro _; omega) | (simp only [w_i64, w_u64, w_u32, w_u8]; omega) | exact ⟨U_nonneg _, U_lt32 _⟩ | exact R8_UL _ _ | exact R32_UL _ _ | (intro hg0; (repeat ((conv => whnf); (with_reducible refine And.intro ?_ ?_); · first | with_reducible assumption | omega | (intro _; refine ⟨?_, ?_⟩ <;> first | with_reducible assumption | omega | exact True.intro | (refine decide_eq_true ?_; omega) | (simp [appG, Cd.holds]; omega)) | (intro _; refine ⟨And.intro ?_ ?_, ?_⟩ <;> first | with_reducible assumption | omega | (refine decide_eq_true ?_; omega)) | (simp only [hg0, Bool.and_self, Bool.true_and]; done) | (intro hg1; simp only [hg0, hg1, Bool.and_self, Bool.true_and]; done) | (simp [hg0]; done))); (conv => whnf); exact True.intro))
        conv => whnf
        refine ⟨fun h4 => ?_, fun h4 => ?_⟩
        · replace h4 := eq_of_beq h4
          have hJ : i % 2 = 1 := by have h5 : ((i : Nat) : Int).tmod 2 = ((i % 2 : Nat) : Int) := rfl; rw [h5] at h4; omega
          have hcol : single X (i % 2) (kk + 1) = qs (single X (i % 2) kk) kk (4 + (kk + 1) % 4) (8 + (kk + 2) % 4) (12 + (kk + 3) % 4) := by
            rw [hJ]; rfl
          have a1 : IntKind.i64.wrap ((kk : Int) + 1) = ((kk + 1 : Nat) : Int) := by rw [w_i64]; omega
          have a2 : IntKind.i64.wrap ((kk : Int) + 2) = ((kk + 2 : Nat) : Int) := by rw [w_i64]; omega
          have a3 : IntKind.i64.wrap ((kk : Int) + 3) = ((kk + 3 : Nat) : Int) := by rw [w_i64]; omega
          have c2 : IntKind.i64.wrap (2 * 1) = 2 := by decide
          have c3 : IntKind.i64.wrap (3 * 1) = 3 := by decide
          have t1 : ((kk + 1 : Nat) : Int).tmod 4 = (((kk + 1) % 4 : Nat) : Int) := rfl
          have t2 : ((kk + 2 : Nat) : Int).tmod 4 = (((kk + 2) % 4 : Nat) : Int) := rfl
          have t3 : ((kk + 3 : Nat) : Int).tmod 4 = (((kk + 3) % 4 : Nat) : Int) := rfl
          have b1 : IntKind.i64.wrap (4 + (((kk + 1) % 4 : Nat) : Int)) = ((4 + (kk + 1) % 4 : Nat) : Int) := by rw [w_i64]; omega
          have b2 : IntKind.i64.wrap (8 + (((kk + 2) % 4 : Nat) : Int)) = ((8 + (kk + 2) % 4 : Nat) : Int) := by rw [w_i64]; omega
          have b3 : IntKind.i64.wrap (12 + (((kk + 3) % 4 : Nat) : Int)) = ((12 + (kk + 3) % 4 : Nat) : Int) := by rw [w_i64]; omega
          generalize hZ : single X (i % 2) kk = Z at *
          have hZl : Z.length = 16 := by rw [← hZ, single_length, hXl]
          repeat ((conv => whnf); (with_reducible refine And.intro ?_ ?_); · first | exact True.intro | (intro hg0; simp only [hg0, Bool.not_false, Bool.not_true]; done) | with_reducible assumption | omega | (intro _; refine ⟨True.intro, ?_⟩; omega) | (intro _; refine ⟨?_, True.intro⟩; omega) | (intro _; refine ⟨decide_eq_true ?_, ?_⟩ <;> omega) | (intro _; refine ⟨?_, ?_⟩ <;> first | omega | (simp [appG, Cd.holds]; done) | (simp [appG, Cd.holds]; omega)) | (refine decide_eq_true ?_; omega) | (intro _; omega) | (simp only [a1, a2, a3, c2, c3, t1, t2, t3, b1, b2, b3, Int.toNat_natCast]; omega) | (simp only [a1, a2, a3, c2, c3, t1, t2, t3, b1, b2, b3, Int.toNat_natCast]; intro _; refine ⟨?_, ?_⟩ <;> first | omega | (refine decide_eq_true ?_; omega)) | exact ⟨U_nonneg _, U_lt32 _⟩ | exact R8_UL _ _ | exact R32_UL _ _ | (intro hg0; (repeat ((conv => whnf); (with_reducible refine And.intro ?_ ?_); · first | with_reducible assumption | omega | (intro _; refine ⟨?_, ?_⟩ <;> first | with_reducible assumption | omega | exact True.intro | (refine decide_eq_true ?_; omega) | (simp [appG, Cd.holds]; omega)) | (intro _; refine ⟨And.intro ?_ ?_, ?_⟩ <;> first | with_reducible assumption | omega | (refine decide_eq_true ?_; omega)) | (simp only [hg0, Bool.and_self, Bool.true_and]; done) | (intro hg1; simp only [hg0, hg1, Bool.and_self, Bool.true_and]; done) | (simp [hg0]; done))); (conv => whnf); exact True.intro))
          conv => whnf
          refine ⟨[(0, ⟨0, some 75, []⟩), (1, ⟨0, some 76, []⟩), (2, ⟨0, some 77, []⟩), (3, ⟨0, some 78, []⟩), (4, ⟨0, some 79, []⟩), (5, ⟨0, some 80, []⟩), (6, ⟨0, some 81, []⟩), (7, ⟨0, some 82, []⟩), (8, ⟨0, some 83, []⟩), (9, ⟨0, some 84, []⟩), (10, ⟨768, some 85, []⟩), (11, ⟨1792, some 86, []⟩), (12, ⟨0, some 87, []⟩), (13, ⟨0, some 88, []⟩), (14, ⟨12288, some 89, []⟩), (15, ⟨28672, some 90, []⟩), (16, ⟨0, some 91, []⟩), (17, ⟨0, some 92, []⟩), (18, ⟨196608, some 93, []⟩), (19, ⟨458752, some 94, []⟩), (20, ⟨0, some 95, []⟩), (21, ⟨0, some 96, []⟩), (22, ⟨3145728, some 97, []⟩), (23, ⟨7340032, some 98, []⟩), (24, ⟨16776960, some 99, []⟩), (25, ⟨33554176, some 74, []⟩), (26, ⟨67108608, some 100, []⟩), (27, ⟨67108608, some 101, []⟩), (28, ⟨67108608, some 102, []⟩), (29, ⟨67108608, some 103, []⟩), (30, ⟨134217475, some 104, []⟩), (31, ⟨1207959299, none, [4]⟩), (32, ⟨3489660687, some 105, []⟩), (33, ⟨7784627983, none, [4]⟩), (34, ⟨16642998079, some 106, []⟩), (35, ⟨33822867263, none, [4]⟩), (36, ⟨68719476735, some 107, []⟩), (37, ⟨137438953471, none, [4]⟩)], 613, ?_⟩
          simp only [a1, a2, a3, c2, c3, t1, t2, t3, b1, b2, b3, Int.toNat_natCast, Nat.zero_add]
          repeat (first | ((with_reducible refine (Cd.then_iff _ _).2 (And.intro ?_ ?_)); · repeat' ((conv => arg 1; whnf); first | exact Cd.holds_tt | (refine Cd.holds_p ?_; first | exact u32_UL _ _ | (refine ⟨?_, ?_⟩ <;> omega) | exact True.intro | (intro hg0; simp only [hg0, Bool.not_false, Bool.not_true]; done) | with_reducible assumption | omega | (intro _; refine ⟨True.intro, ?_⟩; omega) | (intro _; refine ⟨?_, True.intro⟩; omega) | (intro _; refine ⟨decide_eq_true ?_, ?_⟩ <;> omega) | (intro _; refine ⟨?_, ?_⟩ <;> first | omega | (simp [appG, Cd.holds]; done) | (simp [appG, Cd.holds]; omega)) | (refine decide_eq_true ?_; omega) | (intro _; omega) | (simp only [w_i64, w_u64, w_u32, w_u8]; omega) | exact ⟨U_nonneg _, U_lt32 _⟩ | exact R8_UL _ _ | exact R32_UL _ _ | (intro hg0; (repeat ((conv => whnf); (with_reducible refine And.intro ?_ ?_); · first | with_reducible assumption | omega | (intro _; refine ⟨?_, ?_⟩ <;> first | with_reducible assumption | omega | exact True.intro | (refine decide_eq_true ?_; omega) | (simp [appG, Cd.holds]; omega)) | (intro _; refine ⟨And.intro ?_ ?_, ?_⟩ <;> first | with_reducible assumption | omega | (refine decide_eq_true ?_; omega)) | (simp only [hg0, Bool.and_self, Bool.true_and]; done) | (intro hg1; simp only [hg0, hg1, Bool.and_self, Bool.true_and]; done) | (simp [hg0]; done) | exact u32_UL _ _ | (refine ⟨?_, ?_⟩ <;> omega))); (conv => whnf); exact True.intro)) | refine Cd.holds_and ?_ ?_ | (refine Cd.holds_imp fun hg0 => ?_))) | ((conv => whnf); (with_reducible refine And.intro ?_ ?_); · first | exact u32_UL _ _ | (refine ⟨?_, ?_⟩ <;> omega) | exact True.intro | (intro hg0; simp only [hg0, Bool.not_false, Bool.not_true]; done) | with_reducible assumption | omega | (intro _; refine ⟨True.intro, ?_⟩; omega) | (intro _; refine ⟨?_, True.intro⟩; omega) | (intro _; refine ⟨decide_eq_true ?_, ?_⟩ <;> omega) | (intro _; refine ⟨?_, ?_⟩ <;> first | omega | (simp [appG, Cd.holds]; done) | (simp [appG, Cd.holds]; omega)) | (refine decide_eq_true ?_; omega) | (intro _; omega) | (simp only [w_i64, w_u64, w_u32, w_u8]; omega) | exact ⟨U_nonneg _, U_lt32 _⟩ | exact R8_UL _ _ | exact R32_UL _ _ | (intro hg0; (repeat ((conv => whnf); (with_reducible refine And.intro ?_ ?_); · first | with_reducible assumption | omega | (intro _; refine ⟨?_, ?_⟩ <;> first | with_reducible assumption | omega | exact True.intro | (refine decide_eq_true ?_; omega) | (simp [appG, Cd.holds]; omega)) | (intro _; refine ⟨And.intro ?_ ?_, ?_⟩ <;> first | with_reducible assumption | omega | (refine decide_eq_true ?_; omega)) | (simp only [hg0, Bool.and_self, Bool.true_and]; done) | (intro hg1; simp only [hg0, hg1, Bool.and_self, Bool.true_and]; done) | (simp [hg0]; done) | exact u32_UL _ _ | (refine ⟨?_, ?_⟩ <;> omega))); (conv => whnf); exact True.intro)))
          conv => whnf
          refine ⟨kk + 1, ⟨by show kk + 1 ≤ 4; omega, by show 4 - (kk + 1) < 4 - kk; omega⟩, le_of [] ?_⟩
          have hq := qs_upd (l := Z) (a := kk) (b := 4 + (kk + 1) % 4) (c := 8 + (kk + 2) % 4) (d := 12 + (kk + 3) % 4) hZl (by omega) (by omega) (by omega) (by omega)
          simp only [Int.toNat_natCast, Nat.zero_add, UL_getD, ofInt_U, hcol]
          repeat ((conv => whnf); (with_reducible refine And.intro ?_ ?_); · first | with_reducible rfl | exact (Bool.and_false _).symm | (intro _ _; with_reducible rfl) | exact True.intro | assumption | (intro h; exact absurd h (by decide)) | omega | (intro _; omega) | (intro _; refine ⟨?_, True.intro⟩; omega) | (intro _; refine ⟨?_, True.intro⟩; intro _; omega) | (refine decide_eq_false ?_; omega) | (refine decide_eq_true ?_; omega) | (simp only [w_i64, w_u64, w_u32, w_u8]; omega) | exact fun j hj => (put_0 hj).symm | (intro j _; simp only [Nat.zero_add]; done) | (simp [appG]; done) | (simp [appG]; omega) | exact fun j _ => hq j | (intro hgd; (try replace hgd := of_decide_eq_true hgd); (repeat ((conv => whnf); (with_reducible refine And.intro ?_ ?_); · first | with_reducible rfl | exact (Bool.and_false _).symm | (intro _ _; with_reducible rfl) | exact True.intro | assumption | (intro h; exact absurd h (by decide)) | omega | (intro _; omega) | (intro _; refine ⟨?_, True.intro⟩; omega) | (intro _; refine ⟨?_, True.intro⟩; intro _; omega) | (refine decide_eq_false ?_; omega) | (refine decide_eq_true ?_; omega) | (simp only [w_i64, w_u64, w_u32, w_u8]; omega) | exact fun j hj => (put_0 hj).symm | (intro j _; simp only [Nat.zero_add]; done) | (simp [appG]; done) | (simp [appG]; omega) | exact fun j _ => hq j)); (conv => whnf); exact True.intro))
          conv => whnf
          exact True.intro
        · replace h4 := ne_of_beq_false h4
          have hJ : i % 2 = 0 := by have h5 : ((i : Nat) : Int).tmod 2 = ((i % 2 : Nat) : Int) := rfl; rw [h5] at h4; omega
          have hcol : single X (i % 2) (kk + 1) = qs (single X (i % 2) kk) kk (4 + (kk + 0) % 4) (8 + (kk + 0) % 4) (12 + (kk + 0) % 4) := by
            rw [hJ]; rfl
          have a1 : IntKind.i64.wrap ((kk : Int) + 0) = ((kk + 0 : Nat) : Int) := by rw [w_i64]; omega
          have a2 : IntKind.i64.wrap ((kk : Int) + 0) = ((kk + 0 : Nat) : Int) := by rw [w_i64]; omega
          have a3 : IntKind.i64.wrap ((kk : Int) + 0) = ((kk + 0 : Nat) : Int) := by rw [w_i64]; omega
          have c2 : IntKind.i64.wrap (2 * 0) = 0 := by decide
          have c3 : IntKind.i64.wrap (3 * 0) = 0 := by decide
          have t1 : ((kk + 0 : Nat) : Int).tmod 4 = (((kk + 0) % 4 : Nat) : Int) := rfl
          have t2 : ((kk + 0 : Nat) : Int).tmod 4 = (((kk + 0) % 4 : Nat) : Int) := rfl
          have t3 : ((kk + 0 : Nat) : Int).tmod 4 = (((kk + 0) % 4 : Nat) : Int) := rfl
          have b1 : IntKind.i64.wrap (4 + (((kk + 0) % 4 : Nat) : Int)) = ((4 + (kk + 0) % 4 : Nat) : Int) := by rw [w_i64]; omega
          have b2 : IntKind.i64.wrap (8 + (((kk + 0) % 4 : Nat) : Int)) = ((8 + (kk + 0) % 4 : Nat) : Int) := by rw [w_i64]; omega
          have b3 : IntKind.i64.wrap (12 + (((kk + 0) % 4 : Nat) : Int)) = ((12 + (kk + 0) % 4 : Nat) : Int) := by rw [w_i64]; omega
          generalize hZ : single X (i % 2) kk = Z at *
          have hZl : Z.length = 16 := by rw [← hZ, single_length, hXl]
          repeat ((conv => whnf); (with_reducible refine And.intro ?_ ?_); · first | exact True.intro | (intro hg0; simp only [hg0, Bool.not_false, Bool.not_true]; done) | with_reducible assumption | omega | (intro _; refine ⟨True.intro, ?_⟩; omega) | (intro _; refine ⟨?_, True.intro⟩; omega) | (intro _; refine ⟨decide_eq_true ?_, ?_⟩ <;> omega) | (intro _; refine ⟨?_, ?_⟩ <;> first | omega | (simp [appG, Cd.holds]; done) | (simp [appG, Cd.holds]; omega)) | (refine decide_eq_true ?_; omega) | (intro _; omega) | (simp only [a1, a2, a3, c2, c3, t1, t2, t3, b1, b2, b3, Int.toNat_natCast]; omega) | (simp only [a1, a2, a3, c2, c3, t1, t2, t3, b1, b2, b3, Int.toNat_natCast]; intro _; refine ⟨?_, ?_⟩ <;> first | omega | (refine decide_eq_true ?_; omega)) | exact ⟨U_nonneg _, U_lt32 _⟩ | exact R8_UL _ _ | exact R32_UL _ _ | (intro hg0; (repeat ((conv => whnf); (with_reducible refine And.intro ?_ ?_); · first | with_reducible assumption | omega | (intro _; refine ⟨?_, ?_⟩ <;> first | with_reducible assumption | omega | exact True.intro | (refine decide_eq_true ?_; omega) | (simp [appG, Cd.holds]; omega)) | (intro _; refine ⟨And.intro ?_ ?_, ?_⟩ <;> first | with_reducible assumption | omega | (refine decide_eq_true ?_; omega)) | (simp only [hg0, Bool.and_self, Bool.true_and]; done) | (intro hg1; simp only [hg0, hg1, Bool.and_self, Bool.true_and]; done) | (simp [hg0]; done))); (conv => whnf); exact True.intro))
          conv => whnf
          refine ⟨[(0, ⟨0, some 75, []⟩), (1, ⟨0, some 76, []⟩), (2, ⟨0, some 77, []⟩), (3, ⟨0, some 78, []⟩), (4, ⟨0, some 79, []⟩), (5, ⟨0, some 80, []⟩), (6, ⟨0, some 81, []⟩), (7, ⟨0, some 82, []⟩), (8, ⟨0, some 83, []⟩), (9, ⟨0, some 84, []⟩), (10, ⟨768, some 85, []⟩), (11, ⟨1792, some 86, []⟩), (12, ⟨0, some 87, []⟩), (13, ⟨0, some 88, []⟩), (14, ⟨12288, some 89, []⟩), (15, ⟨28672, some 90, []⟩), (16, ⟨0, some 91, []⟩), (17, ⟨0, some 92, []⟩), (18, ⟨196608, some 93, []⟩), (19, ⟨458752, some 94, []⟩), (20, ⟨0, some 95, []⟩), (21, ⟨0, some 96, []⟩), (22, ⟨3145728, some 97, []⟩), (23, ⟨7340032, some 98, []⟩), (24, ⟨16776960, some 99, []⟩), (25, ⟨33554176, some 74, []⟩), (26, ⟨67108608, some 100, []⟩), (27, ⟨67108608, some 101, []⟩), (28, ⟨67108608, some 102, []⟩), (29, ⟨67108608, some 103, []⟩), (30, ⟨134217475, some 104, []⟩), (31, ⟨1207959299, none, [4]⟩), (32, ⟨3489660687, some 105, []⟩), (33, ⟨7784627983, none, [4]⟩), (34, ⟨16642998079, some 106, []⟩), (35, ⟨33822867263, none, [4]⟩), (36, ⟨68719476735, some 107, []⟩), (37, ⟨137438953471, none, [4]⟩)], 613, ?_⟩
          simp only [a1, a2, a3, c2, c3, t1, t2, t3, b1, b2, b3, Int.toNat_natCast, Nat.zero_add]
          repeat (first | ((with_reducible refine (Cd.then_iff _ _).2 (And.intro ?_ ?_)); · repeat' ((conv => arg 1; whnf); first | exact Cd.holds_tt | (refine Cd.holds_p ?_; first | exact u32_UL _ _ | (refine ⟨?_, ?_⟩ <;> omega) | exact True.intro | (intro hg0; simp only [hg0, Bool.not_false, Bool.not_true]; done) | with_reducible assumption | omega | (intro _; refine ⟨True.intro, ?_⟩; omega) | (intro _; refine ⟨?_, True.intro⟩; omega) | (intro _; refine ⟨decide_eq_true ?_, ?_⟩ <;> omega) | (intro _; refine ⟨?_, ?_⟩ <;> first | omega | (simp [appG, Cd.holds]; done) | (simp [appG, Cd.holds]; omega)) | (refine decide_eq_true ?_; omega) | (intro _; omega) | (simp only [w_i64, w_u64, w_u32, w_u8]; omega) | exact ⟨U_nonneg _, U_lt32 _⟩ | exact R8_UL _ _ | exact R32_UL _ _ | (intro hg0; (repeat ((conv => whnf); (with_reducible refine And.intro ?_ ?_); · first | with_reducible assumption | omega | (intro _; refine ⟨?_, ?_⟩ <;> first | with_reducible assumption | omega | exact True.intro | (refine decide_eq_true ?_; omega) | (simp [appG, Cd.holds]; omega)) | (intro _; refine ⟨And.intro ?_ ?_, ?_⟩ <;> first | with_reducible assumption | omega | (refine decide_eq_true ?_; omega)) | (simp only [hg0, Bool.and_self, Bool.true_and]; done) | (intro hg1; simp only [hg0, hg1, Bool.and_self, Bool.true_and]; done) | (simp [hg0]; done) | exact u32_UL _ _ | (refine ⟨?_, ?_⟩ <;> omega))); (conv => whnf); exact True.intro)) | refine Cd.holds_and ?_ ?_ | (refine Cd.holds_imp fun hg0 => ?_))) | ((conv => whnf); (with_reducible refine And.intro ?_ ?_); · first | exact u32_UL _ _ | (refine ⟨?_, ?_⟩ <;> omega) | exact True.intro | (intro hg0; simp only [hg0, Bool.not_false, Bool.not_true]; done) | with_reducible assumption | omega | (intro _; refine ⟨True.intro, ?_⟩; omega) | (intro _; refine ⟨?_, True.intro⟩; omega) | (intro _; refine ⟨decide_eq_true ?_, ?_⟩ <;> omega) | (intro _; refine ⟨?_, ?_⟩ <;> first | omega | (simp [appG, Cd.holds]; done) | (simp [appG, Cd.holds]; omega)) | (refine decide_eq_true ?_; omega) | (intro _; omega) | (simp only [w_i64, w_u64, w_u32, w_u8]; omega) | exact ⟨U_nonneg _, U_lt32 _⟩ | exact R8_UL _ _ | exact R32_UL _ _ | (intro hg0; (repeat ((conv => whnf); (with_reducible refine And.intro ?_ ?_); · first | with_reducible assumption | omega | (intro _; refine ⟨?_, ?_⟩ <;> first | with_reducible assumption | omega | exact True.intro | (refine decide_eq_true ?_; omega) | (simp [appG, Cd.holds]; omega)) | (intro _; refine ⟨And.intro ?_ ?_, ?_⟩ <;> first | with_reducible assumption | omega | (refine decide_eq_true ?_; omega)) | (simp only [hg0, Bool.and_self, Bool.true_and]; done) | (intro hg1; simp only [hg0, hg1, Bool.and_self, Bool.true_and]; done) | (simp [hg0]; done) | exact u32_UL _ _ | (refine ⟨?_, ?_⟩ <;> omega))); (conv => whnf); exact True.intro)))
          conv => whnf
          refine ⟨kk + 1, ⟨by show kk + 1 ≤ 4; omega, by show 4 - (kk + 1) < 4 - kk; omega⟩, le_of [] ?_⟩
          have hq := qs_upd (l := Z) (a := kk) (b := 4 + (kk + 0) % 4) (c := 8 + (kk + 0) % 4) (d := 12 + (kk + 0) % 4) hZl (by omega) (by omega) (by omega) (by omega)
          simp only [Int.toNat_natCast, Nat.zero_add, UL_getD, ofInt_U, hcol]
          repeat ((conv => whnf); (with_reducible refine And.intro ?_ ?_); · first | with_reducible rfl | exact (Bool.and_false _).symm | (intro _ _; with_reducible rfl) | exact True.intro | assumption | (intro h; exact absurd h (by decide)) | omega | (intro _; omega) | (intro _; refine ⟨?_, True.intro⟩; omega) | (intro _; refine ⟨?_, True.intro⟩; intro _; omega) | (refine decide_eq_false ?_; omega) | (refine decide_eq_true ?_; omega) | (simp only [w_i64, w_u64, w_u32, w_u8]; omega) | exact fun j hj => (put_0 hj).symm | (intro j _; simp only [Nat.zero_add]; done) | (simp [appG]; done) | (simp [appG]; omega) | exact fun j _ => hq j | (intro hgd; (try replace hgd := of_decide_eq_true hgd); (repeat ((conv => whnf); (with_reducible refine And.intro ?_ ?_); · first | with_reducible rfl | exact (Bool.and_false _).symm | (intro _ _; with_reducible rfl) | exact True.intro | assumption | (intro h; exact absurd h (by decide)) | omega | (intro _; omega) | (intro _; refine ⟨?_, True.intro⟩; omega) | (intro _; refine ⟨?_, True.intro⟩; intro _; omega) | (refine decide_eq_false ?_; omega) | (refine decide_eq_true ?_; omega) | (simp only [w_i64, w_u64, w_u32, w_u8]; omega) | exact fun j hj => (put_0 hj).symm | (intro j _; simp only [Nat.zero_add]; done) | (simp [appG]; done) | (simp [appG]; omega) | exact fun j _ => hq j)); (conv => whnf); exact True.intro))
          conv => whnf
          exact True.intro
      · replace h3 := of_decide_eq_false h3
        have hk4 : kk = 4 := by omega
        subst hk4
        have hNx : chN S (i + 1) = single X (i % 2) 4 := by rw [hX]; rfl
        repeat ((conv => whnf); (with_reducible refine And.intro ?_ ?_); · first | exact True.intro | (intro hg0; simp only [hg0, Bool.not_false, Bool.not_true]; done) | with_reducible assumption | omega | (intro _; refine ⟨True.intro, ?_⟩; omega) | (intro _; refine ⟨?_, True.intro⟩; omega) | (intro _; refine ⟨decide_eq_true ?_, ?_⟩ <;> omega) | (intro _; refine ⟨?_, ?_⟩ <;> first | omega | (simp [appG, Cd.holds]; done) | (simp [appG, Cd.holds]; omega)) | (refine decide_eq_true ?_; omega) | (intro _; omega) | (simp only [w_i64, w_u64, w_u32, w_u8]; omega) | exact ⟨U_nonneg _, U_lt32 _⟩ | exact R8_UL _ _ | exact R32_UL _ _ | (intro hg0; (repeat ((conv => whnf); (with_reducible refine And.intro ?_ ?_); · first | with_reducible assumption | omega | (intro _; refine ⟨?_, ?_⟩ <;> first | with_reducible assumption | omega | exact True.intro | (refine decide_eq_true ?_; omega) | (simp [appG, Cd.holds]; omega)) | (intro _; refine ⟨And.intro ?_ ?_, ?_⟩ <;> first | with_reducible assumption | omega | (refine decide_eq_true ?_; omega)) | (simp only [hg0, Bool.and_self, Bool.true_and]; done) | (intro hg1; simp only [hg0, hg1, Bool.and_self, Bool.true_and]; done) | (simp [hg0]; done))); (conv => whnf); exact True.intro))
        conv => whnf
        refine ⟨i + 1, ⟨by show i + 1 ≤ 20; omega, by show 20 - (i + 1) < 20 - i; omega⟩, le_of [] ?_⟩
        simp only [hNx]
        repeat ((conv => whnf); (with_reducible refine And.intro ?_ ?_); · first | with_reducible rfl | exact (Bool.and_false _).symm | (intro _ _; with_reducible rfl) | exact True.intro | assumption | (intro h; exact absurd h (by decide)) | omega | (intro _; omega) | (intro _; refine ⟨?_, True.intro⟩; omega) | (intro _; refine ⟨?_, True.intro⟩; intro _; omega) | (refine decide_eq_false ?_; omega) | (refine decide_eq_true ?_; omega) | (simp only [w_i64, w_u64, w_u32, w_u8]; omega) | exact fun j hj => (put_0 hj).symm | (intro j _; simp only [Nat.zero_add]; done) | (simp [appG]; done) | (simp [appG]; omega) | (intro hgd; (try replace hgd := of_decide_eq_true hgd); (repeat ((conv => whnf); (with_reducible refine And.intro ?_ ?_); · first | with_reducible rfl | exact (Bool.and_false _).symm | (intro _ _; with_reducible rfl) | exact True.intro | assumption | (intro h; exact absurd h (by decide)) | omega | (intro _; omega) | (intro _; refine ⟨?_, True.intro⟩; omega) | (intro _; refine ⟨?_, True.intro⟩; intro _; omega) | (refine decide_eq_false ?_; omega) | (refine decide_eq_true ?_; omega) | (simp only [w_i64, w_u64, w_u32, w_u8]; omega) | exact fun j hj => (put_0 hj).symm | (intro j _; simp only [Nat.zero_add]; done) | (simp [appG]; done) | (simp [appG]; omega))); (conv => whnf); exact True.intro))
        conv => whnf
        exact True.intro
    · replace h2 := of_decide_eq_false h2
      have hi20 : i = 20 := by omega
      subst hi20
      obtain ⟨T, hT⟩ : ∃ T, T = chN S 20 := ⟨_, rfl⟩
      have hTl : T.length = 16 := by rw [hT, chN_length, hSl]
      obtain ⟨A, hA⟩ : ∃ A, A = addv T S := ⟨_, rfl⟩
      have hAl : A.length = 16 := by rw [hA, addv, List.length_zipWith, hTl, hSl]; rfl
      obtain ⟨D, hD⟩ : ∃ D, D = leW A := ⟨_, rfl⟩
      have hDl : D.length = 64 := by rw [hD, leW_length, hAl]
      rw [← hT, ← hA, ← hD]
      repeat ((conv => whnf); (with_reducible refine And.intro ?_ ?_); · first | exact True.intro | (intro hg0; simp only [hg0, Bool.not_false, Bool.not_true]; done) | with_reducible assumption | omega | (intro _; refine ⟨True.intro, ?_⟩; omega) | (intro _; refine ⟨?_, True.intro⟩; omega) | (intro _; refine ⟨decide_eq_true ?_, ?_⟩ <;> omega) | (intro _; refine ⟨?_, ?_⟩ <;> first | omega | (simp [appG, Cd.holds]; done) | (simp [appG, Cd.holds]; omega)) | (refine decide_eq_true ?_; omega) | (intro _; omega) | (simp only [w_i64, w_u64, w_u32, w_u8]; omega) | exact ⟨U_nonneg _, U_lt32 _⟩ | exact R8_UL _ _ | exact R32_UL _ _ | (intro hg0; (repeat ((conv => whnf); (with_reducible refine And.intro ?_ ?_); · first | with_reducible assumption | omega | (intro _; refine ⟨?_, ?_⟩ <;> first | with_reducible assumption | omega | exact True.intro | (refine decide_eq_true ?_; omega) | (simp [appG, Cd.holds]; omega)) | (intro _; refine ⟨And.intro ?_ ?_, ?_⟩ <;> first | with_reducible assumption | omega | (refine decide_eq_true ?_; omega)) | (simp only [hg0, Bool.and_self, Bool.true_and]; done) | (intro hg1; simp only [hg0, hg1, Bool.and_self, Bool.true_and]; done) | (simp [hg0]; done))); (conv => whnf); exact True.intro))
      conv => whnf
      refine ⟨0, Nat, fun i => ⟨137, [(6, .sa (.sc (.ptr 2 0 0))), (7, .sa (.sc (ownA false 16 3))), (9, .sa (.sc (ownA false 16 4))), (17, .sa (.sc (.ptr 5 0 0))), (18, .sa (.sc (.int .i64 i)))],
        [(2, .own 63 [.ints .u8 (fun _ => 0) 64] false), (3, ownB 57 .u32 (UL S) 16), (4, ownB 57 .u32 (UL T) 16), (5, .own 63 [.ints .u8 (preF D (4 * i)) 64] false)], 6⟩, fun i => i ≤ 16, fun i => 16 - i, ⟨0, by omega, le_of [] ?_⟩, fun i hi => ?_⟩
      · repeat ((conv => whnf); (with_reducible refine And.intro ?_ ?_); · first | exact fun j _ => if_neg (by omega) | with_reducible rfl | exact (Bool.and_false _).symm | (intro _ _; with_reducible rfl) | exact True.intro | with_reducible assumption | (intro h; exact absurd h (by decide)) | omega | (intro _; omega) | (intro _; refine ⟨?_, True.intro⟩; omega) | (intro _; refine ⟨?_, True.intro⟩; intro _; omega) | (refine decide_eq_false ?_; omega) | (refine decide_eq_true ?_; omega) | (simp only [w_i64, w_u64, w_u32, w_u8]; omega) | exact fun j hj => (put_0 hj).symm | (intro j _; simp only [Nat.zero_add]; done) | (simp [appG]; done) | (simp [appG]; omega) | exact fun j _ => if_neg (by omega) | (intro hgd; (try replace hgd := of_decide_eq_true hgd); (repeat ((conv => whnf); (with_reducible refine And.intro ?_ ?_); · first | with_reducible rfl | exact (Bool.and_false _).symm | (intro _ _; with_reducible rfl) | exact True.intro | with_reducible assumption | (intro h; exact absurd h (by decide)) | omega | (intro _; omega) | (intro _; refine ⟨?_, True.intro⟩; omega) | (intro _; refine ⟨?_, True.intro⟩; intro _; omega) | (refine decide_eq_false ?_; omega) | (refine decide_eq_true ?_; omega) | (simp only [w_i64, w_u64, w_u32, w_u8]; omega) | exact fun j hj => (put_0 hj).symm | (intro j _; simp only [Nat.zero_add]; done) | (simp [appG]; done) | (simp [appG]; omega) | exact fun j _ => if_neg (by omega))); (conv => whnf); exact True.intro))
        conv => whnf
        exact True.intro
      have hi : i ≤ 16 := hi
      repeat ((conv => whnf); (with_reducible refine And.intro ?_ ?_); · first | exact True.intro | (intro hg0; simp only [hg0, Bool.not_false, Bool.not_true]; done) | with_reducible assumption | omega | (intro _; refine ⟨True.intro, ?_⟩; omega) | (intro _; refine ⟨?_, True.intro⟩; omega) | (intro _; refine ⟨decide_eq_true ?_, ?_⟩ <;> omega) | (intro _; refine ⟨?_, ?_⟩ <;> first | omega | (simp [appG, Cd.holds]; done) | (simp [appG, Cd.holds]; omega)) | (refine decide_eq_true ?_; omega) | (intro _; omega) | (simp only [w_i64, w_u64, w_u32, w_u8]; omega) | exact ⟨U_nonneg _, U_lt32 _⟩ | exact R8_UL _ _ | exact R32_UL _ _ | (intro hg0; (repeat ((conv => whnf); (with_reducible refine And.intro ?_ ?_); · first | with_reducible assumption | omega | (intro _; refine ⟨?_, ?_⟩ <;> first | with_reducible assumption | omega | exact True.intro | (refine decide_eq_true ?_; omega) | (simp [appG, Cd.holds]; omega)) | (intro _; refine ⟨And.intro ?_ ?_, ?_⟩ <;> first | with_reducible assumption | omega | (refine decide_eq_true ?_; omega)) | (simp only [hg0, Bool.and_self, Bool.true_and]; done) | (intro hg1; simp only [hg0, hg1, Bool.and_self, Bool.true_and]; done) | (simp [hg0]; done))); (conv => whnf); exact True.intro))
      conv => whnf
      refine ⟨fun h3 => ?_, fun h3 => ?_⟩
      · replace h3 := of_decide_eq_true h3
        have hi16 : i < 16 := by omega
        have hx := addv_get hTl hSl hi16
        rw [← hA] at hx
        repeat ((conv => whnf); (with_reducible refine And.intro ?_ ?_); · first | exact True.intro | (intro hg0; simp only [hg0, Bool.not_false, Bool.not_true]; done) | with_reducible assumption | omega | (intro _; refine ⟨True.intro, ?_⟩; omega) | (intro _; refine ⟨?_, True.intro⟩; omega) | (intro _; refine ⟨decide_eq_true ?_, ?_⟩ <;> omega) | (intro _; refine ⟨?_, ?_⟩ <;> first | omega | (simp [appG, Cd.holds]; done) | (simp [appG, Cd.holds]; omega)) | (refine decide_eq_true ?_; omega) | (intro _; omega) | (simp only [w_i64, w_u64, w_u32, w_u8]; omega) | exact ⟨U_nonneg _, U_lt32 _⟩ | exact R8_UL _ _ | exact R32_UL _ _ | (intro hg0; (repeat ((conv => whnf); (with_reducible refine And.intro ?_ ?_); · first | with_reducible assumption | omega | (intro _; refine ⟨?_, ?_⟩ <;> first | with_reducible assumption | omega | exact True.intro | (refine decide_eq_true ?_; omega) | (simp [appG, Cd.holds]; omega)) | (intro _; refine ⟨And.intro ?_ ?_, ?_⟩ <;> first | with_reducible assumption | omega | (refine decide_eq_true ?_; omega)) | (simp only [hg0, Bool.and_self, Bool.true_and]; done) | (intro hg1; simp only [hg0, hg1, Bool.and_self, Bool.true_and]; done) | (simp [hg0]; done))); (conv => whnf); exact True.intro))
        conv => whnf
        refine ⟨[(0, ⟨0, some 112, []⟩), (1, ⟨0, some 113, []⟩), (2, ⟨3, some 114, []⟩), (3, ⟨7, some 115, []⟩), (4, ⟨0, some 116, []⟩), (5, ⟨0, some 117, []⟩), (6, ⟨48, some 118, []⟩), (7, ⟨112, some 119, []⟩), (8, ⟨255, some 120, []⟩), (9, ⟨511, some 19, []⟩)], 166, ?_⟩
        repeat ((conv => whnf); (with_reducible refine And.intro ?_ ?_); · first | exact True.intro | (intro hg0; simp only [hg0, Bool.not_false, Bool.not_true]; done) | with_reducible assumption | omega | (intro _; refine ⟨True.intro, ?_⟩; omega) | (intro _; refine ⟨?_, True.intro⟩; omega) | (intro _; refine ⟨decide_eq_true ?_, ?_⟩ <;> omega) | (intro _; refine ⟨?_, ?_⟩ <;> first | omega | (simp [appG, Cd.holds]; done) | (simp [appG, Cd.holds]; omega)) | (refine decide_eq_true ?_; omega) | (intro _; omega) | (simp only [w_i64, w_u64, w_u32, w_u8]; omega) | exact ⟨U_nonneg _, U_lt32 _⟩ | exact R8_UL _ _ | exact R32_UL _ _ | (intro hg0; (repeat ((conv => whnf); (with_reducible refine And.intro ?_ ?_); · first | with_reducible assumption | omega | (intro _; refine ⟨?_, ?_⟩ <;> first | with_reducible assumption | omega | exact True.intro | (refine decide_eq_true ?_; omega) | (simp [appG, Cd.holds]; omega)) | (intro _; refine ⟨And.intro ?_ ?_, ?_⟩ <;> first | with_reducible assumption | omega | (refine decide_eq_true ?_; omega)) | (simp only [hg0, Bool.and_self, Bool.true_and]; done) | (intro hg1; simp only [hg0, hg1, Bool.and_self, Bool.true_and]; done) | (simp [hg0]; done))); (conv => whnf); exact True.intro))
        conv => whnf
        simp only [Int.toNat_natCast, Nat.zero_add, hx]
        refine ⟨0, Nat, fun kk => ⟨137, [(6, .sa (.sc (.ptr 2 0 0))), (7, .sa (.sc (ownA false 16 3))), (9, .sa (.sc (ownA false 16 4))), (17, .sa (.sc (.ptr 5 0 0))), (18, .sa (.sc (.int .i64 i))), (19, .sa (.sc (.int .u32 (U (A.getD i 0))))), (20, .sa (.sc (.int .i64 kk)))],
          [(2, .own 63 [.ints .u8 (fun _ => 0) 64] false), (3, ownB 57 .u32 (UL S) 16), (4, ownB 57 .u32 (UL T) 16), (5, .own 63 [.ints .u8 (preF D (4 * i + kk)) 64] false)], 6⟩, fun kk => kk ≤ 4, fun kk => 4 - kk, ⟨0, by omega, le_of [] ?_⟩, fun kk hkk => ?_⟩
        · simp only [Nat.add_zero]
          repeat ((conv => whnf); (with_reducible refine And.intro ?_ ?_); · first | with_reducible rfl | exact (Bool.and_false _).symm | (intro _ _; with_reducible rfl) | exact True.intro | with_reducible assumption | (intro h; exact absurd h (by decide)) | omega | (intro _; omega) | (intro _; refine ⟨?_, True.intro⟩; omega) | (intro _; refine ⟨?_, True.intro⟩; intro _; omega) | (refine decide_eq_false ?_; omega) | (refine decide_eq_true ?_; omega) | (simp only [w_i64, w_u64, w_u32, w_u8]; omega) | exact fun j hj => (put_0 hj).symm | (intro j _; simp only [Nat.zero_add]; done) | (simp [appG]; done) | (simp [appG]; omega) | (intro hgd; (try replace hgd := of_decide_eq_true hgd); (repeat ((conv => whnf); (with_reducible refine And.intro ?_ ?_); · first | with_reducible rfl | exact (Bool.and_false _).symm | (intro _ _; with_reducible rfl) | exact True.intro | with_reducible assumption | (intro h; exact absurd h (by decide)) | omega | (intro _; omega) | (intro _; refine ⟨?_, True.intro⟩; omega) | (intro _; refine ⟨?_, True.intro⟩; intro _; omega) | (refine decide_eq_false ?_; omega) | (refine decide_eq_true ?_; omega) | (simp only [w_i64, w_u64, w_u32, w_u8]; omega) | exact fun j hj => (put_0 hj).symm | (intro j _; simp only [Nat.zero_add]; done) | (simp [appG]; done) | (simp [appG]; omega))); (conv => whnf); exact True.intro))
          conv => whnf
          exact True.intro
        have hkk : kk ≤ 4 := hkk
        repeat ((conv => whnf); (with_reducible refine And.intro ?_ ?_); · first | exact True.intro | (intro hg0; simp only [hg0, Bool.not_false, Bool.not_true]; done) | with_reducible assumption | omega | (intro _; refine ⟨True.intro, ?_⟩; omega) | (intro _; refine ⟨?_, True.intro⟩; omega) | (intro _; refine ⟨decide_eq_true ?_, ?_⟩ <;> omega) | (intro _; refine ⟨?_, ?_⟩ <;> first | omega | (simp [appG, Cd.holds]; done) | (simp [appG, Cd.holds]; omega)) | (refine decide_eq_true ?_; omega) | (intro _; omega) | (simp only [w_i64, w_u64, w_u32, w_u8]; omega) | exact ⟨U_nonneg _, U_lt32 _⟩ | exact R8_UL _ _ | exact R32_UL _ _ | (intro hg0; (repeat ((conv => whnf); (with_reducible refine And.intro ?_ ?_); · first | with_reducible assumption | omega | (intro _; refine ⟨?_, ?_⟩ <;> first | with_reducible assumption | omega | exact True.intro | (refine decide_eq_true ?_; omega) | (simp [appG, Cd.holds]; omega)) | (intro _; refine ⟨And.intro ?_ ?_, ?_⟩ <;> first | with_reducible assumption | omega | (refine decide_eq_true ?_; omega)) | (simp only [hg0, Bool.and_self, Bool.true_and]; done) | (intro hg1; simp only [hg0, hg1, Bool.and_self, Bool.true_and]; done) | (simp [hg0]; done))); (conv => whnf); exact True.intro))
        conv => whnf
        refine ⟨fun h4 => ?_, fun h4 => ?_⟩
        · replace h4 := of_decide_eq_true h4
          have hk4 : kk < 4 := by omega
          have w0 : IntKind.i64.wrap (4 * (i : Int)) = ((4 * i : Nat) : Int) := by rw [w_i64]; omega
          have w1 : IntKind.i64.wrap (((4 * i : Nat) : Int) + (kk : Int)) = ((4 * i + kk : Nat) : Int) := by rw [w_i64]; omega
          have w2 : IntKind.i64.wrap (8 * (kk : Int)) = ((8 * kk : Nat) : Int) := by rw [w_i64]; omega
          have w3 : IntKind.u64.wrap ((8 * kk : Nat) : Int) = ((8 * kk : Nat) : Int) := by rw [w_u64]; omega
          have hv : IntKind.u8.wrap (U (A.getD i 0) / 2 ^ min (8 * kk) IntKind.u32.bits) = UL D (4 * i + kk) := by
            rw [UL_getD, hD, leW_get A i kk (by omega) hk4, show min (8 * kk) IntKind.u32.bits = 8 * kk from Nat.min_eq_left (by show _ ≤ 32; omega), shr32, byte32]
            rcases four hk4 with rfl | rfl | rfl | rfl
            · show U _ = U _
              congr 1
            · rfl
            · rfl
            · rfl
          repeat ((conv => whnf); (with_reducible refine And.intro ?_ ?_); · first | exact True.intro | (intro hg0; simp only [hg0, Bool.not_false, Bool.not_true]; done) | with_reducible assumption | omega | (intro _; refine ⟨True.intro, ?_⟩; omega) | (intro _; refine ⟨?_, True.intro⟩; omega) | (intro _; refine ⟨decide_eq_true ?_, ?_⟩ <;> omega) | (intro _; refine ⟨?_, ?_⟩ <;> first | omega | (simp [appG, Cd.holds]; done) | (simp [appG, Cd.holds]; omega)) | (refine decide_eq_true ?_; omega) | (intro _; omega) | (simp only [w0, w1, w2, w3, Int.toNat_natCast]; omega) | (simp only [w0, w1, w2, w3, Int.toNat_natCast]; intro _; refine ⟨?_, ?_⟩ <;> first | omega | (refine decide_eq_true ?_; omega)) | exact ⟨U_nonneg _, U_lt32 _⟩ | exact R8_UL _ _ | exact R32_UL _ _ | (intro hg0; (repeat ((conv => whnf); (with_reducible refine And.intro ?_ ?_); · first | with_reducible assumption | omega | (intro _; refine ⟨?_, ?_⟩ <;> first | with_reducible assumption | omega | exact True.intro | (refine decide_eq_true ?_; omega) | (simp [appG, Cd.holds]; omega)) | (intro _; refine ⟨And.intro ?_ ?_, ?_⟩ <;> first | with_reducible assumption | omega | (refine decide_eq_true ?_; omega)) | (simp only [hg0, Bool.and_self, Bool.true_and]; done) | (intro hg1; simp only [hg0, hg1, Bool.and_self, Bool.true_and]; done) | (simp [hg0]; done))); (conv => whnf); exact True.intro))
          conv => whnf
          refine ⟨kk + 1, ⟨by show kk + 1 ≤ 4; omega, by show 4 - (kk + 1) < 4 - kk; omega⟩, le_of [] ?_⟩
          have hst := preF_step (D := D) (i := 4 * i + kk) hv
          simp only [w0, w1, w2, w3, Int.toNat_natCast, ← Nat.add_assoc]
          repeat ((conv => whnf); (with_reducible refine And.intro ?_ ?_); · first | exact fun j _ => hst j | with_reducible rfl | exact (Bool.and_false _).symm | (intro _ _; with_reducible rfl) | exact True.intro | with_reducible assumption | (intro h; exact absurd h (by decide)) | omega | (intro _; omega) | (intro _; refine ⟨?_, True.intro⟩; omega) | (intro _; refine ⟨?_, True.intro⟩; intro _; omega) | (refine decide_eq_false ?_; omega) | (refine decide_eq_true ?_; omega) | (simp only [w_i64, w_u64, w_u32, w_u8]; omega) | exact fun j hj => (put_0 hj).symm | (intro j _; simp only [Nat.zero_add]; done) | (simp [appG]; done) | (simp [appG]; omega) | exact fun j _ => hst j | (intro hgd; (try replace hgd := of_decide_eq_true hgd); (repeat ((conv => whnf); (with_reducible refine And.intro ?_ ?_); · first | with_reducible rfl | exact (Bool.and_false _).symm | (intro _ _; with_reducible rfl) | exact True.intro | with_reducible assumption | (intro h; exact absurd h (by decide)) | omega | (intro _; omega) | (intro _; refine ⟨?_, True.intro⟩; omega) | (intro _; refine ⟨?_, True.intro⟩; intro _; omega) | (refine decide_eq_false ?_; omega) | (refine decide_eq_true ?_; omega) | (simp only [w_i64, w_u64, w_u32, w_u8]; omega) | exact fun j hj => (put_0 hj).symm | (intro j _; simp only [Nat.zero_add]; done) | (simp [appG]; done) | (simp [appG]; omega) | exact fun j _ => hst j)); (conv => whnf); exact True.intro))
          conv => whnf
          exact True.intro
        · replace h4 := of_decide_eq_false h4
          have hk4 : kk = 4 := by omega
          subst hk4
          repeat ((conv => whnf); (with_reducible refine And.intro ?_ ?_); · first | exact True.intro | (intro hg0; simp only [hg0, Bool.not_false, Bool.not_true]; done) | with_reducible assumption | omega | (intro _; refine ⟨True.intro, ?_⟩; omega) | (intro _; refine ⟨?_, True.intro⟩; omega) | (intro _; refine ⟨decide_eq_true ?_, ?_⟩ <;> omega) | (intro _; refine ⟨?_, ?_⟩ <;> first | omega | (simp [appG, Cd.holds]; done) | (simp [appG, Cd.holds]; omega)) | (refine decide_eq_true ?_; omega) | (intro _; omega) | (simp only [w_i64, w_u64, w_u32, w_u8]; omega) | exact ⟨U_nonneg _, U_lt32 _⟩ | exact R8_UL _ _ | exact R32_UL _ _ | (intro hg0; (repeat ((conv => whnf); (with_reducible refine And.intro ?_ ?_); · first | with_reducible assumption | omega | (intro _; refine ⟨?_, ?_⟩ <;> first | with_reducible assumption | omega | exact True.intro | (refine decide_eq_true ?_; omega) | (simp [appG, Cd.holds]; omega)) | (intro _; refine ⟨And.intro ?_ ?_, ?_⟩ <;> first | with_reducible assumption | omega | (refine decide_eq_true ?_; omega)) | (simp only [hg0, Bool.and_self, Bool.true_and]; done) | (intro hg1; simp only [hg0, hg1, Bool.and_self, Bool.true_and]; done) | (simp [hg0]; done))); (conv => whnf); exact True.intro))
          conv => whnf
          refine ⟨i + 1, ⟨by show i + 1 ≤ 16; omega, by show 16 - (i + 1) < 16 - i; omega⟩, le_of [] ?_⟩
          simp only [show 4 * (i + 1) = 4 * i + 4 by omega]
          repeat ((conv => whnf); (with_reducible refine And.intro ?_ ?_); · first | with_reducible rfl | exact (Bool.and_false _).symm | (intro _ _; with_reducible rfl) | exact True.intro | with_reducible assumption | (intro h; exact absurd h (by decide)) | omega | (intro _; omega) | (intro _; refine ⟨?_, True.intro⟩; omega) | (intro _; refine ⟨?_, True.intro⟩; intro _; omega) | (refine decide_eq_false ?_; omega) | (refine decide_eq_true ?_; omega) | (simp only [w_i64, w_u64, w_u32, w_u8]; omega) | exact fun j hj => (put_0 hj).symm | (intro j _; simp only [Nat.zero_add]; done) | (simp [appG]; done) | (simp [appG]; omega) | (intro hgd; (try replace hgd := of_decide_eq_true hgd); (repeat ((conv => whnf); (with_reducible refine And.intro ?_ ?_); · first | with_reducible rfl | exact (Bool.and_false _).symm | (intro _ _; with_reducible rfl) | exact True.intro | with_reducible assumption | (intro h; exact absurd h (by decide)) | omega | (intro _; omega) | (intro _; refine ⟨?_, True.intro⟩; omega) | (intro _; refine ⟨?_, True.intro⟩; intro _; omega) | (refine decide_eq_false ?_; omega) | (refine decide_eq_true ?_; omega) | (simp only [w_i64, w_u64, w_u32, w_u8]; omega) | exact fun j hj => (put_0 hj).symm | (intro j _; simp only [Nat.zero_add]; done) | (simp [appG]; done) | (simp [appG]; omega))); (conv => whnf); exact True.intro))
          conv => whnf
          exact True.intro
      · replace h3 := of_decide_eq_false h3
        have hi16 : i = 16 := by omega
        subst hi16
        repeat ((conv => whnf); (with_reducible refine And.intro ?_ ?_); · first | exact True.intro | (intro hg0; simp only [hg0, Bool.not_false, Bool.not_true]; done) | with_reducible assumption | omega | (intro _; refine ⟨True.intro, ?_⟩; omega) | (intro _; refine ⟨?_, True.intro⟩; omega) | (intro _; refine ⟨decide_eq_true ?_, ?_⟩ <;> omega) | (intro _; refine ⟨?_, ?_⟩ <;> first | omega | (simp [appG, Cd.holds]; done) | (simp [appG, Cd.holds]; omega)) | (refine decide_eq_true ?_; omega) | (intro _; omega) | (simp only [w_i64, w_u64, w_u32, w_u8]; omega) | exact ⟨U_nonneg _, U_lt32 _⟩ | exact R8_UL _ _ | exact R32_UL _ _ | (intro hg0; (repeat ((conv => whnf); (with_reducible refine And.intro ?_ ?_); · first | with_reducible assumption | omega | (intro _; refine ⟨?_, ?_⟩ <;> first | with_reducible assumption | omega | exact True.intro | (refine decide_eq_true ?_; omega) | (simp [appG, Cd.holds]; omega)) | (intro _; refine ⟨And.intro ?_ ?_, ?_⟩ <;> first | with_reducible assumption | omega | (refine decide_eq_true ?_; omega)) | (simp only [hg0, Bool.and_self, Bool.true_and]; done) | (intro hg1; simp only [hg0, hg1, Bool.and_self, Bool.true_and]; done) | (simp [hg0]; done))); (conv => whnf); exact True.intro))
        conv => whnf
        refine ⟨[], ?_⟩
        repeat ((conv => whnf); (with_reducible refine And.intro ?_ ?_); · first | (intro j hj; unfold preF; rw [if_pos (by omega)]) | with_reducible rfl | exact (Bool.and_false _).symm | (intro _ _; with_reducible rfl) | exact True.intro | with_reducible assumption | (intro h; exact absurd h (by decide)) | omega | (intro _; omega) | (intro _; refine ⟨?_, True.intro⟩; omega) | (intro _; refine ⟨?_, True.intro⟩; intro _; omega) | (refine decide_eq_false ?_; omega) | (refine decide_eq_true ?_; omega) | (simp only [w_i64, w_u64, w_u32, w_u8]; omega) | exact fun j hj => (put_0 hj).symm | (intro j _; simp only [Nat.zero_add]; done) | (simp [appG]; done) | (simp [appG]; omega) | (intro j hj; unfold preF; rw [if_pos (by omega)]) | (intro hgd; (try replace hgd := of_decide_eq_true hgd); (repeat ((conv => whnf); (with_reducible refine And.intro ?_ ?_); · first | with_reducible rfl | exact (Bool.and_false _).symm | (intro _ _; with_reducible rfl) | exact True.intro | with_reducible assumption | (intro h; exact absurd h (by decide)) | omega | (intro _; omega) | (intro _; refine ⟨?_, True.intro⟩; omega) | (intro _; refine ⟨?_, True.intro⟩; intro _; omega) | (refine decide_eq_false ?_; omega) | (refine decide_eq_true ?_; omega) | (simp only [w_i64, w_u64, w_u32, w_u8]; omega) | exact fun j hj => (put_0 hj).symm | (intro j _; simp only [Nat.zero_add]; done) | (simp [appG]; done) | (simp [appG]; omega) | (intro j hj; unfold preF; rw [if_pos (by omega)]))); (conv => whnf); exact True.intro))
        conv => whnf
        exact True.intro
end Go.Proofs.Ytogijkmflhjhkaa

/- Functions through the evaluator: the document's bytes by ChaCha20's blocks. No condition. -/
namespace Go.Proofs.Ytogijkmflhjhkaa
open Go.Sx Go.RowKit
set_option maxRecDepth 100000
set_option maxHeartbeats 2000000
set_option linter.unusedVariables false
set_option linter.unusedSimpArgs false

theorem cok44 : COk Try.prog (tab [(56, rblockS)]) := cok_cons rblockS_ok cok_nil
/-- What is there of the blocks before byte i is turned: turned bytes, then the block's. -/
def xoB (X : List B8) (B : Nat → Int) (i j : Nat) : Int := if j < i then UL X j else B j
/-- How many bytes are there before byte i. -/
def xoL (i m : Nat) : Nat := min (64 * ((i + 63) / 64)) m
/-- Byte j of the blocks. -/
noncomputable def ksF (K : List B8) (C : W32) (N : List B8) (j : Nat) : Int := U (chKs K C N j)
theorem ks_xor {K : List B8} {C : W32} {N : List B8} {g : Nat → Int} {m i : Nat} (hg : R8 g m) (him : i < m) : bits .xor .u8 (ksF K C N i) (g i) = UL (chXor K C N (L8 g m)) i := by
  rw [UL_getD, chXor_get _ _ _ _ _ (by rw [L8_length]; exact him), L8_get _ _ _ him]
  have e : g i = U (BitVec.ofInt 8 (g i)) := (U_ofInt8 (hg i him).1 (hg i him).2).symm
  rw [e, ofInt_U]
  unfold ksF
  rw [xor8, BitVec.xor_comm]
theorem xoB_step {X : List B8} {B P : Nat → Int} {i L : Nat} {y : Int} (hP : ∀ j, j < L → P j = xoB X B i j) (hi : i < L) (hy : bits .xor .u8 (B i) y = UL X i) (j : Nat) (hj : j < L) :
    xoB X B (i + 1) j = upd P i (bits .xor .u8 (P i) y) j := by
  have hPi : P i = B i := by rw [hP i hi]; exact if_neg (by omega)
  rw [hPi, hy]
  unfold upd
  by_cases h : j = i
  · subst h; rw [if_pos rfl]; exact if_pos (by omega)
  · rw [if_neg h, hP j hj]
    unfold xoB
    by_cases h2 : j < i
    · rw [if_pos h2, if_pos (by omega)]
    · rw [if_neg h2, if_neg (by omega)]
/-- indentureref4.Xor. -/
noncomputable def rxorS : Summary := mkS false [.v, .v, .v, .r .u8] fun
  | [.v (.agg [.ints .u8 k 32]), .v (.sc (.int .u32 c)), .v (.agg [.ints .u8 n 12]), .r nl g m] => some ⟨.and (.p (R8 k 32)) (.and (.p (u32R c)) (.and (.p (R8 n 12)) (.and (.p (R8 g m)) (.p (m ≤ 100000))))),
      some (.sa (.sc (ownA (Nat.beq m 0) m 0))), [(0, ownB 5 .u8 (UL (chXor (L8 k 32) (BitVec.ofInt 32 c) (L8 n 12) (L8 g m))) m)], 1⟩
  | _ => none
theorem rxorS_ok : SumOk Try.prog 58 rxorS := by
  unfold rxorS
  apply sum_ok
  intro vs A H n o r hb h
  split at h
  rotate_left
  · cases h
  rename_i k c n nl g m
  injection h with h
  subst h
  cases hb
  refine fsound_of_run tt_ok cok44 mixed_ok Try.call58 Try.func58 rfl (rs := _) Try.results58 (size := 46) Try.ntmps58 (Nat.le_of_ble_eq_true rfl) rfl fun hp hfa hfh => ?_
  obtain ⟨hk, hc, hn, hg, hm⟩ := hp
  have hk : R8 k 32 := hk
  have hn : R8 n 12 := hn
  have hg : R8 g m := hg
  have hm : m ≤ 100000 := hm
  obtain ⟨C, rfl⟩ := u32_ex hc
  rw [ofInt_U]
  obtain ⟨K, hK⟩ : ∃ K, K = L8 k 32 := ⟨_, rfl⟩
  obtain ⟨N, hN⟩ : ∃ N, N = L8 n 12 := ⟨_, rfl⟩
  rw [← hK, ← hN]
  obtain ⟨X, hX⟩ : ∃ X, X = chXor K C N (L8 g m) := ⟨_, rfl⟩
  rw [← hX]
  repeat ((conv => whnf); (with_reducible refine And.intro ?_ ?_); · first | exact True.intro | (intro hg0; simp only [hg0, Bool.not_false, Bool.not_true]; done) | with_reducible assumption | omega | (intro _; refine ⟨True.intro, ?_⟩; omega) | (intro _; refine ⟨?_, True.intro⟩; omega) | (intro _; refine ⟨decide_eq_true ?_, ?_⟩ <;> omega) | (intro _; refine ⟨?_, ?_⟩ <;> first | omega | (simp [appG, Cd.holds]; done) | (simp [appG, Cd.holds]; omega)) | (refine decide_eq_true ?_; omega) | (intro _; omega) | (simp only [w_i64, w_u64, w_u32, w_u8]; omega) | exact ⟨U_nonneg _, U_lt32 _⟩ | exact R8_UL _ _ | exact R32_UL _ _ | (intro hg0; (repeat ((conv => whnf); (with_reducible refine And.intro ?_ ?_); · first | with_reducible assumption | omega | (intro _; refine ⟨?_, ?_⟩ <;> first | with_reducible assumption | omega | exact True.intro | (refine decide_eq_true ?_; omega) | (simp [appG, Cd.holds]; omega)) | (intro _; refine ⟨And.intro ?_ ?_, ?_⟩ <;> first | with_reducible assumption | omega | (refine decide_eq_true ?_; omega)) | (simp only [hg0, Bool.and_self, Bool.true_and]; done) | (intro hg1; simp only [hg0, hg1, Bool.and_self, Bool.true_and]; done) | (simp [hg0]; done))); (conv => whnf); exact True.intro))
  conv => whnf
  refine ⟨0, Nat, fun i => ⟨46, [(1, .sa (.sc (.int .u32 (U (C + BitVec.ofNat 32 ((i + 63) / 64)))))), (3, .sa (.sc (.im nl .u8 g m))), (4, .sa (.sc (.ptr 0 0 0))), (6, .sa (.sc (.ptr 1 0 0))), (9, .sa (.sc (ownA (Nat.beq (xoL i m) 0) (xoL i m) 2))), (10, .sa (.sc (.int .i64 i)))],
    [(0, .own 29 [.ints .u8 k 32] false), (1, .own 61 [.ints .u8 n 12] false), (2, ownB 5 .u8 (xoB X (ksF K C N) i) (xoL i m))], 3⟩, fun i => i ≤ m, fun i => m - i, ⟨0, by show 0 ≤ m; omega, le_of [] ?_⟩, fun i hi => ?_⟩
  · simp only [show xoL 0 m = 0 from by unfold xoL; omega, show (0 + 63) / 64 = 0 from rfl, show C + BitVec.ofNat 32 0 = C by simp]
    repeat ((conv => whnf); (with_reducible refine And.intro ?_ ?_); · first | with_reducible rfl | exact (Bool.and_false _).symm | (intro _ _; with_reducible rfl) | exact True.intro | with_reducible assumption | (intro h; exact absurd h (by decide)) | omega | (intro _; omega) | (intro _; refine ⟨?_, True.intro⟩; omega) | (intro _; refine ⟨?_, True.intro⟩; intro _; omega) | (refine decide_eq_false ?_; omega) | (refine decide_eq_true ?_; omega) | (simp only [w_i64, w_u64, w_u32, w_u8]; omega) | exact fun j hj => (put_0 hj).symm | (intro j _; simp only [Nat.zero_add]; done) | (simp [appG]; done) | (simp [appG]; omega) | (intro hgd; (try replace hgd := of_decide_eq_true hgd); (repeat ((conv => whnf); (with_reducible refine And.intro ?_ ?_); · first | with_reducible rfl | exact (Bool.and_false _).symm | (intro _ _; with_reducible rfl) | exact True.intro | with_reducible assumption | (intro h; exact absurd h (by decide)) | omega | (intro _; omega) | (intro _; refine ⟨?_, True.intro⟩; omega) | (intro _; refine ⟨?_, True.intro⟩; intro _; omega) | (refine decide_eq_false ?_; omega) | (refine decide_eq_true ?_; omega) | (simp only [w_i64, w_u64, w_u32, w_u8]; omega) | exact fun j hj => (put_0 hj).symm | (intro j _; simp only [Nat.zero_add]; done) | (simp [appG]; done) | (simp [appG]; omega))); (conv => whnf); exact True.intro))
    conv => whnf
    exact True.intro
  have hi : i ≤ m := hi
  have hb0 : Nat.beq (xoL i m) 0 = true → xoL i m = 0 := fun h => by rw [Nat.beq_eq] at h; exact h
  repeat ((conv => whnf); (with_reducible refine And.intro ?_ ?_); · first | exact True.intro | (intro hg0; simp only [hg0, Bool.not_false, Bool.not_true]; done) | with_reducible assumption | omega | (intro _; refine ⟨True.intro, ?_⟩; omega) | (intro _; refine ⟨?_, True.intro⟩; omega) | (intro _; refine ⟨decide_eq_true ?_, ?_⟩ <;> omega) | (intro _; refine ⟨?_, ?_⟩ <;> first | omega | (simp [appG, Cd.holds]; done) | (simp [appG, Cd.holds]; omega)) | (refine decide_eq_true ?_; omega) | (intro _; omega) | (simp only [w_i64, w_u64, w_u32, w_u8]; omega) | exact ⟨U_nonneg _, U_lt32 _⟩ | exact R8_UL _ _ | exact R32_UL _ _ | (intro hg0; (repeat ((conv => whnf); (with_reducible refine And.intro ?_ ?_); · first | with_reducible assumption | omega | (intro _; refine ⟨?_, ?_⟩ <;> first | with_reducible assumption | omega | exact True.intro | (refine decide_eq_true ?_; omega) | (simp [appG, Cd.holds]; omega)) | (intro _; refine ⟨And.intro ?_ ?_, ?_⟩ <;> first | with_reducible assumption | omega | (refine decide_eq_true ?_; omega)) | (simp only [hg0, Bool.and_self, Bool.true_and]; done) | (intro hg1; simp only [hg0, hg1, Bool.and_self, Bool.true_and]; done) | (simp [hg0]; done))); (conv => whnf); exact True.intro))
  conv => whnf
  refine ⟨fun h1 => ?_, fun h1 => ?_⟩
  · replace h1 := of_decide_eq_true h1
    have him : i < m := by omega
    repeat ((conv => whnf); (with_reducible refine And.intro ?_ ?_); · first | exact True.intro | (intro hg0; simp only [hg0, Bool.not_false, Bool.not_true]; done) | with_reducible assumption | omega | (intro _; refine ⟨True.intro, ?_⟩; omega) | (intro _; refine ⟨?_, True.intro⟩; omega) | (intro _; refine ⟨decide_eq_true ?_, ?_⟩ <;> omega) | (intro _; refine ⟨?_, ?_⟩ <;> first | omega | (simp [appG, Cd.holds]; done) | (simp [appG, Cd.holds]; omega)) | (refine decide_eq_true ?_; omega) | (intro _; omega) | (simp only [w_i64, w_u64, w_u32, w_u8]; omega) | exact ⟨U_nonneg _, U_lt32 _⟩ | exact R8_UL _ _ | exact R32_UL _ _ | (intro hg0; (repeat ((conv => whnf); (with_reducible refine And.intro ?_ ?_); · first | with_reducible assumption | omega | (intro _; refine ⟨?_, ?_⟩ <;> first | with_reducible assumption | omega | exact True.intro | (refine decide_eq_true ?_; omega) | (simp [appG, Cd.holds]; omega)) | (intro _; refine ⟨And.intro ?_ ?_, ?_⟩ <;> first | with_reducible assumption | omega | (refine decide_eq_true ?_; omega)) | (simp only [hg0, Bool.and_self, Bool.true_and]; done) | (intro hg1; simp only [hg0, hg1, Bool.and_self, Bool.true_and]; done) | (simp [hg0]; done))); (conv => whnf); exact True.intro))
    conv => whnf
    refine ⟨fun h2 => ?_, fun h2 => ?_⟩
    · have h2 := eq_of_beq h2
      have h3 : ((i : Nat) : Int).tmod 64 = ((i % 64 : Nat) : Int) := rfl
      rw [h3] at h2
      have h64 : i % 64 = 0 := by omega
      have hl0 : xoL i m = i := by unfold xoL; omega
      have hq : (i + 63) / 64 = i / 64 := by omega
      have wd : IntKind.i64.wrap ((m : Int) - (i : Int)) = ((m - i : Nat) : Int) := by rw [w_i64]; omega
      have mn : (if ((m - i : Nat) : Int) < 64 then ((m - i : Nat) : Int) else 64) = ((min (m - i) 64 : Nat) : Int) := by split <;> omega
      have hL1 : xoL (i + 1) m = i + min (m - i) 64 := by unfold xoL; omega
      repeat ((conv => whnf); (with_reducible refine And.intro ?_ ?_); · first | exact True.intro | (intro hg0; simp only [hg0, Bool.not_false, Bool.not_true]; done) | with_reducible assumption | omega | (intro _; refine ⟨True.intro, ?_⟩; omega) | (intro _; refine ⟨?_, True.intro⟩; omega) | (intro _; refine ⟨decide_eq_true ?_, ?_⟩ <;> omega) | (intro _; refine ⟨?_, ?_⟩ <;> first | omega | (simp [appG, Cd.holds]; done) | (simp [appG, Cd.holds]; omega)) | (refine decide_eq_true ?_; omega) | (intro _; omega) | (simp only [w_i64, w_u64, w_u32, w_u8]; omega) | exact ⟨U_nonneg _, U_lt32 _⟩ | exact R8_UL _ _ | exact R32_UL _ _ | (intro hg0; (repeat ((conv => whnf); (with_reducible refine And.intro ?_ ?_); · first | with_reducible assumption | omega | (intro _; refine ⟨?_, ?_⟩ <;> first | with_reducible assumption | omega | exact True.intro | (refine decide_eq_true ?_; omega) | (simp [appG, Cd.holds]; omega)) | (intro _; refine ⟨And.intro ?_ ?_, ?_⟩ <;> first | with_reducible assumption | omega | (refine decide_eq_true ?_; omega)) | (simp only [hg0, Bool.and_self, Bool.true_and]; done) | (intro hg1; simp only [hg0, hg1, Bool.and_self, Bool.true_and]; done) | (simp [hg0]; done) | exact ⟨U_nonneg _, U_lt32 _⟩)); (conv => whnf); exact True.intro) | exact ⟨U_nonneg _, U_lt32 _⟩)
      conv => whnf
      obtain ⟨Bq, hB⟩ : ∃ Bq, Bq = chBlock K (C + BitVec.ofNat 32 ((i + 63) / 64)) N := ⟨_, rfl⟩
      have hBk : ∀ j, i ≤ j → j < xoL (i + 1) m → UL Bq (j - i) = ksF K C N j := fun j hj1 hj2 => by
        rw [hL1] at hj2
        rw [hB, UL_getD]
        unfold ksF chKs
        rw [show j / 64 = (i + 63) / 64 by omega, show j % 64 = j - i by omega]
      have z0 : Int.toNat 0 = 0 := rfl
      simp only [wd, mn, Int.toNat_natCast, z0, Nat.sub_zero, Nat.zero_add, ofInt_U, ← hK, ← hN, ← hB, hl0]
      have hP : ∀ j, j < xoL (i + 1) m → put_ (xoB X (ksF K C N) i) i (min (m - i) 64) (fun j => UL Bq j) j = xoB X (ksF K C N) i j := fun j hj => by
        unfold put_
        split
        · rename_i h
          show UL Bq (j - i) = _
          rw [hBk j h.1 hj]
          unfold xoB
          rw [if_neg (by omega)]
        · rfl
      generalize hPe : put_ (xoB X (ksF K C N) i) i (min (m - i) 64) (fun j => UL Bq j) = P at hP ⊢
      have hiL : i < xoL (i + 1) m := by omega
      have hfin := xoB_step (X := X) (y := g i) hP hiL (by rw [hX]; exact ks_xor hg him)
      rw [hL1] at hfin
      refine ⟨[(0, ⟨0, some 35, []⟩), (1, ⟨0, some 36, []⟩), (2, ⟨3, some 37, []⟩), (3, ⟨7, some 38, []⟩), (4, ⟨0, some 39, []⟩), (5, ⟨0, some 40, []⟩), (6, ⟨48, some 41, []⟩), (7, ⟨112, some 42, []⟩), (8, ⟨255, some 43, []⟩), (9, ⟨511, some 44, []⟩), (10, ⟨1023, none, [4]⟩)], 181, ?_⟩
      repeat (first | ((with_reducible refine (Cd.then_iff _ _).2 (And.intro ?_ ?_)); · repeat' ((conv => arg 1; whnf); first | exact Cd.holds_tt | (refine Cd.holds_p ?_; first | exact True.intro | (intro hg0; simp only [hg0, Bool.not_false, Bool.not_true]; done) | with_reducible assumption | omega | (intro _; refine ⟨True.intro, ?_⟩; omega) | (intro _; refine ⟨?_, True.intro⟩; omega) | (intro _; refine ⟨decide_eq_true ?_, ?_⟩ <;> omega) | (intro _; refine ⟨?_, ?_⟩ <;> first | omega | (simp [appG, Cd.holds]; done) | (simp [appG, Cd.holds]; omega)) | (refine decide_eq_true ?_; omega) | (intro _; omega) | (simp only [w_i64, w_u64, w_u32, w_u8]; omega) | exact ⟨U_nonneg _, U_lt32 _⟩ | exact R8_UL _ _ | exact R32_UL _ _ | (intro hg0; (repeat ((conv => whnf); (with_reducible refine And.intro ?_ ?_); · first | with_reducible assumption | omega | (intro _; refine ⟨?_, ?_⟩ <;> first | with_reducible assumption | omega | exact True.intro | (refine decide_eq_true ?_; omega) | (simp [appG, Cd.holds]; omega)) | (intro _; refine ⟨And.intro ?_ ?_, ?_⟩ <;> first | with_reducible assumption | omega | (refine decide_eq_true ?_; omega)) | (simp only [hg0, Bool.and_self, Bool.true_and]; done) | (intro hg1; simp only [hg0, hg1, Bool.and_self, Bool.true_and]; done) | (simp [hg0]; done))); (conv => whnf); exact True.intro)) | refine Cd.holds_and ?_ ?_ | (refine Cd.holds_imp fun hg0 => ?_))) | ((conv => whnf); (with_reducible refine And.intro ?_ ?_); · first | exact True.intro | (intro hg0; simp only [hg0, Bool.not_false, Bool.not_true]; done) | with_reducible assumption | omega | (intro _; refine ⟨True.intro, ?_⟩; omega) | (intro _; refine ⟨?_, True.intro⟩; omega) | (intro _; refine ⟨decide_eq_true ?_, ?_⟩ <;> omega) | (intro _; refine ⟨?_, ?_⟩ <;> first | omega | (simp [appG, Cd.holds]; done) | (simp [appG, Cd.holds]; omega)) | (refine decide_eq_true ?_; omega) | (intro _; omega) | (simp only [w_i64, w_u64, w_u32, w_u8]; omega) | exact ⟨U_nonneg _, U_lt32 _⟩ | exact R8_UL _ _ | exact R32_UL _ _ | (intro hg0; (repeat ((conv => whnf); (with_reducible refine And.intro ?_ ?_); · first | with_reducible assumption | omega | (intro _; refine ⟨?_, ?_⟩ <;> first | with_reducible assumption | omega | exact True.intro | (refine decide_eq_true ?_; omega) | (simp [appG, Cd.holds]; omega)) | (intro _; refine ⟨And.intro ?_ ?_, ?_⟩ <;> first | with_reducible assumption | omega | (refine decide_eq_true ?_; omega)) | (simp only [hg0, Bool.and_self, Bool.true_and]; done) | (intro hg1; simp only [hg0, hg1, Bool.and_self, Bool.true_and]; done) | (simp [hg0]; done))); (conv => whnf); exact True.intro)))
      conv => whnf
      refine ⟨i + 1, ⟨by show i + 1 ≤ m; omega, by show m - (i + 1) < m - i; omega⟩, le_of [(2, 4)] ?_⟩
      have hone : IntKind.u32.wrap (U (C + BitVec.ofNat 32 ((i + 63) / 64)) + 1) = U (C + BitVec.ofNat 32 ((i + 1 + 63) / 64)) := by rw [one32, ctr_succ]; congr 3; omega
      have f1 : Nat.beq (i + min (m - i) 64) 0 = false := by
        cases e : Nat.beq (i + min (m - i) 64) 0 with
        | false => rfl
        | true => rw [Nat.beq_eq] at e; omega
      have f2 : Nat.beq (min (m - i) 64) 0 = false := by
        cases e : Nat.beq (min (m - i) 64) 0 with
        | false => rfl
        | true => rw [Nat.beq_eq] at e; omega
      simp only [hL1, Int.toNat_natCast, Nat.zero_add, hone, f1, f2, Bool.and_false]
      repeat ((conv => whnf); (with_reducible refine And.intro ?_ ?_); · first | exact hfin | with_reducible rfl | exact (Bool.and_false _).symm | (intro _ _; with_reducible rfl) | exact True.intro | with_reducible assumption | (intro h; exact absurd h (by decide)) | omega | (intro _; omega) | (intro _; refine ⟨?_, True.intro⟩; omega) | (intro _; refine ⟨?_, True.intro⟩; intro _; omega) | (refine decide_eq_false ?_; omega) | (refine decide_eq_true ?_; omega) | (simp only [w_i64, w_u64, w_u32, w_u8]; omega) | exact fun j hj => (put_0 hj).symm | (intro j _; simp only [Nat.zero_add]; done) | (simp [appG]; done) | (simp [appG]; omega) | exact hfin | (intro hgd; (try replace hgd := of_decide_eq_true hgd); (repeat ((conv => whnf); (with_reducible refine And.intro ?_ ?_); · first | with_reducible rfl | exact (Bool.and_false _).symm | (intro _ _; with_reducible rfl) | exact True.intro | with_reducible assumption | (intro h; exact absurd h (by decide)) | omega | (intro _; omega) | (intro _; refine ⟨?_, True.intro⟩; omega) | (intro _; refine ⟨?_, True.intro⟩; intro _; omega) | (refine decide_eq_false ?_; omega) | (refine decide_eq_true ?_; omega) | (simp only [w_i64, w_u64, w_u32, w_u8]; omega) | exact fun j hj => (put_0 hj).symm | (intro j _; simp only [Nat.zero_add]; done) | (simp [appG]; done) | (simp [appG]; omega) | exact hfin)); (conv => whnf); exact True.intro))
      conv => whnf
      exact True.intro
    · have h2 := ne_of_beq_false h2
      have h3 : ((i : Nat) : Int).tmod 64 = ((i % 64 : Nat) : Int) := rfl
      rw [h3] at h2
      have h64 : i % 64 ≠ 0 := by omega
      have hL1 : xoL (i + 1) m = xoL i m := by unfold xoL; omega
      have hiL : i < xoL i m := by unfold xoL; omega
      have hfin := xoB_step (X := X) (P := xoB X (ksF K C N) i) (B := ksF K C N) (L := xoL i m) (y := g i) (fun _ _ => rfl) hiL (by rw [hX]; exact ks_xor hg him)
      refine ⟨[(0, ⟨0, some 35, []⟩), (1, ⟨0, some 36, []⟩), (2, ⟨3, some 37, []⟩), (3, ⟨7, some 38, []⟩), (4, ⟨0, some 39, []⟩), (5, ⟨0, some 40, []⟩), (6, ⟨48, some 41, []⟩), (7, ⟨112, some 42, []⟩), (8, ⟨255, some 43, []⟩), (9, ⟨511, some 44, []⟩), (10, ⟨1023, none, [2]⟩)], 179, ?_⟩
      repeat (first | ((with_reducible refine (Cd.then_iff _ _).2 (And.intro ?_ ?_)); · repeat' ((conv => arg 1; whnf); first | exact Cd.holds_tt | (refine Cd.holds_p ?_; first | exact True.intro | (intro hg0; simp only [hg0, Bool.not_false, Bool.not_true]; done) | with_reducible assumption | omega | (intro _; refine ⟨True.intro, ?_⟩; omega) | (intro _; refine ⟨?_, True.intro⟩; omega) | (intro _; refine ⟨decide_eq_true ?_, ?_⟩ <;> omega) | (intro _; refine ⟨?_, ?_⟩ <;> first | omega | (simp [appG, Cd.holds]; done) | (simp [appG, Cd.holds]; omega)) | (refine decide_eq_true ?_; omega) | (intro _; omega) | (simp only [w_i64, w_u64, w_u32, w_u8]; omega) | exact ⟨U_nonneg _, U_lt32 _⟩ | exact R8_UL _ _ | exact R32_UL _ _ | (intro hg0; (repeat ((conv => whnf); (with_reducible refine And.intro ?_ ?_); · first | with_reducible assumption | omega | (intro _; refine ⟨?_, ?_⟩ <;> first | with_reducible assumption | omega | exact True.intro | (refine decide_eq_true ?_; omega) | (simp [appG, Cd.holds]; omega)) | (intro _; refine ⟨And.intro ?_ ?_, ?_⟩ <;> first | with_reducible assumption | omega | (refine decide_eq_true ?_; omega)) | (simp only [hg0, Bool.and_self, Bool.true_and]; done) | (intro hg1; simp only [hg0, hg1, Bool.and_self, Bool.true_and]; done) | (simp [hg0]; done))); (conv => whnf); exact True.intro)) | refine Cd.holds_and ?_ ?_ | (refine Cd.holds_imp fun hg0 => ?_))) | ((conv => whnf); (with_reducible refine And.intro ?_ ?_); · first | exact True.intro | (intro hg0; simp only [hg0, Bool.not_false, Bool.not_true]; done) | with_reducible assumption | omega | (intro _; refine ⟨True.intro, ?_⟩; omega) | (intro _; refine ⟨?_, True.intro⟩; omega) | (intro _; refine ⟨decide_eq_true ?_, ?_⟩ <;> omega) | (intro _; refine ⟨?_, ?_⟩ <;> first | omega | (simp [appG, Cd.holds]; done) | (simp [appG, Cd.holds]; omega)) | (refine decide_eq_true ?_; omega) | (intro _; omega) | (simp only [w_i64, w_u64, w_u32, w_u8]; omega) | exact ⟨U_nonneg _, U_lt32 _⟩ | exact R8_UL _ _ | exact R32_UL _ _ | (intro hg0; (repeat ((conv => whnf); (with_reducible refine And.intro ?_ ?_); · first | with_reducible assumption | omega | (intro _; refine ⟨?_, ?_⟩ <;> first | with_reducible assumption | omega | exact True.intro | (refine decide_eq_true ?_; omega) | (simp [appG, Cd.holds]; omega)) | (intro _; refine ⟨And.intro ?_ ?_, ?_⟩ <;> first | with_reducible assumption | omega | (refine decide_eq_true ?_; omega)) | (simp only [hg0, Bool.and_self, Bool.true_and]; done) | (intro hg1; simp only [hg0, hg1, Bool.and_self, Bool.true_and]; done) | (simp [hg0]; done))); (conv => whnf); exact True.intro)))
      conv => whnf
      refine ⟨i + 1, ⟨by show i + 1 ≤ m; omega, by show m - (i + 1) < m - i; omega⟩, le_of [] ?_⟩
      simp only [hL1, Int.toNat_natCast, Nat.zero_add, show (i + 1 + 63) / 64 = (i + 63) / 64 by omega]
      repeat ((conv => whnf); (with_reducible refine And.intro ?_ ?_); · first | exact hfin | with_reducible rfl | exact (Bool.and_false _).symm | (intro _ _; with_reducible rfl) | exact True.intro | with_reducible assumption | (intro h; exact absurd h (by decide)) | omega | (intro _; omega) | (intro _; refine ⟨?_, True.intro⟩; omega) | (intro _; refine ⟨?_, True.intro⟩; intro _; omega) | (refine decide_eq_false ?_; omega) | (refine decide_eq_true ?_; omega) | (simp only [w_i64, w_u64, w_u32, w_u8]; omega) | exact fun j hj => (put_0 hj).symm | (intro j _; simp only [Nat.zero_add]; done) | (simp [appG]; done) | (simp [appG]; omega) | exact hfin | (intro hgd; (try replace hgd := of_decide_eq_true hgd); (repeat ((conv => whnf); (with_reducible refine And.intro ?_ ?_); · first | with_reducible rfl | exact (Bool.and_false _).symm | (intro _ _; with_reducible rfl) | exact True.intro | with_reducible assumption | (intro h; exact absurd h (by decide)) | omega | (intro _; omega) | (intro _; refine ⟨?_, True.intro⟩; omega) | (intro _; refine ⟨?_, True.intro⟩; intro _; omega) | (refine decide_eq_false ?_; omega) | (refine decide_eq_true ?_; omega) | (simp only [w_i64, w_u64, w_u32, w_u8]; omega) | exact fun j hj => (put_0 hj).symm | (intro j _; simp only [Nat.zero_add]; done) | (simp [appG]; done) | (simp [appG]; omega) | exact hfin)); (conv => whnf); exact True.intro))
      conv => whnf
      exact True.intro
  · replace h1 := of_decide_eq_false h1
    have him : i = m := by omega
    subst him
    have hL : xoL i i = i := by unfold xoL; omega
    simp only [hL]
    repeat ((conv => whnf); (with_reducible refine And.intro ?_ ?_); · first | exact True.intro | (intro hg0; simp only [hg0, Bool.not_false, Bool.not_true]; done) | with_reducible assumption | omega | (intro _; refine ⟨True.intro, ?_⟩; omega) | (intro _; refine ⟨?_, True.intro⟩; omega) | (intro _; refine ⟨decide_eq_true ?_, ?_⟩ <;> omega) | (intro _; refine ⟨?_, ?_⟩ <;> first | omega | (simp [appG, Cd.holds]; done) | (simp [appG, Cd.holds]; omega)) | (refine decide_eq_true ?_; omega) | (intro _; omega) | (simp only [w_i64, w_u64, w_u32, w_u8]; omega) | exact ⟨U_nonneg _, U_lt32 _⟩ | exact R8_UL _ _ | exact R32_UL _ _ | (intro hg0; (repeat ((conv => whnf); (with_reducible refine And.intro ?_ ?_); · first | with_reducible assumption | omega | (intro _; refine ⟨?_, ?_⟩ <;> first | with_reducible assumption | omega | exact True.intro | (refine decide_eq_true ?_; omega) | (simp [appG, Cd.holds]; omega)) | (intro _; refine ⟨And.intro ?_ ?_, ?_⟩ <;> first | with_reducible assumption | omega | (refine decide_eq_true ?_; omega)) | (simp only [hg0, Bool.and_self, Bool.true_and]; done) | (intro hg1; simp only [hg0, hg1, Bool.and_self, Bool.true_and]; done) | (simp [hg0]; done))); (conv => whnf); exact True.intro))
    conv => whnf
    refine ⟨[(0, 2)], ?_⟩
    repeat ((conv => whnf); (with_reducible refine And.intro ?_ ?_); · first | (intro j hj; unfold xoB; rw [if_pos hj]) | with_reducible rfl | exact (Bool.and_false _).symm | (intro _ _; with_reducible rfl) | exact True.intro | with_reducible assumption | (intro h; exact absurd h (by decide)) | omega | (intro _; omega) | (intro _; refine ⟨?_, True.intro⟩; omega) | (intro _; refine ⟨?_, True.intro⟩; intro _; omega) | (refine decide_eq_false ?_; omega) | (refine decide_eq_true ?_; omega) | (simp only [w_i64, w_u64, w_u32, w_u8]; omega) | exact fun j hj => (put_0 hj).symm | (intro j _; simp only [Nat.zero_add]; done) | (simp [appG]; done) | (simp [appG]; omega) | (intro j hj; unfold xoB; rw [if_pos hj]) | (intro hgd; (try replace hgd := of_decide_eq_true hgd); (repeat ((conv => whnf); (with_reducible refine And.intro ?_ ?_); · first | with_reducible rfl | exact (Bool.and_false _).symm | (intro _ _; with_reducible rfl) | exact True.intro | with_reducible assumption | (intro h; exact absurd h (by decide)) | omega | (intro _; omega) | (intro _; refine ⟨?_, True.intro⟩; omega) | (intro _; refine ⟨?_, True.intro⟩; intro _; omega) | (refine decide_eq_false ?_; omega) | (refine decide_eq_true ?_; omega) | (simp only [w_i64, w_u64, w_u32, w_u8]; omega) | exact fun j hj => (put_0 hj).symm | (intro j _; simp only [Nat.zero_add]; done) | (simp [appG]; done) | (simp [appG]; omega) | (intro j hj; unfold xoB; rw [if_pos hj]))); (conv => whnf); exact True.intro))
    conv => whnf
    exact True.intro
end Go.Proofs.Ytogijkmflhjhkaa

/- The law of ChaCha20, through the evaluator: quarter rounds, blocks, bytes by them are the document's. No condition. -/
namespace Go.Proofs.Ytogijkmflhjhkaa
open Go.Sx Go.RowKit
set_option linter.unusedSimpArgs false
set_option maxRecDepth 100000
set_option maxHeartbeats 2000000
set_option linter.unusedVariables false

theorem cokQ : COk Try.prog (tab [(50, yesS), (31, shortS), (53, keyS), (54, nonceS), (51, quarterS), (52, rquarterS), (55, blockS), (56, rblockS), (57, xorS), (58, rxorS)]) :=
  cok_cons yesS50_ok (cok_cons shortS_ok (cok_cons keyS_ok (cok_cons nonceS_ok (cok_cons quarterS_ok (cok_cons rquarterS_ok (cok_cons blockS_ok (cok_cons rblockS_ok (cok_cons xorS_ok (cok_cons rxorS_ok cok_nil)))))))))
theorem chachaAll_law (a b c d : Int) (nlk : Bool) (k : Nat → Int) (nk : Nat) (nln : Bool) (n : Nat → Int) (nn : Nat) (nlx : Bool) (x : Nat → Int) (nx : Nat) (ha : 0 ≤ a ∧ a < 4294967296) (hb : 0 ≤ b ∧ b < 4294967296) (hc : 0 ≤ c ∧ c < 4294967296) (hd : 0 ≤ d ∧ d < 4294967296)
    (hk : R8 k nk) (hn : R8 n nn) (hx : R8 x nx) :
    FCalls Try.prog 19 [.sc (.int .u32 a), .sc (.int .u32 b), .sc (.int .u32 c), .sc (.int .u32 d), .sc (.im nlk .u8 k nk), .sc (.im nln .u8 n nn), .sc (.im nlx .u8 x nx)] [] 0 isTrue := by
  refine fcalls_of_run tt_ok cokQ mixed_ok Try.func19 rfl (rs := _) Try.results19 (size := 104) Try.ntmps19 (Nat.le_of_ble_eq_true rfl) rfl fun hp hfa hfh => ?_
  have hrx : R8 x (min nx (Int.toNat 200)) := R8_le hx (by omega)
  have hmx : min nx (Int.toNat 200) ≤ 200 := Nat.min_le_right _ _
  have ua : u32R a := ha
  have ub : u32R b := hb
  have uc : u32R c := hc
  have ud : u32R d := hd
  repeat ((conv => whnf); (with_reducible refine And.intro ?_ ?_); · first | exact True.intro | (intro hg0; simp only [hg0, Bool.not_false, Bool.not_true]; done) | with_reducible assumption | omega | (intro _; refine ⟨True.intro, ?_⟩; omega) | (intro _; refine ⟨?_, True.intro⟩; omega) | (intro _; refine ⟨decide_eq_true ?_, ?_⟩ <;> omega) | (intro _; refine ⟨?_, ?_⟩ <;> first | omega | (simp [appG, Cd.holds]; done) | (simp [appG, Cd.holds]; omega)) | (refine decide_eq_true ?_; omega) | (intro _; omega) | (simp only [w_i64, w_u64, w_u32, w_u8]; omega) | exact ⟨U_nonneg _, U_lt32 _⟩ | exact R8_UL _ _ | exact R32_UL _ _ | (intro hg0; (repeat ((conv => whnf); (with_reducible refine And.intro ?_ ?_); · first | with_reducible assumption | omega | (intro _; refine ⟨?_, ?_⟩ <;> first | with_reducible assumption | omega | exact True.intro | (refine decide_eq_true ?_; omega) | (simp [appG, Cd.holds]; omega)) | (intro _; refine ⟨And.intro ?_ ?_, ?_⟩ <;> first | with_reducible assumption | omega | (refine decide_eq_true ?_; omega)) | (simp only [hg0, Bool.and_self, Bool.true_and]; done) | (intro hg1; simp only [hg0, hg1, Bool.and_self, Bool.true_and]; done) | (simp [hg0]; done))); (conv => whnf); exact True.intro))
  conv => whnf
  refine ⟨fun h1 => (nomatch h1), fun h1 => ?_⟩
  repeat (first | ((with_reducible refine (Cd.then_iff _ _).2 (And.intro ?_ ?_)); · repeat' ((conv => arg 1; whnf); first | exact Cd.holds_tt | (refine Cd.holds_p ?_; first | exact True.intro | (intro hg0; simp only [hg0, Bool.not_false, Bool.not_true]; done) | with_reducible assumption | omega | (intro _; refine ⟨True.intro, ?_⟩; omega) | (intro _; refine ⟨?_, True.intro⟩; omega) | (intro _; refine ⟨decide_eq_true ?_, ?_⟩ <;> omega) | (intro _; refine ⟨?_, ?_⟩ <;> first | omega | (simp [appG, Cd.holds]; done) | (simp [appG, Cd.holds]; omega)) | (refine decide_eq_true ?_; omega) | (intro _; omega) | (simp only [w_i64, w_u64, w_u32, w_u8]; omega) | exact ⟨U_nonneg _, U_lt32 _⟩ | exact R8_UL _ _ | exact R32_UL _ _ | (intro hg0; (repeat ((conv => whnf); (with_reducible refine And.intro ?_ ?_); · first | with_reducible assumption | omega | (intro _; refine ⟨?_, ?_⟩ <;> first | with_reducible assumption | omega | exact True.intro | (refine decide_eq_true ?_; omega) | (simp [appG, Cd.holds]; omega)) | (intro _; refine ⟨And.intro ?_ ?_, ?_⟩ <;> first | with_reducible assumption | omega | (refine decide_eq_true ?_; omega)) | (simp only [hg0, Bool.and_self, Bool.true_and]; done) | (intro hg1; simp only [hg0, hg1, Bool.and_self, Bool.true_and]; done) | (simp [hg0]; done))); (conv => whnf); exact True.intro)) | refine Cd.holds_and ?_ ?_ | (refine Cd.holds_imp fun hg0 => ?_))) | ((conv => whnf); (with_reducible refine And.intro ?_ ?_); · first | exact True.intro | (intro hg0; simp only [hg0, Bool.not_false, Bool.not_true]; done) | with_reducible assumption | omega | (intro _; refine ⟨True.intro, ?_⟩; omega) | (intro _; refine ⟨?_, True.intro⟩; omega) | (intro _; refine ⟨decide_eq_true ?_, ?_⟩ <;> omega) | (intro _; refine ⟨?_, ?_⟩ <;> first | omega | (simp [appG, Cd.holds]; done) | (simp [appG, Cd.holds]; omega)) | (refine decide_eq_true ?_; omega) | (intro _; omega) | (simp only [w_i64, w_u64, w_u32, w_u8]; omega) | exact ⟨U_nonneg _, U_lt32 _⟩ | exact R8_UL _ _ | exact R32_UL _ _ | (intro hg0; (repeat ((conv => whnf); (with_reducible refine And.intro ?_ ?_); · first | with_reducible assumption | omega | (intro _; refine ⟨?_, ?_⟩ <;> first | with_reducible assumption | omega | exact True.intro | (refine decide_eq_true ?_; omega) | (simp [appG, Cd.holds]; omega)) | (intro _; refine ⟨And.intro ?_ ?_, ?_⟩ <;> first | with_reducible assumption | omega | (refine decide_eq_true ?_; omega)) | (simp only [hg0, Bool.and_self, Bool.true_and]; done) | (intro hg1; simp only [hg0, hg1, Bool.and_self, Bool.true_and]; done) | (simp [hg0]; done))); (conv => whnf); exact True.intro)))
  conv => whnf
  generalize min nx (Int.toNat 200) = m at *
  simp only [bne_self_eq_false, cond_false]
  refine ⟨fun h2 => (nomatch h2), fun h2 => ?_⟩
  repeat (first | ((with_reducible refine (Cd.then_iff _ _).2 (And.intro ?_ ?_)); · repeat' ((conv => arg 1; whnf); first | exact Cd.holds_tt | (refine Cd.holds_p ?_; first | exact True.intro | (intro hg0; simp only [hg0, Bool.not_false, Bool.not_true]; done) | with_reducible assumption | omega | (intro _; refine ⟨True.intro, ?_⟩; omega) | (intro _; refine ⟨?_, True.intro⟩; omega) | (intro _; refine ⟨decide_eq_true ?_, ?_⟩ <;> omega) | (intro _; refine ⟨?_, ?_⟩ <;> first | omega | (simp [appG, Cd.holds]; done) | (simp [appG, Cd.holds]; omega)) | (refine decide_eq_true ?_; omega) | (intro _; omega) | (simp only [w_i64, w_u64, w_u32, w_u8]; omega) | exact ⟨U_nonneg _, U_lt32 _⟩ | exact R8_UL _ _ | exact R32_UL _ _ | (intro hg0; (repeat ((conv => whnf); (with_reducible refine And.intro ?_ ?_); · first | with_reducible assumption | omega | (intro _; refine ⟨?_, ?_⟩ <;> first | with_reducible assumption | omega | exact True.intro | (refine decide_eq_true ?_; omega) | (simp [appG, Cd.holds]; omega)) | (intro _; refine ⟨And.intro ?_ ?_, ?_⟩ <;> first | with_reducible assumption | omega | (refine decide_eq_true ?_; omega)) | (simp only [hg0, Bool.and_self, Bool.true_and]; done) | (intro hg1; simp only [hg0, hg1, Bool.and_self, Bool.true_and]; done) | (simp [hg0]; done))); (conv => whnf); exact True.intro)) | refine Cd.holds_and ?_ ?_ | (refine Cd.holds_imp fun hg0 => ?_))) | ((conv => whnf); (with_reducible refine And.intro ?_ ?_); · first | exact True.intro | (intro hg0; simp only [hg0, Bool.not_false, Bool.not_true]; done) | with_reducible assumption | omega | (intro _; refine ⟨True.intro, ?_⟩; omega) | (intro _; refine ⟨?_, True.intro⟩; omega) | (intro _; refine ⟨decide_eq_true ?_, ?_⟩ <;> omega) | (intro _; refine ⟨?_, ?_⟩ <;> first | omega | (simp [appG, Cd.holds]; done) | (simp [appG, Cd.holds]; omega)) | (refine decide_eq_true ?_; omega) | (intro _; omega) | (simp only [w_i64, w_u64, w_u32, w_u8]; omega) | exact ⟨U_nonneg _, U_lt32 _⟩ | exact R8_UL _ _ | exact R32_UL _ _ | (intro hg0; (repeat ((conv => whnf); (with_reducible refine And.intro ?_ ?_); · first | with_reducible assumption | omega | (intro _; refine ⟨?_, ?_⟩ <;> first | with_reducible assumption | omega | exact True.intro | (refine decide_eq_true ?_; omega) | (simp [appG, Cd.holds]; omega)) | (intro _; refine ⟨And.intro ?_ ?_, ?_⟩ <;> first | with_reducible assumption | omega | (refine decide_eq_true ?_; omega)) | (simp only [hg0, Bool.and_self, Bool.true_and]; done) | (intro hg1; simp only [hg0, hg1, Bool.and_self, Bool.true_and]; done) | (simp [hg0]; done))); (conv => whnf); exact True.intro)))
  conv => whnf
  obtain ⟨K, hK⟩ : ∃ K, K = kpad 32 (L8 k nk) := ⟨_, rfl⟩
  have hKl : K.length = 32 := by rw [hK, kpad_length]
  obtain ⟨N, hN⟩ : ∃ N, N = kpad 12 (L8 n nn) := ⟨_, rfl⟩
  have hNl : N.length = 12 := by rw [hN, kpad_length]
  have eK : L8 (UL K) 32 = K := L8_UL' hKl.symm
  have eN : L8 (UL N) 12 = N := L8_UL' hNl.symm
  simp only [← hK, ← hN]
  refine ⟨[(0, ⟨0, some 74, []⟩), (1, ⟨0, some 75, []⟩), (2, ⟨0, some 76, []⟩), (3, ⟨7, some 77, []⟩), (4, ⟨0, some 78, []⟩), (5, ⟨0, some 79, []⟩), (6, ⟨0, some 80, []⟩), (7, ⟨127, some 81, []⟩), (8, ⟨255, some 82, []⟩)], 146, ?_⟩
  repeat (first | ((with_reducible refine (Cd.then_iff _ _).2 (And.intro ?_ ?_)); · repeat' ((conv => arg 1; whnf); first | exact Cd.holds_tt | (refine Cd.holds_p ?_; first | exact ua | exact R8_UL _ _ | exact True.intro | (intro hg0; simp only [hg0, Bool.not_false, Bool.not_true]; done) | with_reducible assumption | omega | (intro _; refine ⟨True.intro, ?_⟩; omega) | (intro _; refine ⟨?_, True.intro⟩; omega) | (intro _; refine ⟨decide_eq_true ?_, ?_⟩ <;> omega) | (intro _; refine ⟨?_, ?_⟩ <;> first | omega | (simp [appG, Cd.holds]; done) | (simp [appG, Cd.holds]; omega)) | (refine decide_eq_true ?_; omega) | (intro _; omega) | (simp only [w_i64, w_u64, w_u32, w_u8]; omega) | exact ⟨U_nonneg _, U_lt32 _⟩ | exact R8_UL _ _ | exact R32_UL _ _ | (intro hg0; (repeat ((conv => whnf); (with_reducible refine And.intro ?_ ?_); · first | with_reducible assumption | omega | (intro _; refine ⟨?_, ?_⟩ <;> first | with_reducible assumption | omega | exact True.intro | (refine decide_eq_true ?_; omega) | (simp [appG, Cd.holds]; omega)) | (intro _; refine ⟨And.intro ?_ ?_, ?_⟩ <;> first | with_reducible assumption | omega | (refine decide_eq_true ?_; omega)) | (simp only [hg0, Bool.and_self, Bool.true_and]; done) | (intro hg1; simp only [hg0, hg1, Bool.and_self, Bool.true_and]; done) | (simp [hg0]; done) | exact ua | exact R8_UL _ _)); (conv => whnf); exact True.intro)) | refine Cd.holds_and ?_ ?_ | (refine Cd.holds_imp fun hg0 => ?_))) | ((conv => whnf); (with_reducible refine And.intro ?_ ?_); · first | exact ua | exact R8_UL _ _ | exact True.intro | (intro hg0; simp only [hg0, Bool.not_false, Bool.not_true]; done) | with_reducible assumption | omega | (intro _; refine ⟨True.intro, ?_⟩; omega) | (intro _; refine ⟨?_, True.intro⟩; omega) | (intro _; refine ⟨decide_eq_true ?_, ?_⟩ <;> omega) | (intro _; refine ⟨?_, ?_⟩ <;> first | omega | (simp [appG, Cd.holds]; done) | (simp [appG, Cd.holds]; omega)) | (refine decide_eq_true ?_; omega) | (intro _; omega) | (simp only [w_i64, w_u64, w_u32, w_u8]; omega) | exact ⟨U_nonneg _, U_lt32 _⟩ | exact R8_UL _ _ | exact R32_UL _ _ | (intro hg0; (repeat ((conv => whnf); (with_reducible refine And.intro ?_ ?_); · first | with_reducible assumption | omega | (intro _; refine ⟨?_, ?_⟩ <;> first | with_reducible assumption | omega | exact True.intro | (refine decide_eq_true ?_; omega) | (simp [appG, Cd.holds]; omega)) | (intro _; refine ⟨And.intro ?_ ?_, ?_⟩ <;> first | with_reducible assumption | omega | (refine decide_eq_true ?_; omega)) | (simp only [hg0, Bool.and_self, Bool.true_and]; done) | (intro hg1; simp only [hg0, hg1, Bool.and_self, Bool.true_and]; done) | (simp [hg0]; done) | exact ua | exact R8_UL _ _)); (conv => whnf); exact True.intro)))
  conv => whnf
  simp only [eqI_self, Bool.not_true]
  refine ⟨fun h3 => (nomatch h3), fun h3 => ?_⟩
  repeat (first | ((with_reducible refine (Cd.then_iff _ _).2 (And.intro ?_ ?_)); · repeat' ((conv => arg 1; whnf); first | exact Cd.holds_tt | (refine Cd.holds_p ?_; first | exact True.intro | (intro hg0; simp only [hg0, Bool.not_false, Bool.not_true]; done) | with_reducible assumption | omega | (intro _; refine ⟨True.intro, ?_⟩; omega) | (intro _; refine ⟨?_, True.intro⟩; omega) | (intro _; refine ⟨decide_eq_true ?_, ?_⟩ <;> omega) | (intro _; refine ⟨?_, ?_⟩ <;> first | omega | (simp [appG, Cd.holds]; done) | (simp [appG, Cd.holds]; omega)) | (refine decide_eq_true ?_; omega) | (intro _; omega) | (simp only [w_i64, w_u64, w_u32, w_u8]; omega) | exact ⟨U_nonneg _, U_lt32 _⟩ | exact R8_UL _ _ | exact R32_UL _ _ | (intro hg0; (repeat ((conv => whnf); (with_reducible refine And.intro ?_ ?_); · first | with_reducible assumption | omega | (intro _; refine ⟨?_, ?_⟩ <;> first | with_reducible assumption | omega | exact True.intro | (refine decide_eq_true ?_; omega) | (simp [appG, Cd.holds]; omega)) | (intro _; refine ⟨And.intro ?_ ?_, ?_⟩ <;> first | with_reducible assumption | omega | (refine decide_eq_true ?_; omega)) | (simp only [hg0, Bool.and_self, Bool.true_and]; done) | (intro hg1; simp only [hg0, hg1, Bool.and_self, Bool.true_and]; done) | (simp [hg0]; done))); (conv => whnf); exact True.intro)) | refine Cd.holds_and ?_ ?_ | (refine Cd.holds_imp fun hg0 => ?_))) | ((conv => whnf); (with_reducible refine And.intro ?_ ?_); · first | exact True.intro | (intro hg0; simp only [hg0, Bool.not_false, Bool.not_true]; done) | with_reducible assumption | omega | (intro _; refine ⟨True.intro, ?_⟩; omega) | (intro _; refine ⟨?_, True.intro⟩; omega) | (intro _; refine ⟨decide_eq_true ?_, ?_⟩ <;> omega) | (intro _; refine ⟨?_, ?_⟩ <;> first | omega | (simp [appG, Cd.holds]; done) | (simp [appG, Cd.holds]; omega)) | (refine decide_eq_true ?_; omega) | (intro _; omega) | (simp only [w_i64, w_u64, w_u32, w_u8]; omega) | exact ⟨U_nonneg _, U_lt32 _⟩ | exact R8_UL _ _ | exact R32_UL _ _ | (intro hg0; (repeat ((conv => whnf); (with_reducible refine And.intro ?_ ?_); · first | with_reducible assumption | omega | (intro _; refine ⟨?_, ?_⟩ <;> first | with_reducible assumption | omega | exact True.intro | (refine decide_eq_true ?_; omega) | (simp [appG, Cd.holds]; omega)) | (intro _; refine ⟨And.intro ?_ ?_, ?_⟩ <;> first | with_reducible assumption | omega | (refine decide_eq_true ?_; omega)) | (simp only [hg0, Bool.and_self, Bool.true_and]; done) | (intro hg1; simp only [hg0, hg1, Bool.and_self, Bool.true_and]; done) | (simp [hg0]; done))); (conv => whnf); exact True.intro)))
  conv => whnf
  refine ⟨[(0, ⟨0, some 85, []⟩), (1, ⟨0, some 86, []⟩), (2, ⟨0, some 87, []⟩), (3, ⟨0, some 88, []⟩), (4, ⟨15, some 89, [210]⟩), (5, ⟨31, some 90, []⟩), (6, ⟨0, some 91, []⟩), (7, ⟨0, some 92, []⟩), (8, ⟨0, some 93, []⟩), (9, ⟨0, some 94, []⟩), (10, ⟨991, some 95, [306]⟩), (11, ⟨2015, some 96, []⟩), (12, ⟨4095, some 97, []⟩), (13, ⟨8191, some 98, []⟩), (14, ⟨16383, some 99, []⟩), (15, ⟨32767, some 100, []⟩), (16, ⟨16383, some 101, []⟩), (17, ⟨131071, some 102, []⟩), (18, ⟨262143, some 103, []⟩), (19, ⟨524287, some 14, []⟩)], 466, ?_⟩
  repeat (first | ((with_reducible refine (Cd.then_iff _ _).2 (And.intro ?_ ?_)); · repeat' ((conv => arg 1; whnf); first | exact Cd.holds_tt | (refine Cd.holds_p ?_; first | exact ua | exact R8_UL _ _ | exact hrx | exact True.intro | (intro hg0; simp only [hg0, Bool.not_false, Bool.not_true]; done) | with_reducible assumption | omega | (intro _; refine ⟨True.intro, ?_⟩; omega) | (intro _; refine ⟨?_, True.intro⟩; omega) | (intro _; refine ⟨decide_eq_true ?_, ?_⟩ <;> omega) | (intro _; refine ⟨?_, ?_⟩ <;> first | omega | (simp [appG, Cd.holds]; done) | (simp [appG, Cd.holds]; omega)) | (refine decide_eq_true ?_; omega) | (intro _; omega) | (simp only [w_i64, w_u64, w_u32, w_u8]; omega) | exact ⟨U_nonneg _, U_lt32 _⟩ | exact R8_UL _ _ | exact R32_UL _ _ | (intro hg0; (repeat ((conv => whnf); (with_reducible refine And.intro ?_ ?_); · first | with_reducible assumption | omega | (intro _; refine ⟨?_, ?_⟩ <;> first | with_reducible assumption | omega | exact True.intro | (refine decide_eq_true ?_; omega) | (simp [appG, Cd.holds]; omega)) | (intro _; refine ⟨And.intro ?_ ?_, ?_⟩ <;> first | with_reducible assumption | omega | (refine decide_eq_true ?_; omega)) | (simp only [hg0, Bool.and_self, Bool.true_and]; done) | (intro hg1; simp only [hg0, hg1, Bool.and_self, Bool.true_and]; done) | (simp [hg0]; done) | exact ua | exact R8_UL _ _ | exact hrx)); (conv => whnf); exact True.intro)) | refine Cd.holds_and ?_ ?_ | (refine Cd.holds_imp fun hg0 => ?_))) | ((conv => whnf); (with_reducible refine And.intro ?_ ?_); · first | exact ua | exact R8_UL _ _ | exact hrx | exact True.intro | (intro hg0; simp only [hg0, Bool.not_false, Bool.not_true]; done) | with_reducible assumption | omega | (intro _; refine ⟨True.intro, ?_⟩; omega) | (intro _; refine ⟨?_, True.intro⟩; omega) | (intro _; refine ⟨decide_eq_true ?_, ?_⟩ <;> omega) | (intro _; refine ⟨?_, ?_⟩ <;> first | omega | (simp [appG, Cd.holds]; done) | (simp [appG, Cd.holds]; omega)) | (refine decide_eq_true ?_; omega) | (intro _; omega) | (simp only [w_i64, w_u64, w_u32, w_u8]; omega) | exact ⟨U_nonneg _, U_lt32 _⟩ | exact R8_UL _ _ | exact R32_UL _ _ | (intro hg0; (repeat ((conv => whnf); (with_reducible refine And.intro ?_ ?_); · first | with_reducible assumption | omega | (intro _; refine ⟨?_, ?_⟩ <;> first | with_reducible assumption | omega | exact True.intro | (refine decide_eq_true ?_; omega) | (simp [appG, Cd.holds]; omega)) | (intro _; refine ⟨And.intro ?_ ?_, ?_⟩ <;> first | with_reducible assumption | omega | (refine decide_eq_true ?_; omega)) | (simp only [hg0, Bool.and_self, Bool.true_and]; done) | (intro hg1; simp only [hg0, hg1, Bool.and_self, Bool.true_and]; done) | (simp [hg0]; done) | exact ua | exact R8_UL _ _ | exact hrx)); (conv => whnf); exact True.intro)))
  conv => whnf
  refine ⟨[], ?_⟩
  simp only [beq_self_eq_true, cond_true]
  repeat ((conv => whnf); (with_reducible refine And.intro ?_ ?_); · first | with_reducible rfl | exact (Bool.and_false _).symm | (intro _ _; with_reducible rfl) | exact True.intro | assumption | (intro h; exact absurd h (by decide)) | omega | (intro _; omega) | (intro _; refine ⟨?_, True.intro⟩; omega) | (intro _; refine ⟨?_, True.intro⟩; intro _; omega) | (refine decide_eq_false ?_; omega) | (refine decide_eq_true ?_; omega) | (simp only [w_i64, w_u64, w_u32, w_u8]; omega) | exact fun j hj => (put_0 hj).symm | (intro j _; simp only [Nat.zero_add]; done) | (simp [appG]; done) | (simp [appG]; omega) | (intro hgd; (try replace hgd := of_decide_eq_true hgd); (repeat ((conv => whnf); (with_reducible refine And.intro ?_ ?_); · first | with_reducible rfl | exact (Bool.and_false _).symm | (intro _ _; with_reducible rfl) | exact True.intro | assumption | (intro h; exact absurd h (by decide)) | omega | (intro _; omega) | (intro _; refine ⟨?_, True.intro⟩; omega) | (intro _; refine ⟨?_, True.intro⟩; intro _; omega) | (refine decide_eq_false ?_; omega) | (refine decide_eq_true ?_; omega) | (simp only [w_i64, w_u64, w_u32, w_u8]; omega) | exact fun j hj => (put_0 hj).symm | (intro j _; simp only [Nat.zero_add]; done) | (simp [appG]; done) | (simp [appG]; omega))); (conv => whnf); exact True.intro))
  conv => whnf
  exact True.intro
end Go.Proofs.Ytogijkmflhjhkaa

/- From a law's walk to its row: how the caller's arguments read, that they read so behind the call. Plain lemmas; no condition. -/
namespace Go.Sx
open Go.RowKit Go.ChangeShapes Go.WideShapes Go.ChangeAt
set_option linter.unusedSimpArgs false
set_option linter.unusedVariables false
open Go.ChangeMaps (open_string)

/-- An argument's kind. -/
inductive AK where
  | int (k : IntKind)
  | bool
  | str
  | ints (k : IntKind)
  | rows (k : IntKind)
def AK.fits (P : Program) (t : TypeId) : AK → Prop
  | .int k => P.underlying t = some (.int k)
  | .bool => P.underlying t = some .bool
  | .str => P.underlying t = some .string
  | .ints k => ∃ e, P.underlying t = some (.slice e) ∧ P.underlying e = some (.int k) ∧ P.cellsOf e = 1
  | .rows k => ∃ e e', P.underlying t = some (.slice e) ∧ P.underlying e = some (.slice e') ∧ P.underlying e' = some (.int k) ∧ P.cellsOf e = 1 ∧ P.cellsOf e' = 1
def wfN (k : IntKind) (n : Int) : Prop := (Lit.int k n).wf = true
def AK.holds : AK → SC → Prop
  | .int k, c => ∃ n, c = .int k n ∧ wfN k n
  | .bool, c => ∃ b, c = .bool b
  | .str, c => ∃ s, c = .str s
  | .ints k, c => ∃ nl f n, c = .im nl k f n ∧ ∀ j, j < n → wfN k (f j)
  | .rows k, c => ∃ nl r n, c = .rows nl k r n ∧ ∀ j, j < n → ∀ i, i < (r j).n → wfN k ((r j).f i)
/-- The caller's memory: nobody writes it. -/
def rho0 (w : World) : Rho := ⟨fun _ => none, fun A => w.cell? A, fun _ => undef⟩
theorem good0 (w : World) : Good (rho0 w) w [] 0 :=
  ⟨fun _ _ h => (by cases h), fun _ _ h => (by cases h), fun _ _ _ _ _ h => (by cases h), fun _ _ h => (by cases h), fun _ _ h => h, fun _ _ _ h => (by cases h)⟩

section
variable {H : Type} {enc : TypeId × Value → H} {P : Program} {w : World} {r : Reach} {b0 : Nat}

theorem row_of_ints {t e : TypeId} {k : IntKind} {fuel : Nat} {v : Value} {x : DataW H × List MemPlace} (ht : P.underlying t = some (.slice e)) (he : P.underlying e = some (.int k)) (hc : P.cellsOf e = 1)
    (h : DataW.trod enc P w 0 (fun _ => true) true fuel t [v] = some x) : ∃ q : Row, RelRow (rho0 w) k q v ∧ ∀ j, j < q.n → wfN k (q.f j) := by
  rcases open_ints ht he hc h with ⟨e1, _⟩ | ⟨a, len, cap, zs, e1, _, hl, hm, hz, _, hcell, hwf⟩
  · injection e1 with e1
    exact ⟨⟨true, fun _ => 0, 0⟩, .inl ⟨rfl, e1, rfl⟩, fun j hj => absurd hj (by simp)⟩
  · injection e1 with e1
    have hz : zs.length = cap := hz
    refine ⟨⟨false, fun j => zs.getD j 0, len⟩, .inr ⟨rfl, a, cap, e1, hl, hm, fun j hj => hcell j (by simp only at hj; omega)⟩, fun j hj => ?_⟩
    have hj : j < zs.length := by simp only at hj; omega
    have : zs.getD j 0 = zs[j] := by simp [List.getD, hj]
    show wfN k (zs.getD j 0)
    rw [this]
    exact hwf _ (List.getElem_mem hj)

theorem open_ak {t : TypeId} {a : AK} {v : Value} {d : DataW H} {ps : List MemPlace} (hf : a.fits P t) (hval : Value.okWide P w r b0 t v) (hd : DataW.Trod enc P w 0 (fun _ => true) true t v d ps) :
    ∃ c, a.holds c ∧ Rel1 (rho0 w) c v := by
  cases a with
  | int k => obtain ⟨n, rfl, _, _, hw⟩ := open_int hf hval hd; exact ⟨.int k n, ⟨n, rfl, hw⟩, rfl⟩
  | bool => obtain ⟨b, rfl, _, _⟩ := open_bool hf hval hd; exact ⟨.bool b, ⟨b, rfl⟩, rfl⟩
  | str => obtain ⟨s, rfl, _, _, _⟩ := open_string hf hval hd; exact ⟨.str s, ⟨s, rfl⟩, rfl⟩
  | ints k =>
    obtain ⟨e, ht, he, hc⟩ := hf
    obtain ⟨fuel, hd⟩ := hd
    have hv : ∃ A l c, v = .slice A l c := okWide_slice ht hval
    obtain ⟨A, l, c, rfl⟩ := hv
    obtain ⟨q, h1, h2⟩ := row_of_ints ht he hc (by simpa [Value.cells] using hd)
    exact ⟨.im q.nl k q.f q.n, ⟨_, _, _, rfl, h2⟩, h1⟩
  | rows k =>
    obtain ⟨e, e', ht, he, he', hc, hc'⟩ := hf
    obtain ⟨fuel, hd⟩ := hd
    have hv : ∃ A l c, v = .slice A l c := okWide_slice ht hval
    obtain ⟨A, l, c, rfl⟩ := hv
    have hd : DataW.trod enc P w 0 (fun _ => true) true fuel t [.slice A l c] = some (d, ps) := by simpa [Value.cells] using hd
    rcases DataW.trod_slice ht hd with ⟨e1, _⟩ | ⟨a, len, cap, elems, rest, n, _, e1, _, _, hl, hm, hlen, hel, _, _⟩
    · injection e1 with e1
      exact ⟨.rows true k (fun _ => ⟨true, fun _ => 0, 0⟩) 0, ⟨_, _, _, rfl, fun j hj => absurd hj (by omega)⟩, .inl ⟨rfl, e1, rfl⟩⟩
    · injection e1 with e1
      have each : ∀ j, j < len → ∃ u, w.cell? (a.add j) = some u ∧ ∃ q : Row, RelRow (rho0 w) k q u ∧ ∀ i, i < q.n → wfN k (q.f i) := by
        intro j hj
        have h1 := hel j hj
        rw [hc, Nat.mul_one, List.getElem?_eq_getElem (by omega)] at h1
        rw [Option.bind_eq_some_iff] at h1
        obtain ⟨cs, g1, g2⟩ := h1
        have hl1 : cs.length = 1 := (World.cells?_some g1).2.1
        obtain ⟨u, rfl⟩ : ∃ u, cs = [u] := by
          cases cs with
          | nil => simp at hl1
          | cons u r => cases r with
            | nil => exact ⟨u, rfl⟩
            | cons _ _ => simp at hl1
        exact ⟨u, cell_of_cells?_one g1, row_of_ints he he' hc' g2⟩
      let R : Nat → Row := fun j => if h : j < len then ((each j h).choose_spec.2).choose else ⟨true, fun _ => 0, 0⟩
      have hR : ∀ j, j < len → ∃ u, w.cell? (a.add j) = some u ∧ RelRow (rho0 w) k (R j) u ∧ ∀ i, i < (R j).n → wfN k ((R j).f i) := by
        intro j hj
        have e2 : R j = ((each j hj).choose_spec.2).choose := by simp only [R]; rw [dif_pos hj]
        rw [e2]
        exact ⟨(each j hj).choose, (each j hj).choose_spec.1, ((each j hj).choose_spec.2).choose_spec⟩
      refine ⟨.rows false k R len, ⟨_, _, _, rfl, fun j hj => ?_⟩, .inr ⟨rfl, a, cap, e1, hl, hm, fun j hj => ?_⟩⟩
      · obtain ⟨_, _, _, h⟩ := hR j hj; exact h
      · obtain ⟨u, h1, h2, _⟩ := hR j hj; exact ⟨u, h1, h2⟩

def fitsL (P : Program) : List TypeId → List AK → Prop
  | [], [] => True
  | t :: ts, a :: aks => a.fits P t ∧ fitsL P ts aks
  | _, _ => False
def holdsL : List AK → List SC → Prop
  | [], [] => True
  | a :: aks, c :: cs => a.holds c ∧ holdsL aks cs
  | _, _ => False
theorem open_all : ∀ {ts : List TypeId} {aks : List AK} {vs : List Value} {ds : List (DataW H)} {ps : List MemPlace}, fitsL P ts aks → (∀ (j : Nat) t v, ts[j]? = some t → vs[j]? = some v → Value.okWide P w r b0 t v) →
    DataW.TrodAll enc P w 0 (fun _ => true) true ts vs ds ps → ∃ cs, holdsL aks cs ∧ RelL (rho0 w) (cs.map .sc) vs
  | [], [], [], [], _, _, _, _ => ⟨[], trivial, rfl⟩
  | t :: ts, a :: aks, v :: vs, d :: ds, ps, hf, hval, ⟨p, q, h1, h2, _⟩ => by
    obtain ⟨c, g1, g2⟩ := open_ak hf.1 (hval 0 t v rfl rfl) h1
    obtain ⟨cs, g3, g4⟩ := open_all hf.2 (fun j t' v' e1 e2 => hval (j + 1) t' v' e1 e2) h2
    exact ⟨c :: cs, ⟨g1, g3⟩, v, vs, rfl, g2, g4⟩
/-- The arguments read aks before. -/
theorem all_below (hl : laidOutB P = true) {W W' : World} (hb : Below W.heap.size W W') : ∀ {ts : List TypeId} {vs : List Value} {ds : List (DataW H)} {ps : List MemPlace}, (∀ t ∈ ts, P.readableRec t = true ∧ t < P.types.size) →
    DataW.TrodAll enc P W 0 (fun _ => true) true ts vs ds ps → (∀ x ∈ ps, x.block < W.heap.size) → DataW.TrodAll enc P W' 0 (fun b => decide (b < W.heap.size)) true ts vs ds ps
  | [], [], [], ps, _, h, _ => h
  | t :: ts, v :: vs, d :: ds, ps, hr, ⟨p, q, h1, h2, e⟩, hlt => by
    subst e
    exact ⟨p, q, Below.trod hl (hr t (by simp)).1 (hr t (by simp)).2 h1 hb (fun x hx => hlt x (by simp [hx])), all_below hl hb (fun t' ht' => hr t' (by simp [ht'])) h2 (fun x hx => hlt x (by simp [hx])), rfl⟩
theorem below_of_eff {W W' : World} {ρ' : Rho} (h : Eff (rho0 W) ρ' [] 0 [] 0 W W') : Below W.heap.size W W' :=
  ⟨h.os, h.tape, h.output, h.size, fun i hi => h.block i hi fun _ _ _ hg => by cases hg⟩
end
end Go.Sx
namespace Go.Sx
theorem trod_len {H : Type} {enc : TypeId × Value → H} {P : Program} {w : World} {base : Nat} {sp : Nat → Bool} {held : Bool} : ∀ {ts : List TypeId} {vs : List Value} {ds : List (DataW H)} {ps : List MemPlace}, DataW.TrodAll enc P w base sp held ts vs ds ps → ds.length = ts.length
  | [], [], [], _, _ => rfl
  | _ :: _, _ :: _, _ :: _, _, ⟨_, _, _, h, _⟩ => by simp [trod_len h]
end Go.Sx
namespace Go.Sx
theorem wf_iff {k : IntKind} {n : Int} : wfN k n ↔ k.min ≤ n ∧ n ≤ k.max := by
  simp only [wfN, Lit.wf, Bool.and_eq_true, decide_eq_true_eq]
theorem wf_u8 {n : Int} (h : wfN .u8 n) : 0 ≤ n ∧ n < 256 := by
  have e1 : IntKind.u8.min = 0 := by decide
  have e2 : IntKind.u8.max = 255 := by decide
  rw [wf_iff, e1, e2] at h; omega
theorem wf_u32 {n : Int} (h : wfN .u32 n) : 0 ≤ n ∧ n < 4294967296 := by
  have e1 : IntKind.u32.min = 0 := by decide
  have e2 : IntKind.u32.max = 4294967295 := by decide
  rw [wf_iff, e1, e2] at h; omega
theorem wf_u64 {n : Int} (h : wfN .u64 n) : 0 ≤ n ∧ n < 18446744073709551616 := by
  have e1 : IntKind.u64.min = 0 := by decide
  have e2 : IntKind.u64.max = 18446744073709551615 := by decide
  rw [wf_iff, e1, e2] at h; omega
theorem wf_i64 {n : Int} (h : wfN .i64 n) : -9223372036854775808 ≤ n ∧ n ≤ 9223372036854775807 := by
  have e1 : IntKind.i64.min = -9223372036854775808 := by decide
  have e2 : IntKind.i64.max = 9223372036854775807 := by decide
  rw [wf_iff, e1, e2] at h; exact h
end Go.Sx
namespace Go.Sx
theorem holdsL_cons {a : AK} {aks : List AK} : ∀ {cs : List SC}, holdsL (a :: aks) cs → ∃ c r, cs = c :: r ∧ a.holds c ∧ holdsL aks r
  | c :: r, h => ⟨c, r, rfl, h.1, h.2⟩
theorem holdsL_nil : ∀ {cs : List SC}, holdsL [] cs → cs = []
  | [], _ => rfl
end Go.Sx
