/- Many texts in one: F37, F17, Str, Cdt, F38, F14, F15, F16, L1, L20. No condition. -/
import Derived.Test.YtogijkmflhjhkaaKA5

/- Functions through the evaluator: sealed bytes, opened ones. No condition. -/
namespace Go.Proofs.Ytogijkmflhjhkaa
open Go.Sx Go.RowKit
set_option maxRecDepth 100000
set_option maxHeartbeats 2000000
set_option linter.unusedVariables false
set_option linter.unusedSimpArgs false

theorem cok40 : COk Try.prog (tab [(55, blockS), (101, fillS), (102, lengthS), (59, tagS)]) := cok_cons blockS_ok (cok_cons fillS_ok (cok_cons lengthS_ok (cok_cons tagS_ok cok_nil)))
/-- aead.mark. -/
noncomputable def markS : Summary := mkS false [.v, .v, .r .u8, .r .u8] fun
  | [.v (.agg [.ints .u8 k 32]), .v (.agg [.ints .u8 n 12]), .r nl1 a l, .r nl2 c m] => some ⟨.and (.p (R8 k 32)) (.and (.p (R8 n 12)) (.and (.p (R8 a l)) (.and (.p (R8 c m)) (.p (l ≤ 10000 ∧ m ≤ 10000))))),
      some (.sa (.agg [.ints .u8 (UL (aeMark (L8 k 32) (L8 n 12) (L8 a l) (L8 c m))) 16])), [], 0⟩
  | _ => none
theorem markS_ok : SumOk Try.prog 86 markS := by
  unfold markS
  apply sum_ok
  intro vs A H n o r hb h
  split at h
  rotate_left
  · cases h
  rename_i k n nl1 a l nl2 c m
  injection h with h
  subst h
  cases hb
  refine fsound_of_run tt_ok cok40 mixed_ok Try.call86 Try.func86 rfl (rs := _) Try.results86 (size := 35) Try.ntmps86 (Nat.le_of_ble_eq_true rfl) rfl fun hp hfa hfh => ?_
  obtain ⟨hk, hn, ha, hc, hl, hm⟩ := hp
  have hk : R8 k 32 := hk
  have hn : R8 n 12 := hn
  have ha : R8 a l := ha
  have hc : R8 c m := hc
  have u0 : u32R 0 := ⟨by decide, by decide⟩
  repeat ((conv => whnf); (with_reducible refine And.intro ?_ ?_); · first | exact True.intro | (intro hg0; simp only [hg0, Bool.not_false, Bool.not_true]; done) | with_reducible assumption | omega | (intro _; refine ⟨True.intro, ?_⟩; omega) | (intro _; refine ⟨?_, True.intro⟩; omega) | (intro _; refine ⟨decide_eq_true ?_, ?_⟩ <;> omega) | (intro _; refine ⟨?_, ?_⟩ <;> first | omega | (simp [appG, Cd.holds]; done) | (simp [appG, Cd.holds]; omega)) | (refine decide_eq_true ?_; omega) | (intro _; omega) | (simp only [w_i64, w_u64, w_u32, w_u8]; omega) | exact ⟨U_nonneg _, U_lt32 _⟩ | exact R8_UL _ _ | exact R32_UL _ _ | (intro hg0; (repeat ((conv => whnf); (with_reducible refine And.intro ?_ ?_); · first | with_reducible assumption | omega | (intro _; refine ⟨?_, ?_⟩ <;> first | with_reducible assumption | omega | exact True.intro | (refine decide_eq_true ?_; omega) | (simp [appG, Cd.holds]; omega)) | (intro _; refine ⟨And.intro ?_ ?_, ?_⟩ <;> first | with_reducible assumption | omega | (refine decide_eq_true ?_; omega)) | (simp only [hg0, Bool.and_self, Bool.true_and]; done) | (intro hg1; simp only [hg0, hg1, Bool.and_self, Bool.true_and]; done) | (simp [hg0]; done) | exact u0)); (conv => whnf); exact True.intro) | exact u0)
  conv => whnf
  obtain ⟨Bk, hB⟩ : ∃ Bk, Bk = chBlock (L8 k 32) (BitVec.ofInt 32 0) (L8 n 12) := ⟨_, rfl⟩
  have hBl : Bk.length = 64 := by rw [hB, chBlock_length]
  simp only [← hB]
  refine ⟨[(0, ⟨0, some 15, []⟩), (1, ⟨0, some 16, []⟩), (2, ⟨3, some 17, [4]⟩)], 53, ?_⟩
  repeat ((conv => whnf); (with_reducible refine And.intro ?_ ?_); · first | exact True.intro | (intro hg0; simp only [hg0, Bool.not_false, Bool.not_true]; done) | with_reducible assumption | omega | (intro _; refine ⟨True.intro, ?_⟩; omega) | (intro _; refine ⟨?_, True.intro⟩; omega) | (intro _; refine ⟨decide_eq_true ?_, ?_⟩ <;> omega) | (intro _; refine ⟨?_, ?_⟩ <;> first | omega | (simp [appG, Cd.holds]; done) | (simp [appG, Cd.holds]; omega)) | (refine decide_eq_true ?_; omega) | (intro _; omega) | (simp only [w_i64, w_u64, w_u32, w_u8]; omega) | exact ⟨U_nonneg _, U_lt32 _⟩ | exact R8_UL _ _ | exact R32_UL _ _ | (intro hg0; (repeat ((conv => whnf); (with_reducible refine And.intro ?_ ?_); · first | with_reducible assumption | omega | (intro _; refine ⟨?_, ?_⟩ <;> first | with_reducible assumption | omega | exact True.intro | (refine decide_eq_true ?_; omega) | (simp [appG, Cd.holds]; omega)) | (intro _; refine ⟨And.intro ?_ ?_, ?_⟩ <;> first | with_reducible assumption | omega | (refine decide_eq_true ?_; omega)) | (simp only [hg0, Bool.and_self, Bool.true_and]; done) | (intro hg1; simp only [hg0, hg1, Bool.and_self, Bool.true_and]; done) | (simp [hg0]; done))); (conv => whnf); exact True.intro))
  conv => whnf
  have hA : R8 (put_ (listI [].reverse) 0 l a) (0 + l) := fun j hj => by rw [put_0 (by omega)]; exact ha _ (by omega)
  have eA : L8 (put_ (listI [].reverse) 0 l a) l = L8 a l := L8_congr fun j hj => put_0 hj
  refine ⟨hA, ?_⟩
  simp only [Nat.zero_add, eA]
  obtain ⟨A, hAe⟩ : ∃ A, A = L8 a l := ⟨_, rfl⟩
  have hAl : A.length = l := by rw [hAe, L8_length]
  obtain ⟨C, hCe⟩ : ∃ C, C = L8 c m := ⟨_, rfl⟩
  have hCl : C.length = m := by rw [hCe, L8_length]
  simp only [← hAe, ← hCe]
  have hfl := fillN_lt l
  have hfl2 := fillN_lt (l + fillN l + m)
  have hFl : (fill A).length = l + fillN l := by rw [fill_length, hAl]
  have hC : R8 (put_ (UL (fill A)) (l + fillN l) m c) (l + fillN l + m) := R8_put (R8_UL _ _) hc
  have eC : L8 (put_ (UL (fill A)) (l + fillN l) m c) (l + fillN l + m) = fill A ++ C := by rw [L8_put, L8_UL' hFl.symm, hCe]
  repeat ((conv => whnf); (with_reducible refine And.intro ?_ ?_); · first | exact True.intro | (intro hg0; simp only [hg0, Bool.not_false, Bool.not_true]; done) | with_reducible assumption | omega | (intro _; refine ⟨True.intro, ?_⟩; omega) | (intro _; refine ⟨?_, True.intro⟩; omega) | (intro _; refine ⟨decide_eq_true ?_, ?_⟩ <;> omega) | (intro _; refine ⟨?_, ?_⟩ <;> first | omega | (simp [appG, Cd.holds]; done) | (simp [appG, Cd.holds]; omega)) | (refine decide_eq_true ?_; omega) | (intro _; omega) | (simp only [w_i64, w_u64, w_u32, w_u8]; omega) | exact ⟨U_nonneg _, U_lt32 _⟩ | exact R8_UL _ _ | exact R32_UL _ _ | (intro hg0; (repeat ((conv => whnf); (with_reducible refine And.intro ?_ ?_); · first | with_reducible assumption | omega | (intro _; refine ⟨?_, ?_⟩ <;> first | with_reducible assumption | omega | exact True.intro | (refine decide_eq_true ?_; omega) | (simp [appG, Cd.holds]; omega)) | (intro _; refine ⟨And.intro ?_ ?_, ?_⟩ <;> first | with_reducible assumption | omega | (refine decide_eq_true ?_; omega)) | (simp only [hg0, Bool.and_self, Bool.true_and]; done) | (intro hg1; simp only [hg0, hg1, Bool.and_self, Bool.true_and]; done) | (simp [hg0]; done) | exact hC)); (conv => whnf); exact True.intro) | exact hC)
  conv => whnf
  simp only [eC]
  have hDl : (fill (fill A ++ C)).length = l + fillN l + m + fillN (l + fillN l + m) := by rw [fill_length, List.length_append, hFl, hCl]
  obtain ⟨D, hD⟩ : ∃ D, D = fill (fill A ++ C) := ⟨_, rfl⟩
  have hM : aeM A C = D ++ leB 8 l ++ leB 8 m := by unfold aeM; rw [← hD, hAl, hCl]
  rw [← hD] at hDl
  simp only [← hD]
  obtain ⟨d, hd⟩ : ∃ d, d = l + fillN l + m + fillN (l + fillN l + m) := ⟨_, rfl⟩
  have hd2 : d ≤ 100000 := by omega
  rw [← hd] at hDl
  simp only [← hd]
  refine ⟨[(0, ⟨0, some 26, []⟩), (1, ⟨0, some 27, []⟩), (2, ⟨0, some 28, []⟩), (3, ⟨4, some 29, []⟩), (4, ⟨14, some 30, [57, 122]⟩), (5, ⟨0, some 31, []⟩), (6, ⟨32, some 32, []⟩), (7, ⟨126, some 33, [122, 170]⟩), (8, ⟨255, some 34, []⟩), (9, ⟨511, none, [2]⟩)], 218, ?_⟩
  have hKj : ∀ j, j < 32 → (put_ (fun _ => 0) (Int.toNat 0) (min (64 - Int.toNat 0) (32 - Int.toNat 0)) fun j => UL Bk (Int.toNat 0 + j)) j = UL Bk j := fun j hj => by
    unfold put_
    rw [if_pos ⟨Nat.zero_le _, by show j < 0 + 32; omega⟩]
    show UL Bk (0 + (j - 0)) = _
    rw [Nat.zero_add, Nat.sub_zero]
  have hK8 : R8 (put_ (fun _ => 0) (Int.toNat 0) (min (64 - Int.toNat 0) (32 - Int.toNat 0)) fun j => UL Bk (Int.toNat 0 + j)) 32 := fun j hj => by rw [hKj j hj]; exact R8_UL Bk 32 j hj
  have eK : L8 (put_ (fun _ => 0) (Int.toNat 0) (min (64 - Int.toNat 0) (32 - Int.toNat 0)) fun j => UL Bk (Int.toNat 0 + j)) 32 = aeK (L8 k 32) (L8 n 12) := by
    rw [L8_congr hKj, L8_take _ 64 32 (by omega), L8_UL' hBl.symm, hB]
    rfl
  have eM : L8 (fun j => UL (L8 (UL (L8 (UL D) d ++ leB 8 (Int.toNat (l : Int)))) (d + 8) ++ leB 8 (Int.toNat (m : Int))) (0 + j)) (d + 8 + 8) = aeM A C := by
    rw [hM, Int.toNat_natCast, Int.toNat_natCast, L8_UL' hDl.symm, L8_UL' (l := D ++ leB 8 l) (by rw [List.length_append, hDl, leB_length])]
    rw [show (fun j => UL (D ++ leB 8 l ++ leB 8 m) (0 + j)) = UL (D ++ leB 8 l ++ leB 8 m) from funext fun j => by rw [Nat.zero_add]]
    exact L8_UL' (by rw [List.length_append, List.length_append, hDl, leB_length, leB_length])
  repeat ((conv => whnf); (with_reducible refine And.intro ?_ ?_); · first | exact True.intro | (intro hg0; simp only [hg0, Bool.not_false, Bool.not_true]; done) | with_reducible assumption | omega | (intro _; refine ⟨True.intro, ?_⟩; omega) | (intro _; refine ⟨?_, True.intro⟩; omega) | (intro _; refine ⟨decide_eq_true ?_, ?_⟩ <;> omega) | (intro _; refine ⟨?_, ?_⟩ <;> first | omega | (simp [appG, Cd.holds]; done) | (simp [appG, Cd.holds]; omega)) | (refine decide_eq_true ?_; omega) | (intro _; omega) | (simp only [w_i64, w_u64, w_u32, w_u8]; omega) | exact ⟨U_nonneg _, U_lt32 _⟩ | exact R8_UL _ _ | exact R32_UL _ _ | (intro hg0; (repeat ((conv => whnf); (with_reducible refine And.intro ?_ ?_); · first | with_reducible assumption | omega | (intro _; refine ⟨?_, ?_⟩ <;> first | with_reducible assumption | omega | exact True.intro | (refine decide_eq_true ?_; omega) | (simp [appG, Cd.holds]; omega)) | (intro _; refine ⟨And.intro ?_ ?_, ?_⟩ <;> first | with_reducible assumption | omega | (refine decide_eq_true ?_; omega)) | (simp only [hg0, Bool.and_self, Bool.true_and]; done) | (intro hg1; simp only [hg0, hg1, Bool.and_self, Bool.true_and]; done) | (simp [hg0]; done) | exact hK8 | exact fun j hj => ⟨U_nonneg _, U_lt8 _⟩)); (conv => whnf); exact True.intro) | exact hK8 | exact fun j hj => ⟨U_nonneg _, U_lt8 _⟩)
  conv => whnf
  refine ⟨[], ?_⟩
  simp only [eK, eM]
  repeat ((conv => whnf); (with_reducible refine And.intro ?_ ?_); · first | with_reducible rfl | exact (Bool.and_false _).symm | (intro _ _; with_reducible rfl) | exact True.intro | exact fun _ _ => rfl | omega | (simp only [w_i64, w_u64, w_u32, w_u8]; omega))
  conv => whnf
  exact True.intro

theorem cok41 : COk Try.prog (tab [(57, xorS), (86, markS), (41, sameS)]) := cok_cons xorS_ok (cok_cons markS_ok (cok_cons sameS_ok cok_nil))
/-- aead.Seal. -/
noncomputable def sealS : Summary := mkS false [.v, .v, .r .u8, .r .u8] fun
  | [.v (.agg [.ints .u8 k 32]), .v (.agg [.ints .u8 n 12]), .r nl1 a l, .r nl2 c m] => some ⟨.and (.p (R8 k 32)) (.and (.p (R8 n 12)) (.and (.p (R8 a l)) (.and (.p (R8 c m)) (.p (l ≤ 10000 ∧ m ≤ 10000))))),
      some (.sa (.sc (.sl false true false 0 0 0 (m + 16) (m + 16)))), [(0, ownB 5 .u8 (UL (aeSeal (L8 k 32) (L8 n 12) (L8 a l) (L8 c m))) (m + 16))], 1⟩
  | _ => none
theorem sealS_ok : SumOk Try.prog 61 sealS := by
  unfold sealS
  apply sum_ok
  intro vs A H n o r hb h
  split at h
  rotate_left
  · cases h
  rename_i k n nl1 a l nl2 c m
  injection h with h
  subst h
  cases hb
  refine fsound_of_run tt_ok cok41 mixed_ok Try.call61 Try.func61 rfl (rs := _) Try.results61 (size := 23) Try.ntmps61 (Nat.le_of_ble_eq_true rfl) rfl fun hp hfa hfh => ?_
  obtain ⟨hk, hn, ha, hc, hl, hm⟩ := hp
  have hk : R8 k 32 := hk
  have hn : R8 n 12 := hn
  have ha : R8 a l := ha
  have hc : R8 c m := hc
  have hl : l ≤ 10000 := hl
  have hm : m ≤ 10000 := hm
  have u1 : u32R 1 := ⟨by decide, by decide⟩
  repeat ((conv => whnf); (with_reducible refine And.intro ?_ ?_); · first | exact True.intro | (intro hg0; simp only [hg0, Bool.not_false, Bool.not_true]; done) | with_reducible assumption | omega | (intro _; refine ⟨True.intro, ?_⟩; omega) | (intro _; refine ⟨?_, True.intro⟩; omega) | (intro _; refine ⟨decide_eq_true ?_, ?_⟩ <;> omega) | (intro _; refine ⟨?_, ?_⟩ <;> first | omega | (simp [appG, Cd.holds]; done) | (simp [appG, Cd.holds]; omega)) | (refine decide_eq_true ?_; omega) | (intro _; omega) | (simp only [w_i64, w_u64, w_u32, w_u8]; omega) | exact ⟨U_nonneg _, U_lt32 _⟩ | exact R8_UL _ _ | exact R32_UL _ _ | (intro hg0; (repeat ((conv => whnf); (with_reducible refine And.intro ?_ ?_); · first | with_reducible assumption | omega | (intro _; refine ⟨?_, ?_⟩ <;> first | with_reducible assumption | omega | exact True.intro | (refine decide_eq_true ?_; omega) | (simp [appG, Cd.holds]; omega)) | (intro _; refine ⟨And.intro ?_ ?_, ?_⟩ <;> first | with_reducible assumption | omega | (refine decide_eq_true ?_; omega)) | (simp only [hg0, Bool.and_self, Bool.true_and]; done) | (intro hg1; simp only [hg0, hg1, Bool.and_self, Bool.true_and]; done) | (simp [hg0]; done) | exact u1 | exact fun j hj => ⟨U_nonneg _, U_lt8 _⟩)); (conv => whnf); exact True.intro) | exact u1 | exact fun j hj => ⟨U_nonneg _, U_lt8 _⟩)
  conv => whnf
  obtain ⟨X, hX⟩ : ∃ X, X = chXor (L8 k 32) (BitVec.ofInt 32 1) (L8 n 12) (L8 c m) := ⟨_, rfl⟩
  have hXl : X.length = m := by rw [hX, chXor_length, L8_length]
  have eX : L8 (fun j => UL X (0 + j)) m = X := by
    rw [show (fun j => UL X (0 + j)) = UL X from funext fun j => by rw [Nat.zero_add]]
    exact L8_UL' hXl.symm
  have hS : aeSeal (L8 k 32) (L8 n 12) (L8 a l) (L8 c m) = X ++ aeMark (L8 k 32) (L8 n 12) (L8 a l) X := by rw [hX]; rfl
  obtain ⟨S, hSe⟩ : ∃ S, S = aeMark (L8 k 32) (L8 n 12) (L8 a l) X := ⟨_, rfl⟩
  have hSl : S.length = 16 := by rw [hSe, aeMark_length]
  have hfin : ∀ j, j < m + 16 → UL (X ++ S) j = put_ (UL X) m (16 - Int.toNat 0) (fun j => UL S (Int.toNat 0 + j)) j := fun j hj => by
    rw [← UL_app X S j (by omega), hXl, hSl]
    congr 1
    funext j
    show UL S j = UL S (0 + j)
    rw [Nat.zero_add]
  refine ⟨[(0, 4)], ?_⟩
  simp only [← hX, eX, hS, ← hSe]
  repeat ((conv => whnf); (with_reducible refine And.intro ?_ ?_); · first | with_reducible rfl | exact (Bool.and_false _).symm | (intro _ _; with_reducible rfl) | exact True.intro | assumption | (intro h; exact absurd h (by decide)) | omega | (intro _; omega) | (intro _; refine ⟨?_, True.intro⟩; omega) | (intro _; refine ⟨?_, True.intro⟩; intro _; omega) | (refine decide_eq_false ?_; omega) | (refine decide_eq_true ?_; omega) | (simp only [w_i64, w_u64, w_u32, w_u8]; omega) | exact fun j hj => (put_0 hj).symm | (intro j _; simp only [Nat.zero_add]; done) | (simp [appG]; done) | (simp [appG]; omega) | exact hfin | (intro hgd; (try replace hgd := of_decide_eq_true hgd); (repeat ((conv => whnf); (with_reducible refine And.intro ?_ ?_); · first | with_reducible rfl | exact (Bool.and_false _).symm | (intro _ _; with_reducible rfl) | exact True.intro | assumption | (intro h; exact absurd h (by decide)) | omega | (intro _; omega) | (intro _; refine ⟨?_, True.intro⟩; omega) | (intro _; refine ⟨?_, True.intro⟩; intro _; omega) | (refine decide_eq_false ?_; omega) | (refine decide_eq_true ?_; omega) | (simp only [w_i64, w_u64, w_u32, w_u8]; omega) | exact fun j hj => (put_0 hj).symm | (intro j _; simp only [Nat.zero_add]; done) | (simp [appG]; done) | (simp [appG]; omega) | exact hfin)); (conv => whnf); exact True.intro))
  conv => whnf
  exact True.intro

/-- What Open gives. -/
noncomputable def openS : Summary := mkS false [.v, .v, .r .u8, .r .u8] fun
  | [.v (.agg [.ints .u8 k 32]), .v (.agg [.ints .u8 n 12]), .r nl1 a l, .r nl2 c m] => some ⟨.and (.p (R8 k 32)) (.and (.p (R8 n 12)) (.and (.p (R8 a l)) (.and (.p (R8 c m)) (.p (l ≤ 10000 ∧ m ≤ 10000))))),
      some (.tup [.sc (.sl (!(aeIs (L8 k 32) (L8 n 12) (L8 a l) (L8 c m))) false false 0 0 0 (aeOut (L8 k 32) (L8 n 12) (L8 a l) (L8 c m)).length (aeOut (L8 k 32) (L8 n 12) (L8 a l) (L8 c m)).length), .sc (.bool (aeIs (L8 k 32) (L8 n 12) (L8 a l) (L8 c m)))]),
      [(0, ownB 5 .u8 (UL (aeOut (L8 k 32) (L8 n 12) (L8 a l) (L8 c m))) (aeOut (L8 k 32) (L8 n 12) (L8 a l) (L8 c m)).length)], 1⟩
  | _ => none
theorem openS_ok : SumOk Try.prog 62 openS := by
  unfold openS
  apply sum_ok
  intro vs A H n o r hb h
  split at h
  rotate_left
  · cases h
  rename_i k n nl1 a l nl2 c m
  injection h with h
  subst h
  cases hb
  refine fsound_of_run tt_ok cok41 mixed_ok Try.call62 Try.func62 rfl (rs := _) Try.results62 (size := 36) Try.ntmps62 (Nat.le_of_ble_eq_true rfl) rfl fun hp hfa hfh => ?_
  obtain ⟨hk, hn, ha, hc, hl, hm⟩ := hp
  have hk : R8 k 32 := hk
  have hn : R8 n 12 := hn
  have ha : R8 a l := ha
  have hc : R8 c m := hc
  have hl : l ≤ 10000 := hl
  have hm : m ≤ 10000 := hm
  have u1 : u32R 1 := ⟨by decide, by decide⟩
  have hCl : (L8 c m).length = m := L8_length _ _
  have hout : ∀ C, aeOut (L8 k 32) (L8 n 12) (L8 a l) C = if aeIs (L8 k 32) (L8 n 12) (L8 a l) C = true then chXor (L8 k 32) 1 (L8 n 12) (C.take (C.length - 16)) else [] := fun _ => aeOut_eq _ _ _ _
  have his : aeIs (L8 k 32) (L8 n 12) (L8 a l) (L8 c m) = decide (16 ≤ m ∧ aeMark (L8 k 32) (L8 n 12) (L8 a l) ((L8 c m).take (m - 16)) = (L8 c m).drop (m - 16)) := by rw [aeIs_eq, hCl]
  have ho := hout (L8 c m)
  rw [hCl] at ho
  obtain ⟨B, hB⟩ : ∃ B, B = aeIs (L8 k 32) (L8 n 12) (L8 a l) (L8 c m) := ⟨_, rfl⟩
  obtain ⟨O, hO⟩ : ∃ O, O = aeOut (L8 k 32) (L8 n 12) (L8 a l) (L8 c m) := ⟨_, rfl⟩
  rw [← hB] at his
  rw [← hB, ← hO] at ho
  simp only [← hB, ← hO]
  have w0 : IntKind.i64.wrap ((m : Int) - 16) = (m : Int) - 16 := by rw [w_i64]; omega
  repeat ((conv => whnf); (with_reducible refine And.intro ?_ ?_); · first | exact True.intro | (intro hg0; simp only [hg0, Bool.not_false, Bool.not_true]; done) | with_reducible assumption | omega | (intro _; refine ⟨True.intro, ?_⟩; omega) | (intro _; refine ⟨?_, True.intro⟩; omega) | (intro _; refine ⟨decide_eq_true ?_, ?_⟩ <;> omega) | (intro _; refine ⟨?_, ?_⟩ <;> first | omega | (simp [appG, Cd.holds]; done) | (simp [appG, Cd.holds]; omega)) | (refine decide_eq_true ?_; omega) | (intro _; omega) | (simp only [w_i64, w_u64, w_u32, w_u8]; omega) | exact ⟨U_nonneg _, U_lt32 _⟩ | exact R8_UL _ _ | exact R32_UL _ _ | (intro hg0; (repeat ((conv => whnf); (with_reducible refine And.intro ?_ ?_); · first | with_reducible assumption | omega | (intro _; refine ⟨?_, ?_⟩ <;> first | with_reducible assumption | omega | exact True.intro | (refine decide_eq_true ?_; omega) | (simp [appG, Cd.holds]; omega)) | (intro _; refine ⟨And.intro ?_ ?_, ?_⟩ <;> first | with_reducible assumption | omega | (refine decide_eq_true ?_; omega)) | (simp only [hg0, Bool.and_self, Bool.true_and]; done) | (intro hg1; simp only [hg0, hg1, Bool.and_self, Bool.true_and]; done) | (simp [hg0]; done))); (conv => whnf); exact True.intro))
  conv => whnf
  refine ⟨fun h1 => ?_, fun h1 => ?_⟩
  · replace h1 := of_decide_eq_true h1
    rw [w0] at h1
    have hBf : B = false := by rw [his]; exact decide_eq_false fun h => by omega
    rw [hBf] at ho ⊢
    rw [if_neg (by decide)] at ho
    subst ho
    repeat ((conv => whnf); (with_reducible refine And.intro ?_ ?_); · first | exact True.intro | (intro hg0; simp only [hg0, Bool.not_false, Bool.not_true]; done) | with_reducible assumption | omega | (intro _; refine ⟨True.intro, ?_⟩; omega) | (intro _; refine ⟨?_, True.intro⟩; omega) | (intro _; refine ⟨decide_eq_true ?_, ?_⟩ <;> omega) | (intro _; refine ⟨?_, ?_⟩ <;> first | omega | (simp [appG, Cd.holds]; done) | (simp [appG, Cd.holds]; omega)) | (refine decide_eq_true ?_; omega) | (intro _; omega) | (simp only [w_i64, w_u64, w_u32, w_u8]; omega) | exact ⟨U_nonneg _, U_lt32 _⟩ | exact R8_UL _ _ | exact R32_UL _ _ | (intro hg0; (repeat ((conv => whnf); (with_reducible refine And.intro ?_ ?_); · first | with_reducible assumption | omega | (intro _; refine ⟨?_, ?_⟩ <;> first | with_reducible assumption | omega | exact True.intro | (refine decide_eq_true ?_; omega) | (simp [appG, Cd.holds]; omega)) | (intro _; refine ⟨And.intro ?_ ?_, ?_⟩ <;> first | with_reducible assumption | omega | (refine decide_eq_true ?_; omega)) | (simp only [hg0, Bool.and_self, Bool.true_and]; done) | (intro hg1; simp only [hg0, hg1, Bool.and_self, Bool.true_and]; done) | (simp [hg0]; done))); (conv => whnf); exact True.intro))
    conv => whnf
    refine ⟨[], ?_⟩
    repeat ((conv => whnf); (with_reducible refine And.intro ?_ ?_); · first | with_reducible rfl | exact (Bool.and_false _).symm | (intro _ _; with_reducible rfl) | exact True.intro | assumption | (intro h; exact absurd h (by decide)) | omega | (intro _; omega) | (intro _; refine ⟨?_, True.intro⟩; omega) | (intro _; refine ⟨?_, True.intro⟩; intro _; omega) | (refine decide_eq_false ?_; omega) | (refine decide_eq_true ?_; omega) | (simp only [w_i64, w_u64, w_u32, w_u8]; omega) | exact fun j hj => (put_0 hj).symm | (intro j _; simp only [Nat.zero_add]; done) | (simp [appG]; done) | (simp [appG]; omega) | (intro hgd; (try replace hgd := of_decide_eq_true hgd); (repeat ((conv => whnf); (with_reducible refine And.intro ?_ ?_); · first | with_reducible rfl | exact (Bool.and_false _).symm | (intro _ _; with_reducible rfl) | exact True.intro | assumption | (intro h; exact absurd h (by decide)) | omega | (intro _; omega) | (intro _; refine ⟨?_, True.intro⟩; omega) | (intro _; refine ⟨?_, True.intro⟩; intro _; omega) | (refine decide_eq_false ?_; omega) | (refine decide_eq_true ?_; omega) | (simp only [w_i64, w_u64, w_u32, w_u8]; omega) | exact fun j hj => (put_0 hj).symm | (intro j _; simp only [Nat.zero_add]; done) | (simp [appG]; done) | (simp [appG]; omega))); (conv => whnf); exact True.intro))
    conv => whnf
    exact True.intro
  · replace h1 := of_decide_eq_false h1
    rw [w0] at h1
    have h16 : 16 ≤ m := by omega
    have hm16 : IntKind.i64.wrap ((m : Int) - 16) = ((m - 16 : Nat) : Int) := by rw [w0]; omega
    repeat ((conv => whnf); (with_reducible refine And.intro ?_ ?_); · first | exact True.intro | (intro hg0; simp only [hg0, Bool.not_false, Bool.not_true]; done) | with_reducible assumption | omega | (intro _; refine ⟨True.intro, ?_⟩; omega) | (intro _; refine ⟨?_, True.intro⟩; omega) | (intro _; refine ⟨decide_eq_true ?_, ?_⟩ <;> omega) | (intro _; refine ⟨?_, ?_⟩ <;> first | omega | (simp [appG, Cd.holds]; done) | (simp [appG, Cd.holds]; omega)) | (refine decide_eq_true ?_; omega) | (intro _; omega) | (simp only [hm16, Int.toNat_natCast]; omega) | (simp only [hm16, Int.toNat_natCast]; intro _; refine ⟨?_, ?_⟩ <;> first | omega | (refine decide_eq_true ?_; omega)) | exact ⟨U_nonneg _, U_lt32 _⟩ | exact R8_UL _ _ | exact R32_UL _ _ | (intro hg0; (repeat ((conv => whnf); (with_reducible refine And.intro ?_ ?_); · first | with_reducible assumption | omega | (intro _; refine ⟨?_, ?_⟩ <;> first | with_reducible assumption | omega | exact True.intro | (refine decide_eq_true ?_; omega) | (simp [appG, Cd.holds]; omega)) | (intro _; refine ⟨And.intro ?_ ?_, ?_⟩ <;> first | with_reducible assumption | omega | (refine decide_eq_true ?_; omega)) | (simp only [hg0, Bool.and_self, Bool.true_and]; done) | (intro hg1; simp only [hg0, hg1, Bool.and_self, Bool.true_and]; done) | (simp [hg0]; done))); (conv => whnf); exact True.intro))
    conv => whnf
    simp only [hm16, Int.toNat_natCast]
    have hT8 : R8 (fun j => c (Int.toNat 0 + j)) (Int.toNat ((m - 16 : Nat) : Int) - Int.toNat 0) := fun j hj => hc (0 + j) (by have : j < m - 16 - 0 := hj; omega)
    have eT : L8 (fun j => c (Int.toNat 0 + j)) (Int.toNat ((m - 16 : Nat) : Int) - Int.toNat 0) = (L8 c m).take (m - 16) := by
      rw [← L8_take c m (m - 16) (by omega)]
      show L8 (fun j => c (0 + j)) (m - 16) = _
      exact L8_congr fun j _ => by rw [Nat.zero_add]
    have hD8 : R8 (fun j => c (Int.toNat ((m - 16 : Nat) : Int) + j)) (m - Int.toNat ((m - 16 : Nat) : Int)) := fun j hj => hc (m - 16 + j) (by have : j < m - (m - 16) := hj; omega)
    have eD : L8 (fun j => c (Int.toNat ((m - 16 : Nat) : Int) + j)) (m - Int.toNat ((m - 16 : Nat) : Int)) = (L8 c m).drop (m - 16) := L8_drop c m (m - 16)
    obtain ⟨S, hS⟩ : ∃ S, S = aeMark (L8 k 32) (L8 n 12) (L8 a l) ((L8 c m).take (m - 16)) := ⟨_, rfl⟩
    have hSl : S.length = 16 := by rw [hS, aeMark_length]
    have eS : L8 (fun j => UL S (Int.toNat 0 + j)) (16 - Int.toNat 0) = S := by
      rw [show (fun j => UL S (Int.toNat 0 + j)) = UL S from funext fun j => by show UL S (0 + j) = _; rw [Nat.zero_add]]
      exact L8_UL' hSl.symm
    rw [← hS] at his
    refine ⟨[(0, ⟨0, some 17, []⟩), (1, ⟨0, some 18, []⟩), (2, ⟨0, some 19, []⟩), (3, ⟨0, some 20, []⟩), (4, ⟨0, some 21, []⟩), (5, ⟨24, some 22, []⟩), (6, ⟨63, some 23, []⟩), (7, ⟨0, some 11, [114]⟩), (8, ⟨255, none, [114]⟩)], 146, ?_⟩
    repeat ((conv => whnf); (with_reducible refine And.intro ?_ ?_); · first | exact True.intro | (intro hg0; simp only [hg0, Bool.not_false, Bool.not_true]; done) | with_reducible assumption | omega | (intro _; refine ⟨True.intro, ?_⟩; omega) | (intro _; refine ⟨?_, True.intro⟩; omega) | (intro _; refine ⟨decide_eq_true ?_, ?_⟩ <;> omega) | (intro _; refine ⟨?_, ?_⟩ <;> first | omega | (simp [appG, Cd.holds]; done) | (simp [appG, Cd.holds]; omega)) | (refine decide_eq_true ?_; omega) | (intro _; omega) | (simp only [w_i64, w_u64, w_u32, w_u8]; omega) | exact ⟨U_nonneg _, U_lt32 _⟩ | exact R8_UL _ _ | exact R32_UL _ _ | (intro hg0; (repeat ((conv => whnf); (with_reducible refine And.intro ?_ ?_); · first | with_reducible assumption | omega | (intro _; refine ⟨?_, ?_⟩ <;> first | with_reducible assumption | omega | exact True.intro | (refine decide_eq_true ?_; omega) | (simp [appG, Cd.holds]; omega)) | (intro _; refine ⟨And.intro ?_ ?_, ?_⟩ <;> first | with_reducible assumption | omega | (refine decide_eq_true ?_; omega)) | (simp only [hg0, Bool.and_self, Bool.true_and]; done) | (intro hg1; simp only [hg0, hg1, Bool.and_self, Bool.true_and]; done) | (simp [hg0]; done) | exact hT8)); (conv => whnf); exact True.intro) | exact hT8)
    conv => whnf
    simp only [eT, ← hS]
    refine ⟨[(0, ⟨0, some 24, []⟩), (1, ⟨0, some 25, []⟩), (2, ⟨0, some 26, []⟩), (3, ⟨6, some 27, []⟩), (4, ⟨15, some 28, []⟩), (5, ⟨31, some 29, []⟩)], 242, ?_⟩
    repeat ((conv => whnf); (with_reducible refine And.intro ?_ ?_); · first | exact True.intro | (intro hg0; simp only [hg0, Bool.not_false, Bool.not_true]; done) | with_reducible assumption | omega | (intro _; refine ⟨True.intro, ?_⟩; omega) | (intro _; refine ⟨?_, True.intro⟩; omega) | (intro _; refine ⟨decide_eq_true ?_, ?_⟩ <;> omega) | (intro _; refine ⟨?_, ?_⟩ <;> first | omega | (simp [appG, Cd.holds]; done) | (simp [appG, Cd.holds]; omega)) | (refine decide_eq_true ?_; omega) | (intro _; omega) | (simp only [w_i64, w_u64, w_u32, w_u8]; omega) | exact ⟨U_nonneg _, U_lt32 _⟩ | exact R8_UL _ _ | exact R32_UL _ _ | (intro hg0; (repeat ((conv => whnf); (with_reducible refine And.intro ?_ ?_); · first | with_reducible assumption | omega | (intro _; refine ⟨?_, ?_⟩ <;> first | with_reducible assumption | omega | exact True.intro | (refine decide_eq_true ?_; omega) | (simp [appG, Cd.holds]; omega)) | (intro _; refine ⟨And.intro ?_ ?_, ?_⟩ <;> first | with_reducible assumption | omega | (refine decide_eq_true ?_; omega)) | (simp only [hg0, Bool.and_self, Bool.true_and]; done) | (intro hg1; simp only [hg0, hg1, Bool.and_self, Bool.true_and]; done) | (simp [hg0]; done) | exact hD8 | exact fun j hj => ⟨U_nonneg _, U_lt8 _⟩)); (conv => whnf); exact True.intro) | exact hD8 | exact fun j hj => ⟨U_nonneg _, U_lt8 _⟩)
    conv => whnf
    simp only [eS, eD]
    refine ⟨fun h2 => ?_, fun h2 => ?_⟩
    · have hBf : B = false := by
        rw [his]
        refine decide_eq_false fun h => ?_
        rw [Bool.not_eq_true', decide_eq_false_iff_not] at h2
        exact h2 h.2
      rw [hBf] at ho ⊢
      rw [if_neg (by decide)] at ho
      subst ho
      repeat ((conv => whnf); (with_reducible refine And.intro ?_ ?_); · first | exact True.intro | (intro hg0; simp only [hg0, Bool.not_false, Bool.not_true]; done) | with_reducible assumption | omega | (intro _; refine ⟨True.intro, ?_⟩; omega) | (intro _; refine ⟨?_, True.intro⟩; omega) | (intro _; refine ⟨decide_eq_true ?_, ?_⟩ <;> omega) | (intro _; refine ⟨?_, ?_⟩ <;> first | omega | (simp [appG, Cd.holds]; done) | (simp [appG, Cd.holds]; omega)) | (refine decide_eq_true ?_; omega) | (intro _; omega) | (simp only [w_i64, w_u64, w_u32, w_u8]; omega) | exact ⟨U_nonneg _, U_lt32 _⟩ | exact R8_UL _ _ | exact R32_UL _ _ | (intro hg0; (repeat ((conv => whnf); (with_reducible refine And.intro ?_ ?_); · first | with_reducible assumption | omega | (intro _; refine ⟨?_, ?_⟩ <;> first | with_reducible assumption | omega | exact True.intro | (refine decide_eq_true ?_; omega) | (simp [appG, Cd.holds]; omega)) | (intro _; refine ⟨And.intro ?_ ?_, ?_⟩ <;> first | with_reducible assumption | omega | (refine decide_eq_true ?_; omega)) | (simp only [hg0, Bool.and_self, Bool.true_and]; done) | (intro hg1; simp only [hg0, hg1, Bool.and_self, Bool.true_and]; done) | (simp [hg0]; done))); (conv => whnf); exact True.intro))
      conv => whnf
      refine ⟨[], ?_⟩
      repeat ((conv => whnf); (with_reducible refine And.intro ?_ ?_); · first | with_reducible rfl | exact (Bool.and_false _).symm | (intro _ _; with_reducible rfl) | exact True.intro | assumption | (intro h; exact absurd h (by decide)) | omega | (intro _; omega) | (intro _; refine ⟨?_, True.intro⟩; omega) | (intro _; refine ⟨?_, True.intro⟩; intro _; omega) | (refine decide_eq_false ?_; omega) | (refine decide_eq_true ?_; omega) | (simp only [w_i64, w_u64, w_u32, w_u8]; omega) | exact fun j hj => (put_0 hj).symm | (intro j _; simp only [Nat.zero_add]; done) | (simp [appG]; done) | (simp [appG]; omega) | (intro hgd; (try replace hgd := of_decide_eq_true hgd); (repeat ((conv => whnf); (with_reducible refine And.intro ?_ ?_); · first | with_reducible rfl | exact (Bool.and_false _).symm | (intro _ _; with_reducible rfl) | exact True.intro | assumption | (intro h; exact absurd h (by decide)) | omega | (intro _; omega) | (intro _; refine ⟨?_, True.intro⟩; omega) | (intro _; refine ⟨?_, True.intro⟩; intro _; omega) | (refine decide_eq_false ?_; omega) | (refine decide_eq_true ?_; omega) | (simp only [w_i64, w_u64, w_u32, w_u8]; omega) | exact fun j hj => (put_0 hj).symm | (intro j _; simp only [Nat.zero_add]; done) | (simp [appG]; done) | (simp [appG]; omega))); (conv => whnf); exact True.intro))
      conv => whnf
      exact True.intro
    · have hBt : B = true := by
        rw [his]
        refine decide_eq_true ⟨h16, ?_⟩
        rw [Bool.not_eq_false', decide_eq_true_iff] at h2
        exact h2
      rw [hBt] at ho ⊢
      rw [if_pos rfl] at ho
      have hOl : O.length = m - 16 := by rw [ho, chXor_length, List.length_take, hCl, Nat.min_eq_left (by omega)]
      repeat ((conv => whnf); (with_reducible refine And.intro ?_ ?_); · first | exact True.intro | (intro hg0; simp only [hg0, Bool.not_false, Bool.not_true]; done) | with_reducible assumption | omega | (intro _; refine ⟨True.intro, ?_⟩; omega) | (intro _; refine ⟨?_, True.intro⟩; omega) | (intro _; refine ⟨decide_eq_true ?_, ?_⟩ <;> omega) | (intro _; refine ⟨?_, ?_⟩ <;> first | omega | (simp [appG, Cd.holds]; done) | (simp [appG, Cd.holds]; omega)) | (refine decide_eq_true ?_; omega) | (intro _; omega) | (simp only [w_i64, w_u64, w_u32, w_u8]; omega) | exact ⟨U_nonneg _, U_lt32 _⟩ | exact R8_UL _ _ | exact R32_UL _ _ | (intro hg0; (repeat ((conv => whnf); (with_reducible refine And.intro ?_ ?_); · first | with_reducible assumption | omega | (intro _; refine ⟨?_, ?_⟩ <;> first | with_reducible assumption | omega | exact True.intro | (refine decide_eq_true ?_; omega) | (simp [appG, Cd.holds]; omega)) | (intro _; refine ⟨And.intro ?_ ?_, ?_⟩ <;> first | with_reducible assumption | omega | (refine decide_eq_true ?_; omega)) | (simp only [hg0, Bool.and_self, Bool.true_and]; done) | (intro hg1; simp only [hg0, hg1, Bool.and_self, Bool.true_and]; done) | (simp [hg0]; done))); (conv => whnf); exact True.intro))
      conv => whnf
      refine ⟨[(0, ⟨0, some 30, []⟩), (1, ⟨0, some 31, []⟩), (2, ⟨0, some 32, []⟩), (3, ⟨0, some 33, []⟩), (4, ⟨12, some 34, []⟩), (5, ⟨31, some 35, [322]⟩), (6, ⟨63, some 8, []⟩), (7, ⟨127, some 9, []⟩)], 370, ?_⟩
      repeat ((conv => whnf); (with_reducible refine And.intro ?_ ?_); · first | exact True.intro | (intro hg0; simp only [hg0, Bool.not_false, Bool.not_true]; done) | with_reducible assumption | omega | (intro _; refine ⟨True.intro, ?_⟩; omega) | (intro _; refine ⟨?_, True.intro⟩; omega) | (intro _; refine ⟨decide_eq_true ?_, ?_⟩ <;> omega) | (intro _; refine ⟨?_, ?_⟩ <;> first | omega | (simp [appG, Cd.holds]; done) | (simp [appG, Cd.holds]; omega)) | (refine decide_eq_true ?_; omega) | (intro _; omega) | (simp only [w_i64, w_u64, w_u32, w_u8]; omega) | exact ⟨U_nonneg _, U_lt32 _⟩ | exact R8_UL _ _ | exact R32_UL _ _ | (intro hg0; (repeat ((conv => whnf); (with_reducible refine And.intro ?_ ?_); · first | with_reducible assumption | omega | (intro _; refine ⟨?_, ?_⟩ <;> first | with_reducible assumption | omega | exact True.intro | (refine decide_eq_true ?_; omega) | (simp [appG, Cd.holds]; omega)) | (intro _; refine ⟨And.intro ?_ ?_, ?_⟩ <;> first | with_reducible assumption | omega | (refine decide_eq_true ?_; omega)) | (simp only [hg0, Bool.and_self, Bool.true_and]; done) | (intro hg1; simp only [hg0, hg1, Bool.and_self, Bool.true_and]; done) | (simp [hg0]; done) | exact hT8 | exact u1)); (conv => whnf); exact True.intro) | exact hT8 | exact u1)
      conv => whnf
      simp only [eT]
      refine ⟨[(0, 322)], ?_⟩
      have ho2 : chXor (L8 k 32) (BitVec.ofInt 32 1) (L8 n 12) (List.take (m - 16) (L8 c m)) = O := by rw [ho]; rfl
      simp only [ho2, hOl]
      repeat ((conv => whnf); (with_reducible refine And.intro ?_ ?_); · first | with_reducible rfl | exact (Bool.and_false _).symm | (intro _ _; with_reducible rfl) | exact True.intro | assumption | (intro h; exact absurd h (by decide)) | omega | (intro _; omega) | (intro _; refine ⟨?_, True.intro⟩; omega) | (intro _; refine ⟨?_, True.intro⟩; intro _; omega) | (refine decide_eq_false ?_; omega) | (refine decide_eq_true ?_; omega) | (simp only [w_i64, w_u64, w_u32, w_u8]; omega) | exact fun j hj => (put_0 hj).symm | (intro j _; simp only [Nat.zero_add]; done) | (simp [appG]; done) | (simp [appG]; omega) | (intro hgd; (try replace hgd := of_decide_eq_true hgd); (repeat ((conv => whnf); (with_reducible refine And.intro ?_ ?_); · first | with_reducible rfl | exact (Bool.and_false _).symm | (intro _ _; with_reducible rfl) | exact True.intro | assumption | (intro h; exact absurd h (by decide)) | omega | (intro _; omega) | (intro _; refine ⟨?_, True.intro⟩; omega) | (intro _; refine ⟨?_, True.intro⟩; intro _; omega) | (refine decide_eq_false ?_; omega) | (refine decide_eq_true ?_; omega) | (simp only [w_i64, w_u64, w_u32, w_u8]; omega) | exact fun j hj => (put_0 hj).symm | (intro j _; simp only [Nat.zero_add]; done) | (simp [appG]; done) | (simp [appG]; omega))); (conv => whnf); exact True.intro))
      conv => whnf
      exact True.intro
end Go.Proofs.Ytogijkmflhjhkaa

/- Functions through the evaluator: what each law of mac begins with. No condition. -/
namespace Go.Proofs.Ytogijkmflhjhkaa
open Go.Sx Go.RowKit
set_option linter.unusedSimpArgs false
set_option maxRecDepth 100000
set_option linter.unusedVariables false

theorem cok17 : COk Try.prog (tab [(37, sumVS), (38, hmacS), (40, expandS), (41, sameS)]) := cok_cons sumVS_ok (cok_cons hmacS_ok (cok_cons expandS_ok (cok_cons sameS_ok cok_nil)))
def yesS : Summary := mkS false [] fun
  | [] => some ⟨.tt, some (.sa (.sc (.bool true))), [], 0⟩
  | _ => none
theorem yesS30_ok : SumOk Try.prog 30 yesS := by
  unfold yesS
  apply sum_ok
  intro vs A H n o r hb h
  split at h
  rotate_left
  · cases h
  injection h with h
  subst h
  cases hb
  refine fsound_of_run tt_ok cok17 mixed_ok Try.call30 Try.func30 rfl (rs := _) Try.results30 (size := 60) Try.ntmps30 (Nat.le_of_ble_eq_true rfl) rfl fun hp hfa hfh => ?_
  iterate 15 ((conv => whnf); (with_reducible refine And.intro ?_ ?_); · first | decide +kernel | (intro _; exact True.intro) | (intro _; refine ⟨True.intro, ?_⟩; omega) | (unfold R8; decide +kernel))
  generalize hA : sha (cat (fun _ => ⟨false, fun j => listI [99, 98, 97].reverse (0 + 0 + j), 3⟩) 1) = A
  generalize hB : hmac _ _ = B
  have a0 : UL A (Int.toNat 0) = 186 := by rw [← hA]; decide +kernel
  have a1 : UL A (Int.toNat 1) = 120 := by rw [← hA]; decide +kernel
  have a2 : UL A (Int.toNat 31) = 173 := by rw [← hA]; decide +kernel
  have b0 : UL B (Int.toNat 0) = 91 := by rw [← hB]; decide +kernel
  have b1 : UL B (Int.toNat 1) = 220 := by rw [← hB]; decide +kernel
  have b2 : UL B (Int.toNat 31) = 67 := by rw [← hB]; decide +kernel
  clear hA hB
  repeat ((conv => whnf); (with_reducible refine And.intro ?_ ?_); · first | exact True.intro | (intro hg0; simp only [hg0, Bool.not_false, Bool.not_true]; done) | assumption | omega | (intro _; refine ⟨True.intro, ?_⟩; omega) | (intro _; refine ⟨?_, True.intro⟩; omega) | (intro _; refine ⟨decide_eq_true ?_, ?_⟩ <;> omega) | (intro _; refine ⟨?_, ?_⟩ <;> first | omega | (simp [appG, Cd.holds]; done) | (simp [appG, Cd.holds]; omega)) | (refine decide_eq_true ?_; omega) | (intro _; omega) | (simp only [w_i64, w_u64, w_u32, w_u8]; omega) | exact ⟨U_nonneg _, U_lt32 _⟩ | exact R8_UL _ _ | exact R32_UL _ _ | (intro hg0; (repeat ((conv => whnf); (with_reducible refine And.intro ?_ ?_); · first | assumption | omega | (intro _; refine ⟨?_, ?_⟩ <;> first | assumption | omega | exact True.intro | (refine decide_eq_true ?_; omega) | (simp [appG, Cd.holds]; omega)) | (intro _; refine ⟨And.intro ?_ ?_, ?_⟩ <;> first | assumption | omega | (refine decide_eq_true ?_; omega)) | (simp only [hg0, Bool.and_self, Bool.true_and]; done) | (intro hg1; simp only [hg0, hg1, Bool.and_self, Bool.true_and]; done) | (simp [hg0]; done) | exact fun j _ => ⟨U_nonneg _, U_lt8 _⟩ | (unfold R8; decide +kernel) | decide +kernel)); (conv => whnf); exact True.intro) | exact fun j _ => ⟨U_nonneg _, U_lt8 _⟩ | (unfold R8; decide +kernel) | decide +kernel)
  conv => whnf
  refine ⟨[], ?_⟩
  repeat ((conv => whnf); (with_reducible refine And.intro ?_ ?_); · first | with_reducible rfl | exact (Bool.and_false _).symm | (intro _ _; with_reducible rfl) | exact True.intro | assumption | (intro h; exact absurd h (by decide)) | omega | (intro _; omega) | (intro _; refine ⟨?_, True.intro⟩; omega) | (intro _; refine ⟨?_, True.intro⟩; intro _; omega) | (refine decide_eq_false ?_; omega) | (refine decide_eq_true ?_; omega) | (simp only [w_i64, w_u64, w_u32, w_u8]; omega) | exact fun j hj => (put_0 hj).symm | (intro j _; simp only [Nat.zero_add]; done) | (simp [appG]; done) | (simp [appG]; omega) | (simp only [a0, a1, a2, b0, b1, b2]; decide +kernel) | (intro hgd; (try replace hgd := of_decide_eq_true hgd); (repeat ((conv => whnf); (with_reducible refine And.intro ?_ ?_); · first | with_reducible rfl | exact (Bool.and_false _).symm | (intro _ _; with_reducible rfl) | exact True.intro | assumption | (intro h; exact absurd h (by decide)) | omega | (intro _; omega) | (intro _; refine ⟨?_, True.intro⟩; omega) | (intro _; refine ⟨?_, True.intro⟩; intro _; omega) | (refine decide_eq_false ?_; omega) | (refine decide_eq_true ?_; omega) | (simp only [w_i64, w_u64, w_u32, w_u8]; omega) | exact fun j hj => (put_0 hj).symm | (intro j _; simp only [Nat.zero_add]; done) | (simp [appG]; done) | (simp [appG]; omega) | (simp only [a0, a1, a2, b0, b1, b2]; decide +kernel))); (conv => whnf); exact True.intro))
  conv => whnf
  exact True.intro
theorem cok17b : COk Try.prog (tab [(30, yesS)]) := cok_cons yesS30_ok cok_nil
theorem yesS70_ok : SumOk Try.prog 70 yesS := by
  unfold yesS
  apply sum_ok
  intro vs A H n o r hb h
  split at h
  rotate_left
  · cases h
  injection h with h
  subst h
  cases hb
  refine fsound_of_run tt_ok cok17b mixed_ok Try.call70 Try.func70 rfl (rs := _) Try.results70 (size := 2) Try.ntmps70 (Nat.le_of_ble_eq_true rfl) rfl fun hp hfa hfh => ?_
  repeat ((conv => whnf); (with_reducible refine And.intro ?_ ?_); · first | exact True.intro | (intro hg0; simp only [hg0, Bool.not_false, Bool.not_true]; done) | assumption | omega | (intro _; refine ⟨True.intro, ?_⟩; omega) | (intro _; refine ⟨?_, True.intro⟩; omega) | (intro _; refine ⟨decide_eq_true ?_, ?_⟩ <;> omega) | (intro _; refine ⟨?_, ?_⟩ <;> first | omega | (simp [appG, Cd.holds]; done) | (simp [appG, Cd.holds]; omega)) | (refine decide_eq_true ?_; omega) | (intro _; omega) | (simp only [w_i64, w_u64, w_u32, w_u8]; omega) | exact ⟨U_nonneg _, U_lt32 _⟩ | exact R8_UL _ _ | exact R32_UL _ _ | (intro hg0; (repeat ((conv => whnf); (with_reducible refine And.intro ?_ ?_); · first | assumption | omega | (intro _; refine ⟨?_, ?_⟩ <;> first | assumption | omega | exact True.intro | (refine decide_eq_true ?_; omega) | (simp [appG, Cd.holds]; omega)) | (intro _; refine ⟨And.intro ?_ ?_, ?_⟩ <;> first | assumption | omega | (refine decide_eq_true ?_; omega)) | (simp only [hg0, Bool.and_self, Bool.true_and]; done) | (intro hg1; simp only [hg0, hg1, Bool.and_self, Bool.true_and]; done) | (simp [hg0]; done))); (conv => whnf); exact True.intro))
  conv => whnf
  refine ⟨[], ?_⟩
  repeat ((conv => whnf); (with_reducible refine And.intro ?_ ?_); · first | with_reducible rfl | exact (Bool.and_false _).symm | (intro _ _; with_reducible rfl) | exact True.intro | assumption | (intro h; exact absurd h (by decide)) | omega | (intro _; omega) | (intro _; refine ⟨?_, True.intro⟩; omega) | (intro _; refine ⟨?_, True.intro⟩; intro _; omega) | (refine decide_eq_false ?_; omega) | (refine decide_eq_true ?_; omega) | (simp only [w_i64, w_u64, w_u32, w_u8]; omega) | exact fun j hj => (put_0 hj).symm | (intro j _; simp only [Nat.zero_add]; done) | (simp [appG]; done) | (simp [appG]; omega) | (intro hgd; (try replace hgd := of_decide_eq_true hgd); (repeat ((conv => whnf); (with_reducible refine And.intro ?_ ?_); · first | with_reducible rfl | exact (Bool.and_false _).symm | (intro _ _; with_reducible rfl) | exact True.intro | assumption | (intro h; exact absurd h (by decide)) | omega | (intro _; omega) | (intro _; refine ⟨?_, True.intro⟩; omega) | (intro _; refine ⟨?_, True.intro⟩; intro _; omega) | (refine decide_eq_false ?_; omega) | (refine decide_eq_true ?_; omega) | (simp only [w_i64, w_u64, w_u32, w_u8]; omega) | exact fun j hj => (put_0 hj).symm | (intro j _; simp only [Nat.zero_add]; done) | (simp [appG]; done) | (simp [appG]; omega))); (conv => whnf); exact True.intro))
  conv => whnf
  exact True.intro
end Go.Proofs.Ytogijkmflhjhkaa

/- Strings as lists of bytes. Plain lemmas, no condition. -/
namespace Go.Proofs.Ytogijkmflhjhkaa
open Go.Sx Go.RowKit
set_option linter.unusedSimpArgs false
set_option linter.unusedVariables false

/-- The string of bytes; a string's bytes. -/
def sb (l : List (BitVec 8)) : ByteArray := ⟨(l.map UInt8.ofBitVec).toArray⟩
def ls (s : ByteArray) : List (BitVec 8) := s.data.toList.map UInt8.toBitVec
theorem sb_ls (s : ByteArray) : sb (ls s) = s := by
  cases s with
  | mk d =>
    unfold sb ls
    simp only [List.map_map]
    congr 1
    rw [show (UInt8.ofBitVec ∘ UInt8.toBitVec) = id from rfl, List.map_id]
theorem ls_sb (l : List (BitVec 8)) : ls (sb l) = l := by
  unfold sb ls
  simp only [List.map_map]
  rw [show (UInt8.toBitVec ∘ UInt8.ofBitVec) = id from rfl, List.map_id]
theorem ls_length (s : ByteArray) : (ls s).length = s.size := by unfold ls; rw [List.length_map]; exact Array.length_toList
theorem sb_size (l : List (BitVec 8)) : (sb l).size = l.length := by rw [← ls_length, ls_sb]
theorem sb_inj {a b : List (BitVec 8)} (h : sb a = sb b) : a = b := by rw [← ls_sb a, h, ls_sb]
theorem byteArray_ext {a b : ByteArray} (h : a.data.toList = b.data.toList) : a = b := by
  cases a; cases b; simp only at h; congr 1; exact Array.toList_inj.1 h
theorem ls_append (a b : ByteArray) : ls (a ++ b) = ls a ++ ls b := by
  unfold ls
  rw [ByteArray.data_append]
  simp
theorem sb_append (a b : List (BitVec 8)) : sb a ++ sb b = sb (a ++ b) := by
  rw [← sb_ls (sb a ++ sb b), ls_append, ls_sb, ls_sb]
theorem ls_extract (s : ByteArray) (a b : Nat) : ls (s.extract a b) = ((ls s).drop a).take (b - a) := by
  unfold ls
  rw [ByteArray.data_extract]
  simp [List.map_drop, List.map_take, List.extract_eq_take_drop]
theorem sb_extract (l : List (BitVec 8)) (a b : Nat) : (sb l).extract a b = sb ((l.drop a).take (b - a)) := by
  rw [← sb_ls ((sb l).extract a b), ls_extract, ls_sb]
theorem bytesI_ls (s : ByteArray) (j : Nat) : bytesI s j = UL (ls s) j := by
  unfold bytesI UL ls U
  by_cases h : j < s.data.size
  · simp [Array.getD_eq_getD_getElem?, List.getD_eq_getElem?_getD, h]
  · simp [Array.getD_eq_getD_getElem?, List.getD_eq_getElem?_getD, h]
theorem bytesI_sb (l : List (BitVec 8)) (j : Nat) : bytesI (sb l) j = UL l j := by rw [bytesI_ls, ls_sb]
theorem strI_sb {g : Nat → Int} {n : Nat} (h : R8 g n) : strI g n = sb (L8 g n) := by
  apply byteArray_ext
  unfold strI sb L8
  simp only [List.map_map]
  apply List.map_congr_left
  intro j hj
  have hj : j < n := by simpa using hj
  apply UInt8.toBitVec_inj.1
  show BitVec.ofNat 8 (g j).toNat = BitVec.ofInt 8 (g j)
  have := h j hj
  apply BitVec.eq_of_toNat_eq
  rw [BitVec.toNat_ofNat, BitVec.toNat_ofInt]
  have e1 : (2 : Nat) ^ 8 = 256 := rfl
  rw [e1]
  omega
theorem toList_loop (s : ByteArray) : ∀ (k i : Nat) (r : List UInt8), s.size - i = k → ByteArray.toList.loop s i r = r.reverse ++ s.data.toList.drop i := by
  intro k
  induction k with
  | zero =>
    intro i r h
    unfold ByteArray.toList.loop
    rw [if_neg (by omega), List.drop_eq_nil_of_le (by have e0 : s.size = s.data.size := rfl; rw [Array.length_toList]; omega)]
    simp
  | succ k ih =>
    intro i r h
    have hi : i < s.data.size := by have : s.size = s.data.size := rfl; omega
    unfold ByteArray.toList.loop
    rw [if_pos (by have : s.size = s.data.size := rfl; omega), ih (i + 1) _ (by omega)]
    have e : s.data.toList.drop i = s.data.toList[i]'(by simpa using hi) :: s.data.toList.drop (i + 1) := by
      rw [List.getElem_cons_drop]
    rw [e, List.reverse_cons, List.append_assoc, List.singleton_append]
    congr 2
    show s.data[i]! = _
    rw [getElem!_pos s.data i hi, Array.getElem_toList]
theorem toList_data (s : ByteArray) : s.toList = s.data.toList := by
  unfold ByteArray.toList
  rw [toList_loop s s.size 0 [] (by omega)]
  simp
theorem eq_sb (a b : List (BitVec 8)) : ((sb a).toList == (sb b).toList) = decide (a = b) := by
  rw [toList_data, toList_data]
  by_cases h : a = b
  · subst h; simp
  · rw [decide_eq_false h, beq_eq_false_iff_ne]
    intro e
    exact h (sb_inj (byteArray_ext e))
end Go.Proofs.Ytogijkmflhjhkaa

/- The symbolic evaluator: a condition, part by part. Plain lemmas, no condition. -/
namespace Go.Sx
theorem Cd.holds_tt : Cd.tt.holds := True.intro
theorem Cd.holds_p {P : Prop} (h : P) : (Cd.p P).holds := h
theorem Cd.holds_and {a b : Cd} (h : a.holds) (k : b.holds) : (Cd.and a b).holds := ⟨h, k⟩
theorem Cd.holds_imp {g : Bool} {c : Cd} (h : g = true → c.holds) : (Cd.imp g c).holds := h
end Go.Sx

/- Functions through the evaluator: keys and nonces of bytes; what each law of chacha, poly, aead begins with. No condition. -/
namespace Go.Proofs.Ytogijkmflhjhkaa
open Go.Sx Go.RowKit
set_option maxRecDepth 100000
set_option maxHeartbeats 2000000
set_option linter.unusedVariables false
set_option linter.unusedSimpArgs false

/-- So many bytes of a list, noughts behind. -/
def kpad (m : Nat) (l : List B8) : List B8 := (l ++ List.replicate m 0).take m
theorem kpad_length (m : Nat) (l : List B8) : (kpad m l).length = m := by simp [kpad]
theorem kpad_at {m n : Nat} {g : Nat → Int} (hg : R8 g n) {f : Nat → Int} (hf : ∀ j, j < m → f j = if j < n then g j else 0) (j : Nat) (hj : j < m) : UL (kpad m (L8 g n)) j = f j := by
  rw [hf j hj, UL_getD, kpad, getD_take _ _ _ _ hj, List.getD_eq_getElem?_getD]
  by_cases h : j < n
  · rw [if_pos h, List.getElem?_append_left (by rw [L8_length]; exact h), ← List.getD_eq_getElem?_getD, ← UL_getD, UL_L8 hg j h]
  · rw [if_neg h, List.getElem?_append_right (by rw [L8_length]; omega), L8_length]
    simp [show j - n < m by omega, U]
theorem put_if {g : Nat → Int} {n m : Nat} (j : Nat) (hj : j < m) : put_ (fun _ => 0) (Int.toNat 0) (min n (m - Int.toNat 0)) g j = if j < n then g j else 0 := by
  unfold put_
  have e : Int.toNat 0 = 0 := rfl
  rw [e, Nat.sub_zero, Nat.sub_zero, Nat.zero_add]
  by_cases h : j < n
  · rw [if_pos h, if_pos (by omega)]
  · rw [if_neg h, if_neg (by omega)]
/-- indenturelaw4.Key. -/
def keyS : Summary := mkS false [.r .u8] fun
  | [.r nl g n] => some ⟨.p (R8 g n), some (.sa (.agg [.ints .u8 (UL (kpad 32 (L8 g n))) 32])), [], 0⟩
  | _ => none
theorem keyS_ok : SumOk Try.prog 53 keyS := by
  unfold keyS
  apply sum_ok
  intro vs A H n o r hb h
  split at h
  rotate_left
  · cases h
  rename_i nl g n
  injection h with h
  subst h
  cases hb
  refine fsound_of_run tt_ok cok_nil mixed_ok Try.call53 Try.func53 rfl (rs := _) Try.results53 (size := 8) Try.ntmps53 (Nat.le_of_ble_eq_true rfl) rfl fun hp hfa hfh => ?_
  have hg : R8 g n := hp
  repeat ((conv => whnf); (with_reducible refine And.intro ?_ ?_); · first | exact True.intro | (intro hg0; simp only [hg0, Bool.not_false, Bool.not_true]; done) | assumption | omega | (intro _; refine ⟨True.intro, ?_⟩; omega) | (intro _; refine ⟨?_, True.intro⟩; omega) | (intro _; refine ⟨decide_eq_true ?_, ?_⟩ <;> omega) | (intro _; refine ⟨?_, ?_⟩ <;> first | omega | (simp [appG, Cd.holds]; done) | (simp [appG, Cd.holds]; omega)) | (refine decide_eq_true ?_; omega) | (intro _; omega) | (simp only [w_i64, w_u64, w_u32, w_u8]; omega) | exact ⟨U_nonneg _, U_lt32 _⟩ | exact R8_UL _ _ | exact R32_UL _ _ | (intro hg0; (repeat ((conv => whnf); (with_reducible refine And.intro ?_ ?_); · first | assumption | omega | (intro _; refine ⟨?_, ?_⟩ <;> first | assumption | omega | exact True.intro | (refine decide_eq_true ?_; omega) | (simp [appG, Cd.holds]; omega)) | (intro _; refine ⟨And.intro ?_ ?_, ?_⟩ <;> first | assumption | omega | (refine decide_eq_true ?_; omega)) | (simp only [hg0, Bool.and_self, Bool.true_and]; done) | (intro hg1; simp only [hg0, hg1, Bool.and_self, Bool.true_and]; done) | (simp [hg0]; done))); (conv => whnf); exact True.intro))
  conv => whnf
  refine ⟨[], ?_⟩
  repeat ((conv => whnf); (with_reducible refine And.intro ?_ ?_); · first | with_reducible rfl | exact (Bool.and_false _).symm | (intro _ _; with_reducible rfl) | exact True.intro | assumption | (intro h; exact absurd h (by decide)) | omega | (intro _; omega) | (intro _; refine ⟨?_, True.intro⟩; omega) | (intro _; refine ⟨?_, True.intro⟩; intro _; omega) | (refine decide_eq_false ?_; omega) | (refine decide_eq_true ?_; omega) | (simp only [w_i64, w_u64, w_u32, w_u8]; omega) | exact fun j hj => (put_0 hj).symm | (intro j _; simp only [Nat.zero_add]; done) | (simp [appG]; done) | (simp [appG]; omega) | exact kpad_at hg fun j hj => put_if j hj | (intro hgd; (try replace hgd := of_decide_eq_true hgd); (repeat ((conv => whnf); (with_reducible refine And.intro ?_ ?_); · first | with_reducible rfl | exact (Bool.and_false _).symm | (intro _ _; with_reducible rfl) | exact True.intro | assumption | (intro h; exact absurd h (by decide)) | omega | (intro _; omega) | (intro _; refine ⟨?_, True.intro⟩; omega) | (intro _; refine ⟨?_, True.intro⟩; intro _; omega) | (refine decide_eq_false ?_; omega) | (refine decide_eq_true ?_; omega) | (simp only [w_i64, w_u64, w_u32, w_u8]; omega) | exact fun j hj => (put_0 hj).symm | (intro j _; simp only [Nat.zero_add]; done) | (simp [appG]; done) | (simp [appG]; omega) | exact kpad_at hg fun j hj => put_if j hj)); (conv => whnf); exact True.intro))
  conv => whnf
  exact True.intro
/-- indenturelaw4.Nonce. -/
def nonceS : Summary := mkS false [.r .u8] fun
  | [.r nl g n] => some ⟨.p (R8 g n), some (.sa (.agg [.ints .u8 (UL (kpad 12 (L8 g n))) 12])), [], 0⟩
  | _ => none
theorem nonceS_ok : SumOk Try.prog 54 nonceS := by
  unfold nonceS
  apply sum_ok
  intro vs A H n o r hb h
  split at h
  rotate_left
  · cases h
  rename_i nl g n
  injection h with h
  subst h
  cases hb
  refine fsound_of_run tt_ok cok_nil mixed_ok Try.call54 Try.func54 rfl (rs := _) Try.results54 (size := 8) Try.ntmps54 (Nat.le_of_ble_eq_true rfl) rfl fun hp hfa hfh => ?_
  have hg : R8 g n := hp
  repeat ((conv => whnf); (with_reducible refine And.intro ?_ ?_); · first | exact True.intro | (intro hg0; simp only [hg0, Bool.not_false, Bool.not_true]; done) | assumption | omega | (intro _; refine ⟨True.intro, ?_⟩; omega) | (intro _; refine ⟨?_, True.intro⟩; omega) | (intro _; refine ⟨decide_eq_true ?_, ?_⟩ <;> omega) | (intro _; refine ⟨?_, ?_⟩ <;> first | omega | (simp [appG, Cd.holds]; done) | (simp [appG, Cd.holds]; omega)) | (refine decide_eq_true ?_; omega) | (intro _; omega) | (simp only [w_i64, w_u64, w_u32, w_u8]; omega) | exact ⟨U_nonneg _, U_lt32 _⟩ | exact R8_UL _ _ | exact R32_UL _ _ | (intro hg0; (repeat ((conv => whnf); (with_reducible refine And.intro ?_ ?_); · first | assumption | omega | (intro _; refine ⟨?_, ?_⟩ <;> first | assumption | omega | exact True.intro | (refine decide_eq_true ?_; omega) | (simp [appG, Cd.holds]; omega)) | (intro _; refine ⟨And.intro ?_ ?_, ?_⟩ <;> first | assumption | omega | (refine decide_eq_true ?_; omega)) | (simp only [hg0, Bool.and_self, Bool.true_and]; done) | (intro hg1; simp only [hg0, hg1, Bool.and_self, Bool.true_and]; done) | (simp [hg0]; done))); (conv => whnf); exact True.intro))
  conv => whnf
  refine ⟨[], ?_⟩
  repeat ((conv => whnf); (with_reducible refine And.intro ?_ ?_); · first | with_reducible rfl | exact (Bool.and_false _).symm | (intro _ _; with_reducible rfl) | exact True.intro | assumption | (intro h; exact absurd h (by decide)) | omega | (intro _; omega) | (intro _; refine ⟨?_, True.intro⟩; omega) | (intro _; refine ⟨?_, True.intro⟩; intro _; omega) | (refine decide_eq_false ?_; omega) | (refine decide_eq_true ?_; omega) | (simp only [w_i64, w_u64, w_u32, w_u8]; omega) | exact fun j hj => (put_0 hj).symm | (intro j _; simp only [Nat.zero_add]; done) | (simp [appG]; done) | (simp [appG]; omega) | exact kpad_at hg fun j hj => put_if j hj | (intro hgd; (try replace hgd := of_decide_eq_true hgd); (repeat ((conv => whnf); (with_reducible refine And.intro ?_ ?_); · first | with_reducible rfl | exact (Bool.and_false _).symm | (intro _ _; with_reducible rfl) | exact True.intro | assumption | (intro h; exact absurd h (by decide)) | omega | (intro _; omega) | (intro _; refine ⟨?_, True.intro⟩; omega) | (intro _; refine ⟨?_, True.intro⟩; intro _; omega) | (refine decide_eq_false ?_; omega) | (refine decide_eq_true ?_; omega) | (simp only [w_i64, w_u64, w_u32, w_u8]; omega) | exact fun j hj => (put_0 hj).symm | (intro j _; simp only [Nat.zero_add]; done) | (simp [appG]; done) | (simp [appG]; omega) | exact kpad_at hg fun j hj => put_if j hj)); (conv => whnf); exact True.intro))
  conv => whnf
  exact True.intro

theorem R8_list {L : List Int} (h : L.all (fun x => decide (0 ≤ x ∧ x < 256)) = true) (a n : Nat) : R8 (fun j => listI L (a + j)) n := fun j _ => by
  show 0 ≤ L.getD (a + j) 0 ∧ L.getD (a + j) 0 < 256
  rw [List.getD_eq_getElem?_getD]
  cases e : L[a + j]? with
  | none => exact ⟨by decide, by decide⟩
  | some x =>
    have := List.all_eq_true.1 h x (List.mem_of_getElem? e)
    exact of_decide_eq_true this
theorem cokC : COk Try.prog (tab [(51, quarterS), (53, keyS), (54, nonceS), (59, tagS), (61, sealS), (62, openS), (70, yesS)]) :=
  cok_cons quarterS_ok (cok_cons keyS_ok (cok_cons nonceS_ok (cok_cons tagS_ok (cok_cons sealS_ok (cok_cons openS_ok (cok_cons yesS70_ok cok_nil))))))
theorem yesS50_ok : SumOk Try.prog 50 yesS := by
  unfold yesS
  apply sum_ok
  intro vs A H n o r hb h
  split at h
  rotate_left
  · cases h
  injection h with h
  subst h
  cases hb
  refine fsound_of_run tt_ok cokC mixed_ok Try.call50 Try.func50 rfl (rs := _) Try.results50 (size := 72) Try.ntmps50 (Nat.le_of_ble_eq_true rfl) rfl fun hp hfa hfh => ?_
  repeat ((conv => whnf); (with_reducible refine And.intro ?_ ?_); · first | exact True.intro | with_reducible rfl | (refine ⟨?_, ?_⟩ <;> decide))
  conv => whnf
  generalize hG : listI [27, 245, 73, 65, 175, 246, 191, 74, 253, 178, 13, 251, 138, 128, 3, 1, 168, 6, 213, 66, 254, 82, 68, 127, 51, 109, 85, 87, 120, 190, 214, 133].reverse = G
  have hG8 : R8 (fun j => G (0 + j)) 32 := by rw [← hG]; exact R8_list (by decide) 0 32
  repeat ((conv => whnf); (with_reducible refine And.intro ?_ ?_); · first | exact True.intro | with_reducible rfl | exact hG8 | (intro _; exact ⟨True.intro, by decide⟩) | exact fun j hj => ⟨U_nonneg _, U_lt8 _⟩ | decide)
  conv => whnf
  generalize hM : listI [112, 117, 111, 114, 71, 32, 104, 99, 114, 97, 101, 115, 101, 82, 32, 109, 117, 114, 111, 70, 32, 99, 105, 104, 112, 97, 114, 103, 111, 116, 112, 121, 114, 67].reverse = M
  have hM8 : R8 (fun j => M (0 + 0 + j)) 34 := by rw [← hM]; exact R8_list (by decide) (0 + 0) 34
  generalize hT : polyTag (L8 (UL (kpad 32 (L8 (fun j => G (0 + j)) 32))) 32) (L8 (fun j => M (0 + 0 + j)) 34) = T
  generalize hqa : U (q2a (BitVec.ofInt 32 286331153) (BitVec.ofInt 32 16909060) (BitVec.ofInt 32 2609737539) (BitVec.ofInt 32 19088743)) = va
  generalize hqd : U (q2d (BitVec.ofInt 32 286331153) (BitVec.ofInt 32 16909060) (BitVec.ofInt 32 2609737539) (BitVec.ofInt 32 19088743)) = vd
  refine ⟨hM8, ?_⟩
  repeat ((conv => whnf); (with_reducible refine And.intro ?_ ?_); · first | exact True.intro | with_reducible rfl | exact hG8 | exact hM8 | (intro _; exact ⟨True.intro, by decide⟩) | exact fun j hj => ⟨U_nonneg _, U_lt8 _⟩ | decide)
  conv => whnf
  refine ⟨fun j hj => absurd hj (Nat.not_lt_zero j), ?_⟩
  have hk8 : R8 (UL (kpad 32 (L8 (fun j => G (0 + j)) 32))) 32 := R8_UL _ _
  have hn8 : R8 (UL (kpad 12 (L8 (fun _ => 0) 0))) 12 := R8_UL _ _
  generalize hk : UL (kpad 32 (L8 (fun j => G (0 + j)) 32)) = kf at hk8 ⊢
  generalize hn : UL (kpad 12 (L8 (fun _ => 0) 0)) = nf at hn8 ⊢
  repeat (first | ((with_reducible refine (Cd.then_iff _ _).2 (And.intro ?_ ?_)); · repeat' ((conv => arg 1; whnf); first | exact Cd.holds_tt | (refine Cd.holds_p ?_; first | exact hk8 | exact hn8 | (refine R8_list ?_ _ _; decide) | (intro _; exact ⟨True.intro, by decide⟩) | exact fun j hj => ⟨U_nonneg _, U_lt8 _⟩ | exact fun j hj => absurd hj (Nat.not_lt_zero j) | exact True.intro | (intro hg0; simp only [hg0, Bool.not_false, Bool.not_true]; done) | with_reducible assumption | omega | (intro _; refine ⟨True.intro, ?_⟩; omega) | (intro _; refine ⟨?_, True.intro⟩; omega) | (intro _; refine ⟨decide_eq_true ?_, ?_⟩ <;> omega) | (intro _; refine ⟨?_, ?_⟩ <;> first | omega | (simp [appG, Cd.holds]; done) | (simp [appG, Cd.holds]; omega)) | (refine decide_eq_true ?_; omega) | (intro _; omega) | (simp only [w_i64, w_u64, w_u32, w_u8]; omega) | exact ⟨U_nonneg _, U_lt32 _⟩ | exact R8_UL _ _ | exact R32_UL _ _ | (intro hg0; (repeat ((conv => whnf); (with_reducible refine And.intro ?_ ?_); · first | with_reducible assumption | omega | (intro _; refine ⟨?_, ?_⟩ <;> first | with_reducible assumption | omega | exact True.intro | (refine decide_eq_true ?_; omega) | (simp [appG, Cd.holds]; omega)) | (intro _; refine ⟨And.intro ?_ ?_, ?_⟩ <;> first | with_reducible assumption | omega | (refine decide_eq_true ?_; omega)) | (simp only [hg0, Bool.and_self, Bool.true_and]; done) | (intro hg1; simp only [hg0, hg1, Bool.and_self, Bool.true_and]; done) | (simp [hg0]; done))); (conv => whnf); exact True.intro)) | refine Cd.holds_and ?_ ?_ | (refine Cd.holds_imp fun hg0 => ?_))) | ((conv => whnf); (with_reducible refine And.intro ?_ ?_); · first | exact hk8 | exact hn8 | (refine R8_list ?_ _ _; decide) | (intro _; exact ⟨True.intro, by decide⟩) | exact fun j hj => ⟨U_nonneg _, U_lt8 _⟩ | exact fun j hj => absurd hj (Nat.not_lt_zero j) | exact True.intro | (intro hg0; simp only [hg0, Bool.not_false, Bool.not_true]; done) | with_reducible assumption | omega | (intro _; refine ⟨True.intro, ?_⟩; omega) | (intro _; refine ⟨?_, True.intro⟩; omega) | (intro _; refine ⟨decide_eq_true ?_, ?_⟩ <;> omega) | (intro _; refine ⟨?_, ?_⟩ <;> first | omega | (simp [appG, Cd.holds]; done) | (simp [appG, Cd.holds]; omega)) | (refine decide_eq_true ?_; omega) | (intro _; omega) | (simp only [w_i64, w_u64, w_u32, w_u8]; omega) | exact ⟨U_nonneg _, U_lt32 _⟩ | exact R8_UL _ _ | exact R32_UL _ _ | (intro hg0; (repeat ((conv => whnf); (with_reducible refine And.intro ?_ ?_); · first | with_reducible assumption | omega | (intro _; refine ⟨?_, ?_⟩ <;> first | with_reducible assumption | omega | exact True.intro | (refine decide_eq_true ?_; omega) | (simp [appG, Cd.holds]; omega)) | (intro _; refine ⟨And.intro ?_ ?_, ?_⟩ <;> first | with_reducible assumption | omega | (refine decide_eq_true ?_; omega)) | (simp only [hg0, Bool.and_self, Bool.true_and]; done) | (intro hg1; simp only [hg0, hg1, Bool.and_self, Bool.true_and]; done) | (simp [hg0]; done))); (conv => whnf); exact True.intro)))
  conv => whnf
  obtain ⟨A, hA⟩ : ∃ A, A = L8 (fun j => listI [97].reverse (0 + 0 + j)) 1 := ⟨_, rfl⟩
  obtain ⟨P, hP⟩ : ∃ P, P = L8 (fun j => listI [99, 98].reverse (0 + 0 + j)) 2 := ⟨_, rfl⟩
  have hPl : P.length = 2 := by rw [hP, L8_length]
  have eS : L8 (fun j => UL (aeSeal (L8 kf 32) (L8 nf 12) A P) (0 + j)) (2 + 16) = aeSeal (L8 kf 32) (L8 nf 12) A P := by
    rw [show (fun j => UL (aeSeal (L8 kf 32) (L8 nf 12) A P) (0 + j)) = UL (aeSeal (L8 kf 32) (L8 nf 12) A P) from funext fun j => by rw [Nat.zero_add]]
    exact L8_UL' (by rw [aeSeal_length, hPl])
  have eP : (strI (fun j => UL P (0 + j)) P.length).toList == (ByteArray.mk #[98, 99]).toList := by
    rw [strI_sb (R8_z _ _), L8_z rfl, show (ByteArray.mk #[98, 99]) = sb [98, 99] from rfl, eq_sb]
    exact decide_eq_true (by rw [hP]; decide)
  have h1 : (va == 3928658676) = true := by rw [← hqa]; decide
  have h2 : (vd == 1484899515) = true := by rw [← hqd]; decide
  have hTT : T.getD 0 0 = 168 ∧ T.getD 15 0 = 169 := by rw [← hT, ← hG, ← hM, polyTag_eq]; decide +kernel
  have h3 : (UL T (Int.toNat 0) == 168) = true := by show (U (T.getD 0 0) == 168) = true; rw [hTT.1]; decide
  have h4 : (UL T (Int.toNat 15) == 169) = true := by show (U (T.getD 15 0) == 169) = true; rw [hTT.2]; decide
  have h5 : (((2 + 16 : Nat) : Int) == 18) = true := by decide
  refine ⟨[], ?_⟩
  simp only [hk, hn, ← hA, ← hP, eS, aeIs_seal, aeOut_seal, h1, h2, h3, h4, h5, eP, cond_true]
  repeat ((conv => whnf); (with_reducible refine And.intro ?_ ?_); · first | with_reducible rfl | exact (Bool.and_false _).symm | (intro _ _; with_reducible rfl) | exact True.intro | assumption | (intro h; exact absurd h (by decide)) | omega | (intro _; omega) | (intro _; refine ⟨?_, True.intro⟩; omega) | (intro _; refine ⟨?_, True.intro⟩; intro _; omega) | (refine decide_eq_false ?_; omega) | (refine decide_eq_true ?_; omega) | (simp only [w_i64, w_u64, w_u32, w_u8]; omega) | exact fun j hj => (put_0 hj).symm | (intro j _; simp only [Nat.zero_add]; done) | (simp [appG]; done) | (simp [appG]; omega) | (intro hgd; (try replace hgd := of_decide_eq_true hgd); (repeat ((conv => whnf); (with_reducible refine And.intro ?_ ?_); · first | with_reducible rfl | exact (Bool.and_false _).symm | (intro _ _; with_reducible rfl) | exact True.intro | assumption | (intro h; exact absurd h (by decide)) | omega | (intro _; omega) | (intro _; refine ⟨?_, True.intro⟩; omega) | (intro _; refine ⟨?_, True.intro⟩; intro _; omega) | (refine decide_eq_false ?_; omega) | (refine decide_eq_true ?_; omega) | (simp only [w_i64, w_u64, w_u32, w_u8]; omega) | exact fun j hj => (put_0 hj).symm | (intro j _; simp only [Nat.zero_add]; done) | (simp [appG]; done) | (simp [appG]; omega))); (conv => whnf); exact True.intro))
  conv => whnf
  exact True.intro
end Go.Proofs.Ytogijkmflhjhkaa

/- Functions through the evaluator: the document's SHA-256. No condition. -/
namespace Go.Proofs.Ytogijkmflhjhkaa
open Go.Sx Go.RowKit
set_option linter.unusedSimpArgs false
set_option maxRecDepth 100000
set_option linter.unusedVariables false
set_option maxHeartbeats 2000000

theorem cok14 : COk Try.prog (tab [(90, k256S), (91, padS), (92, wordS), (93, rightS), (94, wordsRS)]) := cok_cons k256S_ok (cok_cons padS_ok (cok_cons wordS_ok (cok_cons rightS_ok (cok_cons wordsRS_ok cok_nil))))
theorem r7 : 32 - Int.toNat 7 = 25 := rfl
theorem r18 : 32 - Int.toNat 18 = 14 := rfl
theorem r17 : 32 - Int.toNat 17 = 15 := rfl
theorem r19 : 32 - Int.toNat 19 = 13 := rfl
theorem r6 : 32 - Int.toNat 6 = 26 := rfl
theorem r11 : 32 - Int.toNat 11 = 21 := rfl
theorem r25 : 32 - Int.toNat 25 = 7 := rfl
theorem r2 : 32 - Int.toNat 2 = 30 := rfl
theorem r13 : 32 - Int.toNat 13 = 19 := rfl
theorem r22 : 32 - Int.toNat 22 = 10 := rfl
theorem R8_at (l : List B8) (a n : Nat) : R8 (fun j => UL l (a + j)) n := fun j _ => ⟨U_nonneg _, U_lt8 _⟩
theorem R32_z (l : List W32) (n : Nat) : R32 (fun j => UL l (0 + j)) n := fun j _ => ⟨U_nonneg _, U_lt32 _⟩
theorem be_blk {M : List B8} {a n k i : Nat} (ha : a = 64 * k + 4 * i) (hn : 4 ≤ n) (hi : i < 16) : be (L8 (fun j => UL M (a + j)) n) 0 = be ((M.drop (64 * k)).take 64) i := by
  have q : ∀ r, r < 4 → (L8 (fun j => UL M (a + j)) n).getD (4 * 0 + r) 0 = ((M.drop (64 * k)).take 64).getD (4 * i + r) 0 := fun r hr => by
    rw [L8_get _ _ _ (by omega), UL_getD, ofInt_U, getD_take _ _ _ _ (by omega), getD_drop, ha]
    congr 1
    omega
  unfold be
  rw [q 1 (by omega), q 2 (by omega), q 3 (by omega)]
  have q0 := q 0 (by omega)
  rw [Nat.add_zero, Nat.add_zero] at q0
  rw [q0]
def sha256S : Summary := mkS false [.r .u8, .a 57 .u32] fun
  | [.r nl g n, .a nl2 h m] => some ⟨.and (.p (R8 g n)) (.and (.p (n ≤ 1000000)) (.and (.p (nl2 = false ∧ m = 8)) (.p (R32 h 8)))),
      some (.sa (.sc (ownA false 32 1))), [(0, .dead), (1, ownB 5 .u8 (UL (digest (absorb (L32 h 8) (L8 g n ++ tail n)))) 32)], 2⟩
  | _ => none
theorem sha256S_ok : SumOk Try.prog 68 sha256S := by
  unfold sha256S
  apply sum_ok
  intro vs A H n o r hb h
  split at h
  rotate_left
  · cases h
  rename_i nl g n0 nl2 h m
  injection h with h
  subst h
  cases hb
  refine fsound_of_run tt_ok cok14 mixed_ok Try.call68 Try.func68 rfl (rs := _) Try.results68 (size := 201) Try.ntmps68 (Nat.le_of_ble_eq_true rfl) rfl fun hp hfa hfh => ?_
  obtain ⟨hg, hn, ⟨hz1, hz2⟩, hh⟩ := hp
  have hg : R8 g n0 := hg
  have hn : n0 ≤ 1000000 := hn
  have hh : R32 h 8 := hh
  subst hz1
  subst hz2
  have hMl : (L8 g n0 ++ tail n0).length = n0 + (9 + zeros n0) := by rw [List.length_append, L8_length, tail_length]
  have hM64 : (n0 + (9 + zeros n0)) % 64 = 0 := by have := tail_whole n0; rw [tail_length] at this; exact this
  have hzz : zeros n0 < 64 := by unfold zeros; omega
  repeat ((conv => whnf); (with_reducible refine And.intro ?_ ?_); · first | exact True.intro | (intro hg0; simp only [hg0, Bool.not_false, Bool.not_true]; done) | assumption | omega | (intro _; refine ⟨True.intro, ?_⟩; omega) | (intro _; refine ⟨?_, True.intro⟩; omega) | (intro _; refine ⟨decide_eq_true ?_, ?_⟩ <;> omega) | (intro _; refine ⟨?_, ?_⟩ <;> first | omega | (simp [appG, Cd.holds]; done) | (simp [appG, Cd.holds]; omega)) | (refine decide_eq_true ?_; omega) | (intro _; omega) | (simp only [w_i64, w_u64, w_u32, w_u8]; omega) | exact ⟨U_nonneg _, U_lt32 _⟩ | exact R8_UL _ _ | exact R32_UL _ _ | (intro hg0; (repeat ((conv => whnf); (with_reducible refine And.intro ?_ ?_); · first | assumption | omega | (intro _; refine ⟨?_, ?_⟩ <;> first | assumption | omega | exact True.intro | (refine decide_eq_true ?_; omega) | (simp [appG, Cd.holds]; omega)) | (intro _; refine ⟨And.intro ?_ ?_, ?_⟩ <;> first | assumption | omega | (refine decide_eq_true ?_; omega)) | (simp only [hg0, Bool.and_self, Bool.true_and]; done) | (intro hg1; simp only [hg0, hg1, Bool.and_self, Bool.true_and]; done) | (simp [hg0]; done))); (conv => whnf); exact True.intro))
  conv => whnf
  generalize hMd : L8 g n0 ++ tail n0 = M at *
  generalize hNd : n0 + (9 + zeros n0) = N at *
  have hN : N ≤ 1000100 := by omega
  refine ⟨0, Nat, fun k => ⟨201, [(1, .sa (.sc (ownA false 8 0))), (5, .sa (.sc (.sl false true true 1 0 0 64 64))), (6, .sa (.sc (.sl false false false 2 0 (64 * k) (N - 64 * k) (N - 64 * k))))],
    [(0, ownB 57 .u32 (UL (absorbN k (L32 h 8) M)) 8), (1, .own 57 [.ints .u32 (UL K256) 64] false), (2, ownB 5 .u8 (UL M) N)], 3⟩, fun k => 64 * k ≤ N, fun k => N - 64 * k, ⟨0, by omega, le_of [] ?_⟩, fun k hk => ?_⟩
  · repeat ((conv => whnf); (with_reducible refine And.intro ?_ ?_); · first | with_reducible rfl | exact (Bool.and_false _).symm | (intro _ _; with_reducible rfl) | exact True.intro | assumption | (intro h; exact absurd h (by decide)) | omega | (intro _; omega) | (intro _; refine ⟨?_, True.intro⟩; omega) | (intro _; refine ⟨?_, True.intro⟩; intro _; omega) | (refine decide_eq_false ?_; omega) | (refine decide_eq_true ?_; omega) | (simp only [w_i64, w_u64, w_u32, w_u8]; omega) | exact fun j hj => (put_0 hj).symm | (intro j _; simp only [Nat.zero_add]; done) | (simp [appG]; done) | (simp [appG]; omega) | exact fun j hj => UL_L32 hh j hj | (intro hgd; (try replace hgd := of_decide_eq_true hgd); (repeat ((conv => whnf); (with_reducible refine And.intro ?_ ?_); · first | with_reducible rfl | exact (Bool.and_false _).symm | (intro _ _; with_reducible rfl) | exact True.intro | assumption | (intro h; exact absurd h (by decide)) | omega | (intro _; omega) | (intro _; refine ⟨?_, True.intro⟩; omega) | (intro _; refine ⟨?_, True.intro⟩; intro _; omega) | (refine decide_eq_false ?_; omega) | (refine decide_eq_true ?_; omega) | (simp only [w_i64, w_u64, w_u32, w_u8]; omega) | exact fun j hj => (put_0 hj).symm | (intro j _; simp only [Nat.zero_add]; done) | (simp [appG]; done) | (simp [appG]; omega) | exact fun j hj => UL_L32 hh j hj)); (conv => whnf); exact True.intro))
    conv => whnf
    exact True.intro
  have hk : 64 * k ≤ N := hk
  repeat ((conv => whnf); (with_reducible refine And.intro ?_ ?_); · first | exact True.intro | (intro hg0; simp only [hg0, Bool.not_false, Bool.not_true]; done) | assumption | omega | (intro _; refine ⟨True.intro, ?_⟩; omega) | (intro _; refine ⟨?_, True.intro⟩; omega) | (intro _; refine ⟨decide_eq_true ?_, ?_⟩ <;> omega) | (intro _; refine ⟨?_, ?_⟩ <;> first | omega | (simp [appG, Cd.holds]; done) | (simp [appG, Cd.holds]; omega)) | (refine decide_eq_true ?_; omega) | (intro _; omega) | (simp only [w_i64, w_u64, w_u32, w_u8]; omega) | exact ⟨U_nonneg _, U_lt32 _⟩ | exact R8_UL _ _ | exact R32_UL _ _ | (intro hg0; (repeat ((conv => whnf); (with_reducible refine And.intro ?_ ?_); · first | assumption | omega | (intro _; refine ⟨?_, ?_⟩ <;> first | assumption | omega | exact True.intro | (refine decide_eq_true ?_; omega) | (simp [appG, Cd.holds]; omega)) | (intro _; refine ⟨And.intro ?_ ?_, ?_⟩ <;> first | assumption | omega | (refine decide_eq_true ?_; omega)) | (simp only [hg0, Bool.and_self, Bool.true_and]; done) | (intro hg1; simp only [hg0, hg1, Bool.and_self, Bool.true_and]; done) | (simp [hg0]; done))); (conv => whnf); exact True.intro))
  conv => whnf
  refine ⟨fun h1 => ?_, fun h1 => ?_⟩
  · replace h1 := of_decide_eq_true h1
    have h64 : 64 * k + 64 ≤ N := by omega
    repeat ((conv => whnf); (with_reducible refine And.intro ?_ ?_); · first | exact True.intro | (intro hg0; simp only [hg0, Bool.not_false, Bool.not_true]; done) | assumption | omega | (intro _; refine ⟨True.intro, ?_⟩; omega) | (intro _; refine ⟨?_, True.intro⟩; omega) | (intro _; refine ⟨decide_eq_true ?_, ?_⟩ <;> omega) | (intro _; refine ⟨?_, ?_⟩ <;> first | omega | (simp [appG, Cd.holds]; done) | (simp [appG, Cd.holds]; omega)) | (refine decide_eq_true ?_; omega) | (intro _; omega) | (simp only [w_i64, w_u64, w_u32, w_u8]; omega) | exact ⟨U_nonneg _, U_lt32 _⟩ | exact R8_UL _ _ | exact R32_UL _ _ | (intro hg0; (repeat ((conv => whnf); (with_reducible refine And.intro ?_ ?_); · first | assumption | omega | (intro _; refine ⟨?_, ?_⟩ <;> first | assumption | omega | exact True.intro | (refine decide_eq_true ?_; omega) | (simp [appG, Cd.holds]; omega)) | (intro _; refine ⟨And.intro ?_ ?_, ?_⟩ <;> first | assumption | omega | (refine decide_eq_true ?_; omega)) | (simp only [hg0, Bool.and_self, Bool.true_and]; done) | (intro hg1; simp only [hg0, hg1, Bool.and_self, Bool.true_and]; done) | (simp [hg0]; done))); (conv => whnf); exact True.intro))
    conv => whnf
    obtain ⟨B, hB⟩ : ∃ B, B = (M.drop (64 * k)).take 64 := ⟨_, rfl⟩
    obtain ⟨H, hH⟩ : ∃ H, H = absorbN k (L32 h 8) M := ⟨_, rfl⟩
    have hHl : H.length = 8 := by rw [hH]; exact absorbN_length _ _ _ (L32_length _ _)
    rw [← hH]
    refine ⟨0, Nat, fun i => ⟨201, [(1, .sa (.sc (ownA false 8 0))), (5, .sa (.sc (.sl false true true 1 0 0 64 64))), (6, .sa (.sc (.sl false false false 2 0 (64 * k) (N - 64 * k) (N - 64 * k)))), (7, .sa (.sc (.sl false true false 3 0 0 64 64))), (8, .sa (.sc (.int .i64 i)))],
      [(0, ownB 57 .u32 (UL H) 8), (1, .own 57 [.ints .u32 (UL K256) 64] false), (2, ownB 5 .u8 (UL M) N), (3, .own 57 [.ints .u32 (UL (sched B i)) 64] false)], 4⟩, fun i => i ≤ 64, fun i => 64 - i, ⟨0, by omega, le_of [] ?_⟩, fun i hi => ?_⟩
    · repeat ((conv => whnf); (with_reducible refine And.intro ?_ ?_); · first | with_reducible rfl | exact (Bool.and_false _).symm | (intro _ _; with_reducible rfl) | exact True.intro | assumption | (intro h; exact absurd h (by decide)) | omega | (intro _; omega) | (intro _; refine ⟨?_, True.intro⟩; omega) | (intro _; refine ⟨?_, True.intro⟩; intro _; omega) | (refine decide_eq_false ?_; omega) | (refine decide_eq_true ?_; omega) | (simp only [w_i64, w_u64, w_u32, w_u8]; omega) | exact fun j hj => (put_0 hj).symm | (intro j _; simp only [Nat.zero_add]; done) | (simp [appG]; done) | (simp [appG]; omega) | exact fun j _ => UL_nil j | (intro hgd; (try replace hgd := of_decide_eq_true hgd); (repeat ((conv => whnf); (with_reducible refine And.intro ?_ ?_); · first | with_reducible rfl | exact (Bool.and_false _).symm | (intro _ _; with_reducible rfl) | exact True.intro | assumption | (intro h; exact absurd h (by decide)) | omega | (intro _; omega) | (intro _; refine ⟨?_, True.intro⟩; omega) | (intro _; refine ⟨?_, True.intro⟩; intro _; omega) | (refine decide_eq_false ?_; omega) | (refine decide_eq_true ?_; omega) | (simp only [w_i64, w_u64, w_u32, w_u8]; omega) | exact fun j hj => (put_0 hj).symm | (intro j _; simp only [Nat.zero_add]; done) | (simp [appG]; done) | (simp [appG]; omega) | exact fun j _ => UL_nil j)); (conv => whnf); exact True.intro))
      conv => whnf
      exact True.intro
    have hi : i ≤ 64 := hi
    repeat ((conv => whnf); (with_reducible refine And.intro ?_ ?_); · first | exact True.intro | (intro hg0; simp only [hg0, Bool.not_false, Bool.not_true]; done) | assumption | omega | (intro _; refine ⟨True.intro, ?_⟩; omega) | (intro _; refine ⟨?_, True.intro⟩; omega) | (intro _; refine ⟨decide_eq_true ?_, ?_⟩ <;> omega) | (intro _; refine ⟨?_, ?_⟩ <;> first | omega | (simp [appG, Cd.holds]; done) | (simp [appG, Cd.holds]; omega)) | (refine decide_eq_true ?_; omega) | (intro _; omega) | (simp only [w_i64, w_u64, w_u32, w_u8]; omega) | exact ⟨U_nonneg _, U_lt32 _⟩ | exact R8_UL _ _ | exact R32_UL _ _ | (intro hg0; (repeat ((conv => whnf); (with_reducible refine And.intro ?_ ?_); · first | assumption | omega | (intro _; refine ⟨?_, ?_⟩ <;> first | assumption | omega | exact True.intro | (refine decide_eq_true ?_; omega) | (simp [appG, Cd.holds]; omega)) | (intro _; refine ⟨And.intro ?_ ?_, ?_⟩ <;> first | assumption | omega | (refine decide_eq_true ?_; omega)) | (simp only [hg0, Bool.and_self, Bool.true_and]; done) | (intro hg1; simp only [hg0, hg1, Bool.and_self, Bool.true_and]; done) | (simp [hg0]; done))); (conv => whnf); exact True.intro))
    conv => whnf
    refine ⟨fun h2 => ?_, fun h2 => ?_⟩
    · replace h2 := of_decide_eq_true h2
      repeat ((conv => whnf); (with_reducible refine And.intro ?_ ?_); · first | exact True.intro | (intro hg0; simp only [hg0, Bool.not_false, Bool.not_true]; done) | assumption | omega | (intro _; refine ⟨True.intro, ?_⟩; omega) | (intro _; refine ⟨?_, True.intro⟩; omega) | (intro _; refine ⟨decide_eq_true ?_, ?_⟩ <;> omega) | (intro _; refine ⟨?_, ?_⟩ <;> first | omega | (simp [appG, Cd.holds]; done) | (simp [appG, Cd.holds]; omega)) | (refine decide_eq_true ?_; omega) | (intro _; omega) | (simp only [w_i64, w_u64, w_u32, w_u8]; omega) | exact ⟨U_nonneg _, U_lt32 _⟩ | exact R8_UL _ _ | exact R32_UL _ _ | (intro hg0; (repeat ((conv => whnf); (with_reducible refine And.intro ?_ ?_); · first | assumption | omega | (intro _; refine ⟨?_, ?_⟩ <;> first | assumption | omega | exact True.intro | (refine decide_eq_true ?_; omega) | (simp [appG, Cd.holds]; omega)) | (intro _; refine ⟨And.intro ?_ ?_, ?_⟩ <;> first | assumption | omega | (refine decide_eq_true ?_; omega)) | (simp only [hg0, Bool.and_self, Bool.true_and]; done) | (intro hg1; simp only [hg0, hg1, Bool.and_self, Bool.true_and]; done) | (simp [hg0]; done))); (conv => whnf); exact True.intro))
      conv => whnf
      refine ⟨fun h3 => ?_, fun h3 => ?_⟩
      · replace h3 := of_decide_eq_true h3
        have e0 : IntKind.i64.wrap (4 * (i : Int)) = ((4 * i : Nat) : Int) := by rw [w_i64]; omega
        repeat ((conv => whnf); (with_reducible refine And.intro ?_ ?_); · first | exact True.intro | (intro hg0; simp only [hg0, Bool.not_false, Bool.not_true]; done) | assumption | omega | (intro _; refine ⟨True.intro, ?_⟩; omega) | (intro _; refine ⟨?_, True.intro⟩; omega) | (intro _; refine ⟨decide_eq_true ?_, ?_⟩ <;> omega) | (intro _; refine ⟨?_, ?_⟩ <;> first | omega | (simp [appG, Cd.holds]; done) | (simp [appG, Cd.holds]; omega)) | (refine decide_eq_true ?_; omega) | (intro _; omega) | (simp only [e0]; omega) | (simp only [e0]; intro _; refine ⟨?_, ?_⟩ <;> first | omega | (refine decide_eq_true ?_; omega)) | exact ⟨U_nonneg _, U_lt32 _⟩ | exact R8_UL _ _ | exact R32_UL _ _ | (intro hg0; (repeat ((conv => whnf); (with_reducible refine And.intro ?_ ?_); · first | assumption | omega | (intro _; refine ⟨?_, ?_⟩ <;> first | assumption | omega | exact True.intro | (refine decide_eq_true ?_; omega) | (simp [appG, Cd.holds]; omega)) | (intro _; refine ⟨And.intro ?_ ?_, ?_⟩ <;> first | assumption | omega | (refine decide_eq_true ?_; omega)) | (simp only [hg0, Bool.and_self, Bool.true_and]; done) | (intro hg1; simp only [hg0, hg1, Bool.and_self, Bool.true_and]; done) | (simp [hg0]; done) | exact R8_at _ _ _)); (conv => whnf); exact True.intro) | exact R8_at _ _ _)
        conv => whnf
        refine ⟨i + 1, ⟨by show i + 1 ≤ 64; omega, by show 64 - (i + 1) < 64 - i; omega⟩, le_of [] ?_⟩
        have hs : sched B (i + 1) = sched B i ++ [be B i] := by rw [sched, if_pos (by omega)]
        have hb := be_blk (M := M) (a := 64 * k + 4 * i) (n := N - 64 * k - 4 * i) rfl (by omega) (show i < 16 by omega)
        simp only [e0, hb, ← hB, hs, Int.toNat_natCast, Nat.zero_add]
        rw [← UL_snoc, sched_length]
        repeat ((conv => whnf); (with_reducible refine And.intro ?_ ?_); · first | with_reducible rfl | exact (Bool.and_false _).symm | (intro _ _; with_reducible rfl) | exact True.intro | assumption | (intro h; exact absurd h (by decide)) | omega | (intro _; omega) | (intro _; refine ⟨?_, True.intro⟩; omega) | (intro _; refine ⟨?_, True.intro⟩; intro _; omega) | (refine decide_eq_false ?_; omega) | (refine decide_eq_true ?_; omega) | (simp only [w_i64, w_u64, w_u32, w_u8]; omega) | exact fun j hj => (put_0 hj).symm | (intro j _; simp only [Nat.zero_add]; done) | (simp [appG]; done) | (simp [appG]; omega) | (intro hgd; (try replace hgd := of_decide_eq_true hgd); (repeat ((conv => whnf); (with_reducible refine And.intro ?_ ?_); · first | with_reducible rfl | exact (Bool.and_false _).symm | (intro _ _; with_reducible rfl) | exact True.intro | assumption | (intro h; exact absurd h (by decide)) | omega | (intro _; omega) | (intro _; refine ⟨?_, True.intro⟩; omega) | (intro _; refine ⟨?_, True.intro⟩; intro _; omega) | (refine decide_eq_false ?_; omega) | (refine decide_eq_true ?_; omega) | (simp only [w_i64, w_u64, w_u32, w_u8]; omega) | exact fun j hj => (put_0 hj).symm | (intro j _; simp only [Nat.zero_add]; done) | (simp [appG]; done) | (simp [appG]; omega))); (conv => whnf); exact True.intro))
        conv => whnf
        exact True.intro
      · replace h3 := of_decide_eq_false h3
        repeat ((conv => whnf); (with_reducible refine And.intro ?_ ?_); · first | exact True.intro | (intro hg0; simp only [hg0, Bool.not_false, Bool.not_true]; done) | assumption | omega | (intro _; refine ⟨True.intro, ?_⟩; omega) | (intro _; refine ⟨?_, True.intro⟩; omega) | (intro _; refine ⟨decide_eq_true ?_, ?_⟩ <;> omega) | (intro _; refine ⟨?_, ?_⟩ <;> first | omega | (simp [appG, Cd.holds]; done) | (simp [appG, Cd.holds]; omega)) | (refine decide_eq_true ?_; omega) | (intro _; omega) | (simp only [w_i64, w_u64, w_u32, w_u8]; omega) | exact ⟨U_nonneg _, U_lt32 _⟩ | exact R8_UL _ _ | exact R32_UL _ _ | (intro hg0; (repeat ((conv => whnf); (with_reducible refine And.intro ?_ ?_); · first | assumption | omega | (intro _; refine ⟨?_, ?_⟩ <;> first | assumption | omega | exact True.intro | (refine decide_eq_true ?_; omega) | (simp [appG, Cd.holds]; omega)) | (intro _; refine ⟨And.intro ?_ ?_, ?_⟩ <;> first | assumption | omega | (refine decide_eq_true ?_; omega)) | (simp only [hg0, Bool.and_self, Bool.true_and]; done) | (intro hg1; simp only [hg0, hg1, Bool.and_self, Bool.true_and]; done) | (simp [hg0]; done))); (conv => whnf); exact True.intro))
        conv => whnf
        refine ⟨[(0, ⟨0, some 51, []⟩), (1, ⟨0, some 52, []⟩), (2, ⟨0, some 53, []⟩), (3, ⟨0, some 54, []⟩), (4, ⟨8, some 55, []⟩), (5, ⟨28, some 56, []⟩), (6, ⟨60, some 57, []⟩), (7, ⟨0, some 58, []⟩), (8, ⟨128, some 59, []⟩), (9, ⟨0, some 60, []⟩), (10, ⟨896, some 61, []⟩), (11, ⟨1920, some 62, []⟩), (12, ⟨0, some 63, []⟩), (13, ⟨4096, some 64, []⟩), (14, ⟨16256, some 65, []⟩), (15, ⟨32764, some 66, []⟩), (16, ⟨0, some 67, []⟩), (17, ⟨0, some 68, []⟩), (18, ⟨131072, some 69, []⟩), (19, ⟨458752, some 70, []⟩), (20, ⟨983040, some 71, []⟩), (21, ⟨2097148, some 72, []⟩), (22, ⟨0, some 73, []⟩), (23, ⟨4196224, some 74, []⟩), (24, ⟨0, some 75, []⟩), (25, ⟨29362048, some 76, []⟩), (26, ⟨62916480, some 77, []⟩), (27, ⟨0, some 78, []⟩), (28, ⟨134217728, some 79, []⟩), (29, ⟨532678528, some 80, []⟩), (30, ⟨1073741820, some 81, []⟩), (31, ⟨2147483647, some 82, []⟩), (32, ⟨4294967295, none, [3]⟩)], 532, ?_⟩
        repeat ((conv => whnf); (with_reducible refine And.intro ?_ ?_); · first | exact True.intro | (intro hg0; simp only [hg0, Bool.not_false, Bool.not_true]; done) | assumption | omega | (intro _; refine ⟨True.intro, ?_⟩; omega) | (intro _; refine ⟨?_, True.intro⟩; omega) | (intro _; refine ⟨decide_eq_true ?_, ?_⟩ <;> omega) | (intro _; refine ⟨?_, ?_⟩ <;> first | omega | (simp [appG, Cd.holds]; done) | (simp [appG, Cd.holds]; omega)) | (refine decide_eq_true ?_; omega) | (intro _; omega) | (simp only [w_i64, w_u64, w_u32, w_u8]; omega) | exact ⟨U_nonneg _, U_lt32 _⟩ | exact R8_UL _ _ | exact R32_UL _ _ | (intro hg0; (repeat ((conv => whnf); (with_reducible refine And.intro ?_ ?_); · first | assumption | omega | (intro _; refine ⟨?_, ?_⟩ <;> first | assumption | omega | exact True.intro | (refine decide_eq_true ?_; omega) | (simp [appG, Cd.holds]; omega)) | (intro _; refine ⟨And.intro ?_ ?_, ?_⟩ <;> first | assumption | omega | (refine decide_eq_true ?_; omega)) | (simp only [hg0, Bool.and_self, Bool.true_and]; done) | (intro hg1; simp only [hg0, hg1, Bool.and_self, Bool.true_and]; done) | (simp [hg0]; done))); (conv => whnf); exact True.intro))
        conv => whnf
        refine ⟨i + 1, ⟨by show i + 1 ≤ 64; omega, by show 64 - (i + 1) < 64 - i; omega⟩, le_of [] ?_⟩
        have hs : sched B (i + 1) = sched B i ++ [next (sched B i) i] := by rw [sched, if_neg (by omega)]
        have e0 : (IntKind.i64.wrap ((i : Int) - 16)).toNat = i - 16 := by rw [w_i64]; omega
        have e1 : (IntKind.i64.wrap ((i : Int) - 15)).toNat = i - 15 := by rw [w_i64]; omega
        have e2 : (IntKind.i64.wrap ((i : Int) - 7)).toNat = i - 7 := by rw [w_i64]; omega
        have e3 : (IntKind.i64.wrap ((i : Int) - 2)).toNat = i - 2 := by rw [w_i64]; omega
        simp only [e0, e1, e2, e3, hs, Int.toNat_natCast, Nat.zero_add, UL_getD, ofInt_U, sh3, sh10, shr32, xor32, add32, r7, r18, r17, r19]
        repeat ((conv => whnf); (with_reducible refine And.intro ?_ ?_); · first | with_reducible rfl | exact (Bool.and_false _).symm | (intro _ _; with_reducible rfl) | exact True.intro | assumption | (intro h; exact absurd h (by decide)) | omega | (intro _; omega) | (intro _; refine ⟨?_, True.intro⟩; omega) | (intro _; refine ⟨?_, True.intro⟩; intro _; omega) | (refine decide_eq_false ?_; omega) | (refine decide_eq_true ?_; omega) | (simp only [w_i64, w_u64, w_u32, w_u8]; omega) | exact fun j hj => (put_0 hj).symm | (intro j _; simp only [Nat.zero_add]; done) | (simp [appG]; done) | (simp [appG]; omega) | (intro j _; rw [← UL_snoc, sched_length]; rfl) | (intro hgd; (try replace hgd := of_decide_eq_true hgd); (repeat ((conv => whnf); (with_reducible refine And.intro ?_ ?_); · first | with_reducible rfl | exact (Bool.and_false _).symm | (intro _ _; with_reducible rfl) | exact True.intro | assumption | (intro h; exact absurd h (by decide)) | omega | (intro _; omega) | (intro _; refine ⟨?_, True.intro⟩; omega) | (intro _; refine ⟨?_, True.intro⟩; intro _; omega) | (refine decide_eq_false ?_; omega) | (refine decide_eq_true ?_; omega) | (simp only [w_i64, w_u64, w_u32, w_u8]; omega) | exact fun j hj => (put_0 hj).symm | (intro j _; simp only [Nat.zero_add]; done) | (simp [appG]; done) | (simp [appG]; omega) | (intro j _; rw [← UL_snoc, sched_length]; rfl))); (conv => whnf); exact True.intro))
        conv => whnf
        exact True.intro
    · replace h2 := of_decide_eq_false h2
      have hi64 : i = 64 := by omega
      subst hi64
      rw [← wsched_eq]
      repeat ((conv => whnf); (with_reducible refine And.intro ?_ ?_); · first | exact True.intro | (intro hg0; simp only [hg0, Bool.not_false, Bool.not_true]; done) | assumption | omega | (intro _; refine ⟨True.intro, ?_⟩; omega) | (intro _; refine ⟨?_, True.intro⟩; omega) | (intro _; refine ⟨decide_eq_true ?_, ?_⟩ <;> omega) | (intro _; refine ⟨?_, ?_⟩ <;> first | omega | (simp [appG, Cd.holds]; done) | (simp [appG, Cd.holds]; omega)) | (refine decide_eq_true ?_; omega) | (intro _; omega) | (simp only [w_i64, w_u64, w_u32, w_u8]; omega) | exact ⟨U_nonneg _, U_lt32 _⟩ | exact R8_UL _ _ | exact R32_UL _ _ | (intro hg0; (repeat ((conv => whnf); (with_reducible refine And.intro ?_ ?_); · first | assumption | omega | (intro _; refine ⟨?_, ?_⟩ <;> first | assumption | omega | exact True.intro | (refine decide_eq_true ?_; omega) | (simp [appG, Cd.holds]; omega)) | (intro _; refine ⟨And.intro ?_ ?_, ?_⟩ <;> first | assumption | omega | (refine decide_eq_true ?_; omega)) | (simp only [hg0, Bool.and_self, Bool.true_and]; done) | (intro hg1; simp only [hg0, hg1, Bool.and_self, Bool.true_and]; done) | (simp [hg0]; done))); (conv => whnf); exact True.intro))
      conv => whnf
      refine ⟨0, Nat, fun i => ⟨201, [(1, .sa (.sc (ownA false 8 0))), (5, .sa (.sc (.sl false true true 1 0 0 64 64))), (6, .sa (.sc (.sl false false false 2 0 (64 * k) (N - 64 * k) (N - 64 * k)))), (7, .sa (.sc (.sl false true false 3 0 0 64 64))), (11, .sa (.sc (ownA false 8 4))), (12, .sa (.sc (.int .i64 i)))],
        [(0, ownB 57 .u32 (UL H) 8), (1, .own 57 [.ints .u32 (UL K256) 64] false), (2, ownB 5 .u8 (UL M) N), (3, .own 57 [.ints .u32 (UL (wsched B)) 64] false), (4, ownB 57 .u32 (UL (rnds (wsched B) i H)) 8)], 5⟩, fun i => i ≤ 64, fun i => 64 - i, ⟨0, by omega, le_of [] ?_⟩, fun i hi => ?_⟩
      · repeat ((conv => whnf); (with_reducible refine And.intro ?_ ?_); · first | with_reducible rfl | exact (Bool.and_false _).symm | (intro _ _; with_reducible rfl) | exact True.intro | assumption | (intro h; exact absurd h (by decide)) | omega | (intro _; omega) | (intro _; refine ⟨?_, True.intro⟩; omega) | (intro _; refine ⟨?_, True.intro⟩; intro _; omega) | (refine decide_eq_false ?_; omega) | (refine decide_eq_true ?_; omega) | (simp only [w_i64, w_u64, w_u32, w_u8]; omega) | exact fun j hj => (put_0 hj).symm | (intro j _; simp only [Nat.zero_add]; done) | (simp [appG]; done) | (simp [appG]; omega) | (intro j hj; rw [put_0 hj, Nat.zero_add]; rfl) | (intro hgd; (try replace hgd := of_decide_eq_true hgd); (repeat ((conv => whnf); (with_reducible refine And.intro ?_ ?_); · first | with_reducible rfl | exact (Bool.and_false _).symm | (intro _ _; with_reducible rfl) | exact True.intro | assumption | (intro h; exact absurd h (by decide)) | omega | (intro _; omega) | (intro _; refine ⟨?_, True.intro⟩; omega) | (intro _; refine ⟨?_, True.intro⟩; intro _; omega) | (refine decide_eq_false ?_; omega) | (refine decide_eq_true ?_; omega) | (simp only [w_i64, w_u64, w_u32, w_u8]; omega) | exact fun j hj => (put_0 hj).symm | (intro j _; simp only [Nat.zero_add]; done) | (simp [appG]; done) | (simp [appG]; omega) | (intro j hj; rw [put_0 hj, Nat.zero_add]; rfl))); (conv => whnf); exact True.intro))
        conv => whnf
        exact True.intro
      have hi : i ≤ 64 := hi
      repeat ((conv => whnf); (with_reducible refine And.intro ?_ ?_); · first | exact True.intro | (intro hg0; simp only [hg0, Bool.not_false, Bool.not_true]; done) | assumption | omega | (intro _; refine ⟨True.intro, ?_⟩; omega) | (intro _; refine ⟨?_, True.intro⟩; omega) | (intro _; refine ⟨decide_eq_true ?_, ?_⟩ <;> omega) | (intro _; refine ⟨?_, ?_⟩ <;> first | omega | (simp [appG, Cd.holds]; done) | (simp [appG, Cd.holds]; omega)) | (refine decide_eq_true ?_; omega) | (intro _; omega) | (simp only [w_i64, w_u64, w_u32, w_u8]; omega) | exact ⟨U_nonneg _, U_lt32 _⟩ | exact R8_UL _ _ | exact R32_UL _ _ | (intro hg0; (repeat ((conv => whnf); (with_reducible refine And.intro ?_ ?_); · first | assumption | omega | (intro _; refine ⟨?_, ?_⟩ <;> first | assumption | omega | exact True.intro | (refine decide_eq_true ?_; omega) | (simp [appG, Cd.holds]; omega)) | (intro _; refine ⟨And.intro ?_ ?_, ?_⟩ <;> first | assumption | omega | (refine decide_eq_true ?_; omega)) | (simp only [hg0, Bool.and_self, Bool.true_and]; done) | (intro hg1; simp only [hg0, hg1, Bool.and_self, Bool.true_and]; done) | (simp [hg0]; done))); (conv => whnf); exact True.intro))
      conv => whnf
      refine ⟨fun h3 => ?_, fun h3 => ?_⟩
      · replace h3 := of_decide_eq_true h3
        repeat ((conv => whnf); (with_reducible refine And.intro ?_ ?_); · first | exact True.intro | (intro hg0; simp only [hg0, Bool.not_false, Bool.not_true]; done) | assumption | omega | (intro _; refine ⟨True.intro, ?_⟩; omega) | (intro _; refine ⟨?_, True.intro⟩; omega) | (intro _; refine ⟨decide_eq_true ?_, ?_⟩ <;> omega) | (intro _; refine ⟨?_, ?_⟩ <;> first | omega | (simp [appG, Cd.holds]; done) | (simp [appG, Cd.holds]; omega)) | (refine decide_eq_true ?_; omega) | (intro _; omega) | (simp only [w_i64, w_u64, w_u32, w_u8]; omega) | exact ⟨U_nonneg _, U_lt32 _⟩ | exact R8_UL _ _ | exact R32_UL _ _ | (intro hg0; (repeat ((conv => whnf); (with_reducible refine And.intro ?_ ?_); · first | assumption | omega | (intro _; refine ⟨?_, ?_⟩ <;> first | assumption | omega | exact True.intro | (refine decide_eq_true ?_; omega) | (simp [appG, Cd.holds]; omega)) | (intro _; refine ⟨And.intro ?_ ?_, ?_⟩ <;> first | assumption | omega | (refine decide_eq_true ?_; omega)) | (simp only [hg0, Bool.and_self, Bool.true_and]; done) | (intro hg1; simp only [hg0, hg1, Bool.and_self, Bool.true_and]; done) | (simp [hg0]; done))); (conv => whnf); exact True.intro))
        conv => whnf
        refine ⟨[(0, ⟨0, some 95, []⟩), (1, ⟨1, some 96, []⟩), (2, ⟨3, some 97, []⟩), (3, ⟨0, some 98, []⟩), (4, ⟨8, some 99, []⟩), (5, ⟨0, some 100, []⟩), (6, ⟨56, some 101, []⟩), (7, ⟨120, some 102, []⟩), (8, ⟨0, some 103, []⟩), (9, ⟨376, some 104, []⟩), (10, ⟨1016, some 105, []⟩), (11, ⟨2047, some 106, []⟩), (12, ⟨0, some 107, []⟩), (13, ⟨0, some 108, []⟩), (14, ⟨8192, some 109, []⟩), (15, ⟨24576, some 110, []⟩), (16, ⟨61440, some 111, []⟩), (17, ⟨0, some 112, []⟩), (18, ⟨131072, some 113, []⟩), (19, ⟨0, some 114, []⟩), (20, ⟨524288, some 115, []⟩), (21, ⟨1572864, some 116, []⟩), (22, ⟨4063232, some 117, []⟩), (23, ⟨8384512, some 118, []⟩), (24, ⟨16777215, some 119, []⟩), (25, ⟨0, some 120, []⟩), (26, ⟨0, some 121, []⟩), (27, ⟨100663296, some 122, []⟩), (28, ⟨234881024, some 123, []⟩), (29, ⟨536870911, some 124, []⟩), (30, ⟨0, some 125, []⟩), (31, ⟨0, some 126, []⟩), (32, ⟨3221225472, some 127, []⟩), (33, ⟨7516192768, some 128, []⟩), (34, ⟨17179869183, some 129, []⟩), (35, ⟨34359738367, some 15, []⟩)], 581, ?_⟩
        repeat ((conv => whnf); (with_reducible refine And.intro ?_ ?_); · first | exact True.intro | (intro hg0; simp only [hg0, Bool.not_false, Bool.not_true]; done) | assumption | omega | (intro _; refine ⟨True.intro, ?_⟩; omega) | (intro _; refine ⟨?_, True.intro⟩; omega) | (intro _; refine ⟨decide_eq_true ?_, ?_⟩ <;> omega) | (intro _; refine ⟨?_, ?_⟩ <;> first | omega | (simp [appG, Cd.holds]; done) | (simp [appG, Cd.holds]; omega)) | (refine decide_eq_true ?_; omega) | (intro _; omega) | (simp only [w_i64, w_u64, w_u32, w_u8]; omega) | exact ⟨U_nonneg _, U_lt32 _⟩ | exact R8_UL _ _ | exact R32_UL _ _ | (intro hg0; (repeat ((conv => whnf); (with_reducible refine And.intro ?_ ?_); · first | assumption | omega | (intro _; refine ⟨?_, ?_⟩ <;> first | assumption | omega | exact True.intro | (refine decide_eq_true ?_; omega) | (simp [appG, Cd.holds]; omega)) | (intro _; refine ⟨And.intro ?_ ?_, ?_⟩ <;> first | assumption | omega | (refine decide_eq_true ?_; omega)) | (simp only [hg0, Bool.and_self, Bool.true_and]; done) | (intro hg1; simp only [hg0, hg1, Bool.and_self, Bool.true_and]; done) | (simp [hg0]; done))); (conv => whnf); exact True.intro))
        conv => whnf
        refine ⟨[(0, ⟨0, some 130, []⟩), (1, ⟨1, some 131, []⟩), (2, ⟨0, some 132, []⟩), (3, ⟨7, some 133, []⟩), (4, ⟨15, some 134, []⟩), (5, ⟨0, some 135, []⟩), (6, ⟨47, some 136, []⟩), (7, ⟨127, some 137, []⟩), (8, ⟨0, some 138, []⟩), (9, ⟨0, some 139, []⟩), (10, ⟨512, some 140, []⟩), (11, ⟨1536, some 141, []⟩), (12, ⟨3840, some 142, []⟩), (13, ⟨0, some 143, []⟩), (14, ⟨0, some 144, []⟩), (15, ⟨16384, some 145, []⟩), (16, ⟨49152, some 146, []⟩), (17, ⟨122880, some 147, []⟩), (18, ⟨261888, some 148, []⟩), (19, ⟨0, some 149, []⟩), (20, ⟨524288, some 150, []⟩), (21, ⟨1572864, some 151, []⟩), (22, ⟨0, some 152, []⟩), (23, ⟨4194304, some 153, []⟩), (24, ⟨12582912, some 154, []⟩), (25, ⟨33030144, some 155, []⟩), (26, ⟨67108608, some 156, []⟩), (27, ⟨134217727, some 157, []⟩), (28, ⟨268435455, some 16, []⟩)], 1045, ?_⟩
        repeat ((conv => whnf); (with_reducible refine And.intro ?_ ?_); · first | exact True.intro | (intro hg0; simp only [hg0, Bool.not_false, Bool.not_true]; done) | assumption | omega | (intro _; refine ⟨True.intro, ?_⟩; omega) | (intro _; refine ⟨?_, True.intro⟩; omega) | (intro _; refine ⟨decide_eq_true ?_, ?_⟩ <;> omega) | (intro _; refine ⟨?_, ?_⟩ <;> first | omega | (simp [appG, Cd.holds]; done) | (simp [appG, Cd.holds]; omega)) | (refine decide_eq_true ?_; omega) | (intro _; omega) | (simp only [w_i64, w_u64, w_u32, w_u8]; omega) | exact ⟨U_nonneg _, U_lt32 _⟩ | exact R8_UL _ _ | exact R32_UL _ _ | (intro hg0; (repeat ((conv => whnf); (with_reducible refine And.intro ?_ ?_); · first | assumption | omega | (intro _; refine ⟨?_, ?_⟩ <;> first | assumption | omega | exact True.intro | (refine decide_eq_true ?_; omega) | (simp [appG, Cd.holds]; omega)) | (intro _; refine ⟨And.intro ?_ ?_, ?_⟩ <;> first | assumption | omega | (refine decide_eq_true ?_; omega)) | (simp only [hg0, Bool.and_self, Bool.true_and]; done) | (intro hg1; simp only [hg0, hg1, Bool.and_self, Bool.true_and]; done) | (simp [hg0]; done))); (conv => whnf); exact True.intro))
        conv => whnf
        refine ⟨[(0, ⟨0, some 158, []⟩), (1, ⟨0, some 159, []⟩), (2, ⟨3, some 160, []⟩), (3, ⟨0, some 161, []⟩), (4, ⟨8, some 162, []⟩), (5, ⟨24, some 163, []⟩), (6, ⟨0, some 164, []⟩), (7, ⟨64, some 165, []⟩), (8, ⟨192, some 166, []⟩), (9, ⟨0, some 167, []⟩), (10, ⟨512, some 168, []⟩), (11, ⟨1536, some 169, []⟩), (12, ⟨0, some 170, []⟩), (13, ⟨4096, some 171, []⟩), (14, ⟨12288, some 172, []⟩), (15, ⟨0, some 173, []⟩), (16, ⟨61440, some 174, []⟩), (17, ⟨0, some 175, []⟩), (18, ⟨131072, some 176, []⟩), (19, ⟨393216, some 177, []⟩), (20, ⟨0, some 178, []⟩), (21, ⟨1048576, some 179, []⟩), (22, ⟨3145728, some 180, []⟩), (23, ⟨0, some 181, []⟩), (24, ⟨8388608, some 182, []⟩), (25, ⟨25165824, some 183, []⟩), (26, ⟨67108863, some 184, [1461]⟩), (27, ⟨134217727, some 11, []⟩)], 1493, ?_⟩
        repeat ((conv => whnf); (with_reducible refine And.intro ?_ ?_); · first | exact True.intro | (intro hg0; simp only [hg0, Bool.not_false, Bool.not_true]; done) | assumption | omega | (intro _; refine ⟨True.intro, ?_⟩; omega) | (intro _; refine ⟨?_, True.intro⟩; omega) | (intro _; refine ⟨decide_eq_true ?_, ?_⟩ <;> omega) | (intro _; refine ⟨?_, ?_⟩ <;> first | omega | (simp [appG, Cd.holds]; done) | (simp [appG, Cd.holds]; omega)) | (refine decide_eq_true ?_; omega) | (intro _; omega) | (simp only [w_i64, w_u64, w_u32, w_u8]; omega) | exact ⟨U_nonneg _, U_lt32 _⟩ | exact R8_UL _ _ | exact R32_UL _ _ | (intro hg0; (repeat ((conv => whnf); (with_reducible refine And.intro ?_ ?_); · first | assumption | omega | (intro _; refine ⟨?_, ?_⟩ <;> first | assumption | omega | exact True.intro | (refine decide_eq_true ?_; omega) | (simp [appG, Cd.holds]; omega)) | (intro _; refine ⟨And.intro ?_ ?_, ?_⟩ <;> first | assumption | omega | (refine decide_eq_true ?_; omega)) | (simp only [hg0, Bool.and_self, Bool.true_and]; done) | (intro hg1; simp only [hg0, hg1, Bool.and_self, Bool.true_and]; done) | (simp [hg0]; done))); (conv => whnf); exact True.intro))
        conv => whnf
        refine ⟨i + 1, ⟨by show i + 1 ≤ 64; omega, by show 64 - (i + 1) < 64 - i; omega⟩, le_of [(4, 1461)] ?_⟩
        have hr : rnds (wsched B) (i + 1) H = rnd (rnds (wsched B) i H) (K256.getD i 0) ((wsched B).getD i 0) := rfl
        simp only [hr, UL_getD, ofInt_U, Int.toNat_natCast, Nat.zero_add, xor32, and32, not32', add32, r6, r11, r25, r2, r13, r22]
        repeat ((conv => whnf); (with_reducible refine And.intro ?_ ?_); · first | with_reducible rfl | exact (Bool.and_false _).symm | (intro _ _; with_reducible rfl) | exact True.intro | assumption | (intro h; exact absurd h (by decide)) | omega | (intro _; omega) | (intro _; refine ⟨?_, True.intro⟩; omega) | (intro _; refine ⟨?_, True.intro⟩; intro _; omega) | (refine decide_eq_false ?_; omega) | (refine decide_eq_true ?_; omega) | (simp only [w_i64, w_u64, w_u32, w_u8]; omega) | exact fun j hj => (put_0 hj).symm | (intro j _; simp only [Nat.zero_add]; done) | (simp [appG]; done) | (simp [appG]; omega) | exact fun j _ => (listI_map _ j).symm | (intro hgd; (try replace hgd := of_decide_eq_true hgd); (repeat ((conv => whnf); (with_reducible refine And.intro ?_ ?_); · first | with_reducible rfl | exact (Bool.and_false _).symm | (intro _ _; with_reducible rfl) | exact True.intro | assumption | (intro h; exact absurd h (by decide)) | omega | (intro _; omega) | (intro _; refine ⟨?_, True.intro⟩; omega) | (intro _; refine ⟨?_, True.intro⟩; intro _; omega) | (refine decide_eq_false ?_; omega) | (refine decide_eq_true ?_; omega) | (simp only [w_i64, w_u64, w_u32, w_u8]; omega) | exact fun j hj => (put_0 hj).symm | (intro j _; simp only [Nat.zero_add]; done) | (simp [appG]; done) | (simp [appG]; omega) | exact fun j _ => (listI_map _ j).symm)); (conv => whnf); exact True.intro))
        conv => whnf
        exact True.intro
      · replace h3 := of_decide_eq_false h3
        have hi64 : i = 64 := by omega
        subst hi64
        repeat ((conv => whnf); (with_reducible refine And.intro ?_ ?_); · first | exact True.intro | (intro hg0; simp only [hg0, Bool.not_false, Bool.not_true]; done) | assumption | omega | (intro _; refine ⟨True.intro, ?_⟩; omega) | (intro _; refine ⟨?_, True.intro⟩; omega) | (intro _; refine ⟨decide_eq_true ?_, ?_⟩ <;> omega) | (intro _; refine ⟨?_, ?_⟩ <;> first | omega | (simp [appG, Cd.holds]; done) | (simp [appG, Cd.holds]; omega)) | (refine decide_eq_true ?_; omega) | (intro _; omega) | (simp only [w_i64, w_u64, w_u32, w_u8]; omega) | exact ⟨U_nonneg _, U_lt32 _⟩ | exact R8_UL _ _ | exact R32_UL _ _ | (intro hg0; (repeat ((conv => whnf); (with_reducible refine And.intro ?_ ?_); · first | assumption | omega | (intro _; refine ⟨?_, ?_⟩ <;> first | assumption | omega | exact True.intro | (refine decide_eq_true ?_; omega) | (simp [appG, Cd.holds]; omega)) | (intro _; refine ⟨And.intro ?_ ?_, ?_⟩ <;> first | assumption | omega | (refine decide_eq_true ?_; omega)) | (simp only [hg0, Bool.and_self, Bool.true_and]; done) | (intro hg1; simp only [hg0, hg1, Bool.and_self, Bool.true_and]; done) | (simp [hg0]; done))); (conv => whnf); exact True.intro))
        conv => whnf
        refine ⟨0, Nat, fun i => ⟨201, [(1, .sa (.sc (ownA false 8 0))), (5, .sa (.sc (.sl false true true 1 0 0 64 64))), (6, .sa (.sc (.sl false false false 2 0 (64 * k) (N - 64 * k) (N - 64 * k)))), (11, .sa (.sc (ownA false 8 4))), (17, .sa (.sc (.int .i64 i)))],
          [(0, ownB 57 .u32 (mixF (UL H) (mix H B) i) 8), (1, .own 57 [.ints .u32 (UL K256) 64] false), (2, ownB 5 .u8 (UL M) N), (4, ownB 57 .u32 (UL (rnds (wsched B) 64 H)) 8)], 5⟩, fun i => i ≤ 8, fun i => 8 - i, ⟨0, by omega, le_of [] ?_⟩, fun i hi => ?_⟩
        · repeat ((conv => whnf); (with_reducible refine And.intro ?_ ?_); · first | with_reducible rfl | exact (Bool.and_false _).symm | (intro _ _; with_reducible rfl) | exact True.intro | assumption | (intro h; exact absurd h (by decide)) | omega | (intro _; omega) | (intro _; refine ⟨?_, True.intro⟩; omega) | (intro _; refine ⟨?_, True.intro⟩; intro _; omega) | (refine decide_eq_false ?_; omega) | (refine decide_eq_true ?_; omega) | (simp only [w_i64, w_u64, w_u32, w_u8]; omega) | exact fun j hj => (put_0 hj).symm | (intro j _; simp only [Nat.zero_add]; done) | (simp [appG]; done) | (simp [appG]; omega) | exact fun j hj => (if_neg (by omega)) | (intro hgd; (try replace hgd := of_decide_eq_true hgd); (repeat ((conv => whnf); (with_reducible refine And.intro ?_ ?_); · first | with_reducible rfl | exact (Bool.and_false _).symm | (intro _ _; with_reducible rfl) | exact True.intro | assumption | (intro h; exact absurd h (by decide)) | omega | (intro _; omega) | (intro _; refine ⟨?_, True.intro⟩; omega) | (intro _; refine ⟨?_, True.intro⟩; intro _; omega) | (refine decide_eq_false ?_; omega) | (refine decide_eq_true ?_; omega) | (simp only [w_i64, w_u64, w_u32, w_u8]; omega) | exact fun j hj => (put_0 hj).symm | (intro j _; simp only [Nat.zero_add]; done) | (simp [appG]; done) | (simp [appG]; omega) | exact fun j hj => (if_neg (by omega)))); (conv => whnf); exact True.intro))
          conv => whnf
          exact True.intro
        have hi : i ≤ 8 := hi
        repeat ((conv => whnf); (with_reducible refine And.intro ?_ ?_); · first | exact True.intro | (intro hg0; simp only [hg0, Bool.not_false, Bool.not_true]; done) | assumption | omega | (intro _; refine ⟨True.intro, ?_⟩; omega) | (intro _; refine ⟨?_, True.intro⟩; omega) | (intro _; refine ⟨decide_eq_true ?_, ?_⟩ <;> omega) | (intro _; refine ⟨?_, ?_⟩ <;> first | omega | (simp [appG, Cd.holds]; done) | (simp [appG, Cd.holds]; omega)) | (refine decide_eq_true ?_; omega) | (intro _; omega) | (simp only [w_i64, w_u64, w_u32, w_u8]; omega) | exact ⟨U_nonneg _, U_lt32 _⟩ | exact R8_UL _ _ | exact R32_UL _ _ | (intro hg0; (repeat ((conv => whnf); (with_reducible refine And.intro ?_ ?_); · first | assumption | omega | (intro _; refine ⟨?_, ?_⟩ <;> first | assumption | omega | exact True.intro | (refine decide_eq_true ?_; omega) | (simp [appG, Cd.holds]; omega)) | (intro _; refine ⟨And.intro ?_ ?_, ?_⟩ <;> first | assumption | omega | (refine decide_eq_true ?_; omega)) | (simp only [hg0, Bool.and_self, Bool.true_and]; done) | (intro hg1; simp only [hg0, hg1, Bool.and_self, Bool.true_and]; done) | (simp [hg0]; done))); (conv => whnf); exact True.intro))
        conv => whnf
        refine ⟨fun h4 => ?_, fun h4 => ?_⟩
        · replace h4 := of_decide_eq_true h4
          repeat ((conv => whnf); (with_reducible refine And.intro ?_ ?_); · first | exact True.intro | (intro hg0; simp only [hg0, Bool.not_false, Bool.not_true]; done) | assumption | omega | (intro _; refine ⟨True.intro, ?_⟩; omega) | (intro _; refine ⟨?_, True.intro⟩; omega) | (intro _; refine ⟨decide_eq_true ?_, ?_⟩ <;> omega) | (intro _; refine ⟨?_, ?_⟩ <;> first | omega | (simp [appG, Cd.holds]; done) | (simp [appG, Cd.holds]; omega)) | (refine decide_eq_true ?_; omega) | (intro _; omega) | (simp only [w_i64, w_u64, w_u32, w_u8]; omega) | exact ⟨U_nonneg _, U_lt32 _⟩ | exact R8_UL _ _ | exact R32_UL _ _ | (intro hg0; (repeat ((conv => whnf); (with_reducible refine And.intro ?_ ?_); · first | assumption | omega | (intro _; refine ⟨?_, ?_⟩ <;> first | assumption | omega | exact True.intro | (refine decide_eq_true ?_; omega) | (simp [appG, Cd.holds]; omega)) | (intro _; refine ⟨And.intro ?_ ?_, ?_⟩ <;> first | assumption | omega | (refine decide_eq_true ?_; omega)) | (simp only [hg0, Bool.and_self, Bool.true_and]; done) | (intro hg1; simp only [hg0, hg1, Bool.and_self, Bool.true_and]; done) | (simp [hg0]; done))); (conv => whnf); exact True.intro))
          conv => whnf
          refine ⟨[(0, ⟨0, some 189, []⟩), (1, ⟨0, some 190, []⟩), (2, ⟨3, some 191, []⟩), (3, ⟨7, some 192, []⟩), (4, ⟨0, some 193, []⟩), (5, ⟨0, some 194, []⟩), (6, ⟨48, some 195, []⟩), (7, ⟨112, some 196, []⟩), (8, ⟨255, some 197, []⟩), (9, ⟨511, some 198, []⟩), (10, ⟨1023, none, [0]⟩)], 181, ?_⟩
          repeat ((conv => whnf); (with_reducible refine And.intro ?_ ?_); · first | exact True.intro | (intro hg0; simp only [hg0, Bool.not_false, Bool.not_true]; done) | assumption | omega | (intro _; refine ⟨True.intro, ?_⟩; omega) | (intro _; refine ⟨?_, True.intro⟩; omega) | (intro _; refine ⟨decide_eq_true ?_, ?_⟩ <;> omega) | (intro _; refine ⟨?_, ?_⟩ <;> first | omega | (simp [appG, Cd.holds]; done) | (simp [appG, Cd.holds]; omega)) | (refine decide_eq_true ?_; omega) | (intro _; omega) | (simp only [w_i64, w_u64, w_u32, w_u8]; omega) | exact ⟨U_nonneg _, U_lt32 _⟩ | exact R8_UL _ _ | exact R32_UL _ _ | (intro hg0; (repeat ((conv => whnf); (with_reducible refine And.intro ?_ ?_); · first | assumption | omega | (intro _; refine ⟨?_, ?_⟩ <;> first | assumption | omega | exact True.intro | (refine decide_eq_true ?_; omega) | (simp [appG, Cd.holds]; omega)) | (intro _; refine ⟨And.intro ?_ ?_, ?_⟩ <;> first | assumption | omega | (refine decide_eq_true ?_; omega)) | (simp only [hg0, Bool.and_self, Bool.true_and]; done) | (intro hg1; simp only [hg0, hg1, Bool.and_self, Bool.true_and]; done) | (simp [hg0]; done))); (conv => whnf); exact True.intro))
          conv => whnf
          refine ⟨i + 1, ⟨by show i + 1 ≤ 8; omega, by show 8 - (i + 1) < 8 - i; omega⟩, le_of [] ?_⟩
          simp only [Int.toNat_natCast, Nat.zero_add]
          repeat ((conv => whnf); (with_reducible refine And.intro ?_ ?_); · first | with_reducible rfl | exact (Bool.and_false _).symm | (intro _ _; with_reducible rfl) | exact True.intro | assumption | (intro h; exact absurd h (by decide)) | omega | (intro _; omega) | (intro _; refine ⟨?_, True.intro⟩; omega) | (intro _; refine ⟨?_, True.intro⟩; intro _; omega) | (refine decide_eq_false ?_; omega) | (refine decide_eq_true ?_; omega) | (simp only [w_i64, w_u64, w_u32, w_u8]; omega) | exact fun j hj => (put_0 hj).symm | (intro j _; simp only [Nat.zero_add]; done) | (simp [appG]; done) | (simp [appG]; omega) | exact fun j hj => mixF_step hHl (rnds_length _ _ _ hHl) (fun _ _ => rfl) (by omega) j hj | (intro hgd; (try replace hgd := of_decide_eq_true hgd); (repeat ((conv => whnf); (with_reducible refine And.intro ?_ ?_); · first | with_reducible rfl | exact (Bool.and_false _).symm | (intro _ _; with_reducible rfl) | exact True.intro | assumption | (intro h; exact absurd h (by decide)) | omega | (intro _; omega) | (intro _; refine ⟨?_, True.intro⟩; omega) | (intro _; refine ⟨?_, True.intro⟩; intro _; omega) | (refine decide_eq_false ?_; omega) | (refine decide_eq_true ?_; omega) | (simp only [w_i64, w_u64, w_u32, w_u8]; omega) | exact fun j hj => (put_0 hj).symm | (intro j _; simp only [Nat.zero_add]; done) | (simp [appG]; done) | (simp [appG]; omega) | exact fun j hj => mixF_step hHl (rnds_length _ _ _ hHl) (fun _ _ => rfl) (by omega) j hj)); (conv => whnf); exact True.intro))
          conv => whnf
          exact True.intro
        · replace h4 := of_decide_eq_false h4
          have hi8 : i = 8 := by omega
          subst hi8
          repeat ((conv => whnf); (with_reducible refine And.intro ?_ ?_); · first | exact True.intro | (intro hg0; simp only [hg0, Bool.not_false, Bool.not_true]; done) | assumption | omega | (intro _; refine ⟨True.intro, ?_⟩; omega) | (intro _; refine ⟨?_, True.intro⟩; omega) | (intro _; refine ⟨decide_eq_true ?_, ?_⟩ <;> omega) | (intro _; refine ⟨?_, ?_⟩ <;> first | omega | (simp [appG, Cd.holds]; done) | (simp [appG, Cd.holds]; omega)) | (refine decide_eq_true ?_; omega) | (intro _; omega) | (simp only [w_i64, w_u64, w_u32, w_u8]; omega) | exact ⟨U_nonneg _, U_lt32 _⟩ | exact R8_UL _ _ | exact R32_UL _ _ | (intro hg0; (repeat ((conv => whnf); (with_reducible refine And.intro ?_ ?_); · first | assumption | omega | (intro _; refine ⟨?_, ?_⟩ <;> first | assumption | omega | exact True.intro | (refine decide_eq_true ?_; omega) | (simp [appG, Cd.holds]; omega)) | (intro _; refine ⟨And.intro ?_ ?_, ?_⟩ <;> first | assumption | omega | (refine decide_eq_true ?_; omega)) | (simp only [hg0, Bool.and_self, Bool.true_and]; done) | (intro hg1; simp only [hg0, hg1, Bool.and_self, Bool.true_and]; done) | (simp [hg0]; done))); (conv => whnf); exact True.intro))
          conv => whnf
          refine ⟨k + 1, ⟨by show 64 * (k + 1) ≤ N; omega, by show N - 64 * (k + 1) < N - 64 * k; omega⟩, le_of [] ?_⟩
          have hk1 : absorbN (k + 1) (L32 h 8) M = mix H B := by rw [absorbN_succ, ← hH, ← hB]
          simp only [hk1]
          repeat ((conv => whnf); (with_reducible refine And.intro ?_ ?_); · first | with_reducible rfl | exact (Bool.and_false _).symm | (intro _ _; with_reducible rfl) | exact True.intro | assumption | (intro h; exact absurd h (by decide)) | omega | (intro _; omega) | (intro _; refine ⟨?_, True.intro⟩; omega) | (intro _; refine ⟨?_, True.intro⟩; intro _; omega) | (refine decide_eq_false ?_; omega) | (refine decide_eq_true ?_; omega) | (simp only [w_i64, w_u64, w_u32, w_u8]; omega) | exact fun j hj => (put_0 hj).symm | (intro j _; simp only [Nat.zero_add]; done) | (simp [appG]; done) | (simp [appG]; omega) | exact fun j hj => (if_pos hj).symm | (intro hgd; (try replace hgd := of_decide_eq_true hgd); (repeat ((conv => whnf); (with_reducible refine And.intro ?_ ?_); · first | with_reducible rfl | exact (Bool.and_false _).symm | (intro _ _; with_reducible rfl) | exact True.intro | assumption | (intro h; exact absurd h (by decide)) | omega | (intro _; omega) | (intro _; refine ⟨?_, True.intro⟩; omega) | (intro _; refine ⟨?_, True.intro⟩; intro _; omega) | (refine decide_eq_false ?_; omega) | (refine decide_eq_true ?_; omega) | (simp only [w_i64, w_u64, w_u32, w_u8]; omega) | exact fun j hj => (put_0 hj).symm | (intro j _; simp only [Nat.zero_add]; done) | (simp [appG]; done) | (simp [appG]; omega) | exact fun j hj => (if_pos hj).symm)); (conv => whnf); exact True.intro))
          conv => whnf
          exact True.intro
  · replace h1 := of_decide_eq_false h1
    have hkN : k = M.length / 64 := by omega
    repeat ((conv => whnf); (with_reducible refine And.intro ?_ ?_); · first | exact True.intro | (intro hg0; simp only [hg0, Bool.not_false, Bool.not_true]; done) | assumption | omega | (intro _; refine ⟨True.intro, ?_⟩; omega) | (intro _; refine ⟨?_, True.intro⟩; omega) | (intro _; refine ⟨decide_eq_true ?_, ?_⟩ <;> omega) | (intro _; refine ⟨?_, ?_⟩ <;> first | omega | (simp [appG, Cd.holds]; done) | (simp [appG, Cd.holds]; omega)) | (refine decide_eq_true ?_; omega) | (intro _; omega) | (simp only [w_i64, w_u64, w_u32, w_u8]; omega) | exact ⟨U_nonneg _, U_lt32 _⟩ | exact R8_UL _ _ | exact R32_UL _ _ | (intro hg0; (repeat ((conv => whnf); (with_reducible refine And.intro ?_ ?_); · first | assumption | omega | (intro _; refine ⟨?_, ?_⟩ <;> first | assumption | omega | exact True.intro | (refine decide_eq_true ?_; omega) | (simp [appG, Cd.holds]; omega)) | (intro _; refine ⟨And.intro ?_ ?_, ?_⟩ <;> first | assumption | omega | (refine decide_eq_true ?_; omega)) | (simp only [hg0, Bool.and_self, Bool.true_and]; done) | (intro hg1; simp only [hg0, hg1, Bool.and_self, Bool.true_and]; done) | (simp [hg0]; done) | exact R32_z _ _)); (conv => whnf); exact True.intro) | exact R32_z _ _)
    conv => whnf
    refine ⟨[(1, 3)], ?_⟩
    have ha : L32 (UL (absorbN k (L32 h 8) M)) 8 = absorb (L32 h 8) M := by rw [L32_UL' (absorbN_length _ _ _ (L32_length _ _)).symm, absorb, ← hkN]
    simp only [Nat.zero_add, ha]
    repeat ((conv => whnf); (with_reducible refine And.intro ?_ ?_); · first | with_reducible rfl | exact (Bool.and_false _).symm | (intro _ _; with_reducible rfl) | exact True.intro | assumption | (intro h; exact absurd h (by decide)) | omega | (intro _; omega) | (intro _; refine ⟨?_, True.intro⟩; omega) | (intro _; refine ⟨?_, True.intro⟩; intro _; omega) | (refine decide_eq_false ?_; omega) | (refine decide_eq_true ?_; omega) | (simp only [w_i64, w_u64, w_u32, w_u8]; omega) | exact fun j hj => (put_0 hj).symm | (intro j _; simp only [Nat.zero_add]; done) | (simp [appG]; done) | (simp [appG]; omega) | rfl | (intro hgd; (try replace hgd := of_decide_eq_true hgd); (repeat ((conv => whnf); (with_reducible refine And.intro ?_ ?_); · first | with_reducible rfl | exact (Bool.and_false _).symm | (intro _ _; with_reducible rfl) | exact True.intro | assumption | (intro h; exact absurd h (by decide)) | omega | (intro _; omega) | (intro _; refine ⟨?_, True.intro⟩; omega) | (intro _; refine ⟨?_, True.intro⟩; intro _; omega) | (refine decide_eq_false ?_; omega) | (refine decide_eq_true ?_; omega) | (simp only [w_i64, w_u64, w_u32, w_u8]; omega) | exact fun j hj => (put_0 hj).symm | (intro j _; simp only [Nat.zero_add]; done) | (simp [appG]; done) | (simp [appG]; omega) | rfl)); (conv => whnf); exact True.intro))
    conv => whnf
    exact True.intro
end Go.Proofs.Ytogijkmflhjhkaa

/- Functions through the evaluator: the document's sum, HMAC, HKDF. No condition. -/
namespace Go.Proofs.Ytogijkmflhjhkaa
open Go.Sx Go.RowKit
set_option linter.unusedSimpArgs false
set_option maxRecDepth 100000
set_option linter.unusedVariables false

theorem cok15 : COk Try.prog (tab [(68, sha256S)]) := cok_cons sha256S_ok cok_nil
theorem put_t0 {f g : Nat → Int} {j : Nat} (h : j < 32) : put_ f (Int.toNat 0) (min 32 (32 - Int.toNat 0)) (fun j => g (0 + j)) j = g j := by
  show put_ f 0 32 _ j = _
  rw [put_0 h, Nat.zero_add]
theorem H256_R : R32 (listI (H256.map U)) 8 := fun j _ => by rw [listI_map]; exact ⟨U_nonneg _, U_lt32 _⟩
/-- indentureref1.Sum. -/
def rsumS : Summary := mkS false [.r .u8] fun
  | [.r nl g n] => some ⟨.and (.p (R8 g n)) (.p (n ≤ 900000)), some (.sa (.agg [.ints .u8 (UL (sha (L8 g n))) 32])), [], 0⟩
  | _ => none
theorem rsumS_ok : SumOk Try.prog 35 rsumS := by
  unfold rsumS
  apply sum_ok
  intro vs A H n o r hb h
  split at h
  rotate_left
  · cases h
  rename_i nl g n0
  injection h with h
  subst h
  cases hb
  refine fsound_of_run tt_ok cok15 mixed_ok Try.call35 Try.func35 rfl (rs := _) Try.results35 (size := 10) Try.ntmps35 (Nat.le_of_ble_eq_true rfl) rfl fun hp hfa hfh => ?_
  obtain ⟨hg, hn⟩ := hp
  have hg : R8 g n0 := hg
  have hn : n0 ≤ 900000 := hn
  repeat ((conv => whnf); (with_reducible refine And.intro ?_ ?_); · first | exact True.intro | (intro hg0; simp only [hg0, Bool.not_false, Bool.not_true]; done) | assumption | omega | (intro _; refine ⟨True.intro, ?_⟩; omega) | (intro _; refine ⟨?_, True.intro⟩; omega) | (intro _; refine ⟨decide_eq_true ?_, ?_⟩ <;> omega) | (intro _; refine ⟨?_, ?_⟩ <;> first | omega | (simp [appG, Cd.holds]; done) | (simp [appG, Cd.holds]; omega)) | (refine decide_eq_true ?_; omega) | (intro _; omega) | (simp only [w_i64, w_u64, w_u32, w_u8]; omega) | exact ⟨U_nonneg _, U_lt32 _⟩ | exact R8_UL _ _ | exact R32_UL _ _ | (intro hg0; (repeat ((conv => whnf); (with_reducible refine And.intro ?_ ?_); · first | assumption | omega | (intro _; refine ⟨?_, ?_⟩ <;> first | assumption | omega | exact True.intro | (refine decide_eq_true ?_; omega) | (simp [appG, Cd.holds]; omega)) | (intro _; refine ⟨And.intro ?_ ?_, ?_⟩ <;> first | assumption | omega | (refine decide_eq_true ?_; omega)) | (simp only [hg0, Bool.and_self, Bool.true_and]; done) | (intro hg1; simp only [hg0, hg1, Bool.and_self, Bool.true_and]; done) | (simp [hg0]; done))); (conv => whnf); exact True.intro))
  conv => whnf
  refine ⟨[(0, ⟨0, some 4, []⟩), (1, ⟨0, some 5, []⟩), (2, ⟨0, some 6, [34]⟩), (3, ⟨6, some 7, [34, 50]⟩), (4, ⟨15, some 8, [1]⟩)], 82, ?_⟩
  repeat ((conv => whnf); (with_reducible refine And.intro ?_ ?_); · first | exact True.intro | (intro hg0; simp only [hg0, Bool.not_false, Bool.not_true]; done) | assumption | omega | (intro _; refine ⟨True.intro, ?_⟩; omega) | (intro _; refine ⟨?_, True.intro⟩; omega) | (intro _; refine ⟨decide_eq_true ?_, ?_⟩ <;> omega) | (intro _; refine ⟨?_, ?_⟩ <;> first | omega | (simp [appG, Cd.holds]; done) | (simp [appG, Cd.holds]; omega)) | (refine decide_eq_true ?_; omega) | (intro _; omega) | (simp only [w_i64, w_u64, w_u32, w_u8]; omega) | exact ⟨U_nonneg _, U_lt32 _⟩ | exact R8_UL _ _ | exact R32_UL _ _ | (intro hg0; (repeat ((conv => whnf); (with_reducible refine And.intro ?_ ?_); · first | assumption | omega | (intro _; refine ⟨?_, ?_⟩ <;> first | assumption | omega | exact True.intro | (refine decide_eq_true ?_; omega) | (simp [appG, Cd.holds]; omega)) | (intro _; refine ⟨And.intro ?_ ?_, ?_⟩ <;> first | assumption | omega | (refine decide_eq_true ?_; omega)) | (simp only [hg0, Bool.and_self, Bool.true_and]; done) | (intro hg1; simp only [hg0, hg1, Bool.and_self, Bool.true_and]; done) | (simp [hg0]; done) | exact ⟨rfl, rfl⟩ | exact H256_R)); (conv => whnf); exact True.intro) | exact ⟨rfl, rfl⟩ | exact H256_R)
  conv => whnf
  refine ⟨[], ?_⟩
  have hL : L32 (listI [1541459225, 528734635, 2600822924, 1359893119, 2773480762, 1013904242, 3144134277, 1779033703].reverse) 8 = H256 := by decide +kernel
  repeat ((conv => whnf); (with_reducible refine And.intro ?_ ?_); · first | with_reducible rfl | exact (Bool.and_false _).symm | (intro _ _; with_reducible rfl) | exact True.intro | assumption | (intro h; exact absurd h (by decide)) | omega | (intro _; omega) | (intro _; refine ⟨?_, True.intro⟩; omega) | (intro _; refine ⟨?_, True.intro⟩; intro _; omega) | (refine decide_eq_false ?_; omega) | (refine decide_eq_true ?_; omega) | (simp only [w_i64, w_u64, w_u32, w_u8]; omega) | exact fun j hj => (put_0 hj).symm | (intro j _; simp only [Nat.zero_add]; done) | (simp [appG]; done) | (simp [appG]; omega) | (intro j hj; rw [put_t0 hj, hL, sha, L8_length]) | (intro hgd; (try replace hgd := of_decide_eq_true hgd); (repeat ((conv => whnf); (with_reducible refine And.intro ?_ ?_); · first | with_reducible rfl | exact (Bool.and_false _).symm | (intro _ _; with_reducible rfl) | exact True.intro | assumption | (intro h; exact absurd h (by decide)) | omega | (intro _; omega) | (intro _; refine ⟨?_, True.intro⟩; omega) | (intro _; refine ⟨?_, True.intro⟩; intro _; omega) | (refine decide_eq_false ?_; omega) | (refine decide_eq_true ?_; omega) | (simp only [w_i64, w_u64, w_u32, w_u8]; omega) | exact fun j hj => (put_0 hj).symm | (intro j _; simp only [Nat.zero_add]; done) | (simp [appG]; done) | (simp [appG]; omega) | (intro j hj; rw [put_t0 hj, hL, sha, L8_length]))); (conv => whnf); exact True.intro))
  conv => whnf
  exact True.intro

theorem cok15b : COk Try.prog (tab [(35, rsumS)]) := cok_cons rsumS_ok cok_nil
/-- What stands for a key, before it is filled up. -/
def kcut (k : List B8) : List B8 := if 64 < k.length then sha k else k
theorem kcut_le (k : List B8) : (kcut k).length ≤ 64 := by
  unfold kcut
  split
  · rw [sha_length]; omega
  · omega
theorem kblock_cut (k : List B8) : kblock k = kcut k ++ List.replicate (64 - (kcut k).length) 0 := rfl
/-- The first i bytes of a block, turned. -/
def tur (K : List B8) (b : B8) (i : Nat) : List B8 := (K.take i).map (· ^^^ b)
theorem tur_length {K : List B8} {b : B8} {i : Nat} (h : i ≤ K.length) : (tur K b i).length = i := by rw [tur, List.length_map, List.length_take]; omega
theorem tur_succ {K : List B8} {b : B8} {i : Nat} (h : i < K.length) : tur K b (i + 1) = tur K b i ++ [K.getD i 0 ^^^ b] := by
  rw [tur, List.take_succ_eq_append_getElem h, List.map_append, tur]
  simp [List.getD_eq_getElem?_getD, h]
theorem tur_all {k : List B8} {b : B8} : tur (kblock k) b 64 = kturn k b := by rw [tur, List.take_of_length_le (by rw [kblock_length]; omega), kturn]
theorem L8_cat {l : List B8} {n m : Nat} {h : Nat → Int} (hn : n = l.length) : L8 (put_ (UL l) n m h) (n + m) = l ++ L8 h m := by rw [L8_put, L8_UL' hn]
theorem cont0 {K : List B8} {a m j : Nat} (ha : a = 0) (hj : j < m) : UL (K ++ List.replicate 0 0) j = put_ (fun _ => 0) 0 m (fun j => UL K (a + j)) j := by
  subst ha; rw [put_0 hj, Nat.zero_add]; simp
theorem R8_put0 {f g : Nat → Int} {n m : Nat} (hf : R8 f n) (hg : R8 g m) : R8 (fun j => put_ f n m g (0 + j)) (n + m) := fun j hj => by
  show 0 ≤ put_ _ _ _ _ _ ∧ put_ _ _ _ _ _ < 256
  rw [Nat.zero_add]; exact R8_put hf hg j hj
/-- indentureref1.HMAC. -/
def rhmacS : Summary := mkS false [.r .u8, .r .u8] fun
  | [.r nl g n, .r nl2 h m] => some ⟨.and (.p (R8 g n)) (.and (.p (n ≤ 900000)) (.and (.p (R8 h m)) (.p (m ≤ 800000)))), some (.sa (.agg [.ints .u8 (UL (hmac (L8 g n) (L8 h m))) 32])), [], 0⟩
  | _ => none
theorem rhmacS_ok : SumOk Try.prog 39 rhmacS := by
  unfold rhmacS
  apply sum_ok
  intro vs A H n o r hb h
  split at h
  rotate_left
  · cases h
  rename_i nl g n0 nl2 h m
  injection h with h
  subst h
  cases hb
  refine fsound_of_run tt_ok cok15b mixed_ok Try.call39 Try.func39 rfl (rs := _) Try.results39 (size := 54) Try.ntmps39 (Nat.le_of_ble_eq_true rfl) rfl fun hp hfa hfh => ?_
  obtain ⟨hg, hn, hh, hm⟩ := hp
  have hg : R8 g n0 := hg
  have hn : n0 ≤ 900000 := hn
  have hh : R8 h m := hh
  have hm : m ≤ 800000 := hm
  obtain ⟨K, hK⟩ : ∃ K, K = kcut (L8 g n0) := ⟨_, rfl⟩
  have hKl : K.length ≤ 64 := by rw [hK]; exact kcut_le _
  have hKb : kblock (L8 g n0) = K ++ List.replicate (64 - K.length) 0 := by rw [hK]; rfl
  obtain ⟨B, hB⟩ : ∃ B, B = kblock (L8 g n0) := ⟨_, rfl⟩
  have hBl : B.length = 64 := by rw [hB]; exact kblock_length _
  have hKB : K ++ List.replicate (64 - K.length) 0 = B := by rw [hB, hKb]
  have ht1 : tur B 0x36 64 = kturn (L8 g n0) 0x36 := by rw [hB]; exact tur_all
  have ht2 : tur B 0x5c 64 = kturn (L8 g n0) 0x5c := by rw [hB]; exact tur_all
  clear hB
  have hge : ∀ j, j < 0 + n0 → put_ (fun x => 0) 0 n0 g (0 + j) = g j := fun j hj => by rw [Nat.zero_add, put_0 (by omega)]
  have hg1 : R8 (fun j => put_ (fun x => 0) 0 n0 g (0 + j)) (0 + n0) := fun j hj => by show 0 ≤ put_ _ _ _ _ _ ∧ put_ _ _ _ _ _ < 256; rw [hge j hj]; exact hg j (by omega)
  have hg2 : L8 (fun j => put_ (fun x => 0) 0 n0 g (0 + j)) (0 + n0) = L8 g n0 := by rw [L8_congr hge, Nat.zero_add]
  repeat ((conv => whnf); (with_reducible refine And.intro ?_ ?_); · first | exact True.intro | (intro hg0; simp only [hg0, Bool.not_false, Bool.not_true]; done) | assumption | omega | (intro _; refine ⟨True.intro, ?_⟩; omega) | (intro _; refine ⟨?_, True.intro⟩; omega) | (intro _; refine ⟨decide_eq_true ?_, ?_⟩ <;> omega) | (intro _; refine ⟨?_, ?_⟩ <;> first | omega | (simp [appG, Cd.holds]; done) | (simp [appG, Cd.holds]; omega)) | (refine decide_eq_true ?_; omega) | (intro _; omega) | (simp only [w_i64, w_u64, w_u32, w_u8]; omega) | exact ⟨U_nonneg _, U_lt32 _⟩ | exact R8_UL _ _ | exact R32_UL _ _ | (intro hg0; (repeat ((conv => whnf); (with_reducible refine And.intro ?_ ?_); · first | assumption | omega | (intro _; refine ⟨?_, ?_⟩ <;> first | assumption | omega | exact True.intro | (refine decide_eq_true ?_; omega) | (simp [appG, Cd.holds]; omega)) | (intro _; refine ⟨And.intro ?_ ?_, ?_⟩ <;> first | assumption | omega | (refine decide_eq_true ?_; omega)) | (simp only [hg0, Bool.and_self, Bool.true_and]; done) | (intro hg1; simp only [hg0, hg1, Bool.and_self, Bool.true_and]; done) | (simp [hg0]; done))); (conv => whnf); exact True.intro))
  conv => whnf
  refine ⟨fun h1 => ?_, fun h1 => ?_⟩
  replace h1 := of_decide_eq_true h1
  have hKs : K = sha (L8 g n0) := by rw [hK, kcut, if_pos (by rw [L8_length]; omega)]
  have hK32 : K.length = 32 := by rw [hKs, sha_length]
  repeat ((conv => whnf); (with_reducible refine And.intro ?_ ?_); · first | exact True.intro | (intro hg0; simp only [hg0, Bool.not_false, Bool.not_true]; done) | assumption | omega | (intro _; refine ⟨True.intro, ?_⟩; omega) | (intro _; refine ⟨?_, True.intro⟩; omega) | (intro _; refine ⟨decide_eq_true ?_, ?_⟩ <;> omega) | (intro _; refine ⟨?_, ?_⟩ <;> first | omega | (simp [appG, Cd.holds]; done) | (simp [appG, Cd.holds]; omega)) | (refine decide_eq_true ?_; omega) | (intro _; omega) | (simp only [w_i64, w_u64, w_u32, w_u8]; omega) | exact ⟨U_nonneg _, U_lt32 _⟩ | exact R8_UL _ _ | exact R32_UL _ _ | (intro hg0; (repeat ((conv => whnf); (with_reducible refine And.intro ?_ ?_); · first | assumption | omega | (intro _; refine ⟨?_, ?_⟩ <;> first | assumption | omega | exact True.intro | (refine decide_eq_true ?_; omega) | (simp [appG, Cd.holds]; omega)) | (intro _; refine ⟨And.intro ?_ ?_, ?_⟩ <;> first | assumption | omega | (refine decide_eq_true ?_; omega)) | (simp only [hg0, Bool.and_self, Bool.true_and]; done) | (intro hg1; simp only [hg0, hg1, Bool.and_self, Bool.true_and]; done) | (simp [hg0]; done) | exact hg1)); (conv => whnf); exact True.intro) | exact hg1)
  conv => whnf
  refine ⟨0, Nat, fun c => ⟨54, [(1, .sa (.sc (.im nl2 .u8 h m))), (4, .sa (.sc (.ptr 0 0 0))), (5, .sa (.sc (ownA (Nat.beq (K.length + c) 0) (K.length + c) 1)))],
      [(0, .own 30 [.ints .u8 (fun _ => 0) 32] false), (1, ownB 5 .u8 (UL (K ++ List.replicate c 0)) (K.length + c))], 2⟩, fun c => K.length + c ≤ 64, fun c => 64 - c, ⟨0, by omega, le_of [(1, 3)] ?_⟩, fun c hc => ?_⟩
  · simp only [hg2, ← hKs, hK32]
    repeat ((conv => whnf); (with_reducible refine And.intro ?_ ?_); · first | with_reducible rfl | exact (Bool.and_false _).symm | (intro _ _; with_reducible rfl) | exact True.intro | assumption | (intro h; exact absurd h (by decide)) | omega | (intro _; omega) | (intro _; refine ⟨?_, True.intro⟩; omega) | (intro _; refine ⟨?_, True.intro⟩; intro _; omega) | (refine decide_eq_false ?_; omega) | (refine decide_eq_true ?_; omega) | (simp only [w_i64, w_u64, w_u32, w_u8]; omega) | exact fun j hj => (put_0 hj).symm | (intro j _; simp only [Nat.zero_add]; done) | (simp [appG]; done) | (simp [appG]; omega) | rfl | (intro j hj; exact cont0 rfl (by omega)) | (intro hgd; (try replace hgd := of_decide_eq_true hgd); (repeat ((conv => whnf); (with_reducible refine And.intro ?_ ?_); · first | with_reducible rfl | exact (Bool.and_false _).symm | (intro _ _; with_reducible rfl) | exact True.intro | assumption | (intro h; exact absurd h (by decide)) | omega | (intro _; omega) | (intro _; refine ⟨?_, True.intro⟩; omega) | (intro _; refine ⟨?_, True.intro⟩; intro _; omega) | (refine decide_eq_false ?_; omega) | (refine decide_eq_true ?_; omega) | (simp only [w_i64, w_u64, w_u32, w_u8]; omega) | exact fun j hj => (put_0 hj).symm | (intro j _; simp only [Nat.zero_add]; done) | (simp [appG]; done) | (simp [appG]; omega) | rfl | (intro j hj; exact cont0 rfl (by omega)))); (conv => whnf); exact True.intro))
    conv => whnf
    exact True.intro
  rotate_left
  replace h1 := of_decide_eq_false h1
  have hKs : K = L8 g n0 := by rw [hK, kcut, if_neg (by rw [L8_length]; omega)]
  have hK32 : K.length = n0 := by rw [hKs, L8_length]
  repeat ((conv => whnf); (with_reducible refine And.intro ?_ ?_); · first | exact True.intro | (intro hg0; simp only [hg0, Bool.not_false, Bool.not_true]; done) | assumption | omega | (intro _; refine ⟨True.intro, ?_⟩; omega) | (intro _; refine ⟨?_, True.intro⟩; omega) | (intro _; refine ⟨decide_eq_true ?_, ?_⟩ <;> omega) | (intro _; refine ⟨?_, ?_⟩ <;> first | omega | (simp [appG, Cd.holds]; done) | (simp [appG, Cd.holds]; omega)) | (refine decide_eq_true ?_; omega) | (intro _; omega) | (simp only [w_i64, w_u64, w_u32, w_u8]; omega) | exact ⟨U_nonneg _, U_lt32 _⟩ | exact R8_UL _ _ | exact R32_UL _ _ | (intro hg0; (repeat ((conv => whnf); (with_reducible refine And.intro ?_ ?_); · first | assumption | omega | (intro _; refine ⟨?_, ?_⟩ <;> first | assumption | omega | exact True.intro | (refine decide_eq_true ?_; omega) | (simp [appG, Cd.holds]; omega)) | (intro _; refine ⟨And.intro ?_ ?_, ?_⟩ <;> first | assumption | omega | (refine decide_eq_true ?_; omega)) | (simp only [hg0, Bool.and_self, Bool.true_and]; done) | (intro hg1; simp only [hg0, hg1, Bool.and_self, Bool.true_and]; done) | (simp [hg0]; done))); (conv => whnf); exact True.intro))
  conv => whnf
  refine ⟨0, Nat, fun c => ⟨54, [(1, .sa (.sc (.im nl2 .u8 h m))), (4, .sa (.sc (.ptr 0 0 0))), (5, .sa (.sc (ownA (Nat.beq (K.length + c) 0) (K.length + c) 1)))],
      [(0, .own 30 [.ints .u8 (fun _ => 0) 32] false), (1, ownB 5 .u8 (UL (K ++ List.replicate c 0)) (K.length + c))], 2⟩, fun c => K.length + c ≤ 64, fun c => 64 - c, ⟨0, by omega, le_of [] ?_⟩, fun c hc => ?_⟩
  · have hcon : ∀ j, j < n0 → UL (K ++ List.replicate 0 0) j = put_ (fun x => 0) 0 n0 g j := fun j hj => by
      rw [put_0 hj, List.replicate_zero, List.append_nil, hKs, UL_L8 hg j hj]
    simp only [hK32]
    repeat ((conv => whnf); (with_reducible refine And.intro ?_ ?_); · first | with_reducible rfl | exact (Bool.and_false _).symm | (intro _ _; with_reducible rfl) | exact True.intro | assumption | (intro h; exact absurd h (by decide)) | omega | (intro _; omega) | (intro _; refine ⟨?_, True.intro⟩; omega) | (intro _; refine ⟨?_, True.intro⟩; intro _; omega) | (refine decide_eq_false ?_; omega) | (refine decide_eq_true ?_; omega) | (simp only [w_i64, w_u64, w_u32, w_u8]; omega) | exact fun j hj => (put_0 hj).symm | (intro j _; simp only [Nat.zero_add]; done) | (simp [appG]; done) | (simp [appG]; omega) | (intro j hj; exact hcon j (by omega)) | (rw [Nat.zero_add]; rfl) | (intro hgd; (try replace hgd := of_decide_eq_true hgd); (repeat ((conv => whnf); (with_reducible refine And.intro ?_ ?_); · first | with_reducible rfl | exact (Bool.and_false _).symm | (intro _ _; with_reducible rfl) | exact True.intro | assumption | (intro h; exact absurd h (by decide)) | omega | (intro _; omega) | (intro _; refine ⟨?_, True.intro⟩; omega) | (intro _; refine ⟨?_, True.intro⟩; intro _; omega) | (refine decide_eq_false ?_; omega) | (refine decide_eq_true ?_; omega) | (simp only [w_i64, w_u64, w_u32, w_u8]; omega) | exact fun j hj => (put_0 hj).symm | (intro j _; simp only [Nat.zero_add]; done) | (simp [appG]; done) | (simp [appG]; omega) | (intro j hj; exact hcon j (by omega)) | (rw [Nat.zero_add]; rfl))); (conv => whnf); exact True.intro))
    conv => whnf
    exact True.intro
  all_goals
    have hc : K.length + c ≤ 64 := hc
    clear h1 hKs hK32 hg1 hg2 hge
    have hnlc : Nat.beq (K.length + c) 0 = true → K.length + c = 0 := fun h => by rw [Nat.beq_eq] at h; exact h
    repeat ((conv => whnf); (with_reducible refine And.intro ?_ ?_); · first | exact True.intro | (intro hg0; simp only [hg0, Bool.not_false, Bool.not_true]; done) | assumption | omega | (intro _; refine ⟨True.intro, ?_⟩; omega) | (intro _; refine ⟨?_, True.intro⟩; omega) | (intro _; refine ⟨decide_eq_true ?_, ?_⟩ <;> omega) | (intro _; refine ⟨?_, ?_⟩ <;> first | omega | (simp [appG, Cd.holds]; done) | (simp [appG, Cd.holds]; omega)) | (refine decide_eq_true ?_; omega) | (intro _; omega) | (simp only [w_i64, w_u64, w_u32, w_u8]; omega) | exact ⟨U_nonneg _, U_lt32 _⟩ | exact R8_UL _ _ | exact R32_UL _ _ | (intro hg0; (repeat ((conv => whnf); (with_reducible refine And.intro ?_ ?_); · first | assumption | omega | (intro _; refine ⟨?_, ?_⟩ <;> first | assumption | omega | exact True.intro | (refine decide_eq_true ?_; omega) | (simp [appG, Cd.holds]; omega)) | (intro _; refine ⟨And.intro ?_ ?_, ?_⟩ <;> first | assumption | omega | (refine decide_eq_true ?_; omega)) | (simp only [hg0, Bool.and_self, Bool.true_and]; done) | (intro hg1; simp only [hg0, hg1, Bool.and_self, Bool.true_and]; done) | (simp [hg0]; done))); (conv => whnf); exact True.intro))
    conv => whnf
    refine ⟨fun h2 => ?_, fun h2 => ?_⟩
    · replace h2 := of_decide_eq_true h2
      repeat ((conv => whnf); (with_reducible refine And.intro ?_ ?_); · first | exact True.intro | (intro hg0; simp only [hg0, Bool.not_false, Bool.not_true]; done) | assumption | omega | (intro _; refine ⟨True.intro, ?_⟩; omega) | (intro _; refine ⟨?_, True.intro⟩; omega) | (intro _; refine ⟨decide_eq_true ?_, ?_⟩ <;> omega) | (intro _; refine ⟨?_, ?_⟩ <;> first | omega | (simp [appG, Cd.holds]; done) | (simp [appG, Cd.holds]; omega)) | (refine decide_eq_true ?_; omega) | (intro _; omega) | (simp only [w_i64, w_u64, w_u32, w_u8]; omega) | exact ⟨U_nonneg _, U_lt32 _⟩ | exact R8_UL _ _ | exact R32_UL _ _ | (intro hg0; (repeat ((conv => whnf); (with_reducible refine And.intro ?_ ?_); · first | assumption | omega | (intro _; refine ⟨?_, ?_⟩ <;> first | assumption | omega | exact True.intro | (refine decide_eq_true ?_; omega) | (simp [appG, Cd.holds]; omega)) | (intro _; refine ⟨And.intro ?_ ?_, ?_⟩ <;> first | assumption | omega | (refine decide_eq_true ?_; omega)) | (simp only [hg0, Bool.and_self, Bool.true_and]; done) | (intro hg1; simp only [hg0, hg1, Bool.and_self, Bool.true_and]; done) | (simp [hg0]; done))); (conv => whnf); exact True.intro))
      conv => whnf
      refine ⟨c + 1, ⟨by show K.length + (c + 1) ≤ 64; omega, by show 64 - (c + 1) < 64 - c; omega⟩, le_of [(1, 3)] ?_⟩
      simp only [List.replicate_succ', ← List.append_assoc, ← Nat.add_assoc]
      repeat ((conv => whnf); (with_reducible refine And.intro ?_ ?_); · first | with_reducible rfl | exact (Bool.and_false _).symm | (intro _ _; with_reducible rfl) | exact True.intro | assumption | (intro h; exact absurd h (by decide)) | omega | (intro _; omega) | (intro _; refine ⟨?_, True.intro⟩; omega) | (intro _; refine ⟨?_, True.intro⟩; intro _; omega) | (refine decide_eq_false ?_; omega) | (refine decide_eq_true ?_; omega) | (simp only [w_i64, w_u64, w_u32, w_u8]; omega) | exact fun j hj => (put_0 hj).symm | (intro j _; simp only [Nat.zero_add]; done) | (simp [appG]; done) | (simp [appG]; omega) | exact app1 (by rw [List.length_append, List.length_replicate]) rfl | (intro hgd; (try replace hgd := of_decide_eq_true hgd); (repeat ((conv => whnf); (with_reducible refine And.intro ?_ ?_); · first | with_reducible rfl | exact (Bool.and_false _).symm | (intro _ _; with_reducible rfl) | exact True.intro | assumption | (intro h; exact absurd h (by decide)) | omega | (intro _; omega) | (intro _; refine ⟨?_, True.intro⟩; omega) | (intro _; refine ⟨?_, True.intro⟩; intro _; omega) | (refine decide_eq_false ?_; omega) | (refine decide_eq_true ?_; omega) | (simp only [w_i64, w_u64, w_u32, w_u8]; omega) | exact fun j hj => (put_0 hj).symm | (intro j _; simp only [Nat.zero_add]; done) | (simp [appG]; done) | (simp [appG]; omega) | exact app1 (by rw [List.length_append, List.length_replicate]) rfl)); (conv => whnf); exact True.intro))
      conv => whnf
      exact True.intro
    · replace h2 := of_decide_eq_false h2
      have hc64 : K.length + c = 64 := by omega
      have hcr : K ++ List.replicate c 0 = B := by rw [← hKB, show 64 - K.length = c by omega]
      simp only [hc64, hcr]
      repeat ((conv => whnf); (with_reducible refine And.intro ?_ ?_); · first | exact True.intro | (intro hg0; simp only [hg0, Bool.not_false, Bool.not_true]; done) | assumption | omega | (intro _; refine ⟨True.intro, ?_⟩; omega) | (intro _; refine ⟨?_, True.intro⟩; omega) | (intro _; refine ⟨decide_eq_true ?_, ?_⟩ <;> omega) | (intro _; refine ⟨?_, ?_⟩ <;> first | omega | (simp [appG, Cd.holds]; done) | (simp [appG, Cd.holds]; omega)) | (refine decide_eq_true ?_; omega) | (intro _; omega) | (simp only [w_i64, w_u64, w_u32, w_u8]; omega) | exact ⟨U_nonneg _, U_lt32 _⟩ | exact R8_UL _ _ | exact R32_UL _ _ | (intro hg0; (repeat ((conv => whnf); (with_reducible refine And.intro ?_ ?_); · first | assumption | omega | (intro _; refine ⟨?_, ?_⟩ <;> first | assumption | omega | exact True.intro | (refine decide_eq_true ?_; omega) | (simp [appG, Cd.holds]; omega)) | (intro _; refine ⟨And.intro ?_ ?_, ?_⟩ <;> first | assumption | omega | (refine decide_eq_true ?_; omega)) | (simp only [hg0, Bool.and_self, Bool.true_and]; done) | (intro hg1; simp only [hg0, hg1, Bool.and_self, Bool.true_and]; done) | (simp [hg0]; done))); (conv => whnf); exact True.intro))
      conv => whnf
      refine ⟨0, Nat, fun i => ⟨54, [(1, .sa (.sc (.im nl2 .u8 h m))), (4, .sa (.sc (.ptr 0 0 0))), (5, .sa (.sc (ownA false 64 1))), (7, .sa (.sc (ownA (Nat.beq i 0) i 2))), (8, .sa (.sc (ownA (Nat.beq i 0) i 3))), (9, .sa (.sc (.int .i64 i)))],
        [(0, .own 30 [.ints .u8 (fun _ => 0) 32] false), (1, ownB 5 .u8 (UL B) 64), (2, ownB 5 .u8 (UL (tur B 0x36 i)) i), (3, ownB 5 .u8 (UL (tur B 0x5c i)) i)], 4⟩, fun i => i ≤ 64, fun i => 64 - i, ⟨0, by omega, le_of [] ?_⟩, fun i hi => ?_⟩
      · repeat ((conv => whnf); (with_reducible refine And.intro ?_ ?_); · first | with_reducible rfl | exact (Bool.and_false _).symm | (intro _ _; with_reducible rfl) | exact True.intro | assumption | (intro h; exact absurd h (by decide)) | omega | (intro _; omega) | (intro _; refine ⟨?_, True.intro⟩; omega) | (intro _; refine ⟨?_, True.intro⟩; intro _; omega) | (refine decide_eq_false ?_; omega) | (refine decide_eq_true ?_; omega) | (simp only [w_i64, w_u64, w_u32, w_u8]; omega) | exact fun j hj => (put_0 hj).symm | (intro j _; simp only [Nat.zero_add]; done) | (simp [appG]; done) | (simp [appG]; omega) | rfl | (intro hgd; (try replace hgd := of_decide_eq_true hgd); (repeat ((conv => whnf); (with_reducible refine And.intro ?_ ?_); · first | with_reducible rfl | exact (Bool.and_false _).symm | (intro _ _; with_reducible rfl) | exact True.intro | assumption | (intro h; exact absurd h (by decide)) | omega | (intro _; omega) | (intro _; refine ⟨?_, True.intro⟩; omega) | (intro _; refine ⟨?_, True.intro⟩; intro _; omega) | (refine decide_eq_false ?_; omega) | (refine decide_eq_true ?_; omega) | (simp only [w_i64, w_u64, w_u32, w_u8]; omega) | exact fun j hj => (put_0 hj).symm | (intro j _; simp only [Nat.zero_add]; done) | (simp [appG]; done) | (simp [appG]; omega) | rfl)); (conv => whnf); exact True.intro))
        conv => whnf
        exact True.intro
      have hi : i ≤ 64 := hi
      have hnli : Nat.beq i 0 = true → i = 0 := fun h => by rw [Nat.beq_eq] at h; exact h
      repeat ((conv => whnf); (with_reducible refine And.intro ?_ ?_); · first | exact True.intro | (intro hg0; simp only [hg0, Bool.not_false, Bool.not_true]; done) | assumption | omega | (intro _; refine ⟨True.intro, ?_⟩; omega) | (intro _; refine ⟨?_, True.intro⟩; omega) | (intro _; refine ⟨decide_eq_true ?_, ?_⟩ <;> omega) | (intro _; refine ⟨?_, ?_⟩ <;> first | omega | (simp [appG, Cd.holds]; done) | (simp [appG, Cd.holds]; omega)) | (refine decide_eq_true ?_; omega) | (intro _; omega) | (simp only [w_i64, w_u64, w_u32, w_u8]; omega) | exact ⟨U_nonneg _, U_lt32 _⟩ | exact R8_UL _ _ | exact R32_UL _ _ | (intro hg0; (repeat ((conv => whnf); (with_reducible refine And.intro ?_ ?_); · first | assumption | omega | (intro _; refine ⟨?_, ?_⟩ <;> first | assumption | omega | exact True.intro | (refine decide_eq_true ?_; omega) | (simp [appG, Cd.holds]; omega)) | (intro _; refine ⟨And.intro ?_ ?_, ?_⟩ <;> first | assumption | omega | (refine decide_eq_true ?_; omega)) | (simp only [hg0, Bool.and_self, Bool.true_and]; done) | (intro hg1; simp only [hg0, hg1, Bool.and_self, Bool.true_and]; done) | (simp [hg0]; done))); (conv => whnf); exact True.intro))
      conv => whnf
      refine ⟨fun h3 => ?_, fun h3 => ?_⟩
      · replace h3 := of_decide_eq_true h3
        repeat ((conv => whnf); (with_reducible refine And.intro ?_ ?_); · first | exact True.intro | (intro hg0; simp only [hg0, Bool.not_false, Bool.not_true]; done) | assumption | omega | (intro _; refine ⟨True.intro, ?_⟩; omega) | (intro _; refine ⟨?_, True.intro⟩; omega) | (intro _; refine ⟨decide_eq_true ?_, ?_⟩ <;> omega) | (intro _; refine ⟨?_, ?_⟩ <;> first | omega | (simp [appG, Cd.holds]; done) | (simp [appG, Cd.holds]; omega)) | (refine decide_eq_true ?_; omega) | (intro _; omega) | (simp only [w_i64, w_u64, w_u32, w_u8]; omega) | exact ⟨U_nonneg _, U_lt32 _⟩ | exact R8_UL _ _ | exact R32_UL _ _ | (intro hg0; (repeat ((conv => whnf); (with_reducible refine And.intro ?_ ?_); · first | assumption | omega | (intro _; refine ⟨?_, ?_⟩ <;> first | assumption | omega | exact True.intro | (refine decide_eq_true ?_; omega) | (simp [appG, Cd.holds]; omega)) | (intro _; refine ⟨And.intro ?_ ?_, ?_⟩ <;> first | assumption | omega | (refine decide_eq_true ?_; omega)) | (simp only [hg0, Bool.and_self, Bool.true_and]; done) | (intro hg1; simp only [hg0, hg1, Bool.and_self, Bool.true_and]; done) | (simp [hg0]; done))); (conv => whnf); exact True.intro))
        conv => whnf
        refine ⟨[(0, ⟨0, some 30, []⟩), (1, ⟨0, some 31, []⟩), (2, ⟨0, some 32, []⟩), (3, ⟨6, some 33, []⟩), (4, ⟨14, some 34, []⟩), (5, ⟨30, some 35, []⟩), (6, ⟨62, some 36, [100]⟩), (7, ⟨127, some 37, [116, 2]⟩), (8, ⟨0, some 38, []⟩), (9, ⟨0, some 39, []⟩), (10, ⟨0, some 40, []⟩), (11, ⟨1536, some 41, []⟩), (12, ⟨3584, some 42, []⟩), (13, ⟨7680, some 43, []⟩), (14, ⟨15872, some 44, [228]⟩), (15, ⟨32767, some 45, [244, 3]⟩), (16, ⟨65535, some 7, []⟩), (17, ⟨131071, some 8, []⟩)], 292, ?_⟩
        repeat ((conv => whnf); (with_reducible refine And.intro ?_ ?_); · first | exact True.intro | (intro hg0; simp only [hg0, Bool.not_false, Bool.not_true]; done) | assumption | omega | (intro _; refine ⟨True.intro, ?_⟩; omega) | (intro _; refine ⟨?_, True.intro⟩; omega) | (intro _; refine ⟨decide_eq_true ?_, ?_⟩ <;> omega) | (intro _; refine ⟨?_, ?_⟩ <;> first | omega | (simp [appG, Cd.holds]; done) | (simp [appG, Cd.holds]; omega)) | (refine decide_eq_true ?_; omega) | (intro _; omega) | (simp only [w_i64, w_u64, w_u32, w_u8]; omega) | exact ⟨U_nonneg _, U_lt32 _⟩ | exact R8_UL _ _ | exact R32_UL _ _ | (intro hg0; (repeat ((conv => whnf); (with_reducible refine And.intro ?_ ?_); · first | assumption | omega | (intro _; refine ⟨?_, ?_⟩ <;> first | assumption | omega | exact True.intro | (refine decide_eq_true ?_; omega) | (simp [appG, Cd.holds]; omega)) | (intro _; refine ⟨And.intro ?_ ?_, ?_⟩ <;> first | assumption | omega | (refine decide_eq_true ?_; omega)) | (simp only [hg0, Bool.and_self, Bool.true_and]; done) | (intro hg1; simp only [hg0, hg1, Bool.and_self, Bool.true_and]; done) | (simp [hg0]; done))); (conv => whnf); exact True.intro))
        conv => whnf
        refine ⟨i + 1, ⟨by show i + 1 ≤ 64; omega, by show 64 - (i + 1) < 64 - i; omega⟩, le_of [(2, 116), (3, 244)] ?_⟩
        simp only [tur_succ (show i < B.length by omega), Int.toNat_natCast, Nat.zero_add]
        repeat ((conv => whnf); (with_reducible refine And.intro ?_ ?_); · first | with_reducible rfl | exact (Bool.and_false _).symm | (intro _ _; with_reducible rfl) | exact True.intro | assumption | (intro h; exact absurd h (by decide)) | omega | (intro _; omega) | (intro _; refine ⟨?_, True.intro⟩; omega) | (intro _; refine ⟨?_, True.intro⟩; intro _; omega) | (refine decide_eq_false ?_; omega) | (refine decide_eq_true ?_; omega) | (simp only [w_i64, w_u64, w_u32, w_u8]; omega) | exact fun j hj => (put_0 hj).symm | (intro j _; simp only [Nat.zero_add]; done) | (simp [appG]; done) | (simp [appG]; omega) | exact app1 (tur_length (by omega)).symm (xor8 (B.getD i 0) 0x36) | exact app1 (tur_length (by omega)).symm (xor8 (B.getD i 0) 0x5c) | rfl | (intro hgd; (try replace hgd := of_decide_eq_true hgd); (repeat ((conv => whnf); (with_reducible refine And.intro ?_ ?_); · first | with_reducible rfl | exact (Bool.and_false _).symm | (intro _ _; with_reducible rfl) | exact True.intro | assumption | (intro h; exact absurd h (by decide)) | omega | (intro _; omega) | (intro _; refine ⟨?_, True.intro⟩; omega) | (intro _; refine ⟨?_, True.intro⟩; intro _; omega) | (refine decide_eq_false ?_; omega) | (refine decide_eq_true ?_; omega) | (simp only [w_i64, w_u64, w_u32, w_u8]; omega) | exact fun j hj => (put_0 hj).symm | (intro j _; simp only [Nat.zero_add]; done) | (simp [appG]; done) | (simp [appG]; omega) | exact app1 (tur_length (by omega)).symm (xor8 (B.getD i 0) 0x36) | exact app1 (tur_length (by omega)).symm (xor8 (B.getD i 0) 0x5c) | rfl)); (conv => whnf); exact True.intro))
        conv => whnf
        exact True.intro
      · replace h3 := of_decide_eq_false h3
        have hi64 : i = 64 := by omega
        subst hi64
        simp only [ht1, ht2]
        have hc1 : L8 (fun j => put_ (UL (kturn (L8 g n0) 0x36)) 64 m h (0 + j)) (64 + m) = kturn (L8 g n0) 0x36 ++ L8 h m := by
          simp only [Nat.zero_add]; exact L8_cat (kturn_length _ _).symm
        have hc2 : ∀ s : List B8, s.length = 32 → L8 (fun j => put_ (UL (kturn (L8 g n0) 0x5c)) 64 (32 - Int.toNat 0) (fun j => UL s (Int.toNat 0 + j)) (0 + j)) (64 + (32 - Int.toNat 0)) = kturn (L8 g n0) 0x5c ++ s := fun s hs => by
          simp only [Nat.zero_add]; exact (L8_cat (kturn_length _ _).symm).trans (congrArg (kturn (L8 g n0) 0x5c ++ ·) (L8_z (n := 32) hs.symm))
        repeat ((conv => whnf); (with_reducible refine And.intro ?_ ?_); · first | exact True.intro | (intro hg0; simp only [hg0, Bool.not_false, Bool.not_true]; done) | assumption | omega | (intro _; refine ⟨True.intro, ?_⟩; omega) | (intro _; refine ⟨?_, True.intro⟩; omega) | (intro _; refine ⟨decide_eq_true ?_, ?_⟩ <;> omega) | (intro _; refine ⟨?_, ?_⟩ <;> first | omega | (simp [appG, Cd.holds]; done) | (simp [appG, Cd.holds]; omega)) | (refine decide_eq_true ?_; omega) | (intro _; omega) | (simp only [w_i64, w_u64, w_u32, w_u8]; omega) | exact ⟨U_nonneg _, U_lt32 _⟩ | exact R8_UL _ _ | exact R32_UL _ _ | (intro hg0; (repeat ((conv => whnf); (with_reducible refine And.intro ?_ ?_); · first | assumption | omega | (intro _; refine ⟨?_, ?_⟩ <;> first | assumption | omega | exact True.intro | (refine decide_eq_true ?_; omega) | (simp [appG, Cd.holds]; omega)) | (intro _; refine ⟨And.intro ?_ ?_, ?_⟩ <;> first | assumption | omega | (refine decide_eq_true ?_; omega)) | (simp only [hg0, Bool.and_self, Bool.true_and]; done) | (intro hg1; simp only [hg0, hg1, Bool.and_self, Bool.true_and]; done) | (simp [hg0]; done) | exact R8_put0 (R8_UL _ _) hh | exact R8_put0 (R8_UL _ _) (R8_at _ _ _))); (conv => whnf); exact True.intro) | exact R8_put0 (R8_UL _ _) hh | exact R8_put0 (R8_UL _ _) (R8_at _ _ _))
        conv => whnf
        refine ⟨[], ?_⟩
        simp only [hc1, hc2 _ (sha_length _)]
        repeat ((conv => whnf); (with_reducible refine And.intro ?_ ?_); · first | with_reducible rfl | exact (Bool.and_false _).symm | (intro _ _; with_reducible rfl) | exact True.intro | assumption | (intro h; exact absurd h (by decide)) | omega | (intro _; omega) | (intro _; refine ⟨?_, True.intro⟩; omega) | (intro _; refine ⟨?_, True.intro⟩; intro _; omega) | (refine decide_eq_false ?_; omega) | (refine decide_eq_true ?_; omega) | (simp only [w_i64, w_u64, w_u32, w_u8]; omega) | exact fun j hj => (put_0 hj).symm | (intro j _; simp only [Nat.zero_add]; done) | (simp [appG]; done) | (simp [appG]; omega) | exact fun j _ => rfl | (intro hgd; (try replace hgd := of_decide_eq_true hgd); (repeat ((conv => whnf); (with_reducible refine And.intro ?_ ?_); · first | with_reducible rfl | exact (Bool.and_false _).symm | (intro _ _; with_reducible rfl) | exact True.intro | assumption | (intro h; exact absurd h (by decide)) | omega | (intro _; omega) | (intro _; refine ⟨?_, True.intro⟩; omega) | (intro _; refine ⟨?_, True.intro⟩; intro _; omega) | (refine decide_eq_false ?_; omega) | (refine decide_eq_true ?_; omega) | (simp only [w_i64, w_u64, w_u32, w_u8]; omega) | exact fun j hj => (put_0 hj).symm | (intro j _; simp only [Nat.zero_add]; done) | (simp [appG]; done) | (simp [appG]; omega) | exact fun j _ => rfl)); (conv => whnf); exact True.intro))
        conv => whnf
        exact True.intro
end Go.Proofs.Ytogijkmflhjhkaa

/- Functions through the evaluator: the document's HKDF. No condition. -/
namespace Go.Proofs.Ytogijkmflhjhkaa
open Go.Sx Go.RowKit
set_option linter.unusedSimpArgs false
set_option maxRecDepth 100000
set_option linter.unusedVariables false

theorem cok16 : COk Try.prog (tab [(39, rhmacS)]) := cok_cons rhmacS_ok cok_nil
/-- indentureref1.Extract. -/
def rextractS : Summary := mkS false [.r .u8, .r .u8] fun
  | [.r nl g n, .r nl2 h m] => some ⟨.and (.p (R8 g n)) (.and (.p (n ≤ 900000)) (.and (.p (R8 h m)) (.p (m ≤ 800000)))), some (.sa (.agg [.ints .u8 (UL (hmac (L8 g n) (L8 h m))) 32])), [], 0⟩
  | _ => none
theorem rextractS_ok : SumOk Try.prog 43 rextractS := by
  unfold rextractS
  apply sum_ok
  intro vs A H n o r hb h
  split at h
  rotate_left
  · cases h
  rename_i nl g n0 nl2 h m
  injection h with h
  subst h
  cases hb
  refine fsound_of_run tt_ok cok16 mixed_ok Try.call43 Try.func43 rfl (rs := _) Try.results43 (size := 8) Try.ntmps43 (Nat.le_of_ble_eq_true rfl) rfl fun hp hfa hfh => ?_
  obtain ⟨hg, hn, hh, hm⟩ := hp
  have hg : R8 g n0 := hg
  have hn : n0 ≤ 900000 := hn
  have hh : R8 h m := hh
  have hm : m ≤ 800000 := hm
  repeat ((conv => whnf); (with_reducible refine And.intro ?_ ?_); · first | exact True.intro | (intro hg0; simp only [hg0, Bool.not_false, Bool.not_true]; done) | assumption | omega | (intro _; refine ⟨True.intro, ?_⟩; omega) | (intro _; refine ⟨?_, True.intro⟩; omega) | (intro _; refine ⟨decide_eq_true ?_, ?_⟩ <;> omega) | (intro _; refine ⟨?_, ?_⟩ <;> first | omega | (simp [appG, Cd.holds]; done) | (simp [appG, Cd.holds]; omega)) | (refine decide_eq_true ?_; omega) | (intro _; omega) | (simp only [w_i64, w_u64, w_u32, w_u8]; omega) | exact ⟨U_nonneg _, U_lt32 _⟩ | exact R8_UL _ _ | exact R32_UL _ _ | (intro hg0; (repeat ((conv => whnf); (with_reducible refine And.intro ?_ ?_); · first | assumption | omega | (intro _; refine ⟨?_, ?_⟩ <;> first | assumption | omega | exact True.intro | (refine decide_eq_true ?_; omega) | (simp [appG, Cd.holds]; omega)) | (intro _; refine ⟨And.intro ?_ ?_, ?_⟩ <;> first | assumption | omega | (refine decide_eq_true ?_; omega)) | (simp only [hg0, Bool.and_self, Bool.true_and]; done) | (intro hg1; simp only [hg0, hg1, Bool.and_self, Bool.true_and]; done) | (simp [hg0]; done))); (conv => whnf); exact True.intro))
  conv => whnf
  refine ⟨[], ?_⟩
  repeat ((conv => whnf); (with_reducible refine And.intro ?_ ?_); · first | with_reducible rfl | exact (Bool.and_false _).symm | (intro _ _; with_reducible rfl) | exact True.intro | assumption | (intro h; exact absurd h (by decide)) | omega | (intro _; omega) | (intro _; refine ⟨?_, True.intro⟩; omega) | (intro _; refine ⟨?_, True.intro⟩; intro _; omega) | (refine decide_eq_false ?_; omega) | (refine decide_eq_true ?_; omega) | (simp only [w_i64, w_u64, w_u32, w_u8]; omega) | exact fun j hj => (put_0 hj).symm | (intro j _; simp only [Nat.zero_add]; done) | (simp [appG]; done) | (simp [appG]; omega) | (intro hgd; (try replace hgd := of_decide_eq_true hgd); (repeat ((conv => whnf); (with_reducible refine And.intro ?_ ?_); · first | with_reducible rfl | exact (Bool.and_false _).symm | (intro _ _; with_reducible rfl) | exact True.intro | assumption | (intro h; exact absurd h (by decide)) | omega | (intro _; omega) | (intro _; refine ⟨?_, True.intro⟩; omega) | (intro _; refine ⟨?_, True.intro⟩; intro _; omega) | (refine decide_eq_false ?_; omega) | (refine decide_eq_true ?_; omega) | (simp only [w_i64, w_u64, w_u32, w_u8]; omega) | exact fun j hj => (put_0 hj).symm | (intro j _; simp only [Nat.zero_add]; done) | (simp [appG]; done) | (simp [appG]; omega))); (conv => whnf); exact True.intro))
  conv => whnf
  exact True.intro

/-- How long the last block is. -/
def lastN (i : Nat) : Nat := (hkT [] [] i).length
theorem hkT_len (k f : List B8) (i : Nat) : (hkT k f i).length = lastN i := by
  cases i with
  | zero => rfl
  | succ i => rw [hkT_length, lastN, hkT_length]
theorem lastN_le (i : Nat) : lastN i ≤ 32 := by
  cases i with
  | zero => exact Nat.zero_le _
  | succ i => rw [lastN, hkT_length]; omega
theorem lastN_succ (i : Nat) : lastN (i + 1) = 32 := hkT_length _ _ _
theorem R8_0 (n : Nat) : R8 (fun _ => 0) n := fun j _ => ⟨Int.le_refl 0, by show (0 : Int) < 256; omega⟩
theorem cat3L {T : List B8} {a m : Nat} {h : Nat → Int} {x : Int} (ha : a = T.length) :
    L8 (fun j => put_ (put_ (put_ (fun _ => 0) 0 a (fun j => UL T (0 + j))) (0 + a) m h) (0 + a + m) 1 (fun j => listI [x].reverse (0 + j)) (0 + j)) (0 + a + m + 1) = T ++ L8 h m ++ [BitVec.ofInt 8 x] := by
  simp only [Nat.zero_add]
  have e1 : L8 (put_ (fun _ => 0) 0 a (UL T)) a = T := (L8_congr fun j hj => put_0 hj).trans (L8_UL' ha)
  show L8 (put_ (put_ (put_ (fun _ => 0) 0 a (UL T)) a m h) (a + m) 1 (listI [x].reverse)) (a + m + 1) = _
  rw [L8_put, L8_put, e1]
  rfl
theorem R8_3c {T : List B8} {a m : Nat} {h : Nat → Int} {x : Int} (hh : R8 h m) (hx : 0 ≤ x ∧ x < 256) :
    R8 (fun j => put_ (put_ (put_ (fun _ => 0) 0 a (fun j => UL T (0 + j))) (0 + a) m h) (0 + a + m) 1 (fun j => listI [x].reverse (0 + j)) (0 + j)) (0 + a + m + 1) :=
  R8_put0 (R8_put (R8_put (R8_0 _) (R8_at _ _ _)) hh) (R8_b hx)
theorem u8_i (i : Nat) : BitVec.ofInt 8 (IntKind.u8.wrap ((i : Int) + 1)) = BitVec.ofNat 8 (i + 1) := by
  rw [show ((i : Int) + 1) = ((i + 1 : Nat) : Int) by omega, w8_cast, ofInt_toNat]
theorem u8_r (x : Int) : 0 ≤ IntKind.u8.wrap x ∧ IntKind.u8.wrap x < 256 := by rw [w_u8]; omega
theorem rnew {T : List B8} {h : Nat} (j : Nat) (hj : j < h) : UL T j = put_ (fun _ => 0) 0 h (fun j => UL T (0 + j)) j := by rw [put_0 hj, Nat.zero_add]
theorem rout {A T : List B8} {a b : Nat} (ha : a = A.length) (hb : b = T.length) (j : Nat) (hj : j < a + b) :
    UL (A ++ T) j = put_ (UL A) a (0 + b) (fun j => put_ (fun _ => 0) 0 b (fun j => UL T (0 + j)) (0 + j)) j := by
  rw [out_app ha hb j hj]
  unfold put_
  rw [Nat.zero_add]
  split
  · simp only [Nat.zero_add, Nat.sub_zero]
    rw [if_pos (by omega)]
  · rfl
/-- indentureref1.Expand. -/
def rexpandS : Summary := mkS false [.r .u8, .r .u8, .v] fun
  | [.r nl g n, .r nl2 h m, .v (.sc (.int .i64 N))] => some ⟨.and (.p (R8 g n)) (.and (.p (n ≤ 100000)) (.and (.p (R8 h m)) (.and (.p (m ≤ 100000)) (.p (-9223372036854775808 ≤ N ∧ N ≤ 9223372036854775807))))),
      some (.sa (.sc (.sl (xNil N) false false 0 0 0 (xLen N) (xLen N)))), [(0, .gd (decide (0 < xLen N)) (.own 5 [.ints .u8 (UL (hkO (L8 g n) (L8 h m) 255)) (xLen N)] true))], 1⟩
  | _ => none
theorem rexpandS_ok : SumOk Try.prog 44 rexpandS := by
  unfold rexpandS
  apply sum_ok
  intro vs A H n o r hb h
  split at h
  rotate_left
  · cases h
  rename_i nl g n0 nl2 h m N
  injection h with h
  subst h
  cases hb
  refine fsound_of_run tt_ok cok16 mixed_ok Try.call44 Try.func44 rfl (rs := _) Try.results44 (size := 41) Try.ntmps44 (Nat.le_of_ble_eq_true rfl) rfl fun hp hfa hfh => ?_
  obtain ⟨hg, hn, hh, hm, hN⟩ := hp
  have hg : R8 g n0 := hg
  have hn : n0 ≤ 100000 := hn
  have hh : R8 h m := hh
  have hm : m ≤ 100000 := hm
  repeat ((conv => whnf); (with_reducible refine And.intro ?_ ?_); · first | exact True.intro | (intro hg0; simp only [hg0, Bool.not_false, Bool.not_true]; done) | assumption | omega | (intro _; refine ⟨True.intro, ?_⟩; omega) | (intro _; refine ⟨?_, True.intro⟩; omega) | (intro _; refine ⟨decide_eq_true ?_, ?_⟩ <;> omega) | (intro _; refine ⟨?_, ?_⟩ <;> first | omega | (simp [appG, Cd.holds]; done) | (simp [appG, Cd.holds]; omega)) | (refine decide_eq_true ?_; omega) | (intro _; omega) | (simp only [w_i64, w_u64, w_u32, w_u8]; omega) | exact ⟨U_nonneg _, U_lt32 _⟩ | exact R8_UL _ _ | exact R32_UL _ _ | (intro hg0; (repeat ((conv => whnf); (with_reducible refine And.intro ?_ ?_); · first | assumption | omega | (intro _; refine ⟨?_, ?_⟩ <;> first | assumption | omega | exact True.intro | (refine decide_eq_true ?_; omega) | (simp [appG, Cd.holds]; omega)) | (intro _; refine ⟨And.intro ?_ ?_, ?_⟩ <;> first | assumption | omega | (refine decide_eq_true ?_; omega)) | (simp only [hg0, Bool.and_self, Bool.true_and]; done) | (intro hg1; simp only [hg0, hg1, Bool.and_self, Bool.true_and]; done) | (simp [hg0]; done))); (conv => whnf); exact True.intro))
  conv => whnf
  refine ⟨fun h1 => ?_, fun h1 => ?_⟩
  · have hx : N < 1 ∨ 8160 < N := by
      cases hq : decide (N < 1) with
      | true => exact .inl (of_decide_eq_true hq)
      | false => rw [hq] at h1; exact .inr (of_decide_eq_true h1)
    have e1 : xNil N = true := decide_eq_true hx
    have e2 : xLen N = 0 := if_pos hx
    repeat ((conv => whnf); (with_reducible refine And.intro ?_ ?_); · first | exact True.intro | (intro hg0; simp only [hg0, Bool.not_false, Bool.not_true]; done) | assumption | omega | (intro _; refine ⟨True.intro, ?_⟩; omega) | (intro _; refine ⟨?_, True.intro⟩; omega) | (intro _; refine ⟨decide_eq_true ?_, ?_⟩ <;> omega) | (intro _; refine ⟨?_, ?_⟩ <;> first | omega | (simp [appG, Cd.holds]; done) | (simp [appG, Cd.holds]; omega)) | (refine decide_eq_true ?_; omega) | (intro _; omega) | (simp only [w_i64, w_u64, w_u32, w_u8]; omega) | exact ⟨U_nonneg _, U_lt32 _⟩ | exact R8_UL _ _ | exact R32_UL _ _ | (intro hg0; (repeat ((conv => whnf); (with_reducible refine And.intro ?_ ?_); · first | assumption | omega | (intro _; refine ⟨?_, ?_⟩ <;> first | assumption | omega | exact True.intro | (refine decide_eq_true ?_; omega) | (simp [appG, Cd.holds]; omega)) | (intro _; refine ⟨And.intro ?_ ?_, ?_⟩ <;> first | assumption | omega | (refine decide_eq_true ?_; omega)) | (simp only [hg0, Bool.and_self, Bool.true_and]; done) | (intro hg1; simp only [hg0, hg1, Bool.and_self, Bool.true_and]; done) | (simp [hg0]; done))); (conv => whnf); exact True.intro))
    conv => whnf
    refine ⟨[], ?_⟩
    simp only [e1, e2]
    repeat ((conv => whnf); (with_reducible refine And.intro ?_ ?_); · first | with_reducible rfl | exact (Bool.and_false _).symm | (intro _ _; with_reducible rfl) | exact True.intro | assumption | (intro h; exact absurd h (by decide)) | omega | (intro _; omega) | (intro _; refine ⟨?_, True.intro⟩; omega) | (intro _; refine ⟨?_, True.intro⟩; intro _; omega) | (refine decide_eq_false ?_; omega) | (refine decide_eq_true ?_; omega) | (simp only [w_i64, w_u64, w_u32, w_u8]; omega) | exact fun j hj => (put_0 hj).symm | (intro j _; simp only [Nat.zero_add]; done) | (simp [appG]; done) | (simp [appG]; omega) | (intro hgd; (try replace hgd := of_decide_eq_true hgd); (repeat ((conv => whnf); (with_reducible refine And.intro ?_ ?_); · first | with_reducible rfl | exact (Bool.and_false _).symm | (intro _ _; with_reducible rfl) | exact True.intro | assumption | (intro h; exact absurd h (by decide)) | omega | (intro _; omega) | (intro _; refine ⟨?_, True.intro⟩; omega) | (intro _; refine ⟨?_, True.intro⟩; intro _; omega) | (refine decide_eq_false ?_; omega) | (refine decide_eq_true ?_; omega) | (simp only [w_i64, w_u64, w_u32, w_u8]; omega) | exact fun j hj => (put_0 hj).symm | (intro j _; simp only [Nat.zero_add]; done) | (simp [appG]; done) | (simp [appG]; omega))); (conv => whnf); exact True.intro))
    conv => whnf
    exact True.intro
  · have hx : ¬ (N < 1 ∨ 8160 < N) := by
      cases hq : decide (N < 1) with
      | true => rw [hq] at h1; cases h1
      | false =>
        rw [hq] at h1
        have q1 := of_decide_eq_false hq
        have q2 : ¬ N > 8160 := of_decide_eq_false h1
        omega
    have e1 : xNil N = false := decide_eq_false hx
    have e2 : xLen N = N.toNat := if_neg hx
    clear h1
    repeat ((conv => whnf); (with_reducible refine And.intro ?_ ?_); · first | exact True.intro | (intro hg0; simp only [hg0, Bool.not_false, Bool.not_true]; done) | assumption | omega | (intro _; refine ⟨True.intro, ?_⟩; omega) | (intro _; refine ⟨?_, True.intro⟩; omega) | (intro _; refine ⟨decide_eq_true ?_, ?_⟩ <;> omega) | (intro _; refine ⟨?_, ?_⟩ <;> first | omega | (simp [appG, Cd.holds]; done) | (simp [appG, Cd.holds]; omega)) | (refine decide_eq_true ?_; omega) | (intro _; omega) | (simp only [w_i64, w_u64, w_u32, w_u8]; omega) | exact ⟨U_nonneg _, U_lt32 _⟩ | exact R8_UL _ _ | exact R32_UL _ _ | (intro hg0; (repeat ((conv => whnf); (with_reducible refine And.intro ?_ ?_); · first | assumption | omega | (intro _; refine ⟨?_, ?_⟩ <;> first | assumption | omega | exact True.intro | (refine decide_eq_true ?_; omega) | (simp [appG, Cd.holds]; omega)) | (intro _; refine ⟨And.intro ?_ ?_, ?_⟩ <;> first | assumption | omega | (refine decide_eq_true ?_; omega)) | (simp only [hg0, Bool.and_self, Bool.true_and]; done) | (intro hg1; simp only [hg0, hg1, Bool.and_self, Bool.true_and]; done) | (simp [hg0]; done))); (conv => whnf); exact True.intro))
    conv => whnf
    refine ⟨0, Nat, fun i => ⟨41, [(0, .sa (.sc (.im nl .u8 g n0))), (1, .sa (.sc (.im nl2 .u8 h m))), (2, .sa (.sc (.int .i64 N))), (7, .sa (.sc (ownA (Nat.beq i 0) (32 * i) 0))), (8, .sa (.sc (ownA (Nat.beq i 0) (lastN i) 1))), (9, .sa (.sc (.int .i64 (i + 1))))],
      [(0, ownB 5 .u8 (UL (hkO (L8 g n0) (L8 h m) i)) (32 * i)), (1, ownB 5 .u8 (UL (hkT (L8 g n0) (L8 h m) i)) (lastN i))], 2⟩, fun i => (32 * i : Int) < N + 32, fun i => 255 - i, ⟨0, by show (32 * ((0 : Nat) : Int)) < N + 32; omega, le_of [] ?_⟩, fun i hi => ?_⟩
    · simp only [show lastN 0 = 0 from rfl]
      repeat ((conv => whnf); (with_reducible refine And.intro ?_ ?_); · first | with_reducible rfl | exact (Bool.and_false _).symm | (intro _ _; with_reducible rfl) | exact True.intro | assumption | (intro h; exact absurd h (by decide)) | omega | (intro _; omega) | (intro _; refine ⟨?_, True.intro⟩; omega) | (intro _; refine ⟨?_, True.intro⟩; intro _; omega) | (refine decide_eq_false ?_; omega) | (refine decide_eq_true ?_; omega) | (simp only [w_i64, w_u64, w_u32, w_u8]; omega) | exact fun j hj => (put_0 hj).symm | (intro j _; simp only [Nat.zero_add]; done) | (simp [appG]; done) | (simp [appG]; omega) | rfl | (intro hgd; (try replace hgd := of_decide_eq_true hgd); (repeat ((conv => whnf); (with_reducible refine And.intro ?_ ?_); · first | with_reducible rfl | exact (Bool.and_false _).symm | (intro _ _; with_reducible rfl) | exact True.intro | assumption | (intro h; exact absurd h (by decide)) | omega | (intro _; omega) | (intro _; refine ⟨?_, True.intro⟩; omega) | (intro _; refine ⟨?_, True.intro⟩; intro _; omega) | (refine decide_eq_false ?_; omega) | (refine decide_eq_true ?_; omega) | (simp only [w_i64, w_u64, w_u32, w_u8]; omega) | exact fun j hj => (put_0 hj).symm | (intro j _; simp only [Nat.zero_add]; done) | (simp [appG]; done) | (simp [appG]; omega) | rfl)); (conv => whnf); exact True.intro))
      conv => whnf
      exact True.intro
    have hi : (32 * i : Int) < N + 32 := hi
    have hl32 := lastN_le i
    have hnli : Nat.beq i 0 = true → i = 0 := fun h => by rw [Nat.beq_eq] at h; exact h
    have hnll : Nat.beq i 0 = true → lastN i = 0 := fun h => by rw [hnli h]; rfl
    have hnlo : Nat.beq i 0 = true → 32 * i = 0 := fun h => by rw [hnli h]
    repeat ((conv => whnf); (with_reducible refine And.intro ?_ ?_); · first | exact True.intro | (intro hg0; simp only [hg0, Bool.not_false, Bool.not_true]; done) | assumption | omega | (intro _; refine ⟨True.intro, ?_⟩; omega) | (intro _; refine ⟨?_, True.intro⟩; omega) | (intro _; refine ⟨decide_eq_true ?_, ?_⟩ <;> omega) | (intro _; refine ⟨?_, ?_⟩ <;> first | omega | (simp [appG, Cd.holds]; done) | (simp [appG, Cd.holds]; omega)) | (refine decide_eq_true ?_; omega) | (intro _; omega) | (simp only [w_i64, w_u64, w_u32, w_u8]; omega) | exact ⟨U_nonneg _, U_lt32 _⟩ | exact R8_UL _ _ | exact R32_UL _ _ | (intro hg0; (repeat ((conv => whnf); (with_reducible refine And.intro ?_ ?_); · first | assumption | omega | (intro _; refine ⟨?_, ?_⟩ <;> first | assumption | omega | exact True.intro | (refine decide_eq_true ?_; omega) | (simp [appG, Cd.holds]; omega)) | (intro _; refine ⟨And.intro ?_ ?_, ?_⟩ <;> first | assumption | omega | (refine decide_eq_true ?_; omega)) | (simp only [hg0, Bool.and_self, Bool.true_and]; done) | (intro hg1; simp only [hg0, hg1, Bool.and_self, Bool.true_and]; done) | (simp [hg0]; done))); (conv => whnf); exact True.intro))
    conv => whnf
    refine ⟨fun h3 => ?_, fun h3 => ?_⟩
    · replace h3 := of_decide_eq_true h3
      have hi3 : i ≤ 254 := by omega
      repeat ((conv => whnf); (with_reducible refine And.intro ?_ ?_); · first | exact True.intro | (intro hg0; simp only [hg0, Bool.not_false, Bool.not_true]; done) | assumption | omega | (intro _; refine ⟨True.intro, ?_⟩; omega) | (intro _; refine ⟨?_, True.intro⟩; omega) | (intro _; refine ⟨decide_eq_true ?_, ?_⟩ <;> omega) | (intro _; refine ⟨?_, ?_⟩ <;> first | omega | (simp [appG, Cd.holds]; done) | (simp [appG, Cd.holds]; omega)) | (refine decide_eq_true ?_; omega) | (intro _; omega) | (simp only [w_i64, w_u64, w_u32, w_u8]; omega) | exact ⟨U_nonneg _, U_lt32 _⟩ | exact R8_UL _ _ | exact R32_UL _ _ | (intro hg0; (repeat ((conv => whnf); (with_reducible refine And.intro ?_ ?_); · first | assumption | omega | (intro _; refine ⟨?_, ?_⟩ <;> first | assumption | omega | exact True.intro | (refine decide_eq_true ?_; omega) | (simp [appG, Cd.holds]; omega)) | (intro _; refine ⟨And.intro ?_ ?_, ?_⟩ <;> first | assumption | omega | (refine decide_eq_true ?_; omega)) | (simp only [hg0, Bool.and_self, Bool.true_and]; done) | (intro hg1; simp only [hg0, hg1, Bool.and_self, Bool.true_and]; done) | (simp [hg0]; done) | exact R8_3c hh (u8_r _))); (conv => whnf); exact True.intro) | exact R8_3c hh (u8_r _))
      conv => whnf
      refine ⟨i + 1, ⟨by show (32 * ((i + 1 : Nat) : Int)) < N + 32; omega, by show 255 - (i + 1) < 255 - i; omega⟩, le_of [(0, 8), (1, 7)] ?_⟩
      simp only [cat3L (hkT_len (L8 g n0) (L8 h m) i).symm, u8_i, lastN_succ]
      repeat ((conv => whnf); (with_reducible refine And.intro ?_ ?_); · first | with_reducible rfl | exact (Bool.and_false _).symm | (intro _ _; with_reducible rfl) | exact True.intro | assumption | (intro h; exact absurd h (by decide)) | omega | (intro _; omega) | (intro _; refine ⟨?_, True.intro⟩; omega) | (intro _; refine ⟨?_, True.intro⟩; intro _; omega) | (refine decide_eq_false ?_; omega) | (refine decide_eq_true ?_; omega) | (simp only [w_i64, w_u64, w_u32, w_u8]; omega) | exact fun j hj => (put_0 hj).symm | (intro j _; simp only [Nat.zero_add]; done) | (simp [appG]; done) | (simp [appG]; omega) | exact fun j hj => rnew (h := 32) j hj | (intro j hj; exact rout (hkO_length _ _ _).symm (hkT_length _ _ _).symm j (by omega)) | (intro hgd; (try replace hgd := of_decide_eq_true hgd); (repeat ((conv => whnf); (with_reducible refine And.intro ?_ ?_); · first | with_reducible rfl | exact (Bool.and_false _).symm | (intro _ _; with_reducible rfl) | exact True.intro | assumption | (intro h; exact absurd h (by decide)) | omega | (intro _; omega) | (intro _; refine ⟨?_, True.intro⟩; omega) | (intro _; refine ⟨?_, True.intro⟩; intro _; omega) | (refine decide_eq_false ?_; omega) | (refine decide_eq_true ?_; omega) | (simp only [w_i64, w_u64, w_u32, w_u8]; omega) | exact fun j hj => (put_0 hj).symm | (intro j _; simp only [Nat.zero_add]; done) | (simp [appG]; done) | (simp [appG]; omega) | exact fun j hj => rnew (h := 32) j hj | (intro j hj; exact rout (hkO_length _ _ _).symm (hkT_length _ _ _).symm j (by omega)))); (conv => whnf); exact True.intro))
      conv => whnf
      exact True.intro
    · replace h3 := of_decide_eq_false h3
      repeat ((conv => whnf); (with_reducible refine And.intro ?_ ?_); · first | exact True.intro | (intro hg0; simp only [hg0, Bool.not_false, Bool.not_true]; done) | assumption | omega | (intro _; refine ⟨True.intro, ?_⟩; omega) | (intro _; refine ⟨?_, True.intro⟩; omega) | (intro _; refine ⟨decide_eq_true ?_, ?_⟩ <;> omega) | (intro _; refine ⟨?_, ?_⟩ <;> first | omega | (simp [appG, Cd.holds]; done) | (simp [appG, Cd.holds]; omega)) | (refine decide_eq_true ?_; omega) | (intro _; omega) | (simp only [w_i64, w_u64, w_u32, w_u8]; omega) | exact ⟨U_nonneg _, U_lt32 _⟩ | exact R8_UL _ _ | exact R32_UL _ _ | (intro hg0; (repeat ((conv => whnf); (with_reducible refine And.intro ?_ ?_); · first | assumption | omega | (intro _; refine ⟨?_, ?_⟩ <;> first | assumption | omega | exact True.intro | (refine decide_eq_true ?_; omega) | (simp [appG, Cd.holds]; omega)) | (intro _; refine ⟨And.intro ?_ ?_, ?_⟩ <;> first | assumption | omega | (refine decide_eq_true ?_; omega)) | (simp only [hg0, Bool.and_self, Bool.true_and]; done) | (intro hg1; simp only [hg0, hg1, Bool.and_self, Bool.true_and]; done) | (simp [hg0]; done))); (conv => whnf); exact True.intro))
      conv => whnf
      refine ⟨[], ?_⟩
      simp only [e1, e2]
      have hi255 : i ≤ 255 := by omega
      have hf := hkO_front (L8 g n0) (L8 h m) i 255 hi255
      have hcont : ∀ j, j < N.toNat → UL (hkO (L8 g n0) (L8 h m) 255) j = UL (hkO (L8 g n0) (L8 h m) i) j := fun j hj => by
        rw [← hf, UL_take (by omega)]
      have hi0 : Nat.beq i 0 = false := by cases i with
        | zero => omega
        | succ i => rfl
      repeat ((conv => whnf); (with_reducible refine And.intro ?_ ?_); · first | with_reducible rfl | exact (Bool.and_false _).symm | (intro _ _; with_reducible rfl) | exact True.intro | assumption | (intro h; exact absurd h (by decide)) | omega | (intro _; omega) | (intro _; refine ⟨?_, True.intro⟩; omega) | (intro _; refine ⟨?_, True.intro⟩; intro _; omega) | (refine decide_eq_false ?_; omega) | (refine decide_eq_true ?_; omega) | (simp only [w_i64, w_u64, w_u32, w_u8]; omega) | exact fun j hj => (put_0 hj).symm | (intro j _; simp only [Nat.zero_add]; done) | (simp [appG]; done) | (simp [appG]; omega) | exact hcont | exact hi0.symm | (intro hgd; (try replace hgd := of_decide_eq_true hgd); (repeat ((conv => whnf); (with_reducible refine And.intro ?_ ?_); · first | with_reducible rfl | exact (Bool.and_false _).symm | (intro _ _; with_reducible rfl) | exact True.intro | assumption | (intro h; exact absurd h (by decide)) | omega | (intro _; omega) | (intro _; refine ⟨?_, True.intro⟩; omega) | (intro _; refine ⟨?_, True.intro⟩; intro _; omega) | (refine decide_eq_false ?_; omega) | (refine decide_eq_true ?_; omega) | (simp only [w_i64, w_u64, w_u32, w_u8]; omega) | exact fun j hj => (put_0 hj).symm | (intro j _; simp only [Nat.zero_add]; done) | (simp [appG]; done) | (simp [appG]; omega) | exact hcont | exact hi0.symm)); (conv => whnf); exact True.intro))
      conv => whnf
      exact True.intro
end Go.Proofs.Ytogijkmflhjhkaa

/- The laws of sha, through the evaluator. No condition. -/
namespace Go.Proofs.Ytogijkmflhjhkaa
open Go.Sx Go.RowKit
set_option linter.unusedSimpArgs false
set_option maxRecDepth 100000
set_option linter.unusedVariables false

theorem cokL3 : COk Try.prog (tab [(30, yesS), (31, shortS), (32, newS), (33, writeS), (34, sumS), (35, rsumS), (36, copyS), (37, sumVS), (38, hmacS), (39, rhmacS), (40, expandS), (41, sameS), (42, extractS), (43, rextractS), (44, rexpandS)]) :=
  cok_cons yesS30_ok (cok_cons shortS_ok (cok_cons newS_ok (cok_cons (orS_ok writeS1_ok writeS0_ok) (cok_cons sumS_ok (cok_cons rsumS_ok (cok_cons (orS_ok copyS1_ok copyS0_ok) (cok_cons sumVS_ok (cok_cons hmacS_ok (cok_cons rhmacS_ok
    (cok_cons expandS_ok (cok_cons sameS_ok (cok_cons extractS_ok (cok_cons rextractS_ok (cok_cons rexpandS_ok cok_nil))))))))))))))
theorem shaNone_law : FCalls Try.prog 6 [] [] 0 isTrue := by
  refine fcalls_of_run tt_ok cokL3 mixed_ok Try.func6 rfl (rs := _) Try.results6 (size := 34) Try.ntmps6 (Nat.le_of_ble_eq_true rfl) rfl fun hp hfa hfh => ?_
  repeat ((conv => whnf); (with_reducible refine And.intro ?_ ?_); · first | exact True.intro | (intro hg0; simp only [hg0, Bool.not_false, Bool.not_true]; done) | assumption | omega | (intro _; refine ⟨True.intro, ?_⟩; omega) | (intro _; refine ⟨?_, True.intro⟩; omega) | (intro _; refine ⟨decide_eq_true ?_, ?_⟩ <;> omega) | (intro _; refine ⟨?_, ?_⟩ <;> first | omega | (simp [appG, Cd.holds]; done) | (simp [appG, Cd.holds]; omega)) | (refine decide_eq_true ?_; omega) | (intro _; omega) | (simp only [w_i64, w_u64, w_u32, w_u8]; omega) | exact ⟨U_nonneg _, U_lt32 _⟩ | exact R8_UL _ _ | exact R32_UL _ _ | (intro hg0; (repeat ((conv => whnf); (with_reducible refine And.intro ?_ ?_); · first | assumption | omega | (intro _; refine ⟨?_, ?_⟩ <;> first | assumption | omega | exact True.intro | (refine decide_eq_true ?_; omega) | (simp [appG, Cd.holds]; omega)) | (intro _; refine ⟨And.intro ?_ ?_, ?_⟩ <;> first | assumption | omega | (refine decide_eq_true ?_; omega)) | (simp only [hg0, Bool.and_self, Bool.true_and]; done) | (intro hg1; simp only [hg0, hg1, Bool.and_self, Bool.true_and]; done) | (simp [hg0]; done))); (conv => whnf); exact True.intro))
  conv => whnf
  with_reducible refine And.intro (Nat.zero_le _) ?_
  generalize hA : sha (cat (fun _ => ⟨true, fun _ => 0, 0⟩) 0) = A
  have a0 : UL A (Int.toNat 0) = 227 := by rw [← hA]; decide +kernel
  have a1 : UL A (Int.toNat 1) = 176 := by rw [← hA]; decide +kernel
  have a2 : UL A (Int.toNat 31) = 85 := by rw [← hA]; decide +kernel
  clear hA
  repeat ((conv => whnf); (with_reducible refine And.intro ?_ ?_); · first | exact True.intro | (intro hg0; simp only [hg0, Bool.not_false, Bool.not_true]; done) | assumption | omega | (intro _; refine ⟨True.intro, ?_⟩; omega) | (intro _; refine ⟨?_, True.intro⟩; omega) | (intro _; refine ⟨decide_eq_true ?_, ?_⟩ <;> omega) | (intro _; refine ⟨?_, ?_⟩ <;> first | omega | (simp [appG, Cd.holds]; done) | (simp [appG, Cd.holds]; omega)) | (refine decide_eq_true ?_; omega) | (intro _; omega) | (simp only [w_i64, w_u64, w_u32, w_u8]; omega) | exact ⟨U_nonneg _, U_lt32 _⟩ | exact R8_UL _ _ | exact R32_UL _ _ | (intro hg0; (repeat ((conv => whnf); (with_reducible refine And.intro ?_ ?_); · first | assumption | omega | (intro _; refine ⟨?_, ?_⟩ <;> first | assumption | omega | exact True.intro | (refine decide_eq_true ?_; omega) | (simp [appG, Cd.holds]; omega)) | (intro _; refine ⟨And.intro ?_ ?_, ?_⟩ <;> first | assumption | omega | (refine decide_eq_true ?_; omega)) | (simp only [hg0, Bool.and_self, Bool.true_and]; done) | (intro hg1; simp only [hg0, hg1, Bool.and_self, Bool.true_and]; done) | (simp [hg0]; done))); (conv => whnf); exact True.intro))
  conv => whnf
  refine ⟨[], ?_⟩
  repeat ((conv => whnf); (with_reducible refine And.intro ?_ ?_); · first | with_reducible rfl | exact (Bool.and_false _).symm | (intro _ _; with_reducible rfl) | exact True.intro | assumption | (intro h; exact absurd h (by decide)) | omega | (intro _; omega) | (intro _; refine ⟨?_, True.intro⟩; omega) | (intro _; refine ⟨?_, True.intro⟩; intro _; omega) | (refine decide_eq_false ?_; omega) | (refine decide_eq_true ?_; omega) | (simp only [w_i64, w_u64, w_u32, w_u8]; omega) | exact fun j hj => (put_0 hj).symm | (intro j _; simp only [Nat.zero_add]; done) | (simp [appG]; done) | (simp [appG]; omega) | (simp only [a0, a1, a2]; decide +kernel) | (intro hgd; (try replace hgd := of_decide_eq_true hgd); (repeat ((conv => whnf); (with_reducible refine And.intro ?_ ?_); · first | with_reducible rfl | exact (Bool.and_false _).symm | (intro _ _; with_reducible rfl) | exact True.intro | assumption | (intro h; exact absurd h (by decide)) | omega | (intro _; omega) | (intro _; refine ⟨?_, True.intro⟩; omega) | (intro _; refine ⟨?_, True.intro⟩; intro _; omega) | (refine decide_eq_false ?_; omega) | (refine decide_eq_true ?_; omega) | (simp only [w_i64, w_u64, w_u32, w_u8]; omega) | exact fun j hj => (put_0 hj).symm | (intro j _; simp only [Nat.zero_add]; done) | (simp [appG]; done) | (simp [appG]; omega) | (simp only [a0, a1, a2]; decide +kernel))); (conv => whnf); exact True.intro))
  conv => whnf
  exact True.intro

/-- The bytes of ShaLong. -/
def risB (x : Int) (j : Nat) : Int := IntKind.u8.wrap (x + IntKind.u8.wrap (j : Int))
theorem risB_R (x : Int) (n : Nat) : R8 (risB x) n := fun j _ => by unfold risB; rw [w_u8]; omega
theorem shaLong_law (n x cut : Int) (hn : -9223372036854775808 ≤ n ∧ n ≤ 9223372036854775807) (hx : 0 ≤ x ∧ x < 256) (hc : -9223372036854775808 ≤ cut ∧ cut ≤ 9223372036854775807) :
    FCalls Try.prog 4 [.sc (.int .i64 n), .sc (.int .u8 x), .sc (.int .i64 cut)] [] 0 isTrue := by
  refine fcalls_of_run tt_ok cokL3 mixed_ok Try.func4 rfl (rs := _) Try.results4 (size := 53) Try.ntmps4 (Nat.le_of_ble_eq_true rfl) rfl fun hp hfa hfh => ?_
  repeat ((conv => whnf); (with_reducible refine And.intro ?_ ?_); · first | exact True.intro | (intro hg0; simp only [hg0, Bool.not_false, Bool.not_true]; done) | assumption | omega | (intro _; refine ⟨True.intro, ?_⟩; omega) | (intro _; refine ⟨?_, True.intro⟩; omega) | (intro _; refine ⟨decide_eq_true ?_, ?_⟩ <;> omega) | (intro _; refine ⟨?_, ?_⟩ <;> first | omega | (simp [appG, Cd.holds]; done) | (simp [appG, Cd.holds]; omega)) | (refine decide_eq_true ?_; omega) | (intro _; omega) | (simp only [w_i64, w_u64, w_u32, w_u8]; omega) | exact ⟨U_nonneg _, U_lt32 _⟩ | exact R8_UL _ _ | exact R32_UL _ _ | (intro hg0; (repeat ((conv => whnf); (with_reducible refine And.intro ?_ ?_); · first | assumption | omega | (intro _; refine ⟨?_, ?_⟩ <;> first | assumption | omega | exact True.intro | (refine decide_eq_true ?_; omega) | (simp [appG, Cd.holds]; omega)) | (intro _; refine ⟨And.intro ?_ ?_, ?_⟩ <;> first | assumption | omega | (refine decide_eq_true ?_; omega)) | (simp only [hg0, Bool.and_self, Bool.true_and]; done) | (intro hg1; simp only [hg0, hg1, Bool.and_self, Bool.true_and]; done) | (simp [hg0]; done))); (conv => whnf); exact True.intro))
  conv => whnf
  refine ⟨fun h1 => (nomatch h1), fun h1 => ?_⟩
  repeat ((conv => whnf); (with_reducible refine And.intro ?_ ?_); · first | exact True.intro | (intro hg0; simp only [hg0, Bool.not_false, Bool.not_true]; done) | assumption | omega | (intro _; refine ⟨True.intro, ?_⟩; omega) | (intro _; refine ⟨?_, True.intro⟩; omega) | (intro _; refine ⟨decide_eq_true ?_, ?_⟩ <;> omega) | (intro _; refine ⟨?_, ?_⟩ <;> first | omega | (simp [appG, Cd.holds]; done) | (simp [appG, Cd.holds]; omega)) | (refine decide_eq_true ?_; omega) | (intro _; omega) | (simp only [w_i64, w_u64, w_u32, w_u8]; omega) | exact ⟨U_nonneg _, U_lt32 _⟩ | exact R8_UL _ _ | exact R32_UL _ _ | (intro hg0; (repeat ((conv => whnf); (with_reducible refine And.intro ?_ ?_); · first | assumption | omega | (intro _; refine ⟨?_, ?_⟩ <;> first | assumption | omega | exact True.intro | (refine decide_eq_true ?_; omega) | (simp [appG, Cd.holds]; omega)) | (intro _; refine ⟨And.intro ?_ ?_, ?_⟩ <;> first | assumption | omega | (refine decide_eq_true ?_; omega)) | (simp only [hg0, Bool.and_self, Bool.true_and]; done) | (intro hg1; simp only [hg0, hg1, Bool.and_self, Bool.true_and]; done) | (simp [hg0]; done))); (conv => whnf); exact True.intro))
  conv => whnf
  refine ⟨fun h1 => ?_, fun h1 => ?_⟩
  · repeat ((conv => whnf); (with_reducible refine And.intro ?_ ?_); · first | exact True.intro | (intro hg0; simp only [hg0, Bool.not_false, Bool.not_true]; done) | assumption | omega | (intro _; refine ⟨True.intro, ?_⟩; omega) | (intro _; refine ⟨?_, True.intro⟩; omega) | (intro _; refine ⟨decide_eq_true ?_, ?_⟩ <;> omega) | (intro _; refine ⟨?_, ?_⟩ <;> first | omega | (simp [appG, Cd.holds]; done) | (simp [appG, Cd.holds]; omega)) | (refine decide_eq_true ?_; omega) | (intro _; omega) | (simp only [w_i64, w_u64, w_u32, w_u8]; omega) | exact ⟨U_nonneg _, U_lt32 _⟩ | exact R8_UL _ _ | exact R32_UL _ _ | (intro hg0; (repeat ((conv => whnf); (with_reducible refine And.intro ?_ ?_); · first | assumption | omega | (intro _; refine ⟨?_, ?_⟩ <;> first | assumption | omega | exact True.intro | (refine decide_eq_true ?_; omega) | (simp [appG, Cd.holds]; omega)) | (intro _; refine ⟨And.intro ?_ ?_, ?_⟩ <;> first | assumption | omega | (refine decide_eq_true ?_; omega)) | (simp only [hg0, Bool.and_self, Bool.true_and]; done) | (intro hg1; simp only [hg0, hg1, Bool.and_self, Bool.true_and]; done) | (simp [hg0]; done))); (conv => whnf); exact True.intro))
    conv => whnf
    refine ⟨[], ?_⟩
    repeat ((conv => whnf); (with_reducible refine And.intro ?_ ?_); · first | with_reducible rfl | exact (Bool.and_false _).symm | (intro _ _; with_reducible rfl) | exact True.intro | assumption | (intro h; exact absurd h (by decide)) | omega | (intro _; omega) | (intro _; refine ⟨?_, True.intro⟩; omega) | (intro _; refine ⟨?_, True.intro⟩; intro _; omega) | (refine decide_eq_false ?_; omega) | (refine decide_eq_true ?_; omega) | (simp only [w_i64, w_u64, w_u32, w_u8]; omega) | exact fun j hj => (put_0 hj).symm | (intro j _; simp only [Nat.zero_add]; done) | (simp [appG]; done) | (simp [appG]; omega) | (intro hgd; (try replace hgd := of_decide_eq_true hgd); (repeat ((conv => whnf); (with_reducible refine And.intro ?_ ?_); · first | with_reducible rfl | exact (Bool.and_false _).symm | (intro _ _; with_reducible rfl) | exact True.intro | assumption | (intro h; exact absurd h (by decide)) | omega | (intro _; omega) | (intro _; refine ⟨?_, True.intro⟩; omega) | (intro _; refine ⟨?_, True.intro⟩; intro _; omega) | (refine decide_eq_false ?_; omega) | (refine decide_eq_true ?_; omega) | (simp only [w_i64, w_u64, w_u32, w_u8]; omega) | exact fun j hj => (put_0 hj).symm | (intro j _; simp only [Nat.zero_add]; done) | (simp [appG]; done) | (simp [appG]; omega))); (conv => whnf); exact True.intro))
    conv => whnf
    exact True.intro
  have hg : 0 ≤ n ∧ n ≤ 300 ∧ 0 ≤ cut ∧ cut ≤ n := by
    obtain ⟨h1, q4⟩ := orF h1
    obtain ⟨h1, q3⟩ := orF h1
    obtain ⟨q1, q2⟩ := orF h1
    replace q1 := of_decide_eq_false q1
    replace q2 := of_decide_eq_false q2
    replace q3 := of_decide_eq_false q3
    replace q4 := of_decide_eq_false q4
    omega
  clear h1
  repeat ((conv => whnf); (with_reducible refine And.intro ?_ ?_); · first | exact True.intro | (intro hg0; simp only [hg0, Bool.not_false, Bool.not_true]; done) | assumption | omega | (intro _; refine ⟨True.intro, ?_⟩; omega) | (intro _; refine ⟨?_, True.intro⟩; omega) | (intro _; refine ⟨decide_eq_true ?_, ?_⟩ <;> omega) | (intro _; refine ⟨?_, ?_⟩ <;> first | omega | (simp [appG, Cd.holds]; done) | (simp [appG, Cd.holds]; omega)) | (refine decide_eq_true ?_; omega) | (intro _; omega) | (simp only [w_i64, w_u64, w_u32, w_u8]; omega) | exact ⟨U_nonneg _, U_lt32 _⟩ | exact R8_UL _ _ | exact R32_UL _ _ | (intro hg0; (repeat ((conv => whnf); (with_reducible refine And.intro ?_ ?_); · first | assumption | omega | (intro _; refine ⟨?_, ?_⟩ <;> first | assumption | omega | exact True.intro | (refine decide_eq_true ?_; omega) | (simp [appG, Cd.holds]; omega)) | (intro _; refine ⟨And.intro ?_ ?_, ?_⟩ <;> first | assumption | omega | (refine decide_eq_true ?_; omega)) | (simp only [hg0, Bool.and_self, Bool.true_and]; done) | (intro hg1; simp only [hg0, hg1, Bool.and_self, Bool.true_and]; done) | (simp [hg0]; done))); (conv => whnf); exact True.intro))
  conv => whnf
  refine ⟨0, Nat, fun i => ⟨53, [(0, .sa (.sc (.int .i64 n))), (1, .sa (.sc (.int .u8 x))), (2, .sa (.sc (.int .i64 cut))), (8, .sa (.sc (.sl false true false 0 0 0 n.toNat n.toNat))), (9, .sa (.sc (.int .i64 i)))],
    [(0, .own 5 [.ints .u8 (fun j => if j < i then risB x j else 0) n.toNat] false)], 1⟩, fun i => i ≤ n.toNat, fun i => n.toNat - i, ⟨0, by omega, le_of [] ?_⟩, fun i hi => ?_⟩
  · repeat ((conv => whnf); (with_reducible refine And.intro ?_ ?_); · first | with_reducible rfl | exact (Bool.and_false _).symm | (intro _ _; with_reducible rfl) | exact True.intro | assumption | (intro h; exact absurd h (by decide)) | omega | (intro _; omega) | (intro _; refine ⟨?_, True.intro⟩; omega) | (intro _; refine ⟨?_, True.intro⟩; intro _; omega) | (refine decide_eq_false ?_; omega) | (refine decide_eq_true ?_; omega) | (simp only [w_i64, w_u64, w_u32, w_u8]; omega) | exact fun j hj => (put_0 hj).symm | (intro j _; simp only [Nat.zero_add]; done) | (simp [appG]; done) | (simp [appG]; omega) | exact fun j _ => if_neg (by omega) | (intro hgd; (try replace hgd := of_decide_eq_true hgd); (repeat ((conv => whnf); (with_reducible refine And.intro ?_ ?_); · first | with_reducible rfl | exact (Bool.and_false _).symm | (intro _ _; with_reducible rfl) | exact True.intro | assumption | (intro h; exact absurd h (by decide)) | omega | (intro _; omega) | (intro _; refine ⟨?_, True.intro⟩; omega) | (intro _; refine ⟨?_, True.intro⟩; intro _; omega) | (refine decide_eq_false ?_; omega) | (refine decide_eq_true ?_; omega) | (simp only [w_i64, w_u64, w_u32, w_u8]; omega) | exact fun j hj => (put_0 hj).symm | (intro j _; simp only [Nat.zero_add]; done) | (simp [appG]; done) | (simp [appG]; omega) | exact fun j _ => if_neg (by omega))); (conv => whnf); exact True.intro))
    conv => whnf
    exact True.intro
  have hi : i ≤ n.toNat := hi
  repeat ((conv => whnf); (with_reducible refine And.intro ?_ ?_); · first | exact True.intro | (intro hg0; simp only [hg0, Bool.not_false, Bool.not_true]; done) | assumption | omega | (intro _; refine ⟨True.intro, ?_⟩; omega) | (intro _; refine ⟨?_, True.intro⟩; omega) | (intro _; refine ⟨decide_eq_true ?_, ?_⟩ <;> omega) | (intro _; refine ⟨?_, ?_⟩ <;> first | omega | (simp [appG, Cd.holds]; done) | (simp [appG, Cd.holds]; omega)) | (refine decide_eq_true ?_; omega) | (intro _; omega) | (simp only [w_i64, w_u64, w_u32, w_u8]; omega) | exact ⟨U_nonneg _, U_lt32 _⟩ | exact R8_UL _ _ | exact R32_UL _ _ | (intro hg0; (repeat ((conv => whnf); (with_reducible refine And.intro ?_ ?_); · first | assumption | omega | (intro _; refine ⟨?_, ?_⟩ <;> first | assumption | omega | exact True.intro | (refine decide_eq_true ?_; omega) | (simp [appG, Cd.holds]; omega)) | (intro _; refine ⟨And.intro ?_ ?_, ?_⟩ <;> first | assumption | omega | (refine decide_eq_true ?_; omega)) | (simp only [hg0, Bool.and_self, Bool.true_and]; done) | (intro hg1; simp only [hg0, hg1, Bool.and_self, Bool.true_and]; done) | (simp [hg0]; done))); (conv => whnf); exact True.intro))
  conv => whnf
  refine ⟨fun h2 => ?_, fun h2 => ?_⟩
  · replace h2 := of_decide_eq_true h2
    repeat ((conv => whnf); (with_reducible refine And.intro ?_ ?_); · first | exact True.intro | (intro hg0; simp only [hg0, Bool.not_false, Bool.not_true]; done) | assumption | omega | (intro _; refine ⟨True.intro, ?_⟩; omega) | (intro _; refine ⟨?_, True.intro⟩; omega) | (intro _; refine ⟨decide_eq_true ?_, ?_⟩ <;> omega) | (intro _; refine ⟨?_, ?_⟩ <;> first | omega | (simp [appG, Cd.holds]; done) | (simp [appG, Cd.holds]; omega)) | (refine decide_eq_true ?_; omega) | (intro _; omega) | (simp only [w_i64, w_u64, w_u32, w_u8]; omega) | exact ⟨U_nonneg _, U_lt32 _⟩ | exact R8_UL _ _ | exact R32_UL _ _ | (intro hg0; (repeat ((conv => whnf); (with_reducible refine And.intro ?_ ?_); · first | assumption | omega | (intro _; refine ⟨?_, ?_⟩ <;> first | assumption | omega | exact True.intro | (refine decide_eq_true ?_; omega) | (simp [appG, Cd.holds]; omega)) | (intro _; refine ⟨And.intro ?_ ?_, ?_⟩ <;> first | assumption | omega | (refine decide_eq_true ?_; omega)) | (simp only [hg0, Bool.and_self, Bool.true_and]; done) | (intro hg1; simp only [hg0, hg1, Bool.and_self, Bool.true_and]; done) | (simp [hg0]; done))); (conv => whnf); exact True.intro))
    conv => whnf
    refine ⟨i + 1, ⟨by show i + 1 ≤ n.toNat; omega, by show n.toNat - (i + 1) < n.toNat - i; omega⟩, le_of [] ?_⟩
    have hst : ∀ j, j < n.toNat → (if j < i + 1 then risB x j else 0) = upd (fun j => if j < i then risB x j else 0) i (risB x i) j := fun j hj => by
      unfold upd
      by_cases e : j = i
      · subst e; rw [if_pos (by omega), if_pos rfl]
      · rw [if_neg e]
        show _ = if j < i then risB x j else 0
        by_cases e2 : j < i
        · rw [if_pos (by omega), if_pos e2]
        · rw [if_neg (by omega), if_neg e2]
    simp only [Int.toNat_natCast, Nat.zero_add]
    repeat ((conv => whnf); (with_reducible refine And.intro ?_ ?_); · first | with_reducible rfl | exact (Bool.and_false _).symm | (intro _ _; with_reducible rfl) | exact True.intro | assumption | (intro h; exact absurd h (by decide)) | omega | (intro _; omega) | (intro _; refine ⟨?_, True.intro⟩; omega) | (intro _; refine ⟨?_, True.intro⟩; intro _; omega) | (refine decide_eq_false ?_; omega) | (refine decide_eq_true ?_; omega) | (simp only [w_i64, w_u64, w_u32, w_u8]; omega) | exact fun j hj => (put_0 hj).symm | (intro j _; simp only [Nat.zero_add]; done) | (simp [appG]; done) | (simp [appG]; omega) | exact hst | (intro hgd; (try replace hgd := of_decide_eq_true hgd); (repeat ((conv => whnf); (with_reducible refine And.intro ?_ ?_); · first | with_reducible rfl | exact (Bool.and_false _).symm | (intro _ _; with_reducible rfl) | exact True.intro | assumption | (intro h; exact absurd h (by decide)) | omega | (intro _; omega) | (intro _; refine ⟨?_, True.intro⟩; omega) | (intro _; refine ⟨?_, True.intro⟩; intro _; omega) | (refine decide_eq_false ?_; omega) | (refine decide_eq_true ?_; omega) | (simp only [w_i64, w_u64, w_u32, w_u8]; omega) | exact fun j hj => (put_0 hj).symm | (intro j _; simp only [Nat.zero_add]; done) | (simp [appG]; done) | (simp [appG]; omega) | exact hst)); (conv => whnf); exact True.intro))
    conv => whnf
    exact True.intro
  · replace h2 := of_decide_eq_false h2
    have hin : i = n.toNat := by omega
    subst hin
    have hR : R8 (fun j => if j < n.toNat then risB x j else 0) n.toNat := fun j hj => by
      show 0 ≤ (if j < n.toNat then risB x j else 0) ∧ (if j < n.toNat then risB x j else 0) < 256
      rw [if_pos hj]; exact risB_R x n.toNat j hj
    generalize hG : (fun j => if j < n.toNat then risB x j else 0) = G at *
    clear hG
    have hc3 : cat (putR (fun _ => ⟨false, fun j => G (0 + Int.toNat 0 + j), cut.toNat - Int.toNat 0⟩) 1 (putR (fun _ => ⟨true, fun _ => 0, 0⟩) 1 fun _ => ⟨false, fun j => G (0 + cut.toNat + j), n.toNat - cut.toNat⟩)) 3 = L8 G n.toNat := by
      rw [cat3]
      exact cut_join G (by omega)
    have hl3 : (cat (putR (fun _ => ⟨false, fun j => G (0 + Int.toNat 0 + j), cut.toNat - Int.toNat 0⟩) 1 (putR (fun _ => ⟨true, fun _ => 0, 0⟩) 1 fun _ => ⟨false, fun j => G (0 + cut.toNat + j), n.toNat - cut.toNat⟩)) 3).length ≤ 900000 := by
      rw [hc3, L8_length]; omega
    repeat ((conv => whnf); (with_reducible refine And.intro ?_ ?_); · first | exact True.intro | (intro hg0; simp only [hg0, Bool.not_false, Bool.not_true]; done) | assumption | omega | (intro _; refine ⟨True.intro, ?_⟩; omega) | (intro _; refine ⟨?_, True.intro⟩; omega) | (intro _; refine ⟨decide_eq_true ?_, ?_⟩ <;> omega) | (intro _; refine ⟨?_, ?_⟩ <;> first | omega | (simp [appG, Cd.holds]; done) | (simp [appG, Cd.holds]; omega)) | (refine decide_eq_true ?_; omega) | (intro _; omega) | (simp only [w_i64, w_u64, w_u32, w_u8]; omega) | exact ⟨U_nonneg _, U_lt32 _⟩ | exact R8_UL _ _ | exact R32_UL _ _ | (intro hg0; (repeat ((conv => whnf); (with_reducible refine And.intro ?_ ?_); · first | assumption | omega | (intro _; refine ⟨?_, ?_⟩ <;> first | assumption | omega | exact True.intro | (refine decide_eq_true ?_; omega) | (simp [appG, Cd.holds]; omega)) | (intro _; refine ⟨And.intro ?_ ?_, ?_⟩ <;> first | assumption | omega | (refine decide_eq_true ?_; omega)) | (simp only [hg0, Bool.and_self, Bool.true_and]; done) | (intro hg1; simp only [hg0, hg1, Bool.and_self, Bool.true_and]; done) | (simp [hg0]; done))); (conv => whnf); exact True.intro))
    conv => whnf
    refine ⟨[(0, ⟨0, some 42, []⟩), (1, ⟨0, some 43, []⟩), (2, ⟨3, some 44, []⟩), (3, ⟨0, some 45, []⟩), (4, ⟨0, some 46, []⟩), (5, ⟨24, some 47, []⟩), (6, ⟨63, some 48, [97]⟩), (7, ⟨127, some 49, []⟩), (8, ⟨0, some 50, []⟩), (9, ⟨511, some 51, []⟩), (10, ⟨1023, some 52, []⟩), (11, ⟨2047, some 6, []⟩)], 193, ?_⟩
    repeat ((conv => whnf); (with_reducible refine And.intro ?_ ?_); · first | exact True.intro | (intro hg0; simp only [hg0, Bool.not_false, Bool.not_true]; done) | assumption | omega | (intro _; refine ⟨True.intro, ?_⟩; omega) | (intro _; refine ⟨?_, True.intro⟩; omega) | (intro _; refine ⟨decide_eq_true ?_, ?_⟩ <;> omega) | (intro _; refine ⟨?_, ?_⟩ <;> first | omega | (simp [appG, Cd.holds]; done) | (simp [appG, Cd.holds]; omega)) | (refine decide_eq_true ?_; omega) | (intro _; omega) | (simp only [w_i64, w_u64, w_u32, w_u8]; omega) | exact ⟨U_nonneg _, U_lt32 _⟩ | exact R8_UL _ _ | exact R32_UL _ _ | (intro hg0; (repeat ((conv => whnf); (with_reducible refine And.intro ?_ ?_); · first | assumption | omega | (intro _; refine ⟨?_, ?_⟩ <;> first | assumption | omega | exact True.intro | (refine decide_eq_true ?_; omega) | (simp [appG, Cd.holds]; omega)) | (intro _; refine ⟨And.intro ?_ ?_, ?_⟩ <;> first | assumption | omega | (refine decide_eq_true ?_; omega)) | (simp only [hg0, Bool.and_self, Bool.true_and]; done) | (intro hg1; simp only [hg0, hg1, Bool.and_self, Bool.true_and]; done) | (simp [hg0]; done) | exact R8_3 (cut_R1 hR (by omega)) (fun j hj => absurd hj (by show ¬ j < 0; omega)) (cut_R2 hR (by omega)) | exact hl3 | exact cut_R0 hR)); (conv => whnf); exact True.intro) | exact R8_3 (cut_R1 hR (by omega)) (fun j hj => absurd hj (by show ¬ j < 0; omega)) (cut_R2 hR (by omega)) | exact hl3 | exact cut_R0 hR)
    conv => whnf
    refine ⟨[], ?_⟩
    simp only [hc3]
    simp only [Nat.zero_add]
    repeat ((conv => whnf); (with_reducible refine And.intro ?_ ?_); · first | with_reducible rfl | exact (Bool.and_false _).symm | (intro _ _; with_reducible rfl) | exact True.intro | assumption | (intro h; exact absurd h (by decide)) | omega | (intro _; omega) | (intro _; refine ⟨?_, True.intro⟩; omega) | (intro _; refine ⟨?_, True.intro⟩; intro _; omega) | (refine decide_eq_false ?_; omega) | (refine decide_eq_true ?_; omega) | (simp only [w_i64, w_u64, w_u32, w_u8]; omega) | exact fun j hj => (put_0 hj).symm | (intro j _; simp only [Nat.zero_add]; done) | (simp [appG]; done) | (simp [appG]; omega) | exact (eqI_self _ _).symm | (intro hgd; (try replace hgd := of_decide_eq_true hgd); (repeat ((conv => whnf); (with_reducible refine And.intro ?_ ?_); · first | with_reducible rfl | exact (Bool.and_false _).symm | (intro _ _; with_reducible rfl) | exact True.intro | assumption | (intro h; exact absurd h (by decide)) | omega | (intro _; omega) | (intro _; refine ⟨?_, True.intro⟩; omega) | (intro _; refine ⟨?_, True.intro⟩; intro _; omega) | (refine decide_eq_false ?_; omega) | (refine decide_eq_true ?_; omega) | (simp only [w_i64, w_u64, w_u32, w_u8]; omega) | exact fun j hj => (put_0 hj).symm | (intro j _; simp only [Nat.zero_add]; done) | (simp [appG]; done) | (simp [appG]; omega) | exact (eqI_self _ _).symm)); (conv => whnf); exact True.intro))
    conv => whnf
    exact True.intro

/-! states -/
theorem L32_H : L32 (UL H256) 8 = H256 := L32_UL' rfl
theorem L32_ab (l : List B8) : L32 (UL (absorb H256 l)) 8 = absorb H256 l := L32_UL' (absorb_length _ _ H256_length).symm
theorem L8_rest {l : List B8} {n : Nat} (h : n = l.length % 64) : L8 (UL (rest l)) n = rest l := L8_UL' (by rw [rest_length, h])
theorem absW (a b : List B8) : absorb (absorb H256 a) (rest a ++ b) = absorb H256 (a ++ b) := (absorb_append _ _ _).symm
theorem rstW (a b : List B8) : rest (rest a ++ b) = rest (a ++ b) := (rest_append _ _).symm
theorem L8_none (f : Nat → Int) : L8 f 0 = [] := rfl
theorem shaE {l : List B8} {n : Nat} {N : Int} (h : n = l.length % 64) (hN : N = (l.length : Int)) : digest (absorb (absorb H256 l) (rest l ++ tail2 n (BitVec.ofInt 64 N))) = sha l := by
  rw [hN, BitVec.ofInt_natCast, h, tail2_eq, ← absorb_append]; rfl
theorem shaE' {l : List B8} {n : Nat} {N : Int} (h : n = l.length % 64) (hN : N = (l.length : Int)) : digest (absorb H256 (l ++ tail2 n (BitVec.ofInt 64 N))) = sha l := by
  rw [hN, BitVec.ofInt_natCast, h, tail2_eq]; rfl
theorem shaOwn_law (nl : Bool) (a : Nat → Int) (na : Nat) (nl2 : Bool) (b : Nat → Int) (nb : Nat) (ha : R8 a na) (hb : R8 b nb) :
    FCalls Try.prog 5 [.sc (.im nl .u8 a na), .sc (.im nl2 .u8 b nb)] [] 0 isTrue := by
  refine fcalls_of_run tt_ok cokL3 mixed_ok Try.func5 rfl (rs := _) Try.results5 (size := 57) Try.ntmps5 (Nat.le_of_ble_eq_true rfl) rfl fun hp hfa hfh => ?_
  have hra : R8 a (min na (Int.toNat 80)) := R8_le ha (by omega)
  have hrb : R8 b (min nb (Int.toNat 80)) := R8_le hb (by omega)
  have hma : min na (Int.toNat 80) ≤ 80 := Nat.min_le_right _ _
  have hmb : min nb (Int.toNat 80) ≤ 80 := Nat.min_le_right _ _
  have hnla : nl = true → min na (Int.toNat 80) = 0 := fun h => by have := hfa.1.1 h; omega
  have hnlb : nl2 = true → min nb (Int.toNat 80) = 0 := fun h => by have := hfa.2.1.1 h; omega
  repeat ((conv => whnf); (with_reducible refine And.intro ?_ ?_); · first | exact True.intro | (intro hg0; simp only [hg0, Bool.not_false, Bool.not_true]; done) | assumption | omega | (intro _; refine ⟨True.intro, ?_⟩; omega) | (intro _; refine ⟨?_, True.intro⟩; omega) | (intro _; refine ⟨decide_eq_true ?_, ?_⟩ <;> omega) | (intro _; refine ⟨?_, ?_⟩ <;> first | omega | (simp [appG, Cd.holds]; done) | (simp [appG, Cd.holds]; omega)) | (refine decide_eq_true ?_; omega) | (intro _; omega) | (simp only [w_i64, w_u64, w_u32, w_u8]; omega) | exact ⟨U_nonneg _, U_lt32 _⟩ | exact R8_UL _ _ | exact R32_UL _ _ | (intro hg0; (repeat ((conv => whnf); (with_reducible refine And.intro ?_ ?_); · first | assumption | omega | (intro _; refine ⟨?_, ?_⟩ <;> first | assumption | omega | exact True.intro | (refine decide_eq_true ?_; omega) | (simp [appG, Cd.holds]; omega)) | (intro _; refine ⟨And.intro ?_ ?_, ?_⟩ <;> first | assumption | omega | (refine decide_eq_true ?_; omega)) | (simp only [hg0, Bool.and_self, Bool.true_and]; done) | (intro hg1; simp only [hg0, hg1, Bool.and_self, Bool.true_and]; done) | (simp [hg0]; done))); (conv => whnf); exact True.intro))
  conv => whnf
  refine ⟨fun h1 => (nomatch h1), fun h1 => ?_⟩
  repeat ((conv => whnf); (with_reducible refine And.intro ?_ ?_); · first | exact True.intro | (intro hg0; simp only [hg0, Bool.not_false, Bool.not_true]; done) | assumption | omega | (intro _; refine ⟨True.intro, ?_⟩; omega) | (intro _; refine ⟨?_, True.intro⟩; omega) | (intro _; refine ⟨decide_eq_true ?_, ?_⟩ <;> omega) | (intro _; refine ⟨?_, ?_⟩ <;> first | omega | (simp [appG, Cd.holds]; done) | (simp [appG, Cd.holds]; omega)) | (refine decide_eq_true ?_; omega) | (intro _; omega) | (simp only [w_i64, w_u64, w_u32, w_u8]; omega) | exact ⟨U_nonneg _, U_lt32 _⟩ | exact R8_UL _ _ | exact R32_UL _ _ | (intro hg0; (repeat ((conv => whnf); (with_reducible refine And.intro ?_ ?_); · first | assumption | omega | (intro _; refine ⟨?_, ?_⟩ <;> first | assumption | omega | exact True.intro | (refine decide_eq_true ?_; omega) | (simp [appG, Cd.holds]; omega)) | (intro _; refine ⟨And.intro ?_ ?_, ?_⟩ <;> first | assumption | omega | (refine decide_eq_true ?_; omega)) | (simp only [hg0, Bool.and_self, Bool.true_and]; done) | (intro hg1; simp only [hg0, hg1, Bool.and_self, Bool.true_and]; done) | (simp [hg0]; done) | exact R8_put0 (R8_0 _) hra)); (conv => whnf); exact True.intro) | exact R8_put0 (R8_0 _) hra)
  conv => whnf
  generalize min na (Int.toNat 80) = m0 at *
  generalize min nb (Int.toNat 80) = m1 at *
  have hA : L8 (fun j => put_ (fun x => 0) 0 m0 a (0 + j)) (0 + m0) = L8 a m0 := by
    simp only [Nat.zero_add]; exact L8_congr fun j hj => put_0 hj
  have hAl : (L8 a m0).length = m0 := L8_length _ _
  refine ⟨0, Nat × (Nat → Int), fun e => ⟨57, [(0, .sa (.sc (.im nl .u8 a m0))), (1, .sa (.sc (.im nl2 .u8 b m1))), (6, .sa (.sc (.ptr 0 0 0))), (7, .sa (.sc (.ptr 1 0 0))), (8, .sa (.sc (ownA (Nat.beq m0 0) m0 2))), (25, .sa (.sc (.int .i64 m0))), (26, .sa (.sc (.int .i64 e.1)))],
    [(0, .own 82 [.ints .u32 (UL (absorb H256 (L8 a m0))) 8, .one (ownA (Nat.beq m0 0) (m0 % 64) 3), .one (.int .u64 m0)] false), (1, .own 82 [.ints .u32 (UL H256) 8, .one (.sl true false true 999999 0 0 0 0), .one (.int .u64 0)] false),
     (2, ownB 5 .u8 e.2 m0), (3, ownB 5 .u8 (UL (rest (L8 a m0))) (m0 % 64))], 4⟩, fun e => e.1 ≤ m0, fun e => m0 - e.1, ⟨(0, fun j => put_ (fun x => 0) 0 m0 a j), by show 0 ≤ m0; omega, le_of [] ?_⟩, fun e he => ?_⟩
  · simp only [hA, L32_H, L8_none, List.nil_append]
    repeat ((conv => whnf); (with_reducible refine And.intro ?_ ?_); · first | with_reducible rfl | exact (Bool.and_false _).symm | (intro _ _; with_reducible rfl) | exact True.intro | assumption | (intro h; exact absurd h (by decide)) | omega | (intro _; omega) | (intro _; refine ⟨?_, True.intro⟩; omega) | (intro _; refine ⟨?_, True.intro⟩; intro _; omega) | (refine decide_eq_false ?_; omega) | (refine decide_eq_true ?_; omega) | (simp only [w_i64, w_u64, w_u32, w_u8]; omega) | exact fun j hj => (put_0 hj).symm | (intro j _; simp only [Nat.zero_add]; done) | (simp [appG]; done) | (simp [appG]; omega) | rfl | (rw [Nat.zero_add]; rfl) | (simp only [w_u64]; omega) | (intro hgd; (try replace hgd := of_decide_eq_true hgd); (repeat ((conv => whnf); (with_reducible refine And.intro ?_ ?_); · first | with_reducible rfl | exact (Bool.and_false _).symm | (intro _ _; with_reducible rfl) | exact True.intro | assumption | (intro h; exact absurd h (by decide)) | omega | (intro _; omega) | (intro _; refine ⟨?_, True.intro⟩; omega) | (intro _; refine ⟨?_, True.intro⟩; intro _; omega) | (refine decide_eq_false ?_; omega) | (refine decide_eq_true ?_; omega) | (simp only [w_i64, w_u64, w_u32, w_u8]; omega) | exact fun j hj => (put_0 hj).symm | (intro j _; simp only [Nat.zero_add]; done) | (simp [appG]; done) | (simp [appG]; omega) | rfl | (rw [Nat.zero_add]; rfl) | (simp only [w_u64]; omega))); (conv => whnf); exact True.intro))
    conv => whnf
    exact True.intro
  have he : e.1 ≤ m0 := he
  obtain ⟨i, f⟩ := e
  have hi : i ≤ m0 := he
  have hn0 : Nat.beq m0 0 = true → m0 = 0 := fun h => by rw [Nat.beq_eq] at h; exact h
  have hn0' : Nat.beq m0 0 = true → m0 % 64 = 0 := fun h => by rw [hn0 h]
  clear hi
  repeat ((conv => whnf); (with_reducible refine And.intro ?_ ?_); · first | exact True.intro | (intro hg0; simp only [hg0, Bool.not_false, Bool.not_true]; done) | assumption | omega | (intro _; refine ⟨True.intro, ?_⟩; omega) | (intro _; refine ⟨?_, True.intro⟩; omega) | (intro _; refine ⟨decide_eq_true ?_, ?_⟩ <;> omega) | (intro _; refine ⟨?_, ?_⟩ <;> first | omega | (simp [appG, Cd.holds]; done) | (simp [appG, Cd.holds]; omega)) | (refine decide_eq_true ?_; omega) | (intro _; omega) | (simp only [w_i64, w_u64, w_u32, w_u8]; omega) | exact ⟨U_nonneg _, U_lt32 _⟩ | exact R8_UL _ _ | exact R32_UL _ _ | (intro hg0; (repeat ((conv => whnf); (with_reducible refine And.intro ?_ ?_); · first | assumption | omega | (intro _; refine ⟨?_, ?_⟩ <;> first | assumption | omega | exact True.intro | (refine decide_eq_true ?_; omega) | (simp [appG, Cd.holds]; omega)) | (intro _; refine ⟨And.intro ?_ ?_, ?_⟩ <;> first | assumption | omega | (refine decide_eq_true ?_; omega)) | (simp only [hg0, Bool.and_self, Bool.true_and]; done) | (intro hg1; simp only [hg0, hg1, Bool.and_self, Bool.true_and]; done) | (simp [hg0]; done))); (conv => whnf); exact True.intro))
  conv => whnf
  refine ⟨fun h2 => ?_, fun h2 => ?_⟩
  · replace h2 := of_decide_eq_true h2
    repeat ((conv => whnf); (with_reducible refine And.intro ?_ ?_); · first | exact True.intro | (intro hg0; simp only [hg0, Bool.not_false, Bool.not_true]; done) | assumption | omega | (intro _; refine ⟨True.intro, ?_⟩; omega) | (intro _; refine ⟨?_, True.intro⟩; omega) | (intro _; refine ⟨decide_eq_true ?_, ?_⟩ <;> omega) | (intro _; refine ⟨?_, ?_⟩ <;> first | omega | (simp [appG, Cd.holds]; done) | (simp [appG, Cd.holds]; omega)) | (refine decide_eq_true ?_; omega) | (intro _; omega) | (simp only [w_i64, w_u64, w_u32, w_u8]; omega) | exact ⟨U_nonneg _, U_lt32 _⟩ | exact R8_UL _ _ | exact R32_UL _ _ | (intro hg0; (repeat ((conv => whnf); (with_reducible refine And.intro ?_ ?_); · first | assumption | omega | (intro _; refine ⟨?_, ?_⟩ <;> first | assumption | omega | exact True.intro | (refine decide_eq_true ?_; omega) | (simp [appG, Cd.holds]; omega)) | (intro _; refine ⟨And.intro ?_ ?_, ?_⟩ <;> first | assumption | omega | (refine decide_eq_true ?_; omega)) | (simp only [hg0, Bool.and_self, Bool.true_and]; done) | (intro hg1; simp only [hg0, hg1, Bool.and_self, Bool.true_and]; done) | (simp [hg0]; done))); (conv => whnf); exact True.intro))
    conv => whnf
    refine ⟨(i + 1, upd f i (bits .xor .u8 (f i) 255)), ⟨by show i + 1 ≤ m0; omega, by show m0 - (i + 1) < m0 - i; omega⟩, le_of [] ?_⟩
    simp only [Int.toNat_natCast, Nat.zero_add]
    repeat ((conv => whnf); (with_reducible refine And.intro ?_ ?_); · first | with_reducible rfl | exact (Bool.and_false _).symm | (intro _ _; with_reducible rfl) | exact True.intro | assumption | (intro h; exact absurd h (by decide)) | omega | (intro _; omega) | (intro _; refine ⟨?_, True.intro⟩; omega) | (intro _; refine ⟨?_, True.intro⟩; intro _; omega) | (refine decide_eq_false ?_; omega) | (refine decide_eq_true ?_; omega) | (simp only [w_i64, w_u64, w_u32, w_u8]; omega) | exact fun j hj => (put_0 hj).symm | (intro j _; simp only [Nat.zero_add]; done) | (simp [appG]; done) | (simp [appG]; omega) | exact fun j _ => rfl | (intro hgd; (try replace hgd := of_decide_eq_true hgd); (repeat ((conv => whnf); (with_reducible refine And.intro ?_ ?_); · first | with_reducible rfl | exact (Bool.and_false _).symm | (intro _ _; with_reducible rfl) | exact True.intro | assumption | (intro h; exact absurd h (by decide)) | omega | (intro _; omega) | (intro _; refine ⟨?_, True.intro⟩; omega) | (intro _; refine ⟨?_, True.intro⟩; intro _; omega) | (refine decide_eq_false ?_; omega) | (refine decide_eq_true ?_; omega) | (simp only [w_i64, w_u64, w_u32, w_u8]; omega) | exact fun j hj => (put_0 hj).symm | (intro j _; simp only [Nat.zero_add]; done) | (simp [appG]; done) | (simp [appG]; omega) | exact fun j _ => rfl)); (conv => whnf); exact True.intro))
    conv => whnf
    exact True.intro
  · replace h2 := of_decide_eq_false h2
    have hBl : (L8 b m1).length = m1 := L8_length _ _
    have hABl : (L8 a m0 ++ L8 b m1).length = m0 + m1 := by rw [List.length_append, hAl, hBl]
    have hAB : L8 (fun j => put_ (put_ (fun x => 0) 0 m0 a) (0 + m0) m1 b (0 + j)) (0 + m0 + m1) = L8 a m0 ++ L8 b m1 := by
      simp only [Nat.zero_add]
      rw [L8_put]
      exact congrArg (· ++ L8 b m1) (L8_congr fun j hj => put_0 hj)
    have hrA : L8 (UL (rest (L8 a m0))) (m0 % 64) = rest (L8 a m0) := L8_rest (by rw [hAl])
    have hrB : L8 (UL (rest (L8 b m1))) ((0 + m1) % 64) = rest (L8 b m1) := L8_rest (by rw [hBl, Nat.zero_add])
    have hrAB : L8 (UL (rest (L8 a m0 ++ L8 b m1))) ((m0 % 64 + m1) % 64) = rest (L8 a m0 ++ L8 b m1) := L8_rest (by rw [hABl]; omega)
    have hE := shaE' (l := L8 a m0 ++ L8 b m1) (n := (m0 % 64 + m1) % 64) (N := IntKind.u64.wrap ((m0 : Int) + IntKind.u64.wrap (m1 : Int))) (by rw [hABl]; omega) (by rw [hABl]; simp only [w_u64]; omega)
    have hEB := shaE' (l := L8 b m1) (n := (0 + m1) % 64) (N := IntKind.u64.wrap (0 + IntKind.u64.wrap (m1 : Int))) (by rw [hBl]; omega) (by rw [hBl]; simp only [w_u64]; omega)
    repeat ((conv => whnf); (with_reducible refine And.intro ?_ ?_); · first | exact True.intro | (intro hg0; simp only [hg0, Bool.not_false, Bool.not_true]; done) | assumption | omega | (intro _; refine ⟨True.intro, ?_⟩; omega) | (intro _; refine ⟨?_, True.intro⟩; omega) | (intro _; refine ⟨decide_eq_true ?_, ?_⟩ <;> omega) | (intro _; refine ⟨?_, ?_⟩ <;> first | omega | (simp [appG, Cd.holds]; done) | (simp [appG, Cd.holds]; omega)) | (refine decide_eq_true ?_; omega) | (intro _; omega) | (simp only [w_i64, w_u64, w_u32, w_u8]; omega) | exact ⟨U_nonneg _, U_lt32 _⟩ | exact R8_UL _ _ | exact R32_UL _ _ | (intro hg0; (repeat ((conv => whnf); (with_reducible refine And.intro ?_ ?_); · first | assumption | omega | (intro _; refine ⟨?_, ?_⟩ <;> first | assumption | omega | exact True.intro | (refine decide_eq_true ?_; omega) | (simp [appG, Cd.holds]; omega)) | (intro _; refine ⟨And.intro ?_ ?_, ?_⟩ <;> first | assumption | omega | (refine decide_eq_true ?_; omega)) | (simp only [hg0, Bool.and_self, Bool.true_and]; done) | (intro hg1; simp only [hg0, hg1, Bool.and_self, Bool.true_and]; done) | (simp [hg0]; done) | exact R8_put0 (R8_put (R8_0 _) hra) hrb | (simp only [L32_H, L32_ab, L8_none, List.nil_append, hrA, absW, rstW, hrAB, hE, hrB, hEB, hAB]; exact eqI_self _ _))); (conv => whnf); exact True.intro) | exact R8_put0 (R8_put (R8_0 _) hra) hrb | (simp only [L32_H, L32_ab, L8_none, List.nil_append, hrA, absW, rstW, hrAB, hE, hrB, hEB, hAB]; exact eqI_self _ _))
    conv => whnf
    refine ⟨[], ?_⟩
    simp only [L32_H, L32_ab, L8_none, List.nil_append, hrA, absW, rstW, hrAB, hE, hrB, hEB, hAB, eqI_self]
    repeat ((conv => whnf); (with_reducible refine And.intro ?_ ?_); · first | with_reducible rfl | exact (Bool.and_false _).symm | (intro _ _; with_reducible rfl) | exact True.intro | assumption | (intro h; exact absurd h (by decide)) | omega | (intro _; omega) | (intro _; refine ⟨?_, True.intro⟩; omega) | (intro _; refine ⟨?_, True.intro⟩; intro _; omega) | (refine decide_eq_false ?_; omega) | (refine decide_eq_true ?_; omega) | (simp only [w_i64, w_u64, w_u32, w_u8]; omega) | exact fun j hj => (put_0 hj).symm | (intro j _; simp only [Nat.zero_add]; done) | (simp [appG]; done) | (simp [appG]; omega) | (intro hgd; (try replace hgd := of_decide_eq_true hgd); (repeat ((conv => whnf); (with_reducible refine And.intro ?_ ?_); · first | with_reducible rfl | exact (Bool.and_false _).symm | (intro _ _; with_reducible rfl) | exact True.intro | assumption | (intro h; exact absurd h (by decide)) | omega | (intro _; omega) | (intro _; refine ⟨?_, True.intro⟩; omega) | (intro _; refine ⟨?_, True.intro⟩; intro _; omega) | (refine decide_eq_false ?_; omega) | (refine decide_eq_true ?_; omega) | (simp only [w_i64, w_u64, w_u32, w_u8]; omega) | exact fun j hj => (put_0 hj).symm | (intro j _; simp only [Nat.zero_add]; done) | (simp [appG]; done) | (simp [appG]; omega))); (conv => whnf); exact True.intro))
    conv => whnf
    exact True.intro
end Go.Proofs.Ytogijkmflhjhkaa

/- The laws of chacha, poly, aead, through the evaluator: a key whose first half is nought; twice is none. No condition. -/
namespace Go.Proofs.Ytogijkmflhjhkaa
open Go.Sx Go.RowKit
set_option linter.unusedSimpArgs false
set_option maxRecDepth 100000
set_option maxHeartbeats 2000000
set_option linter.unusedVariables false

theorem cokP : COk Try.prog (tab [(50, yesS), (31, shortS), (53, keyS), (54, nonceS), (59, tagS), (57, xorS), (61, sealS), (62, openS), (55, blockS), (51, quarterS)]) :=
  cok_cons yesS50_ok (cok_cons shortS_ok (cok_cons keyS_ok (cok_cons nonceS_ok (cok_cons tagS_ok (cok_cons xorS_ok (cok_cons sealS_ok (cok_cons openS_ok (cok_cons blockS_ok (cok_cons quarterS_ok cok_nil)))))))))
theorem polyA_zero (l : List B8) : ∀ k, polyA 0 l k = 0
  | 0 => rfl
  | k + 1 => by rw [polyA, Nat.mul_zero]; rfl
theorem polyTag_zero {K M : List B8} (hl : K.length = 32) (hz : ∀ j, j < 16 → K.getD j 0 = 0) : polyTag K M = (K.drop 16).take 16 := by
  have ht : K.take 16 = List.replicate 16 0 := by
    refine list_ext 0 (by rw [List.length_take, hl]; simp) fun j hj => ?_
    rw [List.length_take, hl] at hj
    have hj : j < 16 := by omega
    rw [getD_take _ _ _ _ hj, hz j hj, List.getD_eq_getElem?_getD, List.getElem?_replicate, if_pos hj]
    rfl
  have hR : polyR K = 0 := by
    unfold polyR
    rw [ht]
    decide
  rw [polyTag_eq, polyN, hR, polyA_zero, Nat.zero_add]
  exact leB_leN _ (by rw [List.length_take, List.length_drop, hl]; rfl)
theorem polyZero_law (nls : Bool) (s : Nat → Int) (ns : Nat) (nlb : Bool) (b : Nat → Int) (nb : Nat) (hs : R8 s ns) (hb : R8 b nb) :
    FCalls Try.prog 28 [.sc (.im nls .u8 s ns), .sc (.im nlb .u8 b nb)] [] 0 isTrue := by
  refine fcalls_of_run tt_ok cokP mixed_ok Try.func28 rfl (rs := _) Try.results28 (size := 24) Try.ntmps28 (Nat.le_of_ble_eq_true rfl) rfl fun hp hfa hfh => ?_
  have hrb : R8 b (min nb (Int.toNat 80)) := R8_le hb (by omega)
  have hmb : min nb (Int.toNat 80) ≤ 80 := Nat.min_le_right _ _
  repeat ((conv => whnf); (with_reducible refine And.intro ?_ ?_); · first | exact True.intro | (intro hg0; simp only [hg0, Bool.not_false, Bool.not_true]; done) | with_reducible assumption | omega | (intro _; refine ⟨True.intro, ?_⟩; omega) | (intro _; refine ⟨?_, True.intro⟩; omega) | (intro _; refine ⟨decide_eq_true ?_, ?_⟩ <;> omega) | (intro _; refine ⟨?_, ?_⟩ <;> first | omega | (simp [appG, Cd.holds]; done) | (simp [appG, Cd.holds]; omega)) | (refine decide_eq_true ?_; omega) | (intro _; omega) | (simp only [w_i64, w_u64, w_u32, w_u8]; omega) | exact ⟨U_nonneg _, U_lt32 _⟩ | exact R8_UL _ _ | exact R32_UL _ _ | (intro hg0; (repeat ((conv => whnf); (with_reducible refine And.intro ?_ ?_); · first | with_reducible assumption | omega | (intro _; refine ⟨?_, ?_⟩ <;> first | with_reducible assumption | omega | exact True.intro | (refine decide_eq_true ?_; omega) | (simp [appG, Cd.holds]; omega)) | (intro _; refine ⟨And.intro ?_ ?_, ?_⟩ <;> first | with_reducible assumption | omega | (refine decide_eq_true ?_; omega)) | (simp only [hg0, Bool.and_self, Bool.true_and]; done) | (intro hg1; simp only [hg0, hg1, Bool.and_self, Bool.true_and]; done) | (simp [hg0]; done))); (conv => whnf); exact True.intro))
  conv => whnf
  refine ⟨fun h1 => (nomatch h1), fun h1 => ?_⟩
  repeat ((conv => whnf); (with_reducible refine And.intro ?_ ?_); · first | exact True.intro | (intro hg0; simp only [hg0, Bool.not_false, Bool.not_true]; done) | with_reducible assumption | omega | (intro _; refine ⟨True.intro, ?_⟩; omega) | (intro _; refine ⟨?_, True.intro⟩; omega) | (intro _; refine ⟨decide_eq_true ?_, ?_⟩ <;> omega) | (intro _; refine ⟨?_, ?_⟩ <;> first | omega | (simp [appG, Cd.holds]; done) | (simp [appG, Cd.holds]; omega)) | (refine decide_eq_true ?_; omega) | (intro _; omega) | (simp only [w_i64, w_u64, w_u32, w_u8]; omega) | exact ⟨U_nonneg _, U_lt32 _⟩ | exact R8_UL _ _ | exact R32_UL _ _ | (intro hg0; (repeat ((conv => whnf); (with_reducible refine And.intro ?_ ?_); · first | with_reducible assumption | omega | (intro _; refine ⟨?_, ?_⟩ <;> first | with_reducible assumption | omega | exact True.intro | (refine decide_eq_true ?_; omega) | (simp [appG, Cd.holds]; omega)) | (intro _; refine ⟨And.intro ?_ ?_, ?_⟩ <;> first | with_reducible assumption | omega | (refine decide_eq_true ?_; omega)) | (simp only [hg0, Bool.and_self, Bool.true_and]; done) | (intro hg1; simp only [hg0, hg1, Bool.and_self, Bool.true_and]; done) | (simp [hg0]; done))); (conv => whnf); exact True.intro))
  conv => whnf
  have hK8 : R8 (put_ (fun _ => 0) (Int.toNat 16) (min ns (32 - Int.toNat 16)) s) 32 := fun j hj => by
    unfold put_
    split
    · rename_i h
      refine hs _ ?_
      have h2 : j < 16 + min ns 16 := h.2
      show j - 16 < ns
      omega
    · exact ⟨Int.le_refl 0, by show (0 : Int) < 256; decide⟩
  have hKz : ∀ j, j < 16 → put_ (fun _ => 0) (Int.toNat 16) (min ns (32 - Int.toNat 16)) s j = 0 := fun j hj => by
    unfold put_
    rw [if_neg fun h => by have : 16 ≤ j := h.1; omega]
  generalize put_ (fun _ => 0) (Int.toNat 16) (min ns (32 - Int.toNat 16)) s = Kf at hK8 hKz ⊢
  have hT : polyTag (L8 Kf 32) (L8 b (min nb (Int.toNat 80))) = ((L8 Kf 32).drop 16).take 16 := polyTag_zero (L8_length _ _) fun j hj => by rw [L8_get _ _ _ (by omega), hKz j hj]; rfl
  have hTl : (((L8 Kf 32).drop 16).take 16).length = 16 := by rw [List.length_take, List.length_drop, L8_length]; rfl
  repeat (first | ((with_reducible refine (Cd.then_iff _ _).2 (And.intro ?_ ?_)); · repeat' ((conv => arg 1; whnf); first | exact Cd.holds_tt | (refine Cd.holds_p ?_; first | exact hK8 | exact True.intro | (intro hg0; simp only [hg0, Bool.not_false, Bool.not_true]; done) | with_reducible assumption | omega | (intro _; refine ⟨True.intro, ?_⟩; omega) | (intro _; refine ⟨?_, True.intro⟩; omega) | (intro _; refine ⟨decide_eq_true ?_, ?_⟩ <;> omega) | (intro _; refine ⟨?_, ?_⟩ <;> first | omega | (simp [appG, Cd.holds]; done) | (simp [appG, Cd.holds]; omega)) | (refine decide_eq_true ?_; omega) | (intro _; omega) | (simp only [w_i64, w_u64, w_u32, w_u8]; omega) | exact ⟨U_nonneg _, U_lt32 _⟩ | exact R8_UL _ _ | exact R32_UL _ _ | (intro hg0; (repeat ((conv => whnf); (with_reducible refine And.intro ?_ ?_); · first | with_reducible assumption | omega | (intro _; refine ⟨?_, ?_⟩ <;> first | with_reducible assumption | omega | exact True.intro | (refine decide_eq_true ?_; omega) | (simp [appG, Cd.holds]; omega)) | (intro _; refine ⟨And.intro ?_ ?_, ?_⟩ <;> first | with_reducible assumption | omega | (refine decide_eq_true ?_; omega)) | (simp only [hg0, Bool.and_self, Bool.true_and]; done) | (intro hg1; simp only [hg0, hg1, Bool.and_self, Bool.true_and]; done) | (simp [hg0]; done))); (conv => whnf); exact True.intro)) | refine Cd.holds_and ?_ ?_ | (refine Cd.holds_imp fun hg0 => ?_))) | ((conv => whnf); (with_reducible refine And.intro ?_ ?_); · first | exact hK8 | exact True.intro | (intro hg0; simp only [hg0, Bool.not_false, Bool.not_true]; done) | with_reducible assumption | omega | (intro _; refine ⟨True.intro, ?_⟩; omega) | (intro _; refine ⟨?_, True.intro⟩; omega) | (intro _; refine ⟨decide_eq_true ?_, ?_⟩ <;> omega) | (intro _; refine ⟨?_, ?_⟩ <;> first | omega | (simp [appG, Cd.holds]; done) | (simp [appG, Cd.holds]; omega)) | (refine decide_eq_true ?_; omega) | (intro _; omega) | (simp only [w_i64, w_u64, w_u32, w_u8]; omega) | exact ⟨U_nonneg _, U_lt32 _⟩ | exact R8_UL _ _ | exact R32_UL _ _ | (intro hg0; (repeat ((conv => whnf); (with_reducible refine And.intro ?_ ?_); · first | with_reducible assumption | omega | (intro _; refine ⟨?_, ?_⟩ <;> first | with_reducible assumption | omega | exact True.intro | (refine decide_eq_true ?_; omega) | (simp [appG, Cd.holds]; omega)) | (intro _; refine ⟨And.intro ?_ ?_, ?_⟩ <;> first | with_reducible assumption | omega | (refine decide_eq_true ?_; omega)) | (simp only [hg0, Bool.and_self, Bool.true_and]; done) | (intro hg1; simp only [hg0, hg1, Bool.and_self, Bool.true_and]; done) | (simp [hg0]; done))); (conv => whnf); exact True.intro)))
  conv => whnf
  refine ⟨[(0, ⟨0, some 19, []⟩), (1, ⟨1, some 20, []⟩), (2, ⟨0, some 21, []⟩), (3, ⟨4, some 22, []⟩), (4, ⟨15, some 23, []⟩), (5, ⟨31, some 4, []⟩)], 98, ?_⟩
  repeat (first | ((with_reducible refine (Cd.then_iff _ _).2 (And.intro ?_ ?_)); · repeat' ((conv => arg 1; whnf); first | exact Cd.holds_tt | (refine Cd.holds_p ?_; first | exact True.intro | (intro hg0; simp only [hg0, Bool.not_false, Bool.not_true]; done) | with_reducible assumption | omega | (intro _; refine ⟨True.intro, ?_⟩; omega) | (intro _; refine ⟨?_, True.intro⟩; omega) | (intro _; refine ⟨decide_eq_true ?_, ?_⟩ <;> omega) | (intro _; refine ⟨?_, ?_⟩ <;> first | omega | (simp [appG, Cd.holds]; done) | (simp [appG, Cd.holds]; omega)) | (refine decide_eq_true ?_; omega) | (intro _; omega) | (simp only [w_i64, w_u64, w_u32, w_u8]; omega) | exact ⟨U_nonneg _, U_lt32 _⟩ | exact R8_UL _ _ | exact R32_UL _ _ | (intro hg0; (repeat ((conv => whnf); (with_reducible refine And.intro ?_ ?_); · first | with_reducible assumption | omega | (intro _; refine ⟨?_, ?_⟩ <;> first | with_reducible assumption | omega | exact True.intro | (refine decide_eq_true ?_; omega) | (simp [appG, Cd.holds]; omega)) | (intro _; refine ⟨And.intro ?_ ?_, ?_⟩ <;> first | with_reducible assumption | omega | (refine decide_eq_true ?_; omega)) | (simp only [hg0, Bool.and_self, Bool.true_and]; done) | (intro hg1; simp only [hg0, hg1, Bool.and_self, Bool.true_and]; done) | (simp [hg0]; done))); (conv => whnf); exact True.intro)) | refine Cd.holds_and ?_ ?_ | (refine Cd.holds_imp fun hg0 => ?_))) | ((conv => whnf); (with_reducible refine And.intro ?_ ?_); · first | exact True.intro | (intro hg0; simp only [hg0, Bool.not_false, Bool.not_true]; done) | with_reducible assumption | omega | (intro _; refine ⟨True.intro, ?_⟩; omega) | (intro _; refine ⟨?_, True.intro⟩; omega) | (intro _; refine ⟨decide_eq_true ?_, ?_⟩ <;> omega) | (intro _; refine ⟨?_, ?_⟩ <;> first | omega | (simp [appG, Cd.holds]; done) | (simp [appG, Cd.holds]; omega)) | (refine decide_eq_true ?_; omega) | (intro _; omega) | (simp only [w_i64, w_u64, w_u32, w_u8]; omega) | exact ⟨U_nonneg _, U_lt32 _⟩ | exact R8_UL _ _ | exact R32_UL _ _ | (intro hg0; (repeat ((conv => whnf); (with_reducible refine And.intro ?_ ?_); · first | with_reducible assumption | omega | (intro _; refine ⟨?_, ?_⟩ <;> first | with_reducible assumption | omega | exact True.intro | (refine decide_eq_true ?_; omega) | (simp [appG, Cd.holds]; omega)) | (intro _; refine ⟨And.intro ?_ ?_, ?_⟩ <;> first | with_reducible assumption | omega | (refine decide_eq_true ?_; omega)) | (simp only [hg0, Bool.and_self, Bool.true_and]; done) | (intro hg1; simp only [hg0, hg1, Bool.and_self, Bool.true_and]; done) | (simp [hg0]; done))); (conv => whnf); exact True.intro)))
  conv => whnf
  have e1 : strI (fun j => UL (((L8 Kf 32).drop 16).take 16) (Int.toNat 0 + j)) (16 - Int.toNat 0) = sb (((L8 Kf 32).drop 16).take 16) := by
    show strI (fun j => UL (((L8 Kf 32).drop 16).take 16) (0 + j)) 16 = _
    rw [strI_sb (R8_z _ _), L8_z hTl.symm]
  have e2 : strI (fun j => Kf (Int.toNat 16 + j)) (32 - Int.toNat 16) = sb (((L8 Kf 32).drop 16).take 16) := by
    show strI (fun j => Kf (16 + j)) 16 = _
    rw [strI_sb (fun j hj => hK8 _ (by omega)), L8_sub Kf 32 16 16 (by omega)]
  refine ⟨[], ?_⟩
  simp only [hT, e1, e2, beq_self_eq_true]
  repeat ((conv => whnf); (with_reducible refine And.intro ?_ ?_); · first | with_reducible rfl | exact (Bool.and_false _).symm | (intro _ _; with_reducible rfl) | exact True.intro | assumption | (intro h; exact absurd h (by decide)) | omega | (intro _; omega) | (intro _; refine ⟨?_, True.intro⟩; omega) | (intro _; refine ⟨?_, True.intro⟩; intro _; omega) | (refine decide_eq_false ?_; omega) | (refine decide_eq_true ?_; omega) | (simp only [w_i64, w_u64, w_u32, w_u8]; omega) | exact fun j hj => (put_0 hj).symm | (intro j _; simp only [Nat.zero_add]; done) | (simp [appG]; done) | (simp [appG]; omega) | (intro hgd; (try replace hgd := of_decide_eq_true hgd); (repeat ((conv => whnf); (with_reducible refine And.intro ?_ ?_); · first | with_reducible rfl | exact (Bool.and_false _).symm | (intro _ _; with_reducible rfl) | exact True.intro | assumption | (intro h; exact absurd h (by decide)) | omega | (intro _; omega) | (intro _; refine ⟨?_, True.intro⟩; omega) | (intro _; refine ⟨?_, True.intro⟩; intro _; omega) | (refine decide_eq_false ?_; omega) | (refine decide_eq_true ?_; omega) | (simp only [w_i64, w_u64, w_u32, w_u8]; omega) | exact fun j hj => (put_0 hj).symm | (intro j _; simp only [Nat.zero_add]; done) | (simp [appG]; done) | (simp [appG]; omega))); (conv => whnf); exact True.intro))
  conv => whnf
  exact True.intro
end Go.Proofs.Ytogijkmflhjhkaa
