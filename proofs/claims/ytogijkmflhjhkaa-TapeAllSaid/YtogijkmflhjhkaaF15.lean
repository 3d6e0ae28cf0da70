/- Functions through the evaluator: the document's sum, HMAC, HKDF. No condition. -/
import Derived.Test.YtogijkmflhjhkaaSxT
import Derived.Test.YtogijkmflhjhkaaSxU
import Derived.Test.YtogijkmflhjhkaaF14
namespace Go.Proofs.Ytogijkmflhjhkaa
open Go.Sx Go.RowKit
set_option linter.unusedSimpArgs false
set_option maxRecDepth 100000
set_option linter.unusedVariables false

theorem cok15 : COk Try.prog (tab [(68, sha256S)]) := cok_cons sha256S_ok cok_nil
theorem put_t0 {f g : Nat → Int} {j : Nat} (h : j < 32) : put_ f (Int.toNat 0) (min 32 (32 - Int.toNat 0)) (fun j => g (0 + j)) j = g j := by
  show put_ f 0 32 _ j = _
  rw [put_0 h, Nat.zero_add]
theorem H256_R : R32 (listI (H256.map U)) 8 := fun j _ => by rw [listI_map]; exact ⟨U_nonneg _, U_lt32 _⟩
/-- indentureref1.Sum. -/
def rsumS : Summary := mkS false [.r .u8] fun
  | [.r nl g n] => some ⟨.and (.p (R8 g n)) (.p (n ≤ 900000)), some (.sa (.agg [.ints .u8 (UL (sha (L8 g n))) 32])), [], 0⟩
  | _ => none
theorem rsumS_ok : SumOk Try.prog 35 rsumS := by
  unfold rsumS
  apply sum_ok
  intro vs A H n o r hb h
  split at h
  rotate_left
  · cases h
  rename_i nl g n0
  injection h with h
  subst h
  cases hb
  refine fsound_of_run tt_ok cok15 mixed_ok Try.call35 Try.func35 rfl (rs := _) Try.results35 (size := 10) Try.ntmps35 (Nat.le_of_ble_eq_true rfl) rfl fun hp hfa hfh => ?_
  obtain ⟨hg, hn⟩ := hp
  have hg : R8 g n0 := hg
  have hn : n0 ≤ 900000 := hn
  repeat ((conv => whnf); (with_reducible refine And.intro ?_ ?_); · first | exact True.intro | (intro hg0; simp only [hg0, Bool.not_false, Bool.not_true]; done) | assumption | omega | (intro _; refine ⟨True.intro, ?_⟩; omega) | (intro _; refine ⟨?_, True.intro⟩; omega) | (intro _; refine ⟨decide_eq_true ?_, ?_⟩ <;> omega) | (intro _; refine ⟨?_, ?_⟩ <;> first | omega | (simp [appG, Cd.holds]; done) | (simp [appG, Cd.holds]; omega)) | (refine decide_eq_true ?_; omega) | (intro _; omega) | (simp only [w_i64, w_u64, w_u32, w_u8]; omega) | exact ⟨U_nonneg _, U_lt32 _⟩ | exact R8_UL _ _ | exact R32_UL _ _ | (intro hg0; (repeat ((conv => whnf); (with_reducible refine And.intro ?_ ?_); · first | assumption | omega | (intro _; refine ⟨?_, ?_⟩ <;> first | assumption | omega | exact True.intro | (refine decide_eq_true ?_; omega) | (simp [appG, Cd.holds]; omega)) | (intro _; refine ⟨And.intro ?_ ?_, ?_⟩ <;> first | assumption | omega | (refine decide_eq_true ?_; omega)) | (simp only [hg0, Bool.and_self, Bool.true_and]; done) | (intro hg1; simp only [hg0, hg1, Bool.and_self, Bool.true_and]; done) | (simp [hg0]; done))); (conv => whnf); exact True.intro))
  conv => whnf
  refine ⟨[(0, ⟨0, some 4, []⟩), (1, ⟨0, some 5, []⟩), (2, ⟨0, some 6, [34]⟩), (3, ⟨6, some 7, [34, 50]⟩), (4, ⟨15, some 8, [1]⟩)], 82, ?_⟩
  repeat ((conv => whnf); (with_reducible refine And.intro ?_ ?_); · first | exact True.intro | (intro hg0; simp only [hg0, Bool.not_false, Bool.not_true]; done) | assumption | omega | (intro _; refine ⟨True.intro, ?_⟩; omega) | (intro _; refine ⟨?_, True.intro⟩; omega) | (intro _; refine ⟨decide_eq_true ?_, ?_⟩ <;> omega) | (intro _; refine ⟨?_, ?_⟩ <;> first | omega | (simp [appG, Cd.holds]; done) | (simp [appG, Cd.holds]; omega)) | (refine decide_eq_true ?_; omega) | (intro _; omega) | (simp only [w_i64, w_u64, w_u32, w_u8]; omega) | exact ⟨U_nonneg _, U_lt32 _⟩ | exact R8_UL _ _ | exact R32_UL _ _ | (intro hg0; (repeat ((conv => whnf); (with_reducible refine And.intro ?_ ?_); · first | assumption | omega | (intro _; refine ⟨?_, ?_⟩ <;> first | assumption | omega | exact True.intro | (refine decide_eq_true ?_; omega) | (simp [appG, Cd.holds]; omega)) | (intro _; refine ⟨And.intro ?_ ?_, ?_⟩ <;> first | assumption | omega | (refine decide_eq_true ?_; omega)) | (simp only [hg0, Bool.and_self, Bool.true_and]; done) | (intro hg1; simp only [hg0, hg1, Bool.and_self, Bool.true_and]; done) | (simp [hg0]; done) | exact ⟨rfl, rfl⟩ | exact H256_R)); (conv => whnf); exact True.intro) | exact ⟨rfl, rfl⟩ | exact H256_R)
  conv => whnf
  refine ⟨[], ?_⟩
  have hL : L32 (listI [1541459225, 528734635, 2600822924, 1359893119, 2773480762, 1013904242, 3144134277, 1779033703].reverse) 8 = H256 := by decide +kernel
  repeat ((conv => whnf); (with_reducible refine And.intro ?_ ?_); · first | with_reducible rfl | exact (Bool.and_false _).symm | (intro _ _; with_reducible rfl) | exact True.intro | assumption | (intro h; exact absurd h (by decide)) | omega | (intro _; omega) | (intro _; refine ⟨?_, True.intro⟩; omega) | (intro _; refine ⟨?_, True.intro⟩; intro _; omega) | (refine decide_eq_false ?_; omega) | (refine decide_eq_true ?_; omega) | (simp only [w_i64, w_u64, w_u32, w_u8]; omega) | exact fun j hj => (put_0 hj).symm | (intro j _; simp only [Nat.zero_add]; done) | (simp [appG]; done) | (simp [appG]; omega) | (intro j hj; rw [put_t0 hj, hL, sha, L8_length]) | (intro hgd; (try replace hgd := of_decide_eq_true hgd); (repeat ((conv => whnf); (with_reducible refine And.intro ?_ ?_); · first | with_reducible rfl | exact (Bool.and_false _).symm | (intro _ _; with_reducible rfl) | exact True.intro | assumption | (intro h; exact absurd h (by decide)) | omega | (intro _; omega) | (intro _; refine ⟨?_, True.intro⟩; omega) | (intro _; refine ⟨?_, True.intro⟩; intro _; omega) | (refine decide_eq_false ?_; omega) | (refine decide_eq_true ?_; omega) | (simp only [w_i64, w_u64, w_u32, w_u8]; omega) | exact fun j hj => (put_0 hj).symm | (intro j _; simp only [Nat.zero_add]; done) | (simp [appG]; done) | (simp [appG]; omega) | (intro j hj; rw [put_t0 hj, hL, sha, L8_length]))); (conv => whnf); exact True.intro))
  conv => whnf
  exact True.intro

theorem cok15b : COk Try.prog (tab [(35, rsumS)]) := cok_cons rsumS_ok cok_nil
/-- What stands for a key, before it is filled up. -/
def kcut (k : List B8) : List B8 := if 64 < k.length then sha k else k
theorem kcut_le (k : List B8) : (kcut k).length ≤ 64 := by
  unfold kcut
  split
  · rw [sha_length]; omega
  · omega
theorem kblock_cut (k : List B8) : kblock k = kcut k ++ List.replicate (64 - (kcut k).length) 0 := rfl
/-- The first i bytes of a block, turned. -/
def tur (K : List B8) (b : B8) (i : Nat) : List B8 := (K.take i).map (· ^^^ b)
theorem tur_length {K : List B8} {b : B8} {i : Nat} (h : i ≤ K.length) : (tur K b i).length = i := by rw [tur, List.length_map, List.length_take]; omega
theorem tur_succ {K : List B8} {b : B8} {i : Nat} (h : i < K.length) : tur K b (i + 1) = tur K b i ++ [K.getD i 0 ^^^ b] := by
  rw [tur, List.take_succ_eq_append_getElem h, List.map_append, tur]
  simp [List.getD_eq_getElem?_getD, h]
theorem tur_all {k : List B8} {b : B8} : tur (kblock k) b 64 = kturn k b := by rw [tur, List.take_of_length_le (by rw [kblock_length]; omega), kturn]
theorem L8_cat {l : List B8} {n m : Nat} {h : Nat → Int} (hn : n = l.length) : L8 (put_ (UL l) n m h) (n + m) = l ++ L8 h m := by rw [L8_put, L8_UL' hn]
theorem cont0 {K : List B8} {a m j : Nat} (ha : a = 0) (hj : j < m) : UL (K ++ List.replicate 0 0) j = put_ (fun _ => 0) 0 m (fun j => UL K (a + j)) j := by
  subst ha; rw [put_0 hj, Nat.zero_add]; simp
theorem R8_put0 {f g : Nat → Int} {n m : Nat} (hf : R8 f n) (hg : R8 g m) : R8 (fun j => put_ f n m g (0 + j)) (n + m) := fun j hj => by
  show 0 ≤ put_ _ _ _ _ _ ∧ put_ _ _ _ _ _ < 256
  rw [Nat.zero_add]; exact R8_put hf hg j hj
/-- indentureref1.HMAC. -/
def rhmacS : Summary := mkS false [.r .u8, .r .u8] fun
  | [.r nl g n, .r nl2 h m] => some ⟨.and (.p (R8 g n)) (.and (.p (n ≤ 900000)) (.and (.p (R8 h m)) (.p (m ≤ 800000)))), some (.sa (.agg [.ints .u8 (UL (hmac (L8 g n) (L8 h m))) 32])), [], 0⟩
  | _ => none
theorem rhmacS_ok : SumOk Try.prog 39 rhmacS := by
  unfold rhmacS
  apply sum_ok
  intro vs A H n o r hb h
  split at h
  rotate_left
  · cases h
  rename_i nl g n0 nl2 h m
  injection h with h
  subst h
  cases hb
  refine fsound_of_run tt_ok cok15b mixed_ok Try.call39 Try.func39 rfl (rs := _) Try.results39 (size := 54) Try.ntmps39 (Nat.le_of_ble_eq_true rfl) rfl fun hp hfa hfh => ?_
  obtain ⟨hg, hn, hh, hm⟩ := hp
  have hg : R8 g n0 := hg
  have hn : n0 ≤ 900000 := hn
  have hh : R8 h m := hh
  have hm : m ≤ 800000 := hm
  obtain ⟨K, hK⟩ : ∃ K, K = kcut (L8 g n0) := ⟨_, rfl⟩
  have hKl : K.length ≤ 64 := by rw [hK]; exact kcut_le _
  have hKb : kblock (L8 g n0) = K ++ List.replicate (64 - K.length) 0 := by rw [hK]; rfl
  obtain ⟨B, hB⟩ : ∃ B, B = kblock (L8 g n0) := ⟨_, rfl⟩
  have hBl : B.length = 64 := by rw [hB]; exact kblock_length _
  have hKB : K ++ List.replicate (64 - K.length) 0 = B := by rw [hB, hKb]
  have ht1 : tur B 0x36 64 = kturn (L8 g n0) 0x36 := by rw [hB]; exact tur_all
  have ht2 : tur B 0x5c 64 = kturn (L8 g n0) 0x5c := by rw [hB]; exact tur_all
  clear hB
  have hge : ∀ j, j < 0 + n0 → put_ (fun x => 0) 0 n0 g (0 + j) = g j := fun j hj => by rw [Nat.zero_add, put_0 (by omega)]
  have hg1 : R8 (fun j => put_ (fun x => 0) 0 n0 g (0 + j)) (0 + n0) := fun j hj => by show 0 ≤ put_ _ _ _ _ _ ∧ put_ _ _ _ _ _ < 256; rw [hge j hj]; exact hg j (by omega)
  have hg2 : L8 (fun j => put_ (fun x => 0) 0 n0 g (0 + j)) (0 + n0) = L8 g n0 := by rw [L8_congr hge, Nat.zero_add]
  repeat ((conv => whnf); (with_reducible refine And.intro ?_ ?_); · first | exact True.intro | (intro hg0; simp only [hg0, Bool.not_false, Bool.not_true]; done) | assumption | omega | (intro _; refine ⟨True.intro, ?_⟩; omega) | (intro _; refine ⟨?_, True.intro⟩; omega) | (intro _; refine ⟨decide_eq_true ?_, ?_⟩ <;> omega) | (intro _; refine ⟨?_, ?_⟩ <;> first | omega | (simp [appG, Cd.holds]; done) | (simp [appG, Cd.holds]; omega)) | (refine decide_eq_true ?_; omega) | (intro _; omega) | (simp only [w_i64, w_u64, w_u32, w_u8]; omega) | exact ⟨U_nonneg _, U_lt32 _⟩ | exact R8_UL _ _ | exact R32_UL _ _ | (intro hg0; (repeat ((conv => whnf); (with_reducible refine And.intro ?_ ?_); · first | assumption | omega | (intro _; refine ⟨?_, ?_⟩ <;> first | assumption | omega | exact True.intro | (refine decide_eq_true ?_; omega) | (simp [appG, Cd.holds]; omega)) | (intro _; refine ⟨And.intro ?_ ?_, ?_⟩ <;> first | assumption | omega | (refine decide_eq_true ?_; omega)) | (simp only [hg0, Bool.and_self, Bool.true_and]; done) | (intro hg1; simp only [hg0, hg1, Bool.and_self, Bool.true_and]; done) | (simp [hg0]; done))); (conv => whnf); exact True.intro))
  conv => whnf
  refine ⟨fun h1 => ?_, fun h1 => ?_⟩
  replace h1 := of_decide_eq_true h1
  have hKs : K = sha (L8 g n0) := by rw [hK, kcut, if_pos (by rw [L8_length]; omega)]
  have hK32 : K.length = 32 := by rw [hKs, sha_length]
  repeat ((conv => whnf); (with_reducible refine And.intro ?_ ?_); · first | exact True.intro | (intro hg0; simp only [hg0, Bool.not_false, Bool.not_true]; done) | assumption | omega | (intro _; refine ⟨True.intro, ?_⟩; omega) | (intro _; refine ⟨?_, True.intro⟩; omega) | (intro _; refine ⟨decide_eq_true ?_, ?_⟩ <;> omega) | (intro _; refine ⟨?_, ?_⟩ <;> first | omega | (simp [appG, Cd.holds]; done) | (simp [appG, Cd.holds]; omega)) | (refine decide_eq_true ?_; omega) | (intro _; omega) | (simp only [w_i64, w_u64, w_u32, w_u8]; omega) | exact ⟨U_nonneg _, U_lt32 _⟩ | exact R8_UL _ _ | exact R32_UL _ _ | (intro hg0; (repeat ((conv => whnf); (with_reducible refine And.intro ?_ ?_); · first | assumption | omega | (intro _; refine ⟨?_, ?_⟩ <;> first | assumption | omega | exact True.intro | (refine decide_eq_true ?_; omega) | (simp [appG, Cd.holds]; omega)) | (intro _; refine ⟨And.intro ?_ ?_, ?_⟩ <;> first | assumption | omega | (refine decide_eq_true ?_; omega)) | (simp only [hg0, Bool.and_self, Bool.true_and]; done) | (intro hg1; simp only [hg0, hg1, Bool.and_self, Bool.true_and]; done) | (simp [hg0]; done) | exact hg1)); (conv => whnf); exact True.intro) | exact hg1)
  conv => whnf
  refine ⟨0, Nat, fun c => ⟨54, [(1, .sa (.sc (.im nl2 .u8 h m))), (4, .sa (.sc (.ptr 0 0 0))), (5, .sa (.sc (ownA (Nat.beq (K.length + c) 0) (K.length + c) 1)))],
      [(0, .own 30 [.ints .u8 (fun _ => 0) 32] false), (1, ownB 5 .u8 (UL (K ++ List.replicate c 0)) (K.length + c))], 2⟩, fun c => K.length + c ≤ 64, fun c => 64 - c, ⟨0, by omega, le_of [(1, 3)] ?_⟩, fun c hc => ?_⟩
  · simp only [hg2, ← hKs, hK32]
    repeat ((conv => whnf); (with_reducible refine And.intro ?_ ?_); · first | with_reducible rfl | exact (Bool.and_false _).symm | (intro _ _; with_reducible rfl) | exact True.intro | assumption | (intro h; exact absurd h (by decide)) | omega | (intro _; omega) | (intro _; refine ⟨?_, True.intro⟩; omega) | (intro _; refine ⟨?_, True.intro⟩; intro _; omega) | (refine decide_eq_false ?_; omega) | (refine decide_eq_true ?_; omega) | (simp only [w_i64, w_u64, w_u32, w_u8]; omega) | exact fun j hj => (put_0 hj).symm | (intro j _; simp only [Nat.zero_add]; done) | (simp [appG]; done) | (simp [appG]; omega) | rfl | (intro j hj; exact cont0 rfl (by omega)) | (intro hgd; (try replace hgd := of_decide_eq_true hgd); (repeat ((conv => whnf); (with_reducible refine And.intro ?_ ?_); · first | with_reducible rfl | exact (Bool.and_false _).symm | (intro _ _; with_reducible rfl) | exact True.intro | assumption | (intro h; exact absurd h (by decide)) | omega | (intro _; omega) | (intro _; refine ⟨?_, True.intro⟩; omega) | (intro _; refine ⟨?_, True.intro⟩; intro _; omega) | (refine decide_eq_false ?_; omega) | (refine decide_eq_true ?_; omega) | (simp only [w_i64, w_u64, w_u32, w_u8]; omega) | exact fun j hj => (put_0 hj).symm | (intro j _; simp only [Nat.zero_add]; done) | (simp [appG]; done) | (simp [appG]; omega) | rfl | (intro j hj; exact cont0 rfl (by omega)))); (conv => whnf); exact True.intro))
    conv => whnf
    exact True.intro
  rotate_left
  replace h1 := of_decide_eq_false h1
  have hKs : K = L8 g n0 := by rw [hK, kcut, if_neg (by rw [L8_length]; omega)]
  have hK32 : K.length = n0 := by rw [hKs, L8_length]
  repeat ((conv => whnf); (with_reducible refine And.intro ?_ ?_); · first | exact True.intro | (intro hg0; simp only [hg0, Bool.not_false, Bool.not_true]; done) | assumption | omega | (intro _; refine ⟨True.intro, ?_⟩; omega) | (intro _; refine ⟨?_, True.intro⟩; omega) | (intro _; refine ⟨decide_eq_true ?_, ?_⟩ <;> omega) | (intro _; refine ⟨?_, ?_⟩ <;> first | omega | (simp [appG, Cd.holds]; done) | (simp [appG, Cd.holds]; omega)) | (refine decide_eq_true ?_; omega) | (intro _; omega) | (simp only [w_i64, w_u64, w_u32, w_u8]; omega) | exact ⟨U_nonneg _, U_lt32 _⟩ | exact R8_UL _ _ | exact R32_UL _ _ | (intro hg0; (repeat ((conv => whnf); (with_reducible refine And.intro ?_ ?_); · first | assumption | omega | (intro _; refine ⟨?_, ?_⟩ <;> first | assumption | omega | exact True.intro | (refine decide_eq_true ?_; omega) | (simp [appG, Cd.holds]; omega)) | (intro _; refine ⟨And.intro ?_ ?_, ?_⟩ <;> first | assumption | omega | (refine decide_eq_true ?_; omega)) | (simp only [hg0, Bool.and_self, Bool.true_and]; done) | (intro hg1; simp only [hg0, hg1, Bool.and_self, Bool.true_and]; done) | (simp [hg0]; done))); (conv => whnf); exact True.intro))
  conv => whnf
  refine ⟨0, Nat, fun c => ⟨54, [(1, .sa (.sc (.im nl2 .u8 h m))), (4, .sa (.sc (.ptr 0 0 0))), (5, .sa (.sc (ownA (Nat.beq (K.length + c) 0) (K.length + c) 1)))],
      [(0, .own 30 [.ints .u8 (fun _ => 0) 32] false), (1, ownB 5 .u8 (UL (K ++ List.replicate c 0)) (K.length + c))], 2⟩, fun c => K.length + c ≤ 64, fun c => 64 - c, ⟨0, by omega, le_of [] ?_⟩, fun c hc => ?_⟩
  · have hcon : ∀ j, j < n0 → UL (K ++ List.replicate 0 0) j = put_ (fun x => 0) 0 n0 g j := fun j hj => by
      rw [put_0 hj, List.replicate_zero, List.append_nil, hKs, UL_L8 hg j hj]
    simp only [hK32]
    repeat ((conv => whnf); (with_reducible refine And.intro ?_ ?_); · first | with_reducible rfl | exact (Bool.and_false _).symm | (intro _ _; with_reducible rfl) | exact True.intro | assumption | (intro h; exact absurd h (by decide)) | omega | (intro _; omega) | (intro _; refine ⟨?_, True.intro⟩; omega) | (intro _; refine ⟨?_, True.intro⟩; intro _; omega) | (refine decide_eq_false ?_; omega) | (refine decide_eq_true ?_; omega) | (simp only [w_i64, w_u64, w_u32, w_u8]; omega) | exact fun j hj => (put_0 hj).symm | (intro j _; simp only [Nat.zero_add]; done) | (simp [appG]; done) | (simp [appG]; omega) | (intro j hj; exact hcon j (by omega)) | (rw [Nat.zero_add]; rfl) | (intro hgd; (try replace hgd := of_decide_eq_true hgd); (repeat ((conv => whnf); (with_reducible refine And.intro ?_ ?_); · first | with_reducible rfl | exact (Bool.and_false _).symm | (intro _ _; with_reducible rfl) | exact True.intro | assumption | (intro h; exact absurd h (by decide)) | omega | (intro _; omega) | (intro _; refine ⟨?_, True.intro⟩; omega) | (intro _; refine ⟨?_, True.intro⟩; intro _; omega) | (refine decide_eq_false ?_; omega) | (refine decide_eq_true ?_; omega) | (simp only [w_i64, w_u64, w_u32, w_u8]; omega) | exact fun j hj => (put_0 hj).symm | (intro j _; simp only [Nat.zero_add]; done) | (simp [appG]; done) | (simp [appG]; omega) | (intro j hj; exact hcon j (by omega)) | (rw [Nat.zero_add]; rfl))); (conv => whnf); exact True.intro))
    conv => whnf
    exact True.intro
  all_goals
    have hc : K.length + c ≤ 64 := hc
    clear h1 hKs hK32 hg1 hg2 hge
    have hnlc : Nat.beq (K.length + c) 0 = true → K.length + c = 0 := fun h => by rw [Nat.beq_eq] at h; exact h
    repeat ((conv => whnf); (with_reducible refine And.intro ?_ ?_); · first | exact True.intro | (intro hg0; simp only [hg0, Bool.not_false, Bool.not_true]; done) | assumption | omega | (intro _; refine ⟨True.intro, ?_⟩; omega) | (intro _; refine ⟨?_, True.intro⟩; omega) | (intro _; refine ⟨decide_eq_true ?_, ?_⟩ <;> omega) | (intro _; refine ⟨?_, ?_⟩ <;> first | omega | (simp [appG, Cd.holds]; done) | (simp [appG, Cd.holds]; omega)) | (refine decide_eq_true ?_; omega) | (intro _; omega) | (simp only [w_i64, w_u64, w_u32, w_u8]; omega) | exact ⟨U_nonneg _, U_lt32 _⟩ | exact R8_UL _ _ | exact R32_UL _ _ | (intro hg0; (repeat ((conv => whnf); (with_reducible refine And.intro ?_ ?_); · first | assumption | omega | (intro _; refine ⟨?_, ?_⟩ <;> first | assumption | omega | exact True.intro | (refine decide_eq_true ?_; omega) | (simp [appG, Cd.holds]; omega)) | (intro _; refine ⟨And.intro ?_ ?_, ?_⟩ <;> first | assumption | omega | (refine decide_eq_true ?_; omega)) | (simp only [hg0, Bool.and_self, Bool.true_and]; done) | (intro hg1; simp only [hg0, hg1, Bool.and_self, Bool.true_and]; done) | (simp [hg0]; done))); (conv => whnf); exact True.intro))
    conv => whnf
    refine ⟨fun h2 => ?_, fun h2 => ?_⟩
    · replace h2 := of_decide_eq_true h2
      repeat ((conv => whnf); (with_reducible refine And.intro ?_ ?_); · first | exact True.intro | (intro hg0; simp only [hg0, Bool.not_false, Bool.not_true]; done) | assumption | omega | (intro _; refine ⟨True.intro, ?_⟩; omega) | (intro _; refine ⟨?_, True.intro⟩; omega) | (intro _; refine ⟨decide_eq_true ?_, ?_⟩ <;> omega) | (intro _; refine ⟨?_, ?_⟩ <;> first | omega | (simp [appG, Cd.holds]; done) | (simp [appG, Cd.holds]; omega)) | (refine decide_eq_true ?_; omega) | (intro _; omega) | (simp only [w_i64, w_u64, w_u32, w_u8]; omega) | exact ⟨U_nonneg _, U_lt32 _⟩ | exact R8_UL _ _ | exact R32_UL _ _ | (intro hg0; (repeat ((conv => whnf); (with_reducible refine And.intro ?_ ?_); · first | assumption | omega | (intro _; refine ⟨?_, ?_⟩ <;> first | assumption | omega | exact True.intro | (refine decide_eq_true ?_; omega) | (simp [appG, Cd.holds]; omega)) | (intro _; refine ⟨And.intro ?_ ?_, ?_⟩ <;> first | assumption | omega | (refine decide_eq_true ?_; omega)) | (simp only [hg0, Bool.and_self, Bool.true_and]; done) | (intro hg1; simp only [hg0, hg1, Bool.and_self, Bool.true_and]; done) | (simp [hg0]; done))); (conv => whnf); exact True.intro))
      conv => whnf
      refine ⟨c + 1, ⟨by show K.length + (c + 1) ≤ 64; omega, by show 64 - (c + 1) < 64 - c; omega⟩, le_of [(1, 3)] ?_⟩
      simp only [List.replicate_succ', ← List.append_assoc, ← Nat.add_assoc]
      repeat ((conv => whnf); (with_reducible refine And.intro ?_ ?_); · first | with_reducible rfl | exact (Bool.and_false _).symm | (intro _ _; with_reducible rfl) | exact True.intro | assumption | (intro h; exact absurd h (by decide)) | omega | (intro _; omega) | (intro _; refine ⟨?_, True.intro⟩; omega) | (intro _; refine ⟨?_, True.intro⟩; intro _; omega) | (refine decide_eq_false ?_; omega) | (refine decide_eq_true ?_; omega) | (simp only [w_i64, w_u64, w_u32, w_u8]; omega) | exact fun j hj => (put_0 hj).symm | (intro j _; simp only [Nat.zero_add]; done) | (simp [appG]; done) | (simp [appG]; omega) | exact app1 (by rw [List.length_append, List.length_replicate]) rfl | (intro hgd; (try replace hgd := of_decide_eq_true hgd); (repeat ((conv => whnf); (with_reducible refine And.intro ?_ ?_); · first | with_reducible rfl | exact (Bool.and_false _).symm | (intro _ _; with_reducible rfl) | exact True.intro | assumption | (intro h; exact absurd h (by decide)) | omega | (intro _; omega) | (intro _; refine ⟨?_, True.intro⟩; omega) | (intro _; refine ⟨?_, True.intro⟩; intro _; omega) | (refine decide_eq_false ?_; omega) | (refine decide_eq_true ?_; omega) | (simp only [w_i64, w_u64, w_u32, w_u8]; omega) | exact fun j hj => (put_0 hj).symm | (intro j _; simp only [Nat.zero_add]; done) | (simp [appG]; done) | (simp [appG]; omega) | exact app1 (by rw [List.length_append, List.length_replicate]) rfl)); (conv => whnf); exact True.intro))
      conv => whnf
      exact True.intro
    · replace h2 := of_decide_eq_false h2
      have hc64 : K.length + c = 64 := by omega
      have hcr : K ++ List.replicate c 0 = B := by rw [← hKB, show 64 - K.length = c by omega]
      simp only [hc64, hcr]
      repeat ((conv => whnf); (with_reducible refine And.intro ?_ ?_); · first | exact True.intro | (intro hg0; simp only [hg0, Bool.not_false, Bool.not_true]; done) | assumption | omega | (intro _; refine ⟨True.intro, ?_⟩; omega) | (intro _; refine ⟨?_, True.intro⟩; omega) | (intro _; refine ⟨decide_eq_true ?_, ?_⟩ <;> omega) | (intro _; refine ⟨?_, ?_⟩ <;> first | omega | (simp [appG, Cd.holds]; done) | (simp [appG, Cd.holds]; omega)) | (refine decide_eq_true ?_; omega) | (intro _; omega) | (simp only [w_i64, w_u64, w_u32, w_u8]; omega) | exact ⟨U_nonneg _, U_lt32 _⟩ | exact R8_UL _ _ | exact R32_UL _ _ | (intro hg0; (repeat ((conv => whnf); (with_reducible refine And.intro ?_ ?_); · first | assumption | omega | (intro _; refine ⟨?_, ?_⟩ <;> first | assumption | omega | exact True.intro | (refine decide_eq_true ?_; omega) | (simp [appG, Cd.holds]; omega)) | (intro _; refine ⟨And.intro ?_ ?_, ?_⟩ <;> first | assumption | omega | (refine decide_eq_true ?_; omega)) | (simp only [hg0, Bool.and_self, Bool.true_and]; done) | (intro hg1; simp only [hg0, hg1, Bool.and_self, Bool.true_and]; done) | (simp [hg0]; done))); (conv => whnf); exact True.intro))
      conv => whnf
      refine ⟨0, Nat, fun i => ⟨54, [(1, .sa (.sc (.im nl2 .u8 h m))), (4, .sa (.sc (.ptr 0 0 0))), (5, .sa (.sc (ownA false 64 1))), (7, .sa (.sc (ownA (Nat.beq i 0) i 2))), (8, .sa (.sc (ownA (Nat.beq i 0) i 3))), (9, .sa (.sc (.int .i64 i)))],
        [(0, .own 30 [.ints .u8 (fun _ => 0) 32] false), (1, ownB 5 .u8 (UL B) 64), (2, ownB 5 .u8 (UL (tur B 0x36 i)) i), (3, ownB 5 .u8 (UL (tur B 0x5c i)) i)], 4⟩, fun i => i ≤ 64, fun i => 64 - i, ⟨0, by omega, le_of [] ?_⟩, fun i hi => ?_⟩
      · repeat ((conv => whnf); (with_reducible refine And.intro ?_ ?_); · first | with_reducible rfl | exact (Bool.and_false _).symm | (intro _ _; with_reducible rfl) | exact True.intro | assumption | (intro h; exact absurd h (by decide)) | omega | (intro _; omega) | (intro _; refine ⟨?_, True.intro⟩; omega) | (intro _; refine ⟨?_, True.intro⟩; intro _; omega) | (refine decide_eq_false ?_; omega) | (refine decide_eq_true ?_; omega) | (simp only [w_i64, w_u64, w_u32, w_u8]; omega) | exact fun j hj => (put_0 hj).symm | (intro j _; simp only [Nat.zero_add]; done) | (simp [appG]; done) | (simp [appG]; omega) | rfl | (intro hgd; (try replace hgd := of_decide_eq_true hgd); (repeat ((conv => whnf); (with_reducible refine And.intro ?_ ?_); · first | with_reducible rfl | exact (Bool.and_false _).symm | (intro _ _; with_reducible rfl) | exact True.intro | assumption | (intro h; exact absurd h (by decide)) | omega | (intro _; omega) | (intro _; refine ⟨?_, True.intro⟩; omega) | (intro _; refine ⟨?_, True.intro⟩; intro _; omega) | (refine decide_eq_false ?_; omega) | (refine decide_eq_true ?_; omega) | (simp only [w_i64, w_u64, w_u32, w_u8]; omega) | exact fun j hj => (put_0 hj).symm | (intro j _; simp only [Nat.zero_add]; done) | (simp [appG]; done) | (simp [appG]; omega) | rfl)); (conv => whnf); exact True.intro))
        conv => whnf
        exact True.intro
      have hi : i ≤ 64 := hi
      have hnli : Nat.beq i 0 = true → i = 0 := fun h => by rw [Nat.beq_eq] at h; exact h
      repeat ((conv => whnf); (with_reducible refine And.intro ?_ ?_); · first | exact True.intro | (intro hg0; simp only [hg0, Bool.not_false, Bool.not_true]; done) | assumption | omega | (intro _; refine ⟨True.intro, ?_⟩; omega) | (intro _; refine ⟨?_, True.intro⟩; omega) | (intro _; refine ⟨decide_eq_true ?_, ?_⟩ <;> omega) | (intro _; refine ⟨?_, ?_⟩ <;> first | omega | (simp [appG, Cd.holds]; done) | (simp [appG, Cd.holds]; omega)) | (refine decide_eq_true ?_; omega) | (intro _; omega) | (simp only [w_i64, w_u64, w_u32, w_u8]; omega) | exact ⟨U_nonneg _, U_lt32 _⟩ | exact R8_UL _ _ | exact R32_UL _ _ | (intro hg0; (repeat ((conv => whnf); (with_reducible refine And.intro ?_ ?_); · first | assumption | omega | (intro _; refine ⟨?_, ?_⟩ <;> first | assumption | omega | exact True.intro | (refine decide_eq_true ?_; omega) | (simp [appG, Cd.holds]; omega)) | (intro _; refine ⟨And.intro ?_ ?_, ?_⟩ <;> first | assumption | omega | (refine decide_eq_true ?_; omega)) | (simp only [hg0, Bool.and_self, Bool.true_and]; done) | (intro hg1; simp only [hg0, hg1, Bool.and_self, Bool.true_and]; done) | (simp [hg0]; done))); (conv => whnf); exact True.intro))
      conv => whnf
      refine ⟨fun h3 => ?_, fun h3 => ?_⟩
      · replace h3 := of_decide_eq_true h3
        repeat ((conv => whnf); (with_reducible refine And.intro ?_ ?_); · first | exact True.intro | (intro hg0; simp only [hg0, Bool.not_false, Bool.not_true]; done) | assumption | omega | (intro _; refine ⟨True.intro, ?_⟩; omega) | (intro _; refine ⟨?_, True.intro⟩; omega) | (intro _; refine ⟨decide_eq_true ?_, ?_⟩ <;> omega) | (intro _; refine ⟨?_, ?_⟩ <;> first | omega | (simp [appG, Cd.holds]; done) | (simp [appG, Cd.holds]; omega)) | (refine decide_eq_true ?_; omega) | (intro _; omega) | (simp only [w_i64, w_u64, w_u32, w_u8]; omega) | exact ⟨U_nonneg _, U_lt32 _⟩ | exact R8_UL _ _ | exact R32_UL _ _ | (intro hg0; (repeat ((conv => whnf); (with_reducible refine And.intro ?_ ?_); · first | assumption | omega | (intro _; refine ⟨?_, ?_⟩ <;> first | assumption | omega | exact True.intro | (refine decide_eq_true ?_; omega) | (simp [appG, Cd.holds]; omega)) | (intro _; refine ⟨And.intro ?_ ?_, ?_⟩ <;> first | assumption | omega | (refine decide_eq_true ?_; omega)) | (simp only [hg0, Bool.and_self, Bool.true_and]; done) | (intro hg1; simp only [hg0, hg1, Bool.and_self, Bool.true_and]; done) | (simp [hg0]; done))); (conv => whnf); exact True.intro))
        conv => whnf
        refine ⟨[(0, ⟨0, some 30, []⟩), (1, ⟨0, some 31, []⟩), (2, ⟨0, some 32, []⟩), (3, ⟨6, some 33, []⟩), (4, ⟨14, some 34, []⟩), (5, ⟨30, some 35, []⟩), (6, ⟨62, some 36, [100]⟩), (7, ⟨127, some 37, [116, 2]⟩), (8, ⟨0, some 38, []⟩), (9, ⟨0, some 39, []⟩), (10, ⟨0, some 40, []⟩), (11, ⟨1536, some 41, []⟩), (12, ⟨3584, some 42, []⟩), (13, ⟨7680, some 43, []⟩), (14, ⟨15872, some 44, [228]⟩), (15, ⟨32767, some 45, [244, 3]⟩), (16, ⟨65535, some 7, []⟩), (17, ⟨131071, some 8, []⟩)], 292, ?_⟩
        repeat ((conv => whnf); (with_reducible refine And.intro ?_ ?_); · first | exact True.intro | (intro hg0; simp only [hg0, Bool.not_false, Bool.not_true]; done) | assumption | omega | (intro _; refine ⟨True.intro, ?_⟩; omega) | (intro _; refine ⟨?_, True.intro⟩; omega) | (intro _; refine ⟨decide_eq_true ?_, ?_⟩ <;> omega) | (intro _; refine ⟨?_, ?_⟩ <;> first | omega | (simp [appG, Cd.holds]; done) | (simp [appG, Cd.holds]; omega)) | (refine decide_eq_true ?_; omega) | (intro _; omega) | (simp only [w_i64, w_u64, w_u32, w_u8]; omega) | exact ⟨U_nonneg _, U_lt32 _⟩ | exact R8_UL _ _ | exact R32_UL _ _ | (intro hg0; (repeat ((conv => whnf); (with_reducible refine And.intro ?_ ?_); · first | assumption | omega | (intro _; refine ⟨?_, ?_⟩ <;> first | assumption | omega | exact True.intro | (refine decide_eq_true ?_; omega) | (simp [appG, Cd.holds]; omega)) | (intro _; refine ⟨And.intro ?_ ?_, ?_⟩ <;> first | assumption | omega | (refine decide_eq_true ?_; omega)) | (simp only [hg0, Bool.and_self, Bool.true_and]; done) | (intro hg1; simp only [hg0, hg1, Bool.and_self, Bool.true_and]; done) | (simp [hg0]; done))); (conv => whnf); exact True.intro))
        conv => whnf
        refine ⟨i + 1, ⟨by show i + 1 ≤ 64; omega, by show 64 - (i + 1) < 64 - i; omega⟩, le_of [(2, 116), (3, 244)] ?_⟩
        simp only [tur_succ (show i < B.length by omega), Int.toNat_natCast, Nat.zero_add]
        repeat ((conv => whnf); (with_reducible refine And.intro ?_ ?_); · first | with_reducible rfl | exact (Bool.and_false _).symm | (intro _ _; with_reducible rfl) | exact True.intro | assumption | (intro h; exact absurd h (by decide)) | omega | (intro _; omega) | (intro _; refine ⟨?_, True.intro⟩; omega) | (intro _; refine ⟨?_, True.intro⟩; intro _; omega) | (refine decide_eq_false ?_; omega) | (refine decide_eq_true ?_; omega) | (simp only [w_i64, w_u64, w_u32, w_u8]; omega) | exact fun j hj => (put_0 hj).symm | (intro j _; simp only [Nat.zero_add]; done) | (simp [appG]; done) | (simp [appG]; omega) | exact app1 (tur_length (by omega)).symm (xor8 (B.getD i 0) 0x36) | exact app1 (tur_length (by omega)).symm (xor8 (B.getD i 0) 0x5c) | rfl | (intro hgd; (try replace hgd := of_decide_eq_true hgd); (repeat ((conv => whnf); (with_reducible refine And.intro ?_ ?_); · first | with_reducible rfl | exact (Bool.and_false _).symm | (intro _ _; with_reducible rfl) | exact True.intro | assumption | (intro h; exact absurd h (by decide)) | omega | (intro _; omega) | (intro _; refine ⟨?_, True.intro⟩; omega) | (intro _; refine ⟨?_, True.intro⟩; intro _; omega) | (refine decide_eq_false ?_; omega) | (refine decide_eq_true ?_; omega) | (simp only [w_i64, w_u64, w_u32, w_u8]; omega) | exact fun j hj => (put_0 hj).symm | (intro j _; simp only [Nat.zero_add]; done) | (simp [appG]; done) | (simp [appG]; omega) | exact app1 (tur_length (by omega)).symm (xor8 (B.getD i 0) 0x36) | exact app1 (tur_length (by omega)).symm (xor8 (B.getD i 0) 0x5c) | rfl)); (conv => whnf); exact True.intro))
        conv => whnf
        exact True.intro
      · replace h3 := of_decide_eq_false h3
        have hi64 : i = 64 := by omega
        subst hi64
        simp only [ht1, ht2]
        have hc1 : L8 (fun j => put_ (UL (kturn (L8 g n0) 0x36)) 64 m h (0 + j)) (64 + m) = kturn (L8 g n0) 0x36 ++ L8 h m := by
          simp only [Nat.zero_add]; exact L8_cat (kturn_length _ _).symm
        have hc2 : ∀ s : List B8, s.length = 32 → L8 (fun j => put_ (UL (kturn (L8 g n0) 0x5c)) 64 (32 - Int.toNat 0) (fun j => UL s (Int.toNat 0 + j)) (0 + j)) (64 + (32 - Int.toNat 0)) = kturn (L8 g n0) 0x5c ++ s := fun s hs => by
          simp only [Nat.zero_add]; exact (L8_cat (kturn_length _ _).symm).trans (congrArg (kturn (L8 g n0) 0x5c ++ ·) (L8_z (n := 32) hs.symm))
        repeat ((conv => whnf); (with_reducible refine And.intro ?_ ?_); · first | exact True.intro | (intro hg0; simp only [hg0, Bool.not_false, Bool.not_true]; done) | assumption | omega | (intro _; refine ⟨True.intro, ?_⟩; omega) | (intro _; refine ⟨?_, True.intro⟩; omega) | (intro _; refine ⟨decide_eq_true ?_, ?_⟩ <;> omega) | (intro _; refine ⟨?_, ?_⟩ <;> first | omega | (simp [appG, Cd.holds]; done) | (simp [appG, Cd.holds]; omega)) | (refine decide_eq_true ?_; omega) | (intro _; omega) | (simp only [w_i64, w_u64, w_u32, w_u8]; omega) | exact ⟨U_nonneg _, U_lt32 _⟩ | exact R8_UL _ _ | exact R32_UL _ _ | (intro hg0; (repeat ((conv => whnf); (with_reducible refine And.intro ?_ ?_); · first | assumption | omega | (intro _; refine ⟨?_, ?_⟩ <;> first | assumption | omega | exact True.intro | (refine decide_eq_true ?_; omega) | (simp [appG, Cd.holds]; omega)) | (intro _; refine ⟨And.intro ?_ ?_, ?_⟩ <;> first | assumption | omega | (refine decide_eq_true ?_; omega)) | (simp only [hg0, Bool.and_self, Bool.true_and]; done) | (intro hg1; simp only [hg0, hg1, Bool.and_self, Bool.true_and]; done) | (simp [hg0]; done) | exact R8_put0 (R8_UL _ _) hh | exact R8_put0 (R8_UL _ _) (R8_at _ _ _))); (conv => whnf); exact True.intro) | exact R8_put0 (R8_UL _ _) hh | exact R8_put0 (R8_UL _ _) (R8_at _ _ _))
        conv => whnf
        refine ⟨[], ?_⟩
        simp only [hc1, hc2 _ (sha_length _)]
        repeat ((conv => whnf); (with_reducible refine And.intro ?_ ?_); · first | with_reducible rfl | exact (Bool.and_false _).symm | (intro _ _; with_reducible rfl) | exact True.intro | assumption | (intro h; exact absurd h (by decide)) | omega | (intro _; omega) | (intro _; refine ⟨?_, True.intro⟩; omega) | (intro _; refine ⟨?_, True.intro⟩; intro _; omega) | (refine decide_eq_false ?_; omega) | (refine decide_eq_true ?_; omega) | (simp only [w_i64, w_u64, w_u32, w_u8]; omega) | exact fun j hj => (put_0 hj).symm | (intro j _; simp only [Nat.zero_add]; done) | (simp [appG]; done) | (simp [appG]; omega) | exact fun j _ => rfl | (intro hgd; (try replace hgd := of_decide_eq_true hgd); (repeat ((conv => whnf); (with_reducible refine And.intro ?_ ?_); · first | with_reducible rfl | exact (Bool.and_false _).symm | (intro _ _; with_reducible rfl) | exact True.intro | assumption | (intro h; exact absurd h (by decide)) | omega | (intro _; omega) | (intro _; refine ⟨?_, True.intro⟩; omega) | (intro _; refine ⟨?_, True.intro⟩; intro _; omega) | (refine decide_eq_false ?_; omega) | (refine decide_eq_true ?_; omega) | (simp only [w_i64, w_u64, w_u32, w_u8]; omega) | exact fun j hj => (put_0 hj).symm | (intro j _; simp only [Nat.zero_add]; done) | (simp [appG]; done) | (simp [appG]; omega) | exact fun j _ => rfl)); (conv => whnf); exact True.intro))
        conv => whnf
        exact True.intro
end Go.Proofs.Ytogijkmflhjhkaa
