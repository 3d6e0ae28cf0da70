/- Many texts in one: F8, F9, F10, F36, F37, F17, Str, Cdt, F38, Dg, F43, F44. No condition. -/
import Derived.Test.YtogijkmflhjhkaaKC4

/- Functions through the evaluator: mac's others. No condition. -/
namespace Go.Proofs.Ytogijkmflhjhkaa
open Go.Sx Go.RowKit
set_option linter.unusedSimpArgs false
set_option maxRecDepth 100000
set_option linter.unusedVariables false

theorem cok8 : COk Try.prog (tab [(38, hmacS)]) := cok_cons hmacS_ok cok_nil
def extractS : Summary := mkS false [.r .u8, .r .u8] fun
  | [.r nl g n, .r nl2 h m] => some ⟨.and (.p (R8 g n)) (.and (.p (n ≤ 900000)) (.and (.p (R8 h m)) (.p (m ≤ 800000)))), some (.sa (.agg [.ints .u8 (UL (hmac (L8 g n) (L8 h m))) 32])), [], 0⟩
  | _ => none
theorem extractS_ok : SumOk Try.prog 42 extractS := by
  unfold extractS
  apply sum_ok
  intro vs A H n o r hb h
  split at h
  rotate_left
  · cases h
  rename_i nl g n0 nl2 h m
  injection h with h
  subst h
  cases hb
  refine fsound_of_run tt_ok cok8 mixed_ok Try.call42 Try.func42 rfl (rs := _) Try.results42 (size := 9) Try.ntmps42 (Nat.le_of_ble_eq_true rfl) rfl fun hp hfa hfh => ?_
  obtain ⟨hg, hn, hh, hm⟩ := hp
  have hg : R8 g n0 := hg
  have hn : n0 ≤ 900000 := hn
  have hh : R8 h m := hh
  have hm : m ≤ 800000 := hm
  have hcl : (cat (fun x => ⟨nl2, h, m⟩) 1).length ≤ 800000 := by show (L8 h m).length ≤ 800000; rw [L8_length]; exact hm
  repeat ((conv => whnf); (with_reducible refine And.intro ?_ ?_); · first | exact True.intro | with_reducible assumption | omega | (intro _; refine ⟨True.intro, ?_⟩; omega) | (intro _; refine ⟨?_, True.intro⟩; omega) | (intro _; omega) | (refine decide_eq_true ?_; omega) | (intro _; refine ⟨decide_eq_true ?_, ?_⟩ <;> omega) | (simp only [w_i64, w_u64, w_u32, w_u8]; omega) | exact R8_UL _ _ | (intro hg0; (repeat ((conv => whnf); (with_reducible refine And.intro ?_ ?_); · first | assumption | omega | (intro _; refine ⟨?_, ?_⟩ <;> first | assumption | omega) | (simp only [hg0, Bool.and_self, Bool.true_and]; done) | exact fun j _ => hh | exact hcl)); (conv => whnf); exact True.intro) | exact fun j _ => hh | exact hcl)
  conv => whnf
  refine ⟨[], ?_⟩
  repeat ((conv => whnf); (with_reducible refine And.intro ?_ ?_); · first | with_reducible rfl | exact (Bool.and_false _).symm | (intro _ _; with_reducible rfl) | exact True.intro | assumption | (intro h; exact absurd h (by decide)) | omega | (intro _; omega) | (intro _; refine ⟨?_, True.intro⟩; omega) | (intro _; refine ⟨?_, True.intro⟩; intro _; omega) | (refine decide_eq_false ?_; omega) | (refine decide_eq_true ?_; omega) | (simp only [w_i64, w_u64, w_u32, w_u8]; omega) | exact fun j hj => (put_0 hj).symm | (intro j _; simp only [Nat.zero_add]; done) | (simp [appG]; done) | (simp [appG]; omega) | exact fun j _ => rfl | (intro hgd; (try replace hgd := of_decide_eq_true hgd); (repeat ((conv => whnf); (with_reducible refine And.intro ?_ ?_); · first | with_reducible rfl | exact (Bool.and_false _).symm | (intro _ _; with_reducible rfl) | exact True.intro | assumption | (intro h; exact absurd h (by decide)) | omega | (intro _; omega) | (intro _; refine ⟨?_, True.intro⟩; omega) | (intro _; refine ⟨?_, True.intro⟩; intro _; omega) | (refine decide_eq_false ?_; omega) | (refine decide_eq_true ?_; omega) | (simp only [w_i64, w_u64, w_u32, w_u8]; omega) | exact fun j hj => (put_0 hj).symm | (intro j _; simp only [Nat.zero_add]; done) | (simp [appG]; done) | (simp [appG]; omega) | exact fun j _ => rfl)); (conv => whnf); exact True.intro))
  conv => whnf
  exact True.intro

/-- The first i bytes are the same just if u is 0. -/
def SameTo (a b : List B8) (i : Nat) (u : B8) : Prop := i ≤ a.length ∧ i ≤ b.length ∧ (u = 0 ↔ a.take i = b.take i)
theorem same_step {a b : List B8} {i : Nat} {u : B8} (h : SameTo a b i u) (ha : i < a.length) (hb : i < b.length) : SameTo a b (i + 1) (u ||| (a.getD i 0 ^^^ b.getD i 0)) := by
  obtain ⟨h1, h2, h3⟩ := h
  have h3 : u = 0#8 ↔ a.take i = b.take i := h3
  refine ⟨by omega, by omega, ?_⟩
  show u ||| (a.getD i 0 ^^^ b.getD i 0) = 0#8 ↔ _
  rw [List.take_succ_eq_append_getElem ha, List.take_succ_eq_append_getElem hb, BitVec.or_eq_zero_iff, h3]
  have e1 : a.getD i 0 = a[i] := by simp [List.getD_eq_getElem?_getD, ha]
  have e2 : b.getD i 0 = b[i] := by simp [List.getD_eq_getElem?_getD, hb]
  rw [e1, e2]
  constructor
  · rintro ⟨q1, q2⟩
    rw [q1, BitVec.xor_eq_zero_iff.1 q2]
  · intro q
    obtain ⟨q1, q2⟩ := List.append_inj q (by rw [List.length_take, List.length_take]; omega)
    exact ⟨q1, by rw [BitVec.xor_eq_zero_iff]; simpa using q2⟩
/-- mac.Same. -/
def sameS : Summary := mkS false [.r .u8, .r .u8] fun
  | [.r nl g n, .r nl2 h m] => some ⟨.and (.p (R8 g n)) (.p (R8 h m)), some (.sa (.sc (.bool (decide (L8 g n = L8 h m))))), [], 0⟩
  | _ => none
theorem sameS_ok : SumOk Try.prog 41 sameS := by
  unfold sameS
  apply sum_ok
  intro vs A H n o r hb h
  split at h
  rotate_left
  · cases h
  rename_i nl g n0 nl2 h m
  injection h with h
  subst h
  cases hb
  refine fsound_of_run tt_ok cok_nil mixed_ok Try.call41 Try.func41 rfl (rs := _) Try.results41 (size := 31) Try.ntmps41 (Nat.le_of_ble_eq_true rfl) rfl fun hp hfa hfh => ?_
  obtain ⟨hg, hh⟩ := hp
  have hg : R8 g n0 := hg
  have hh : R8 h m := hh
  have hn63 : n0 ≤ 9223372036854775807 := hfa.1.2
  have hl1 := L8_length g n0
  have hl2 := L8_length h m
  repeat ((conv => whnf); (with_reducible refine And.intro ?_ ?_); · first | exact True.intro | with_reducible assumption | omega | (intro _; refine ⟨True.intro, ?_⟩; omega) | (intro _; refine ⟨?_, True.intro⟩; omega) | (intro _; omega) | (refine decide_eq_true ?_; omega) | (intro _; refine ⟨decide_eq_true ?_, ?_⟩ <;> omega) | (simp only [w_i64, w_u64, w_u32, w_u8]; omega) | exact R8_UL _ _ | (intro hg0; (repeat ((conv => whnf); (with_reducible refine And.intro ?_ ?_); · first | assumption | omega | (intro _; refine ⟨?_, ?_⟩ <;> first | assumption | omega) | (simp only [hg0, Bool.and_self, Bool.true_and]; done))); (conv => whnf); exact True.intro))
  conv => whnf
  refine ⟨fun h1 => ?_, fun h1 => ?_⟩
  · rw [bne_iff_ne] at h1
    have hne : ¬ L8 g n0 = L8 h m := fun q => by rw [q] at hl1; omega
    repeat ((conv => whnf); (with_reducible refine And.intro ?_ ?_); · first | exact True.intro | with_reducible assumption | omega | (intro _; refine ⟨True.intro, ?_⟩; omega) | (intro _; refine ⟨?_, True.intro⟩; omega) | (intro _; omega) | (refine decide_eq_true ?_; omega) | (intro _; refine ⟨decide_eq_true ?_, ?_⟩ <;> omega) | (simp only [w_i64, w_u64, w_u32, w_u8]; omega) | exact R8_UL _ _ | (intro hg0; (repeat ((conv => whnf); (with_reducible refine And.intro ?_ ?_); · first | assumption | omega | (intro _; refine ⟨?_, ?_⟩ <;> first | assumption | omega) | (simp only [hg0, Bool.and_self, Bool.true_and]; done))); (conv => whnf); exact True.intro))
    conv => whnf
    refine ⟨[], ?_⟩
    repeat ((conv => whnf); (with_reducible refine And.intro ?_ ?_); · first | with_reducible rfl | exact (Bool.and_false _).symm | (intro _ _; with_reducible rfl) | exact True.intro | assumption | (intro h; exact absurd h (by decide)) | omega | (intro _; omega) | (intro _; refine ⟨?_, True.intro⟩; omega) | (intro _; refine ⟨?_, True.intro⟩; intro _; omega) | (refine decide_eq_false ?_; omega) | (refine decide_eq_true ?_; omega) | (simp only [w_i64, w_u64, w_u32, w_u8]; omega) | exact fun j hj => (put_0 hj).symm | (intro j _; simp only [Nat.zero_add]; done) | (simp [appG]; done) | (simp [appG]; omega) | exact decide_eq_false hne | (intro hgd; (try replace hgd := of_decide_eq_true hgd); (repeat ((conv => whnf); (with_reducible refine And.intro ?_ ?_); · first | with_reducible rfl | exact (Bool.and_false _).symm | (intro _ _; with_reducible rfl) | exact True.intro | assumption | (intro h; exact absurd h (by decide)) | omega | (intro _; omega) | (intro _; refine ⟨?_, True.intro⟩; omega) | (intro _; refine ⟨?_, True.intro⟩; intro _; omega) | (refine decide_eq_false ?_; omega) | (refine decide_eq_true ?_; omega) | (simp only [w_i64, w_u64, w_u32, w_u8]; omega) | exact fun j hj => (put_0 hj).symm | (intro j _; simp only [Nat.zero_add]; done) | (simp [appG]; done) | (simp [appG]; omega) | exact decide_eq_false hne)); (conv => whnf); exact True.intro))
    conv => whnf
    exact True.intro
  · rw [bne_eq_false_iff_eq] at h1
    have hnm : n0 = m := by omega
    subst hnm
    repeat ((conv => whnf); (with_reducible refine And.intro ?_ ?_); · first | exact True.intro | with_reducible assumption | omega | (intro _; refine ⟨True.intro, ?_⟩; omega) | (intro _; refine ⟨?_, True.intro⟩; omega) | (intro _; omega) | (refine decide_eq_true ?_; omega) | (intro _; refine ⟨decide_eq_true ?_, ?_⟩ <;> omega) | (simp only [w_i64, w_u64, w_u32, w_u8]; omega) | exact R8_UL _ _ | (intro hg0; (repeat ((conv => whnf); (with_reducible refine And.intro ?_ ?_); · first | assumption | omega | (intro _; refine ⟨?_, ?_⟩ <;> first | assumption | omega) | (simp only [hg0, Bool.and_self, Bool.true_and]; done))); (conv => whnf); exact True.intro))
    conv => whnf
    refine ⟨0, Nat × B8, fun e => ⟨31, [(0, .sa (.sc (.im nl .u8 g n0))), (1, .sa (.sc (.im nl2 .u8 h n0))), (5, .sa (.sc (.int .u8 (U e.2)))), (13, .sa (.sc (.int .i64 n0))), (14, .sa (.sc (.int .i64 e.1)))],
      [], 0⟩, fun e => SameTo (L8 g n0) (L8 h n0) e.1 e.2, fun e => n0 - e.1, ⟨(0, 0), ⟨by show 0 ≤ _; omega, by show 0 ≤ _; omega, by simp⟩, le_of [] ?_⟩, fun e he => ?_⟩
    · repeat ((conv => whnf); (with_reducible refine And.intro ?_ ?_); · first | with_reducible rfl | exact (Bool.and_false _).symm | (intro _ _; with_reducible rfl) | exact True.intro | assumption | (intro h; exact absurd h (by decide)) | omega | (intro _; omega) | (intro _; refine ⟨?_, True.intro⟩; omega) | (intro _; refine ⟨?_, True.intro⟩; intro _; omega) | (refine decide_eq_false ?_; omega) | (refine decide_eq_true ?_; omega) | (simp only [w_i64, w_u64, w_u32, w_u8]; omega) | exact fun j hj => (put_0 hj).symm | (intro j _; simp only [Nat.zero_add]; done) | (simp [appG]; done) | (simp [appG]; omega) | rfl | (intro hgd; (try replace hgd := of_decide_eq_true hgd); (repeat ((conv => whnf); (with_reducible refine And.intro ?_ ?_); · first | with_reducible rfl | exact (Bool.and_false _).symm | (intro _ _; with_reducible rfl) | exact True.intro | assumption | (intro h; exact absurd h (by decide)) | omega | (intro _; omega) | (intro _; refine ⟨?_, True.intro⟩; omega) | (intro _; refine ⟨?_, True.intro⟩; intro _; omega) | (refine decide_eq_false ?_; omega) | (refine decide_eq_true ?_; omega) | (simp only [w_i64, w_u64, w_u32, w_u8]; omega) | exact fun j hj => (put_0 hj).symm | (intro j _; simp only [Nat.zero_add]; done) | (simp [appG]; done) | (simp [appG]; omega) | rfl)); (conv => whnf); exact True.intro))
      conv => whnf
      exact True.intro
    have hi : e.1 ≤ n0 := by have := he.1; omega
    repeat ((conv => whnf); (with_reducible refine And.intro ?_ ?_); · first | exact True.intro | with_reducible assumption | omega | (intro _; refine ⟨True.intro, ?_⟩; omega) | (intro _; refine ⟨?_, True.intro⟩; omega) | (intro _; omega) | (refine decide_eq_true ?_; omega) | (intro _; refine ⟨decide_eq_true ?_, ?_⟩ <;> omega) | (simp only [w_i64, w_u64, w_u32, w_u8]; omega) | exact R8_UL _ _ | (intro hg0; (repeat ((conv => whnf); (with_reducible refine And.intro ?_ ?_); · first | assumption | omega | (intro _; refine ⟨?_, ?_⟩ <;> first | assumption | omega) | (simp only [hg0, Bool.and_self, Bool.true_and]; done))); (conv => whnf); exact True.intro))
    conv => whnf
    refine ⟨fun h2 => ?_, fun h2 => ?_⟩
    · replace h2 := of_decide_eq_true h2
      have hs := same_step he (by omega) (by omega)
      have ga : g (e.1 : Int).toNat = U ((L8 g n0).getD e.1 0) := (UL_L8 hg e.1 (by omega)).symm
      have ha : h (e.1 : Int).toNat = U ((L8 h n0).getD e.1 0) := (UL_L8 hh e.1 (by omega)).symm
      repeat ((conv => whnf); (with_reducible refine And.intro ?_ ?_); · first | exact True.intro | with_reducible assumption | omega | (intro _; refine ⟨True.intro, ?_⟩; omega) | (intro _; refine ⟨?_, True.intro⟩; omega) | (intro _; omega) | (refine decide_eq_true ?_; omega) | (intro _; refine ⟨decide_eq_true ?_, ?_⟩ <;> omega) | (simp only [w_i64, w_u64, w_u32, w_u8]; omega) | exact R8_UL _ _ | (intro hg0; (repeat ((conv => whnf); (with_reducible refine And.intro ?_ ?_); · first | assumption | omega | (intro _; refine ⟨?_, ?_⟩ <;> first | assumption | omega) | (simp only [hg0, Bool.and_self, Bool.true_and]; done))); (conv => whnf); exact True.intro))
      conv => whnf
      refine ⟨[(0, ⟨0, some 17, []⟩), (1, ⟨0, some 18, []⟩), (2, ⟨0, some 19, []⟩), (3, ⟨6, some 20, []⟩), (4, ⟨14, some 21, []⟩), (5, ⟨0, some 22, []⟩), (6, ⟨0, some 23, []⟩), (7, ⟨96, some 24, []⟩), (8, ⟨224, some 25, []⟩), (9, ⟨510, some 26, []⟩), (10, ⟨1023, some 27, []⟩), (11, ⟨2047, some 5, []⟩)], 192, ?_⟩
      repeat ((conv => whnf); (with_reducible refine And.intro ?_ ?_); · first | exact True.intro | with_reducible assumption | omega | (intro _; refine ⟨True.intro, ?_⟩; omega) | (intro _; refine ⟨?_, True.intro⟩; omega) | (intro _; omega) | (refine decide_eq_true ?_; omega) | (intro _; refine ⟨decide_eq_true ?_, ?_⟩ <;> omega) | (simp only [w_i64, w_u64, w_u32, w_u8]; omega) | exact R8_UL _ _ | (intro hg0; (repeat ((conv => whnf); (with_reducible refine And.intro ?_ ?_); · first | assumption | omega | (intro _; refine ⟨?_, ?_⟩ <;> first | assumption | omega) | (simp only [hg0, Bool.and_self, Bool.true_and]; done))); (conv => whnf); exact True.intro))
      conv => whnf
      refine ⟨(e.1 + 1, e.2 ||| ((L8 g n0).getD e.1 0 ^^^ (L8 h n0).getD e.1 0)), ⟨hs, by show n0 - (e.1 + 1) < n0 - e.1; omega⟩, le_of [] ?_⟩
      simp only [ga, ha, xor8, or8]
      repeat ((conv => whnf); (with_reducible refine And.intro ?_ ?_); · first | with_reducible rfl | exact (Bool.and_false _).symm | (intro _ _; with_reducible rfl) | exact True.intro | assumption | (intro h; exact absurd h (by decide)) | omega | (intro _; omega) | (intro _; refine ⟨?_, True.intro⟩; omega) | (intro _; refine ⟨?_, True.intro⟩; intro _; omega) | (refine decide_eq_false ?_; omega) | (refine decide_eq_true ?_; omega) | (simp only [w_i64, w_u64, w_u32, w_u8]; omega) | exact fun j hj => (put_0 hj).symm | (intro j _; simp only [Nat.zero_add]; done) | (simp [appG]; done) | (simp [appG]; omega) | (intro hgd; (try replace hgd := of_decide_eq_true hgd); (repeat ((conv => whnf); (with_reducible refine And.intro ?_ ?_); · first | with_reducible rfl | exact (Bool.and_false _).symm | (intro _ _; with_reducible rfl) | exact True.intro | assumption | (intro h; exact absurd h (by decide)) | omega | (intro _; omega) | (intro _; refine ⟨?_, True.intro⟩; omega) | (intro _; refine ⟨?_, True.intro⟩; intro _; omega) | (refine decide_eq_false ?_; omega) | (refine decide_eq_true ?_; omega) | (simp only [w_i64, w_u64, w_u32, w_u8]; omega) | exact fun j hj => (put_0 hj).symm | (intro j _; simp only [Nat.zero_add]; done) | (simp [appG]; done) | (simp [appG]; omega))); (conv => whnf); exact True.intro))
      conv => whnf
      exact True.intro
    · replace h2 := of_decide_eq_false h2
      have hin : e.1 = n0 := by omega
      repeat ((conv => whnf); (with_reducible refine And.intro ?_ ?_); · first | exact True.intro | with_reducible assumption | omega | (intro _; refine ⟨True.intro, ?_⟩; omega) | (intro _; refine ⟨?_, True.intro⟩; omega) | (intro _; omega) | (refine decide_eq_true ?_; omega) | (intro _; refine ⟨decide_eq_true ?_, ?_⟩ <;> omega) | (simp only [w_i64, w_u64, w_u32, w_u8]; omega) | exact R8_UL _ _ | (intro hg0; (repeat ((conv => whnf); (with_reducible refine And.intro ?_ ?_); · first | assumption | omega | (intro _; refine ⟨?_, ?_⟩ <;> first | assumption | omega) | (simp only [hg0, Bool.and_self, Bool.true_and]; done))); (conv => whnf); exact True.intro))
      conv => whnf
      refine ⟨[], ?_⟩
      have hq : decide (L8 g n0 = L8 h n0) = (U e.2 == 0) := by
        have h3 := he.2.2
        rw [hin, List.take_of_length_le (by omega), List.take_of_length_le (by omega)] at h3
        by_cases hz : e.2 = 0
        · rw [decide_eq_true (h3.1 hz), hz]; rfl
        · rw [decide_eq_false (fun q => hz (h3.2 q))]
          symm
          rw [beq_eq_false_iff_ne]
          exact fun q => hz (U_inj q)
      repeat ((conv => whnf); (with_reducible refine And.intro ?_ ?_); · first | with_reducible rfl | exact (Bool.and_false _).symm | (intro _ _; with_reducible rfl) | exact True.intro | assumption | (intro h; exact absurd h (by decide)) | omega | (intro _; omega) | (intro _; refine ⟨?_, True.intro⟩; omega) | (intro _; refine ⟨?_, True.intro⟩; intro _; omega) | (refine decide_eq_false ?_; omega) | (refine decide_eq_true ?_; omega) | (simp only [w_i64, w_u64, w_u32, w_u8]; omega) | exact fun j hj => (put_0 hj).symm | (intro j _; simp only [Nat.zero_add]; done) | (simp [appG]; done) | (simp [appG]; omega) | exact hq | (intro hgd; (try replace hgd := of_decide_eq_true hgd); (repeat ((conv => whnf); (with_reducible refine And.intro ?_ ?_); · first | with_reducible rfl | exact (Bool.and_false _).symm | (intro _ _; with_reducible rfl) | exact True.intro | assumption | (intro h; exact absurd h (by decide)) | omega | (intro _; omega) | (intro _; refine ⟨?_, True.intro⟩; omega) | (intro _; refine ⟨?_, True.intro⟩; intro _; omega) | (refine decide_eq_false ?_; omega) | (refine decide_eq_true ?_; omega) | (simp only [w_i64, w_u64, w_u32, w_u8]; omega) | exact fun j hj => (put_0 hj).symm | (intro j _; simp only [Nat.zero_add]; done) | (simp [appG]; done) | (simp [appG]; omega) | exact hq)); (conv => whnf); exact True.intro))
      conv => whnf
      exact True.intro
end Go.Proofs.Ytogijkmflhjhkaa

/- Functions through the evaluator: HKDF's Expand. No condition. -/
namespace Go.Proofs.Ytogijkmflhjhkaa
open Go.Sx Go.RowKit
set_option linter.unusedSimpArgs false
set_option maxRecDepth 100000
set_option linter.unusedVariables false

/-- The blocks of RFC 5869. -/
def hkT (k f : List B8) : Nat → List B8
  | 0 => []
  | i + 1 => hmac k (hkT k f i ++ f ++ [BitVec.ofNat 8 (i + 1)])
def hkO (k f : List B8) : Nat → List B8
  | 0 => []
  | i + 1 => hkO k f i ++ hkT k f (i + 1)
theorem hmac_length (k d : List B8) : (hmac k d).length = 32 := sha_length _
theorem hkT_length (k f : List B8) (i : Nat) : (hkT k f (i + 1)).length = 32 := hmac_length _ _
theorem hkO_length (k f : List B8) (i : Nat) : (hkO k f i).length = 32 * i := by
  induction i with
  | zero => rfl
  | succ i ih => rw [hkO, List.length_append, ih, hkT_length]; omega
theorem hkO_front (k f : List B8) (i : Nat) : ∀ m, i ≤ m → (hkO k f m).take (32 * i) = hkO k f i
  | 0, h => by rw [Nat.le_zero.1 h]; rfl
  | m + 1, h => by
    by_cases e : i = m + 1
    · rw [e, List.take_of_length_le (by rw [hkO_length]; omega)]
    · rw [hkO, List.take_append_of_le_length (by rw [hkO_length]; omega), hkO_front k f i m (by omega)]
theorem cat3 (r1 r2 r3 : Row) : cat (putR (fun _ => r1) 1 (putR (fun _ => r2) 1 (fun _ => r3))) 3 = L8 r1.f r1.n ++ (L8 r2.f r2.n ++ L8 r3.f r3.n) := by
  rw [show (3 : Nat) = 1 + (1 + 1) from rfl, cat_put1, cat_put1]
  rfl
theorem R8_3 {r1 r2 r3 : Row} (h1 : R8 r1.f r1.n) (h2 : R8 r2.f r2.n) (h3 : R8 r3.f r3.n) : ∀ j, j < 3 → R8 (putR (fun _ => r1) 1 (putR (fun _ => r2) 1 (fun _ => r3)) j).f (putR (fun _ => r1) 1 (putR (fun _ => r2) 1 (fun _ => r3)) j).n :=
  put1_R8 (m := 2) h1 (put1_R8 (m := 1) h2 fun _ _ => h3)
theorem R8_b {x : Int} (h : 0 ≤ x ∧ x < 256) : R8 (fun j => listI [x].reverse (0 + j)) 1 := fun j hj => by
  have : j = 0 := by omega
  subst this
  exact h
theorem out_app {A B : List B8} {a b : Nat} (ha : a = A.length) (hb : b = B.length) (j : Nat) (hj : j < a + b) : UL (A ++ B) j = put_ (UL A) a b (fun j => UL B (0 + j)) j := by
  subst ha; subst hb
  rw [← UL_app A B j hj, show (fun j => UL B (0 + j)) = UL B from funext fun j => by rw [Nat.zero_add]]
theorem out_app0 {B : List B8} {b : Nat} (j : Nat) (hj : j < b) : UL B j = put_ (fun _ => 0) 0 b (fun j => UL B (0 + j)) j := by
  rw [put_0 hj, Nat.zero_add]
theorem UL_take {l : List B8} {n j : Nat} (h : j < n) : UL (l.take n) j = UL l j := by
  unfold UL; rw [List.getD_eq_getElem?_getD, List.getD_eq_getElem?_getD, List.getElem?_take_of_lt h]
/-- None; how many; which. -/
def xNil (N : Int) : Bool := decide (N < 1 ∨ 8160 < N)
def xLen (N : Int) : Nat := if N < 1 ∨ 8160 < N then 0 else N.toNat
def expandS : Summary := mkS false [.r .u8, .r .u8, .v] fun
  | [.r nl g n, .r nl2 h m, .v (.sc (.int .i64 N))] => some ⟨.and (.p (R8 g n)) (.and (.p (n ≤ 100000)) (.and (.p (R8 h m)) (.and (.p (m ≤ 100000)) (.p (-9223372036854775808 ≤ N ∧ N ≤ 9223372036854775807))))),
      some (.sa (.sc (.sl (xNil N) false false 0 0 0 (xLen N) (xLen N)))), [(0, .gd (decide (0 < xLen N)) (.own 5 [.ints .u8 (UL (hkO (L8 g n) (L8 h m) 255)) (xLen N)] true))], 1⟩
  | _ => none
theorem expandS_ok : SumOk Try.prog 40 expandS := by
  unfold expandS
  apply sum_ok
  intro vs A H n o r hb h
  split at h
  rotate_left
  · cases h
  rename_i nl g n0 nl2 h m N
  injection h with h
  subst h
  cases hb
  refine fsound_of_run tt_ok cok8 mixed_ok Try.call40 Try.func40 rfl (rs := _) Try.results40 (size := 37) Try.ntmps40 (Nat.le_of_ble_eq_true rfl) rfl fun hp hfa hfh => ?_
  obtain ⟨hg, hn, hh, hm, hN⟩ := hp
  have hg : R8 g n0 := hg
  have hn : n0 ≤ 100000 := hn
  have hh : R8 h m := hh
  have hm : m ≤ 100000 := hm
  repeat ((conv => whnf); (with_reducible refine And.intro ?_ ?_); · first | exact True.intro | (intro hg0; simp only [hg0, Bool.not_false, Bool.not_true]; done) | assumption | omega | (intro _; refine ⟨True.intro, ?_⟩; omega) | (intro _; refine ⟨?_, True.intro⟩; omega) | (intro _; refine ⟨decide_eq_true ?_, ?_⟩ <;> omega) | (intro _; refine ⟨?_, ?_⟩ <;> first | omega | (simp [appG, Cd.holds]; done) | (simp [appG, Cd.holds]; omega)) | (refine decide_eq_true ?_; omega) | (intro _; omega) | (simp only [w_i64, w_u64, w_u32, w_u8]; omega) | exact ⟨U_nonneg _, U_lt32 _⟩ | exact R8_UL _ _ | exact R32_UL _ _ | (intro hg0; (repeat ((conv => whnf); (with_reducible refine And.intro ?_ ?_); · first | assumption | omega | (intro _; refine ⟨?_, ?_⟩ <;> first | assumption | omega | exact True.intro | (refine decide_eq_true ?_; omega) | (simp [appG, Cd.holds]; omega)) | (intro _; refine ⟨And.intro ?_ ?_, ?_⟩ <;> first | assumption | omega | (refine decide_eq_true ?_; omega)) | (simp only [hg0, Bool.and_self, Bool.true_and]; done) | (intro hg1; simp only [hg0, hg1, Bool.and_self, Bool.true_and]; done) | (simp [hg0]; done))); (conv => whnf); exact True.intro))
  conv => whnf
  refine ⟨fun h1 => ?_, fun h1 => ?_⟩
  · have hx : N < 1 ∨ 8160 < N := by
      cases hq : decide (N < 1) with
      | true => exact .inl (of_decide_eq_true hq)
      | false => rw [hq] at h1; exact .inr (of_decide_eq_true h1)
    have e1 : xNil N = true := decide_eq_true hx
    have e2 : xLen N = 0 := if_pos hx
    repeat ((conv => whnf); (with_reducible refine And.intro ?_ ?_); · first | exact True.intro | (intro hg0; simp only [hg0, Bool.not_false, Bool.not_true]; done) | assumption | omega | (intro _; refine ⟨True.intro, ?_⟩; omega) | (intro _; refine ⟨?_, True.intro⟩; omega) | (intro _; refine ⟨decide_eq_true ?_, ?_⟩ <;> omega) | (intro _; refine ⟨?_, ?_⟩ <;> first | omega | (simp [appG, Cd.holds]; done) | (simp [appG, Cd.holds]; omega)) | (refine decide_eq_true ?_; omega) | (intro _; omega) | (simp only [w_i64, w_u64, w_u32, w_u8]; omega) | exact ⟨U_nonneg _, U_lt32 _⟩ | exact R8_UL _ _ | exact R32_UL _ _ | (intro hg0; (repeat ((conv => whnf); (with_reducible refine And.intro ?_ ?_); · first | assumption | omega | (intro _; refine ⟨?_, ?_⟩ <;> first | assumption | omega | exact True.intro | (refine decide_eq_true ?_; omega) | (simp [appG, Cd.holds]; omega)) | (intro _; refine ⟨And.intro ?_ ?_, ?_⟩ <;> first | assumption | omega | (refine decide_eq_true ?_; omega)) | (simp only [hg0, Bool.and_self, Bool.true_and]; done) | (intro hg1; simp only [hg0, hg1, Bool.and_self, Bool.true_and]; done) | (simp [hg0]; done))); (conv => whnf); exact True.intro))
    conv => whnf
    refine ⟨[], ?_⟩
    simp only [e1, e2]
    repeat ((conv => whnf); (with_reducible refine And.intro ?_ ?_); · first | with_reducible rfl | exact (Bool.and_false _).symm | (intro _ _; with_reducible rfl) | exact True.intro | assumption | (intro h; exact absurd h (by decide)) | omega | (intro _; omega) | (intro _; refine ⟨?_, True.intro⟩; omega) | (intro _; refine ⟨?_, True.intro⟩; intro _; omega) | (refine decide_eq_false ?_; omega) | (refine decide_eq_true ?_; omega) | (simp only [w_i64, w_u64, w_u32, w_u8]; omega) | exact fun j hj => (put_0 hj).symm | (intro j _; simp only [Nat.zero_add]; done) | (simp [appG]; done) | (simp [appG]; omega) | (intro hgd; (try replace hgd := of_decide_eq_true hgd); (repeat ((conv => whnf); (with_reducible refine And.intro ?_ ?_); · first | with_reducible rfl | exact (Bool.and_false _).symm | (intro _ _; with_reducible rfl) | exact True.intro | assumption | (intro h; exact absurd h (by decide)) | omega | (intro _; omega) | (intro _; refine ⟨?_, True.intro⟩; omega) | (intro _; refine ⟨?_, True.intro⟩; intro _; omega) | (refine decide_eq_false ?_; omega) | (refine decide_eq_true ?_; omega) | (simp only [w_i64, w_u64, w_u32, w_u8]; omega) | exact fun j hj => (put_0 hj).symm | (intro j _; simp only [Nat.zero_add]; done) | (simp [appG]; done) | (simp [appG]; omega))); (conv => whnf); exact True.intro))
    conv => whnf
    exact True.intro
  · have hx : ¬ (N < 1 ∨ 8160 < N) := by
      cases hq : decide (N < 1) with
      | true => rw [hq] at h1; cases h1
      | false =>
        rw [hq] at h1
        have q1 := of_decide_eq_false hq
        have q2 : ¬ N > 8160 := of_decide_eq_false h1
        omega
    have e1 : xNil N = false := decide_eq_false hx
    have e2 : xLen N = N.toNat := if_neg hx
    repeat ((conv => whnf); (with_reducible refine And.intro ?_ ?_); · first | exact True.intro | (intro hg0; simp only [hg0, Bool.not_false, Bool.not_true]; done) | assumption | omega | (intro _; refine ⟨True.intro, ?_⟩; omega) | (intro _; refine ⟨?_, True.intro⟩; omega) | (intro _; refine ⟨decide_eq_true ?_, ?_⟩ <;> omega) | (intro _; refine ⟨?_, ?_⟩ <;> first | omega | (simp [appG, Cd.holds]; done) | (simp [appG, Cd.holds]; omega)) | (refine decide_eq_true ?_; omega) | (intro _; omega) | (simp only [w_i64, w_u64, w_u32, w_u8]; omega) | exact ⟨U_nonneg _, U_lt32 _⟩ | exact R8_UL _ _ | exact R32_UL _ _ | (intro hg0; (repeat ((conv => whnf); (with_reducible refine And.intro ?_ ?_); · first | assumption | omega | (intro _; refine ⟨?_, ?_⟩ <;> first | assumption | omega | exact True.intro | (refine decide_eq_true ?_; omega) | (simp [appG, Cd.holds]; omega)) | (intro _; refine ⟨And.intro ?_ ?_, ?_⟩ <;> first | assumption | omega | (refine decide_eq_true ?_; omega)) | (simp only [hg0, Bool.and_self, Bool.true_and]; done) | (intro hg1; simp only [hg0, hg1, Bool.and_self, Bool.true_and]; done) | (simp [hg0]; done))); (conv => whnf); exact True.intro))
    conv => whnf
    refine ⟨1, ?_⟩
    repeat ((conv => whnf); (with_reducible refine And.intro ?_ ?_); · first | exact True.intro | (intro hg0; simp only [hg0, Bool.not_false, Bool.not_true]; done) | assumption | omega | (intro _; refine ⟨True.intro, ?_⟩; omega) | (intro _; refine ⟨?_, True.intro⟩; omega) | (intro _; refine ⟨decide_eq_true ?_, ?_⟩ <;> omega) | (intro _; refine ⟨?_, ?_⟩ <;> first | omega | (simp [appG, Cd.holds]; done) | (simp [appG, Cd.holds]; omega)) | (refine decide_eq_true ?_; omega) | (intro _; omega) | (simp only [w_i64, w_u64, w_u32, w_u8]; omega) | exact ⟨U_nonneg _, U_lt32 _⟩ | exact R8_UL _ _ | exact R32_UL _ _ | (intro hg0; (repeat ((conv => whnf); (with_reducible refine And.intro ?_ ?_); · first | assumption | omega | (intro _; refine ⟨?_, ?_⟩ <;> first | assumption | omega | exact True.intro | (refine decide_eq_true ?_; omega) | (simp [appG, Cd.holds]; omega)) | (intro _; refine ⟨And.intro ?_ ?_, ?_⟩ <;> first | assumption | omega | (refine decide_eq_true ?_; omega)) | (simp only [hg0, Bool.and_self, Bool.true_and]; done) | (intro hg1; simp only [hg0, hg1, Bool.and_self, Bool.true_and]; done) | (simp [hg0]; done))); (conv => whnf); exact True.intro))
    conv => whnf
    refine ⟨fun h2 => ?_, fun h2 => absurd (of_decide_eq_false h2) (by omega)⟩
    have hc1 : cat (putR (fun x => ⟨true, fun x => 0, 0⟩) 1 (putR (fun x => ⟨nl2, h, m⟩) 1 fun x => ⟨false, fun j => listI [1].reverse (0 + j), 1⟩)) 3 = hkT (L8 g n0) (L8 h m) 0 ++ L8 h m ++ [BitVec.ofNat 8 (0 + 1)] := by
      rw [cat3, List.append_assoc]; rfl
    have hcl1 : (cat (putR (fun x => ⟨true, fun x => 0, 0⟩) 1 (putR (fun x => ⟨nl2, h, m⟩) 1 fun x => ⟨false, fun j => listI [1].reverse (0 + j), 1⟩)) 3).length ≤ 800000 := by
      rw [hc1]; simp only [List.length_append, L8_length, hkT, List.length_nil, List.length_singleton]; omega
    repeat ((conv => whnf); (with_reducible refine And.intro ?_ ?_); · first | exact True.intro | (intro hg0; simp only [hg0, Bool.not_false, Bool.not_true]; done) | assumption | omega | (intro _; refine ⟨True.intro, ?_⟩; omega) | (intro _; refine ⟨?_, True.intro⟩; omega) | (intro _; refine ⟨decide_eq_true ?_, ?_⟩ <;> omega) | (intro _; refine ⟨?_, ?_⟩ <;> first | omega | (simp [appG, Cd.holds]; done) | (simp [appG, Cd.holds]; omega)) | (refine decide_eq_true ?_; omega) | (intro _; omega) | (simp only [w_i64, w_u64, w_u32, w_u8]; omega) | exact ⟨U_nonneg _, U_lt32 _⟩ | exact R8_UL _ _ | exact R32_UL _ _ | (intro hg0; (repeat ((conv => whnf); (with_reducible refine And.intro ?_ ?_); · first | assumption | omega | (intro _; refine ⟨?_, ?_⟩ <;> first | assumption | omega | exact True.intro | (refine decide_eq_true ?_; omega) | (simp [appG, Cd.holds]; omega)) | (intro _; refine ⟨And.intro ?_ ?_, ?_⟩ <;> first | assumption | omega | (refine decide_eq_true ?_; omega)) | (simp only [hg0, Bool.and_self, Bool.true_and]; done) | (intro hg1; simp only [hg0, hg1, Bool.and_self, Bool.true_and]; done) | (simp [hg0]; done) | exact Eq.refl 3 | exact R8_3 (fun j hj => absurd hj (by show ¬ j < 0; omega)) hh (R8_b (by decide)) | exact hcl1)); (conv => whnf); exact True.intro) | exact Eq.refl 3 | exact R8_3 (fun j hj => absurd hj (by show ¬ j < 0; omega)) hh (R8_b (by decide)) | exact hcl1)
    conv => whnf
    simp only [hc1]
    refine ⟨Nat, fun i => ⟨37, [(0, .sa (.sc (.im nl .u8 g n0))), (1, .sa (.sc (.im nl2 .u8 h m))), (2, .sa (.sc (.int .i64 N))), (7, .sa (.sc (ownA false (32 * i) 0))), (8, .sa (.sc (.sl false true false 1 0 0 32 32))), (9, .sa (.sc (.int .u8 (IntKind.u8.wrap (i + 1)))))],
      [(0, ownB 5 .u8 (UL (hkO (L8 g n0) (L8 h m) i)) (32 * i)), (1, .own 30 [.ints .u8 (UL (hkT (L8 g n0) (L8 h m) i)) 32] false)], 2⟩, fun i => 1 ≤ i ∧ (32 * i : Int) < N + 32, fun i => 255 - i, ⟨1, ⟨by omega, by omega⟩, le_of [(0, 3), (1, 2)] ?_⟩, fun i hi => ?_⟩
    · repeat ((conv => whnf); (with_reducible refine And.intro ?_ ?_); · first | with_reducible rfl | exact (Bool.and_false _).symm | (intro _ _; with_reducible rfl) | exact True.intro | assumption | (intro h; exact absurd h (by decide)) | omega | (intro _; omega) | (intro _; refine ⟨?_, True.intro⟩; omega) | (intro _; refine ⟨?_, True.intro⟩; intro _; omega) | (refine decide_eq_false ?_; omega) | (refine decide_eq_true ?_; omega) | (simp only [w_i64, w_u64, w_u32, w_u8]; omega) | exact fun j hj => (put_0 hj).symm | (intro j _; simp only [Nat.zero_add]; done) | (simp [appG]; done) | (simp [appG]; omega) | exact fun j hj => out_app0 (b := 32) j hj | exact fun j _ => rfl | (intro hgd; (try replace hgd := of_decide_eq_true hgd); (repeat ((conv => whnf); (with_reducible refine And.intro ?_ ?_); · first | with_reducible rfl | exact (Bool.and_false _).symm | (intro _ _; with_reducible rfl) | exact True.intro | assumption | (intro h; exact absurd h (by decide)) | omega | (intro _; omega) | (intro _; refine ⟨?_, True.intro⟩; omega) | (intro _; refine ⟨?_, True.intro⟩; intro _; omega) | (refine decide_eq_false ?_; omega) | (refine decide_eq_true ?_; omega) | (simp only [w_i64, w_u64, w_u32, w_u8]; omega) | exact fun j hj => (put_0 hj).symm | (intro j _; simp only [Nat.zero_add]; done) | (simp [appG]; done) | (simp [appG]; omega) | exact fun j hj => out_app0 (b := 32) j hj | exact fun j _ => rfl)); (conv => whnf); exact True.intro))
      conv => whnf
      exact True.intro
    obtain ⟨hi1, hi2⟩ := hi
    have hi2 : (32 * i : Int) < N + 32 := hi2
    repeat ((conv => whnf); (with_reducible refine And.intro ?_ ?_); · first | exact True.intro | (intro hg0; simp only [hg0, Bool.not_false, Bool.not_true]; done) | assumption | omega | (intro _; refine ⟨True.intro, ?_⟩; omega) | (intro _; refine ⟨?_, True.intro⟩; omega) | (intro _; refine ⟨decide_eq_true ?_, ?_⟩ <;> omega) | (intro _; refine ⟨?_, ?_⟩ <;> first | omega | (simp [appG, Cd.holds]; done) | (simp [appG, Cd.holds]; omega)) | (refine decide_eq_true ?_; omega) | (intro _; omega) | (simp only [w_i64, w_u64, w_u32, w_u8]; omega) | exact ⟨U_nonneg _, U_lt32 _⟩ | exact R8_UL _ _ | exact R32_UL _ _ | (intro hg0; (repeat ((conv => whnf); (with_reducible refine And.intro ?_ ?_); · first | assumption | omega | (intro _; refine ⟨?_, ?_⟩ <;> first | assumption | omega | exact True.intro | (refine decide_eq_true ?_; omega) | (simp [appG, Cd.holds]; omega)) | (intro _; refine ⟨And.intro ?_ ?_, ?_⟩ <;> first | assumption | omega | (refine decide_eq_true ?_; omega)) | (simp only [hg0, Bool.and_self, Bool.true_and]; done) | (intro hg1; simp only [hg0, hg1, Bool.and_self, Bool.true_and]; done) | (simp [hg0]; done))); (conv => whnf); exact True.intro))
    conv => whnf
    refine ⟨fun h3 => ?_, fun h3 => ?_⟩
    · replace h3 := of_decide_eq_true h3
      have hi3 : i ≤ 254 := by omega
      have hb : L8 (fun j => listI [IntKind.u8.wrap ((i : Int) + 1)].reverse (0 + j)) 1 = [BitVec.ofNat 8 (i + 1)] := by
        show [BitVec.ofInt 8 (IntKind.u8.wrap ((i : Int) + 1))] = _
        rw [show ((i : Int) + 1) = ((i + 1 : Nat) : Int) by omega, w8_cast, ofInt_toNat]
      have hwb : 0 ≤ IntKind.u8.wrap ((i : Int) + 1) ∧ IntKind.u8.wrap ((i : Int) + 1) < 256 := by rw [w_u8]; omega
      have hTl : (hkT (L8 g n0) (L8 h m) i).length = 32 := by
        cases i with
        | zero => omega
        | succ i => exact hkT_length _ _ _
      have hc2 : cat (putR (fun x => ⟨false, fun j => UL (hkT (L8 g n0) (L8 h m) i) (0 + j), 32⟩) 1 (putR (fun x => ⟨nl2, h, m⟩) 1 fun x => ⟨false, fun j => listI [IntKind.u8.wrap ((i : Int) + 1)].reverse (0 + j), 1⟩)) 3 =
          hkT (L8 g n0) (L8 h m) i ++ L8 h m ++ [BitVec.ofNat 8 (i + 1)] := by
        rw [cat3, List.append_assoc]
        exact congr (congrArg (· ++ ·) (L8_z hTl.symm)) (congrArg (L8 h m ++ ·) hb)
      have hcl2 : (cat (putR (fun x => ⟨false, fun j => UL (hkT (L8 g n0) (L8 h m) i) (0 + j), 32⟩) 1 (putR (fun x => ⟨nl2, h, m⟩) 1 fun x => ⟨false, fun j => listI [IntKind.u8.wrap ((i : Int) + 1)].reverse (0 + j), 1⟩)) 3).length ≤ 800000 := by
        rw [hc2, List.length_append, List.length_append, L8_length, hTl, List.length_singleton]; omega
      repeat ((conv => whnf); (with_reducible refine And.intro ?_ ?_); · first | exact True.intro | (intro hg0; simp only [hg0, Bool.not_false, Bool.not_true]; done) | assumption | omega | (intro _; refine ⟨True.intro, ?_⟩; omega) | (intro _; refine ⟨?_, True.intro⟩; omega) | (intro _; refine ⟨decide_eq_true ?_, ?_⟩ <;> omega) | (intro _; refine ⟨?_, ?_⟩ <;> first | omega | (simp [appG, Cd.holds]; done) | (simp [appG, Cd.holds]; omega)) | (refine decide_eq_true ?_; omega) | (intro _; omega) | (simp only [w_i64, w_u64, w_u32, w_u8]; omega) | exact ⟨U_nonneg _, U_lt32 _⟩ | exact R8_UL _ _ | exact R32_UL _ _ | (intro hg0; (repeat ((conv => whnf); (with_reducible refine And.intro ?_ ?_); · first | assumption | omega | (intro _; refine ⟨?_, ?_⟩ <;> first | assumption | omega | exact True.intro | (refine decide_eq_true ?_; omega) | (simp [appG, Cd.holds]; omega)) | (intro _; refine ⟨And.intro ?_ ?_, ?_⟩ <;> first | assumption | omega | (refine decide_eq_true ?_; omega)) | (simp only [hg0, Bool.and_self, Bool.true_and]; done) | (intro hg1; simp only [hg0, hg1, Bool.and_self, Bool.true_and]; done) | (simp [hg0]; done) | exact Eq.refl 3 | exact R8_3 (R8_z _ _) hh (R8_b hwb) | exact hcl2)); (conv => whnf); exact True.intro) | exact Eq.refl 3 | exact R8_3 (R8_z _ _) hh (R8_b hwb) | exact hcl2)
      conv => whnf
      refine ⟨i + 1, ⟨⟨by omega, by show (32 * ((i + 1 : Nat) : Int)) < N + 32; omega⟩, by show 255 - (i + 1) < 255 - i; omega⟩, le_of [(0, 5), (1, 4)] ?_⟩
      simp only [hc2]
      repeat ((conv => whnf); (with_reducible refine And.intro ?_ ?_); · first | with_reducible rfl | exact (Bool.and_false _).symm | (intro _ _; with_reducible rfl) | exact True.intro | assumption | (intro h; exact absurd h (by decide)) | omega | (intro _; omega) | (intro _; refine ⟨?_, True.intro⟩; omega) | (intro _; refine ⟨?_, True.intro⟩; intro _; omega) | (refine decide_eq_false ?_; omega) | (refine decide_eq_true ?_; omega) | (simp only [w_i64, w_u64, w_u32, w_u8]; omega) | exact fun j hj => (put_0 hj).symm | (intro j _; simp only [Nat.zero_add]; done) | (simp [appG]; done) | (simp [appG]; omega) | exact fun j hj => out_app (b := 32) (hkO_length _ _ _).symm (hkT_length _ _ _).symm j hj | exact fun j _ => rfl | (intro hgd; (try replace hgd := of_decide_eq_true hgd); (repeat ((conv => whnf); (with_reducible refine And.intro ?_ ?_); · first | with_reducible rfl | exact (Bool.and_false _).symm | (intro _ _; with_reducible rfl) | exact True.intro | assumption | (intro h; exact absurd h (by decide)) | omega | (intro _; omega) | (intro _; refine ⟨?_, True.intro⟩; omega) | (intro _; refine ⟨?_, True.intro⟩; intro _; omega) | (refine decide_eq_false ?_; omega) | (refine decide_eq_true ?_; omega) | (simp only [w_i64, w_u64, w_u32, w_u8]; omega) | exact fun j hj => (put_0 hj).symm | (intro j _; simp only [Nat.zero_add]; done) | (simp [appG]; done) | (simp [appG]; omega) | exact fun j hj => out_app (b := 32) (hkO_length _ _ _).symm (hkT_length _ _ _).symm j hj | exact fun j _ => rfl)); (conv => whnf); exact True.intro))
      conv => whnf
      exact True.intro
    · replace h3 := of_decide_eq_false h3
      repeat ((conv => whnf); (with_reducible refine And.intro ?_ ?_); · first | exact True.intro | (intro hg0; simp only [hg0, Bool.not_false, Bool.not_true]; done) | assumption | omega | (intro _; refine ⟨True.intro, ?_⟩; omega) | (intro _; refine ⟨?_, True.intro⟩; omega) | (intro _; refine ⟨decide_eq_true ?_, ?_⟩ <;> omega) | (intro _; refine ⟨?_, ?_⟩ <;> first | omega | (simp [appG, Cd.holds]; done) | (simp [appG, Cd.holds]; omega)) | (refine decide_eq_true ?_; omega) | (intro _; omega) | (simp only [w_i64, w_u64, w_u32, w_u8]; omega) | exact ⟨U_nonneg _, U_lt32 _⟩ | exact R8_UL _ _ | exact R32_UL _ _ | (intro hg0; (repeat ((conv => whnf); (with_reducible refine And.intro ?_ ?_); · first | assumption | omega | (intro _; refine ⟨?_, ?_⟩ <;> first | assumption | omega | exact True.intro | (refine decide_eq_true ?_; omega) | (simp [appG, Cd.holds]; omega)) | (intro _; refine ⟨And.intro ?_ ?_, ?_⟩ <;> first | assumption | omega | (refine decide_eq_true ?_; omega)) | (simp only [hg0, Bool.and_self, Bool.true_and]; done) | (intro hg1; simp only [hg0, hg1, Bool.and_self, Bool.true_and]; done) | (simp [hg0]; done))); (conv => whnf); exact True.intro))
      conv => whnf
      refine ⟨[], ?_⟩
      simp only [e1, e2]
      have hi255 : i ≤ 255 := by omega
      have hf := hkO_front (L8 g n0) (L8 h m) i 255 hi255
      have hcont : ∀ j, j < N.toNat → UL (hkO (L8 g n0) (L8 h m) 255) j = UL (hkO (L8 g n0) (L8 h m) i) j := fun j hj => by
        rw [← hf, UL_take (by omega)]
      repeat ((conv => whnf); (with_reducible refine And.intro ?_ ?_); · first | with_reducible rfl | exact (Bool.and_false _).symm | (intro _ _; with_reducible rfl) | exact True.intro | assumption | (intro h; exact absurd h (by decide)) | omega | (intro _; omega) | (intro _; refine ⟨?_, True.intro⟩; omega) | (intro _; refine ⟨?_, True.intro⟩; intro _; omega) | (refine decide_eq_false ?_; omega) | (refine decide_eq_true ?_; omega) | (simp only [w_i64, w_u64, w_u32, w_u8]; omega) | exact fun j hj => (put_0 hj).symm | (intro j _; simp only [Nat.zero_add]; done) | (simp [appG]; done) | (simp [appG]; omega) | exact hcont | (intro hgd; (try replace hgd := of_decide_eq_true hgd); (repeat ((conv => whnf); (with_reducible refine And.intro ?_ ?_); · first | with_reducible rfl | exact (Bool.and_false _).symm | (intro _ _; with_reducible rfl) | exact True.intro | assumption | (intro h; exact absurd h (by decide)) | omega | (intro _; omega) | (intro _; refine ⟨?_, True.intro⟩; omega) | (intro _; refine ⟨?_, True.intro⟩; intro _; omega) | (refine decide_eq_false ?_; omega) | (refine decide_eq_true ?_; omega) | (simp only [w_i64, w_u64, w_u32, w_u8]; omega) | exact fun j hj => (put_0 hj).symm | (intro j _; simp only [Nat.zero_add]; done) | (simp [appG]; done) | (simp [appG]; omega) | exact hcont)); (conv => whnf); exact True.intro))
      conv => whnf
      exact True.intro
end Go.Proofs.Ytogijkmflhjhkaa

/- Functions through the evaluator: Short; the document's small functions of SHA-256. No condition. -/
namespace Go.Proofs.Ytogijkmflhjhkaa
open Go.Sx Go.RowKit
set_option linter.unusedSimpArgs false
set_option maxRecDepth 100000
set_option linter.unusedVariables false

/-- indenturelaw1.Short. -/
def shortS : Summary := mkS true [.r .u8, .v] fun
  | [.r nl g n, .v (.sc (.int .i64 k))] => some ⟨.p (0 ≤ k ∧ k < 1000000), some (.sa (.sc (.im nl .u8 g (min n k.toNat)))), [], 0⟩
  | _ => none
theorem shortS_ok : SumOk Try.prog 31 shortS := by
  unfold shortS
  apply sum_ok
  intro vs A H n o r hb h
  split at h
  rotate_left
  · cases h
  rename_i nl g n0 k
  injection h with h
  subst h
  cases hb
  refine fsound_of_run tt_ok cok_nil mixed_ok Try.call31 Try.func31 rfl (rs := _) Try.results31 (size := 13) Try.ntmps31 (Nat.le_of_ble_eq_true rfl) rfl fun hp hfa hfh => ?_
  have hk : 0 ≤ k ∧ k < 1000000 := hp
  obtain ⟨⟨hnl, _⟩, _⟩ := hfa
  repeat ((conv => whnf); (with_reducible refine And.intro ?_ ?_); · first | exact True.intro | with_reducible assumption | omega | (intro _; refine ⟨True.intro, ?_⟩; omega) | (intro _; refine ⟨?_, True.intro⟩; omega) | (intro _; omega) | (refine decide_eq_true ?_; omega) | (intro _; refine ⟨decide_eq_true ?_, ?_⟩ <;> omega) | (simp only [w_i64, w_u64, w_u32, w_u8]; omega) | exact R8_UL _ _ | (intro hg0; (repeat ((conv => whnf); (with_reducible refine And.intro ?_ ?_); · first | assumption | omega | (intro _; refine ⟨?_, ?_⟩ <;> first | assumption | omega) | (simp only [hg0, Bool.and_self, Bool.true_and]; done))); (conv => whnf); exact True.intro))
  conv => whnf
  refine ⟨fun h1 => ?_, fun h1 => ?_⟩
  · have h2 : (n0 : Int) > k := of_decide_eq_true h1
    repeat ((conv => whnf); (with_reducible refine And.intro ?_ ?_); · first | exact True.intro | with_reducible assumption | omega | (intro _; refine ⟨True.intro, ?_⟩; omega) | (intro _; refine ⟨?_, True.intro⟩; omega) | (intro _; omega) | (refine decide_eq_true ?_; omega) | (intro _; refine ⟨decide_eq_true ?_, ?_⟩ <;> omega) | (simp only [w_i64, w_u64, w_u32, w_u8]; omega) | exact R8_UL _ _ | (intro hg0; (repeat ((conv => whnf); (with_reducible refine And.intro ?_ ?_); · first | assumption | omega | (intro _; refine ⟨?_, ?_⟩ <;> first | assumption | omega) | (simp only [hg0, Bool.and_self, Bool.true_and]; done))); (conv => whnf); exact True.intro))
    conv => whnf
    refine ⟨[], ?_⟩
    repeat ((conv => whnf); (with_reducible refine And.intro ?_ ?_); · first | with_reducible rfl | exact (Bool.and_false _).symm | (intro _ _; with_reducible rfl) | exact True.intro | assumption | (intro h; exact absurd h (by decide)) | omega | (intro _; omega) | (intro _; refine ⟨?_, True.intro⟩; omega) | (intro _; refine ⟨?_, True.intro⟩; intro _; omega) | (refine decide_eq_false ?_; omega) | (refine decide_eq_true ?_; omega) | (simp only [w_i64, w_u64, w_u32, w_u8]; omega) | exact fun j hj => (put_0 hj).symm | (intro j _; simp only [Nat.zero_add]; done) | (simp [appG]; done) | (simp [appG]; omega) | (intro hgd; (try replace hgd := of_decide_eq_true hgd); (repeat ((conv => whnf); (with_reducible refine And.intro ?_ ?_); · first | with_reducible rfl | exact (Bool.and_false _).symm | (intro _ _; with_reducible rfl) | exact True.intro | assumption | (intro h; exact absurd h (by decide)) | omega | (intro _; omega) | (intro _; refine ⟨?_, True.intro⟩; omega) | (intro _; refine ⟨?_, True.intro⟩; intro _; omega) | (refine decide_eq_false ?_; omega) | (refine decide_eq_true ?_; omega) | (simp only [w_i64, w_u64, w_u32, w_u8]; omega) | exact fun j hj => (put_0 hj).symm | (intro j _; simp only [Nat.zero_add]; done) | (simp [appG]; done) | (simp [appG]; omega))); (conv => whnf); exact True.intro))
    conv => whnf
    exact True.intro
  · have h2 : ¬ (n0 : Int) > k := of_decide_eq_false h1
    repeat ((conv => whnf); (with_reducible refine And.intro ?_ ?_); · first | exact True.intro | with_reducible assumption | omega | (intro _; refine ⟨True.intro, ?_⟩; omega) | (intro _; refine ⟨?_, True.intro⟩; omega) | (intro _; omega) | (refine decide_eq_true ?_; omega) | (intro _; refine ⟨decide_eq_true ?_, ?_⟩ <;> omega) | (simp only [w_i64, w_u64, w_u32, w_u8]; omega) | exact R8_UL _ _ | (intro hg0; (repeat ((conv => whnf); (with_reducible refine And.intro ?_ ?_); · first | assumption | omega | (intro _; refine ⟨?_, ?_⟩ <;> first | assumption | omega) | (simp only [hg0, Bool.and_self, Bool.true_and]; done))); (conv => whnf); exact True.intro))
    conv => whnf
    refine ⟨[], ?_⟩
    repeat ((conv => whnf); (with_reducible refine And.intro ?_ ?_); · first | with_reducible rfl | exact (Bool.and_false _).symm | (intro _ _; with_reducible rfl) | exact True.intro | assumption | (intro h; exact absurd h (by decide)) | omega | (intro _; omega) | (intro _; refine ⟨?_, True.intro⟩; omega) | (intro _; refine ⟨?_, True.intro⟩; intro _; omega) | (refine decide_eq_false ?_; omega) | (refine decide_eq_true ?_; omega) | (simp only [w_i64, w_u64, w_u32, w_u8]; omega) | exact fun j hj => (put_0 hj).symm | (intro j _; simp only [Nat.zero_add]; done) | (simp [appG]; done) | (simp [appG]; omega) | (intro hgd; (try replace hgd := of_decide_eq_true hgd); (repeat ((conv => whnf); (with_reducible refine And.intro ?_ ?_); · first | with_reducible rfl | exact (Bool.and_false _).symm | (intro _ _; with_reducible rfl) | exact True.intro | assumption | (intro h; exact absurd h (by decide)) | omega | (intro _; omega) | (intro _; refine ⟨?_, True.intro⟩; omega) | (intro _; refine ⟨?_, True.intro⟩; intro _; omega) | (refine decide_eq_false ?_; omega) | (refine decide_eq_true ?_; omega) | (simp only [w_i64, w_u64, w_u32, w_u8]; omega) | exact fun j hj => (put_0 hj).symm | (intro j _; simp only [Nat.zero_add]; done) | (simp [appG]; done) | (simp [appG]; omega))); (conv => whnf); exact True.intro))
    conv => whnf
    exact True.intro

/-- indentureref1.right. -/
def rightS : Summary := mkS false [.v, .v] fun
  | [.v (.sc (.int .u32 x)), .v (.sc (.int .u64 k))] => some ⟨.and (.p (0 ≤ x ∧ x < 4294967296)) (.p (1 ≤ k ∧ k ≤ 31)), some (.sa (.sc (.int .u32 (U (rotl (BitVec.ofInt 32 x) (32 - k.toNat)))))), [], 0⟩
  | _ => none
theorem right_eq {x k : Int} (hx : 0 ≤ x ∧ x < 4294967296) (hk : 1 ≤ k ∧ k ≤ 31) :
    bits .or .u32 (x / 2 ^ min k.toNat IntKind.u32.bits) (IntKind.u32.wrap (x * 2 ^ min (IntKind.u64.wrap (32 - k)).toNat IntKind.u32.bits)) = U (rotl (BitVec.ofInt 32 x) (32 - k.toNat)) := by
  have e : x = U (BitVec.ofInt 32 x) := (U_ofInt32 hx.1 hx.2).symm
  have e1 : min k.toNat IntKind.u32.bits = k.toNat := by show min _ 32 = _; omega
  have e2 : min (IntKind.u64.wrap (32 - k)).toNat IntKind.u32.bits = 32 - k.toNat := by rw [w_u64, Int.emod_eq_of_lt (by omega) (by omega)]; show min _ 32 = _; omega
  rw [e1, e2]
  generalize BitVec.ofInt 32 x = X at *
  subst e
  rw [shr32, shl32, or32, rotl, BitVec.or_comm, show 32 - (32 - k.toNat) = k.toNat by omega]
theorem rightS_ok : SumOk Try.prog 93 rightS := by
  unfold rightS
  apply sum_ok
  intro vs A H n o r hb h
  split at h
  rotate_left
  · cases h
  rename_i x k
  injection h with h
  subst h
  cases hb
  refine fsound_of_run tt_ok cok_nil mixed_ok Try.call93 Try.func93 rfl (rs := _) Try.results93 (size := 13) Try.ntmps93 (Nat.le_of_ble_eq_true rfl) rfl fun hp hfa hfh => ?_
  obtain ⟨hx, hk⟩ := hp
  have hx : 0 ≤ x ∧ x < 4294967296 := hx
  have hk : 1 ≤ k ∧ k ≤ 31 := hk
  have hw : 0 ≤ IntKind.u64.wrap (32 - k) := by rw [w_u64]; omega
  repeat ((conv => whnf); (with_reducible refine And.intro ?_ ?_); · first | exact True.intro | with_reducible assumption | omega | (intro _; refine ⟨True.intro, ?_⟩; omega) | (intro _; refine ⟨?_, True.intro⟩; omega) | (intro _; omega) | (refine decide_eq_true ?_; omega) | (intro _; refine ⟨decide_eq_true ?_, ?_⟩ <;> omega) | (simp only [w_i64, w_u64, w_u32, w_u8]; omega) | exact R8_UL _ _ | (intro hg0; (repeat ((conv => whnf); (with_reducible refine And.intro ?_ ?_); · first | assumption | omega | (intro _; refine ⟨?_, ?_⟩ <;> first | assumption | omega) | (simp only [hg0, Bool.and_self, Bool.true_and]; done))); (conv => whnf); exact True.intro))
  conv => whnf
  refine ⟨[], ?_⟩
  repeat ((conv => whnf); (with_reducible refine And.intro ?_ ?_); · first | with_reducible rfl | exact (Bool.and_false _).symm | (intro _ _; with_reducible rfl) | exact True.intro | assumption | (intro h; exact absurd h (by decide)) | omega | (intro _; omega) | (intro _; refine ⟨?_, True.intro⟩; omega) | (intro _; refine ⟨?_, True.intro⟩; intro _; omega) | (refine decide_eq_false ?_; omega) | (refine decide_eq_true ?_; omega) | (simp only [w_i64, w_u64, w_u32, w_u8]; omega) | exact fun j hj => (put_0 hj).symm | (intro j _; simp only [Nat.zero_add]; done) | (simp [appG]; done) | (simp [appG]; omega) | exact (right_eq hx hk).symm | (intro hgd; (try replace hgd := of_decide_eq_true hgd); (repeat ((conv => whnf); (with_reducible refine And.intro ?_ ?_); · first | with_reducible rfl | exact (Bool.and_false _).symm | (intro _ _; with_reducible rfl) | exact True.intro | assumption | (intro h; exact absurd h (by decide)) | omega | (intro _; omega) | (intro _; refine ⟨?_, True.intro⟩; omega) | (intro _; refine ⟨?_, True.intro⟩; intro _; omega) | (refine decide_eq_false ?_; omega) | (refine decide_eq_true ?_; omega) | (simp only [w_i64, w_u64, w_u32, w_u8]; omega) | exact fun j hj => (put_0 hj).symm | (intro j _; simp only [Nat.zero_add]; done) | (simp [appG]; done) | (simp [appG]; omega) | exact (right_eq hx hk).symm)); (conv => whnf); exact True.intro))
  conv => whnf
  exact True.intro

/-- indentureref1.word. -/
def wordS : Summary := mkS false [.r .u8] fun
  | [.r nl g n] => some ⟨.and (.p (R8 g n)) (.p (4 ≤ n)), some (.sa (.sc (.int .u32 (U (be (L8 g n) 0))))), [], 0⟩
  | _ => none
theorem wordS_ok : SumOk Try.prog 92 wordS := by
  unfold wordS
  apply sum_ok
  intro vs A H n o r hb h
  split at h
  rotate_left
  · cases h
  rename_i nl g n0
  injection h with h
  subst h
  cases hb
  refine fsound_of_run tt_ok cok_nil mixed_ok Try.call92 Try.func92 rfl (rs := _) Try.results92 (size := 25) Try.ntmps92 (Nat.le_of_ble_eq_true rfl) rfl fun hp hfa hfh => ?_
  obtain ⟨hg, hn⟩ := hp
  have hg : R8 g n0 := hg
  have hn : 4 ≤ n0 := hn
  refine ⟨[(0, ⟨0, some 3, []⟩), (1, ⟨1, some 4, []⟩), (2, ⟨3, some 5, []⟩), (3, ⟨7, some 6, []⟩), (4, ⟨15, some 7, []⟩), (5, ⟨0, some 8, []⟩), (6, ⟨32, some 9, []⟩), (7, ⟨96, some 10, []⟩), (8, ⟨224, some 11, []⟩), (9, ⟨480, some 12, []⟩), (10, ⟨1023, some 13, []⟩), (11, ⟨0, some 14, []⟩), (12, ⟨2048, some 15, []⟩), (13, ⟨6144, some 16, []⟩), (14, ⟨14336, some 17, []⟩), (15, ⟨30720, some 18, []⟩), (16, ⟨65535, some 19, []⟩), (17, ⟨0, some 20, []⟩), (18, ⟨131072, some 21, []⟩), (19, ⟨393216, some 22, []⟩), (20, ⟨917504, some 23, []⟩), (21, ⟨2097151, some 24, []⟩), (22, ⟨4194303, some 2, []⟩)], 368, ?_⟩
  repeat ((conv => whnf); (with_reducible refine And.intro ?_ ?_); · first | exact True.intro | with_reducible assumption | omega | (intro _; refine ⟨True.intro, ?_⟩; omega) | (intro _; refine ⟨?_, True.intro⟩; omega) | (intro _; omega) | (refine decide_eq_true ?_; omega) | (intro _; refine ⟨decide_eq_true ?_, ?_⟩ <;> omega) | (simp only [w_i64, w_u64, w_u32, w_u8]; omega) | exact R8_UL _ _ | (intro hg0; (repeat ((conv => whnf); (with_reducible refine And.intro ?_ ?_); · first | assumption | omega | (intro _; refine ⟨?_, ?_⟩ <;> first | assumption | omega) | (simp only [hg0, Bool.and_self, Bool.true_and]; done))); (conv => whnf); exact True.intro))
  conv => whnf
  refine ⟨[], ?_⟩
  have g' : ∀ j, j < n0 → g j = U ((L8 g n0).getD j 0) := fun j hj => (UL_L8 hg j hj).symm
  have g0 : g (Int.toNat 0) = U ((L8 g n0).getD 0 0) := g' 0 (by omega)
  have g1 : g (Int.toNat 1) = U ((L8 g n0).getD 1 0) := g' 1 (by omega)
  have g2 : g (Int.toNat 2) = U ((L8 g n0).getD 2 0) := g' 2 (by omega)
  have g3 : g (Int.toNat 3) = U ((L8 g n0).getD 3 0) := g' 3 (by omega)
  simp only [g0, g1, g2, g3, sh24, sh16, sh8, wide32, shl32, w32_self', or32]
  repeat ((conv => whnf); (with_reducible refine And.intro ?_ ?_); · first | with_reducible rfl | exact (Bool.and_false _).symm | (intro _ _; with_reducible rfl) | exact True.intro | assumption | (intro h; exact absurd h (by decide)) | omega | (intro _; omega) | (intro _; refine ⟨?_, True.intro⟩; omega) | (intro _; refine ⟨?_, True.intro⟩; intro _; omega) | (refine decide_eq_false ?_; omega) | (refine decide_eq_true ?_; omega) | (simp only [w_i64, w_u64, w_u32, w_u8]; omega) | exact fun j hj => (put_0 hj).symm | (intro j _; simp only [Nat.zero_add]; done) | (simp [appG]; done) | (simp [appG]; omega) | rfl | (intro hgd; (try replace hgd := of_decide_eq_true hgd); (repeat ((conv => whnf); (with_reducible refine And.intro ?_ ?_); · first | with_reducible rfl | exact (Bool.and_false _).symm | (intro _ _; with_reducible rfl) | exact True.intro | assumption | (intro h; exact absurd h (by decide)) | omega | (intro _; omega) | (intro _; refine ⟨?_, True.intro⟩; omega) | (intro _; refine ⟨?_, True.intro⟩; intro _; omega) | (refine decide_eq_false ?_; omega) | (refine decide_eq_true ?_; omega) | (simp only [w_i64, w_u64, w_u32, w_u8]; omega) | exact fun j hj => (put_0 hj).symm | (intro j _; simp only [Nat.zero_add]; done) | (simp [appG]; done) | (simp [appG]; omega) | rfl)); (conv => whnf); exact True.intro))
  conv => whnf
  exact True.intro

/-- indentureref1.k256. -/
def k256S : Summary := mkS false [] fun
  | [] => some ⟨.tt, some (.sa (.sc (.sl false true true 0 0 0 64 64))), [(0, .own 57 [.ints .u32 (UL K256) 64] false)], 1⟩
  | _ => none
theorem k256S_ok : SumOk Try.prog 90 k256S := by
  unfold k256S
  apply sum_ok
  intro vs A H n o r hb h
  split at h
  rotate_left
  · cases h
  injection h with h
  subst h
  cases hb
  refine fsound_of_run tt_ok cok_nil mixed_ok Try.call90 Try.func90 rfl (rs := _) Try.results90 (size := 2) Try.ntmps90 (Nat.le_of_ble_eq_true rfl) rfl fun hp hfa hfh => ?_
  repeat ((conv => whnf); (with_reducible refine And.intro ?_ ?_); · first | exact True.intro | with_reducible assumption | omega | (intro _; refine ⟨True.intro, ?_⟩; omega) | (intro _; refine ⟨?_, True.intro⟩; omega) | (intro _; omega) | (refine decide_eq_true ?_; omega) | (intro _; refine ⟨decide_eq_true ?_, ?_⟩ <;> omega) | (simp only [w_i64, w_u64, w_u32, w_u8]; omega) | exact R8_UL _ _ | (intro hg0; (repeat ((conv => whnf); (with_reducible refine And.intro ?_ ?_); · first | assumption | omega | (intro _; refine ⟨?_, ?_⟩ <;> first | assumption | omega) | (simp only [hg0, Bool.and_self, Bool.true_and]; done))); (conv => whnf); exact True.intro))
  conv => whnf
  refine ⟨[], ?_⟩
  repeat ((conv => whnf); (with_reducible refine And.intro ?_ ?_); · first | with_reducible rfl | exact (Bool.and_false _).symm | (intro _ _; with_reducible rfl) | exact True.intro | assumption | (intro h; exact absurd h (by decide)) | omega | (intro _; omega) | (intro _; refine ⟨?_, True.intro⟩; omega) | (intro _; refine ⟨?_, True.intro⟩; intro _; omega) | (refine decide_eq_false ?_; omega) | (refine decide_eq_true ?_; omega) | (simp only [w_i64, w_u64, w_u32, w_u8]; omega) | exact fun j hj => (put_0 hj).symm | (intro j _; simp only [Nat.zero_add]; done) | (simp [appG]; done) | (simp [appG]; omega) | (intro hgd; (try replace hgd := of_decide_eq_true hgd); (repeat ((conv => whnf); (with_reducible refine And.intro ?_ ?_); · first | with_reducible rfl | exact (Bool.and_false _).symm | (intro _ _; with_reducible rfl) | exact True.intro | assumption | (intro h; exact absurd h (by decide)) | omega | (intro _; omega) | (intro _; refine ⟨?_, True.intro⟩; omega) | (intro _; refine ⟨?_, True.intro⟩; intro _; omega) | (refine decide_eq_false ?_; omega) | (refine decide_eq_true ?_; omega) | (simp only [w_i64, w_u64, w_u32, w_u8]; omega) | exact fun j hj => (put_0 hj).symm | (intro j _; simp only [Nat.zero_add]; done) | (simp [appG]; done) | (simp [appG]; omega))); (conv => whnf); exact True.intro))
  conv => whnf
  refine ⟨by decide +kernel, ?_⟩
  repeat ((conv => whnf); (with_reducible refine And.intro ?_ ?_); · first | with_reducible rfl | exact (Bool.and_false _).symm | (intro _ _; with_reducible rfl) | exact True.intro | assumption | (intro h; exact absurd h (by decide)) | omega | (intro _; omega) | (intro _; refine ⟨?_, True.intro⟩; omega) | (intro _; refine ⟨?_, True.intro⟩; intro _; omega) | (refine decide_eq_false ?_; omega) | (refine decide_eq_true ?_; omega) | (simp only [w_i64, w_u64, w_u32, w_u8]; omega) | exact fun j hj => (put_0 hj).symm | (intro j _; simp only [Nat.zero_add]; done) | (simp [appG]; done) | (simp [appG]; omega) | (intro hgd; (try replace hgd := of_decide_eq_true hgd); (repeat ((conv => whnf); (with_reducible refine And.intro ?_ ?_); · first | with_reducible rfl | exact (Bool.and_false _).symm | (intro _ _; with_reducible rfl) | exact True.intro | assumption | (intro h; exact absurd h (by decide)) | omega | (intro _; omega) | (intro _; refine ⟨?_, True.intro⟩; omega) | (intro _; refine ⟨?_, True.intro⟩; intro _; omega) | (refine decide_eq_false ?_; omega) | (refine decide_eq_true ?_; omega) | (simp only [w_i64, w_u64, w_u32, w_u8]; omega) | exact fun j hj => (put_0 hj).symm | (intro j _; simp only [Nat.zero_add]; done) | (simp [appG]; done) | (simp [appG]; omega))); (conv => whnf); exact True.intro))
  conv => whnf
  exact True.intro
end Go.Proofs.Ytogijkmflhjhkaa

/- Functions through the evaluator: bytes filled up, lengths put. No condition. -/
namespace Go.Proofs.Ytogijkmflhjhkaa
open Go.Sx Go.RowKit
set_option maxRecDepth 100000
set_option maxHeartbeats 1000000
set_option linter.unusedVariables false
set_option linter.unusedSimpArgs false

theorem app1k {f g : Nat → Int} {m : Nat} {b : B8} (hf : R8 f m) (hz : g 0 = U b) (j : Nat) (hj : j < m + 1) : UL (L8 f m ++ [b]) j = put_ f m 1 g j := by
  rw [app1 (L8_length f m).symm hz j hj]
  simp only [put_]
  split
  · rfl
  · exact UL_L8 hf j (by omega)
theorem put_zero {f : Nat → Int} {n m : Nat} (hf : R8 f n) (j : Nat) (hj : j < n + m) : UL (L8 f n ++ List.replicate m 0) j = put_ f n m (fun _ => 0) j := by
  rw [← UL_app _ _ _ (by rw [L8_length, List.length_replicate]; exact hj), L8_length, List.length_replicate]
  unfold put_
  split
  · rw [UL_getD, show (List.replicate m (0 : B8)).getD (j - n) 0 = 0 by simp [List.getD_eq_getElem?_getD, show j - n < m by omega]]; rfl
  · exact UL_L8 hf j (by omega)
theorem fillN_lt (n : Nat) : fillN n < 16 := Nat.mod_lt _ (by omega)
/-- aead.fill. -/
def fillS : Summary := mkS false [.a 5 .u8] fun
  | [.a nl f n] => some ⟨.and (.p (R8 f n)) (.p (n ≤ 1000000)), some (.sa (.sc (ownA (nl && Nat.beq (fillN n) 0) (n + fillN n) 1))), [(0, .dead), (1, ownB 5 .u8 (UL (fill (L8 f n))) (n + fillN n))], 2⟩
  | _ => none
theorem fillS_ok : SumOk Try.prog 101 fillS := by
  unfold fillS
  apply sum_ok
  intro vs A H n o r hb h
  split at h
  rotate_left
  · cases h
  rename_i nl f n0
  injection h with h
  subst h
  cases hb
  refine fsound_of_run tt_ok cok_nil mixed_ok Try.call101 Try.func101 rfl (rs := _) Try.results101 (size := 10) Try.ntmps101 (Nat.le_of_ble_eq_true rfl) rfl fun hp hfa hfh => ?_
  obtain ⟨hf, hn⟩ := hp
  have hf : R8 f n0 := hf
  have hn : n0 ≤ 1000000 := hn
  have q1 : IntKind.i64.wrap (16 - ((n0 : Nat) : Int).tmod 16) = ((16 - n0 % 16 : Nat) : Int) := by rw [show ((n0 : Nat) : Int).tmod 16 = ((n0 % 16 : Nat) : Int) from rfl, w_i64]; omega
  have q2 : ((16 - n0 % 16 : Nat) : Int).tmod 16 = ((fillN n0 : Nat) : Int) := rfl
  have hl := fillN_lt n0
  have hnl : nl = true → n0 = 0 := hfa.1.1
  have hz : (nl && Nat.beq (fillN n0) 0) = true → n0 + fillN n0 = 0 := fun h => by
    obtain ⟨h1, h2⟩ := Bool.and_eq_true _ _ |>.mp h
    have := hnl h1
    rw [Nat.beq_eq] at h2
    omega
  repeat ((conv => whnf); (with_reducible refine And.intro ?_ ?_); · first | exact True.intro | with_reducible assumption | omega | (intro _; refine ⟨True.intro, ?_⟩; omega) | (intro _; refine ⟨?_, True.intro⟩; omega) | (intro _; omega) | (refine decide_eq_true ?_; omega) | (intro _; refine ⟨decide_eq_true ?_, ?_⟩ <;> omega) | (simp only [q1, q2, Int.toNat_natCast]; omega) | (simp only [q1, q2, Int.toNat_natCast]; intro _; refine ⟨?_, ?_⟩ <;> first | omega | (refine decide_eq_true ?_; omega)) | exact R8_UL _ _ | (intro hg0; (repeat ((conv => whnf); (with_reducible refine And.intro ?_ ?_); · first | assumption | omega | (intro _; refine ⟨?_, ?_⟩ <;> first | assumption | omega) | (simp only [hg0, Bool.and_self, Bool.true_and]; done))); (conv => whnf); exact True.intro))
  conv => whnf
  refine ⟨[], ?_⟩
  simp only [q1, q2, Int.toNat_natCast]
  have hfin : ∀ j, j < n0 + fillN n0 → UL (fill (L8 f n0)) j = put_ f n0 (fillN n0) (fun _ => 0) j := fun j hj => by
    unfold fill; rw [L8_length]; exact put_zero hf j hj
  repeat ((conv => whnf); (with_reducible refine And.intro ?_ ?_); · first | with_reducible rfl | exact (Bool.and_false _).symm | (intro _ _; with_reducible rfl) | exact True.intro | assumption | (intro h; exact absurd h (by decide)) | omega | (intro _; omega) | (intro _; refine ⟨?_, True.intro⟩; omega) | (intro _; refine ⟨?_, True.intro⟩; intro _; omega) | (refine decide_eq_false ?_; omega) | (refine decide_eq_true ?_; omega) | (simp only [w_i64, w_u64, w_u32, w_u8]; omega) | exact fun j hj => (put_0 hj).symm | (intro j _; simp only [Nat.zero_add]; done) | (simp [appG]; done) | (simp [appG]; omega) | exact hz | exact hfin | (intro hgd; (try replace hgd := of_decide_eq_true hgd); (repeat ((conv => whnf); (with_reducible refine And.intro ?_ ?_); · first | with_reducible rfl | exact (Bool.and_false _).symm | (intro _ _; with_reducible rfl) | exact True.intro | assumption | (intro h; exact absurd h (by decide)) | omega | (intro _; omega) | (intro _; refine ⟨?_, True.intro⟩; omega) | (intro _; refine ⟨?_, True.intro⟩; intro _; omega) | (refine decide_eq_false ?_; omega) | (refine decide_eq_true ?_; omega) | (simp only [w_i64, w_u64, w_u32, w_u8]; omega) | exact fun j hj => (put_0 hj).symm | (intro j _; simp only [Nat.zero_add]; done) | (simp [appG]; done) | (simp [appG]; omega) | exact hz | exact hfin)); (conv => whnf); exact True.intro))
  conv => whnf
  exact True.intro
theorem leB_succ (i v : Nat) : leB (i + 1) v = leB i v ++ [BitVec.ofNat 8 (v / 256 ^ i)] := by simp [leB, List.range_succ]
theorem byte_sh {m i : Nat} (hm : m < 9223372036854775808) (hi : i < 8) : IntKind.u8.wrap (IntKind.u64.wrap (m : Int) / 2 ^ min (8 * i) IntKind.u64.bits) = U (BitVec.ofNat 8 (m / 256 ^ i)) := by
  rw [w_u8, w_u64, show min (8 * i) IntKind.u64.bits = 8 * i from Nat.min_eq_left (by show _ ≤ 64; omega)]
  unfold U
  rw [BitVec.toNat_ofNat, show ((m : Nat) : Int) % 18446744073709551616 = ((m : Nat) : Int) by omega, show (2 : Int) ^ (8 * i) = ((256 ^ i : Nat) : Int) by rw [Int.pow_mul]; rfl]
  omega
/-- aead.length. -/
def lengthS : Summary := mkS false [.a 5 .u8, .v] fun
  | [.a nl f n, .v (.sc (.int .i64 m))] => some ⟨.and (.p (R8 f n)) (.and (.p (n ≤ 1000000)) (.p (0 ≤ m ∧ m < 9223372036854775808))), some (.sa (.sc (ownA false (n + 8) 1))), [(0, .dead), (1, ownB 5 .u8 (UL (L8 f n ++ leB 8 m.toNat)) (n + 8))], 2⟩
  | _ => none
theorem lengthS_ok : SumOk Try.prog 102 lengthS := by
  unfold lengthS
  apply sum_ok
  intro vs A H n o r hb h
  split at h
  rotate_left
  · cases h
  rename_i nl f n0 m
  injection h with h
  subst h
  cases hb
  refine fsound_of_run tt_ok cok_nil mixed_ok Try.call102 Try.func102 rfl (rs := _) Try.results102 (size := 20) Try.ntmps102 (Nat.le_of_ble_eq_true rfl) rfl fun hp hfa hfh => ?_
  obtain ⟨hf, hn, hm0, hm⟩ := hp
  have hf : R8 f n0 := hf
  have hn : n0 ≤ 1000000 := hn
  obtain ⟨M, rfl⟩ := Int.eq_ofNat_of_zero_le hm0
  have hM : M < 9223372036854775808 := by omega
  have hnl : nl = true → n0 = 0 := hfa.1.1
  rw [Int.toNat_natCast]
  repeat ((conv => whnf); (with_reducible refine And.intro ?_ ?_); · first | exact True.intro | with_reducible assumption | omega | (intro _; refine ⟨True.intro, ?_⟩; omega) | (intro _; refine ⟨?_, True.intro⟩; omega) | (intro _; omega) | (refine decide_eq_true ?_; omega) | (intro _; refine ⟨decide_eq_true ?_, ?_⟩ <;> omega) | (simp only [w_i64, w_u64, w_u32, w_u8]; omega) | exact R8_UL _ _ | (intro hg0; (repeat ((conv => whnf); (with_reducible refine And.intro ?_ ?_); · first | assumption | omega | (intro _; refine ⟨?_, ?_⟩ <;> first | assumption | omega) | (simp only [hg0, Bool.and_self, Bool.true_and]; done))); (conv => whnf); exact True.intro))
  conv => whnf
  refine ⟨1, ?_⟩
  repeat ((conv => whnf); (with_reducible refine And.intro ?_ ?_); · first | exact True.intro | with_reducible assumption | omega | (intro _; refine ⟨True.intro, ?_⟩; omega) | (intro _; refine ⟨?_, True.intro⟩; omega) | (intro _; omega) | (refine decide_eq_true ?_; omega) | (intro _; refine ⟨decide_eq_true ?_, ?_⟩ <;> omega) | (simp only [w_i64, w_u64, w_u32, w_u8]; omega) | exact R8_UL _ _ | (intro hg0; (repeat ((conv => whnf); (with_reducible refine And.intro ?_ ?_); · first | assumption | omega | (intro _; refine ⟨?_, ?_⟩ <;> first | assumption | omega) | (simp only [hg0, Bool.and_self, Bool.true_and]; done))); (conv => whnf); exact True.intro))
  conv => whnf
  refine ⟨fun _ => ?_, fun h => absurd h (by decide)⟩
  repeat ((conv => whnf); (with_reducible refine And.intro ?_ ?_); · first | exact True.intro | with_reducible with_reducible assumption | omega | (intro _; refine ⟨True.intro, ?_⟩; omega) | (intro _; refine ⟨?_, True.intro⟩; omega) | (intro _; omega) | (refine decide_eq_true ?_; omega) | (intro _; refine ⟨decide_eq_true ?_, ?_⟩ <;> omega) | (simp only [w_i64, w_u64, w_u32, w_u8]; omega) | exact R8_UL _ _ | (intro hg0; (repeat ((conv => whnf); (with_reducible refine And.intro ?_ ?_); · first | with_reducible assumption | omega | (intro _; refine ⟨?_, ?_⟩ <;> first | with_reducible assumption | omega) | (simp only [hg0, Bool.and_self, Bool.true_and]; done))); (conv => whnf); exact True.intro))
  conv => whnf
  have hb0 : IntKind.u8.wrap (IntKind.u64.wrap (M : Int) / 2 ^ min (IntKind.i64.wrap (8 * 0)).toNat IntKind.u64.bits) = U (BitVec.ofNat 8 (M / 256 ^ 0)) := by
    have e0 : (IntKind.i64.wrap (8 * 0)).toNat = 0 := rfl
    have e1 := byte_sh (i := 0) hM (by omega)
    rw [Nat.mul_zero] at e1
    rw [e0, e1]
  refine ⟨Nat, fun i => ⟨20, [(0, .sa (.sc (ownA false (n0 + i) 1))), (1, .sa (.sc (.int .i64 M))), (6, .sa (.sc (.int .i64 i)))],
    [(0, .dead), (1, ownB 5 .u8 (UL (L8 f n0 ++ leB i M)) (n0 + i))], 2⟩, fun i => 1 ≤ i ∧ i ≤ 8, fun i => 8 - i, ⟨1, ⟨by omega, by omega⟩, le_of [(1, 2)] ?_⟩, fun i hi => ?_⟩
  · have h0 : ∀ j, j < n0 + 1 → UL (L8 f n0 ++ leB 1 M) j = put_ f n0 1 (fun j => listI [U (BitVec.ofNat 8 (M / 256 ^ 0))].reverse (0 + j)) j := fun j hj => by
      exact app1k hf rfl j hj
    simp only [hb0]
    repeat ((conv => whnf); (with_reducible refine And.intro ?_ ?_); · first | with_reducible rfl | exact (Bool.and_false _).symm | (intro _ _; with_reducible rfl) | exact True.intro | assumption | (intro h; exact absurd h (by decide)) | omega | (intro _; omega) | (intro _; refine ⟨?_, True.intro⟩; omega) | (intro _; refine ⟨?_, True.intro⟩; intro _; omega) | (refine decide_eq_false ?_; omega) | (refine decide_eq_true ?_; omega) | (simp only [w_i64, w_u64, w_u32, w_u8]; omega) | exact fun j hj => (put_0 hj).symm | (intro j _; simp only [Nat.zero_add]; done) | (simp [appG]; done) | (simp [appG]; omega) | exact h0 | (intro hgd; (try replace hgd := of_decide_eq_true hgd); (repeat ((conv => whnf); (with_reducible refine And.intro ?_ ?_); · first | with_reducible rfl | exact (Bool.and_false _).symm | (intro _ _; with_reducible rfl) | exact True.intro | assumption | (intro h; exact absurd h (by decide)) | omega | (intro _; omega) | (intro _; refine ⟨?_, True.intro⟩; omega) | (intro _; refine ⟨?_, True.intro⟩; intro _; omega) | (refine decide_eq_false ?_; omega) | (refine decide_eq_true ?_; omega) | (simp only [w_i64, w_u64, w_u32, w_u8]; omega) | exact fun j hj => (put_0 hj).symm | (intro j _; simp only [Nat.zero_add]; done) | (simp [appG]; done) | (simp [appG]; omega) | exact h0)); (conv => whnf); exact True.intro))
    conv => whnf
    exact True.intro
  obtain ⟨hi1, hi2⟩ := hi
  have hi1 : 1 ≤ i := hi1
  have hi2 : i ≤ 8 := hi2
  have hl : (L8 f n0 ++ leB i M).length = n0 + i := by rw [List.length_append, L8_length, leB_length]
  repeat ((conv => whnf); (with_reducible refine And.intro ?_ ?_); · first | exact True.intro | with_reducible with_reducible assumption | omega | (intro _; refine ⟨True.intro, ?_⟩; omega) | (intro _; refine ⟨?_, True.intro⟩; omega) | (intro _; omega) | (refine decide_eq_true ?_; omega) | (intro _; refine ⟨decide_eq_true ?_, ?_⟩ <;> omega) | (simp only [w_i64, w_u64, w_u32, w_u8]; omega) | exact R8_UL _ _ | (intro hg0; (repeat ((conv => whnf); (with_reducible refine And.intro ?_ ?_); · first | with_reducible assumption | omega | (intro _; refine ⟨?_, ?_⟩ <;> first | with_reducible assumption | omega) | (simp only [hg0, Bool.and_self, Bool.true_and]; done))); (conv => whnf); exact True.intro))
  conv => whnf
  refine ⟨fun h1 => ?_, fun h1 => ?_⟩
  · replace h1 := of_decide_eq_true h1
    have w0 : IntKind.i64.wrap (8 * (i : Int)) = ((8 * i : Nat) : Int) := by rw [w_i64]; omega
    have hb := byte_sh (i := i) hM (by omega)
    repeat ((conv => whnf); (with_reducible refine And.intro ?_ ?_); · first | exact True.intro | with_reducible with_reducible assumption | omega | (intro _; refine ⟨True.intro, ?_⟩; omega) | (intro _; refine ⟨?_, True.intro⟩; omega) | (intro _; omega) | (refine decide_eq_true ?_; omega) | (intro _; refine ⟨decide_eq_true ?_, ?_⟩ <;> omega) | (simp only [w0, Int.toNat_natCast]; omega) | (simp only [w0, Int.toNat_natCast]; intro _; refine ⟨?_, ?_⟩ <;> first | omega | (refine decide_eq_true ?_; omega)) | exact R8_UL _ _ | (intro hg0; (repeat ((conv => whnf); (with_reducible refine And.intro ?_ ?_); · first | with_reducible assumption | omega | (intro _; refine ⟨?_, ?_⟩ <;> first | with_reducible assumption | omega) | (simp only [hg0, Bool.and_self, Bool.true_and]; done))); (conv => whnf); exact True.intro))
    conv => whnf
    refine ⟨i + 1, ⟨⟨by show 1 ≤ i + 1; omega, by show i + 1 ≤ 8; omega⟩, by show 8 - (i + 1) < 8 - i; omega⟩, le_of [(1, 3)] ?_⟩
    have hfin : ∀ j, j < n0 + i + 1 → UL (L8 f n0 ++ leB (i + 1) M) j = put_ (UL (L8 f n0 ++ leB i M)) (n0 + i) 1 (fun j => listI [U (BitVec.ofNat 8 (M / 256 ^ i))].reverse (0 + j)) j := fun j hj => by
      rw [leB_succ, ← List.append_assoc]
      exact app1 hl.symm rfl j hj
    simp only [w0, Int.toNat_natCast, hb, ← Nat.add_assoc]
    repeat ((conv => whnf); (with_reducible refine And.intro ?_ ?_); · first | with_reducible rfl | exact (Bool.and_false _).symm | (intro _ _; with_reducible rfl) | exact True.intro | assumption | (intro h; exact absurd h (by decide)) | omega | (intro _; omega) | (intro _; refine ⟨?_, True.intro⟩; omega) | (intro _; refine ⟨?_, True.intro⟩; intro _; omega) | (refine decide_eq_false ?_; omega) | (refine decide_eq_true ?_; omega) | (simp only [w_i64, w_u64, w_u32, w_u8]; omega) | exact fun j hj => (put_0 hj).symm | (intro j _; simp only [Nat.zero_add]; done) | (simp [appG]; done) | (simp [appG]; omega) | exact hfin | (intro hgd; (try replace hgd := of_decide_eq_true hgd); (repeat ((conv => whnf); (with_reducible refine And.intro ?_ ?_); · first | with_reducible rfl | exact (Bool.and_false _).symm | (intro _ _; with_reducible rfl) | exact True.intro | assumption | (intro h; exact absurd h (by decide)) | omega | (intro _; omega) | (intro _; refine ⟨?_, True.intro⟩; omega) | (intro _; refine ⟨?_, True.intro⟩; intro _; omega) | (refine decide_eq_false ?_; omega) | (refine decide_eq_true ?_; omega) | (simp only [w_i64, w_u64, w_u32, w_u8]; omega) | exact fun j hj => (put_0 hj).symm | (intro j _; simp only [Nat.zero_add]; done) | (simp [appG]; done) | (simp [appG]; omega) | exact hfin)); (conv => whnf); exact True.intro))
    conv => whnf
    exact True.intro
  · replace h1 := of_decide_eq_false h1
    have hi8 : i = 8 := by omega
    subst hi8
    repeat ((conv => whnf); (with_reducible refine And.intro ?_ ?_); · first | exact True.intro | with_reducible with_reducible assumption | omega | (intro _; refine ⟨True.intro, ?_⟩; omega) | (intro _; refine ⟨?_, True.intro⟩; omega) | (intro _; omega) | (refine decide_eq_true ?_; omega) | (intro _; refine ⟨decide_eq_true ?_, ?_⟩ <;> omega) | (simp only [w_i64, w_u64, w_u32, w_u8]; omega) | exact R8_UL _ _ | (intro hg0; (repeat ((conv => whnf); (with_reducible refine And.intro ?_ ?_); · first | with_reducible assumption | omega | (intro _; refine ⟨?_, ?_⟩ <;> first | with_reducible assumption | omega) | (simp only [hg0, Bool.and_self, Bool.true_and]; done))); (conv => whnf); exact True.intro))
    conv => whnf
    refine ⟨[], ?_⟩
    repeat ((conv => whnf); (with_reducible refine And.intro ?_ ?_); · first | with_reducible rfl | exact (Bool.and_false _).symm | (intro _ _; with_reducible rfl) | exact True.intro | assumption | (intro h; exact absurd h (by decide)) | omega | (intro _; omega) | (intro _; refine ⟨?_, True.intro⟩; omega) | (intro _; refine ⟨?_, True.intro⟩; intro _; omega) | (refine decide_eq_false ?_; omega) | (refine decide_eq_true ?_; omega) | (simp only [w_i64, w_u64, w_u32, w_u8]; omega) | exact fun j hj => (put_0 hj).symm | (intro j _; simp only [Nat.zero_add]; done) | (simp [appG]; done) | (simp [appG]; omega) | (intro hgd; (try replace hgd := of_decide_eq_true hgd); (repeat ((conv => whnf); (with_reducible refine And.intro ?_ ?_); · first | with_reducible rfl | exact (Bool.and_false _).symm | (intro _ _; with_reducible rfl) | exact True.intro | assumption | (intro h; exact absurd h (by decide)) | omega | (intro _; omega) | (intro _; refine ⟨?_, True.intro⟩; omega) | (intro _; refine ⟨?_, True.intro⟩; intro _; omega) | (refine decide_eq_false ?_; omega) | (refine decide_eq_true ?_; omega) | (simp only [w_i64, w_u64, w_u32, w_u8]; omega) | exact fun j hj => (put_0 hj).symm | (intro j _; simp only [Nat.zero_add]; done) | (simp [appG]; done) | (simp [appG]; omega))); (conv => whnf); exact True.intro))
    conv => whnf
    exact True.intro
end Go.Proofs.Ytogijkmflhjhkaa

/- Functions through the evaluator: sealed bytes, opened ones. No condition. -/
namespace Go.Proofs.Ytogijkmflhjhkaa
open Go.Sx Go.RowKit
set_option maxRecDepth 100000
set_option maxHeartbeats 2000000
set_option linter.unusedVariables false
set_option linter.unusedSimpArgs false

theorem cok40 : COk Try.prog (tab [(55, blockS), (101, fillS), (102, lengthS), (59, tagS)]) := cok_cons blockS_ok (cok_cons fillS_ok (cok_cons lengthS_ok (cok_cons tagS_ok cok_nil)))
/-- aead.mark. -/
noncomputable def markS : Summary := mkS false [.v, .v, .r .u8, .r .u8] fun
  | [.v (.agg [.ints .u8 k 32]), .v (.agg [.ints .u8 n 12]), .r nl1 a l, .r nl2 c m] => some ⟨.and (.p (R8 k 32)) (.and (.p (R8 n 12)) (.and (.p (R8 a l)) (.and (.p (R8 c m)) (.p (l ≤ 10000 ∧ m ≤ 10000))))),
      some (.sa (.agg [.ints .u8 (UL (aeMark (L8 k 32) (L8 n 12) (L8 a l) (L8 c m))) 16])), [], 0⟩
  | _ => none
theorem markS_ok : SumOk Try.prog 86 markS := by
  unfold markS
  apply sum_ok
  intro vs A H n o r hb h
  split at h
  rotate_left
  · cases h
  rename_i k n nl1 a l nl2 c m
  injection h with h
  subst h
  cases hb
  refine fsound_of_run tt_ok cok40 mixed_ok Try.call86 Try.func86 rfl (rs := _) Try.results86 (size := 35) Try.ntmps86 (Nat.le_of_ble_eq_true rfl) rfl fun hp hfa hfh => ?_
  obtain ⟨hk, hn, ha, hc, hl, hm⟩ := hp
  have hk : R8 k 32 := hk
  have hn : R8 n 12 := hn
  have ha : R8 a l := ha
  have hc : R8 c m := hc
  have u0 : u32R 0 := ⟨by decide, by decide⟩
  repeat ((conv => whnf); (with_reducible refine And.intro ?_ ?_); · first | exact True.intro | (intro hg0; simp only [hg0, Bool.not_false, Bool.not_true]; done) | with_reducible assumption | omega | (intro _; refine ⟨True.intro, ?_⟩; omega) | (intro _; refine ⟨?_, True.intro⟩; omega) | (intro _; refine ⟨decide_eq_true ?_, ?_⟩ <;> omega) | (intro _; refine ⟨?_, ?_⟩ <;> first | omega | (simp [appG, Cd.holds]; done) | (simp [appG, Cd.holds]; omega)) | (refine decide_eq_true ?_; omega) | (intro _; omega) | (simp only [w_i64, w_u64, w_u32, w_u8]; omega) | exact ⟨U_nonneg _, U_lt32 _⟩ | exact R8_UL _ _ | exact R32_UL _ _ | (intro hg0; (repeat ((conv => whnf); (with_reducible refine And.intro ?_ ?_); · first | with_reducible assumption | omega | (intro _; refine ⟨?_, ?_⟩ <;> first | with_reducible assumption | omega | exact True.intro | (refine decide_eq_true ?_; omega) | (simp [appG, Cd.holds]; omega)) | (intro _; refine ⟨And.intro ?_ ?_, ?_⟩ <;> first | with_reducible assumption | omega | (refine decide_eq_true ?_; omega)) | (simp only [hg0, Bool.and_self, Bool.true_and]; done) | (intro hg1; simp only [hg0, hg1, Bool.and_self, Bool.true_and]; done) | (simp [hg0]; done) | exact u0)); (conv => whnf); exact True.intro) | exact u0)
  conv => whnf
  obtain ⟨Bk, hB⟩ : ∃ Bk, Bk = chBlock (L8 k 32) (BitVec.ofInt 32 0) (L8 n 12) := ⟨_, rfl⟩
  have hBl : Bk.length = 64 := by rw [hB, chBlock_length]
  simp only [← hB]
  refine ⟨[(0, ⟨0, some 15, []⟩), (1, ⟨0, some 16, []⟩), (2, ⟨3, some 17, [4]⟩)], 53, ?_⟩
  repeat ((conv => whnf); (with_reducible refine And.intro ?_ ?_); · first | exact True.intro | (intro hg0; simp only [hg0, Bool.not_false, Bool.not_true]; done) | with_reducible assumption | omega | (intro _; refine ⟨True.intro, ?_⟩; omega) | (intro _; refine ⟨?_, True.intro⟩; omega) | (intro _; refine ⟨decide_eq_true ?_, ?_⟩ <;> omega) | (intro _; refine ⟨?_, ?_⟩ <;> first | omega | (simp [appG, Cd.holds]; done) | (simp [appG, Cd.holds]; omega)) | (refine decide_eq_true ?_; omega) | (intro _; omega) | (simp only [w_i64, w_u64, w_u32, w_u8]; omega) | exact ⟨U_nonneg _, U_lt32 _⟩ | exact R8_UL _ _ | exact R32_UL _ _ | (intro hg0; (repeat ((conv => whnf); (with_reducible refine And.intro ?_ ?_); · first | with_reducible assumption | omega | (intro _; refine ⟨?_, ?_⟩ <;> first | with_reducible assumption | omega | exact True.intro | (refine decide_eq_true ?_; omega) | (simp [appG, Cd.holds]; omega)) | (intro _; refine ⟨And.intro ?_ ?_, ?_⟩ <;> first | with_reducible assumption | omega | (refine decide_eq_true ?_; omega)) | (simp only [hg0, Bool.and_self, Bool.true_and]; done) | (intro hg1; simp only [hg0, hg1, Bool.and_self, Bool.true_and]; done) | (simp [hg0]; done))); (conv => whnf); exact True.intro))
  conv => whnf
  have hA : R8 (put_ (listI [].reverse) 0 l a) (0 + l) := fun j hj => by rw [put_0 (by omega)]; exact ha _ (by omega)
  have eA : L8 (put_ (listI [].reverse) 0 l a) l = L8 a l := L8_congr fun j hj => put_0 hj
  refine ⟨hA, ?_⟩
  simp only [Nat.zero_add, eA]
  obtain ⟨A, hAe⟩ : ∃ A, A = L8 a l := ⟨_, rfl⟩
  have hAl : A.length = l := by rw [hAe, L8_length]
  obtain ⟨C, hCe⟩ : ∃ C, C = L8 c m := ⟨_, rfl⟩
  have hCl : C.length = m := by rw [hCe, L8_length]
  simp only [← hAe, ← hCe]
  have hfl := fillN_lt l
  have hfl2 := fillN_lt (l + fillN l + m)
  have hFl : (fill A).length = l + fillN l := by rw [fill_length, hAl]
  have hC : R8 (put_ (UL (fill A)) (l + fillN l) m c) (l + fillN l + m) := R8_put (R8_UL _ _) hc
  have eC : L8 (put_ (UL (fill A)) (l + fillN l) m c) (l + fillN l + m) = fill A ++ C := by rw [L8_put, L8_UL' hFl.symm, hCe]
  repeat ((conv => whnf); (with_reducible refine And.intro ?_ ?_); · first | exact True.intro | (intro hg0; simp only [hg0, Bool.not_false, Bool.not_true]; done) | with_reducible assumption | omega | (intro _; refine ⟨True.intro, ?_⟩; omega) | (intro _; refine ⟨?_, True.intro⟩; omega) | (intro _; refine ⟨decide_eq_true ?_, ?_⟩ <;> omega) | (intro _; refine ⟨?_, ?_⟩ <;> first | omega | (simp [appG, Cd.holds]; done) | (simp [appG, Cd.holds]; omega)) | (refine decide_eq_true ?_; omega) | (intro _; omega) | (simp only [w_i64, w_u64, w_u32, w_u8]; omega) | exact ⟨U_nonneg _, U_lt32 _⟩ | exact R8_UL _ _ | exact R32_UL _ _ | (intro hg0; (repeat ((conv => whnf); (with_reducible refine And.intro ?_ ?_); · first | with_reducible assumption | omega | (intro _; refine ⟨?_, ?_⟩ <;> first | with_reducible assumption | omega | exact True.intro | (refine decide_eq_true ?_; omega) | (simp [appG, Cd.holds]; omega)) | (intro _; refine ⟨And.intro ?_ ?_, ?_⟩ <;> first | with_reducible assumption | omega | (refine decide_eq_true ?_; omega)) | (simp only [hg0, Bool.and_self, Bool.true_and]; done) | (intro hg1; simp only [hg0, hg1, Bool.and_self, Bool.true_and]; done) | (simp [hg0]; done) | exact hC)); (conv => whnf); exact True.intro) | exact hC)
  conv => whnf
  simp only [eC]
  have hDl : (fill (fill A ++ C)).length = l + fillN l + m + fillN (l + fillN l + m) := by rw [fill_length, List.length_append, hFl, hCl]
  obtain ⟨D, hD⟩ : ∃ D, D = fill (fill A ++ C) := ⟨_, rfl⟩
  have hM : aeM A C = D ++ leB 8 l ++ leB 8 m := by unfold aeM; rw [← hD, hAl, hCl]
  rw [← hD] at hDl
  simp only [← hD]
  obtain ⟨d, hd⟩ : ∃ d, d = l + fillN l + m + fillN (l + fillN l + m) := ⟨_, rfl⟩
  have hd2 : d ≤ 100000 := by omega
  rw [← hd] at hDl
  simp only [← hd]
  refine ⟨[(0, ⟨0, some 26, []⟩), (1, ⟨0, some 27, []⟩), (2, ⟨0, some 28, []⟩), (3, ⟨4, some 29, []⟩), (4, ⟨14, some 30, [57, 122]⟩), (5, ⟨0, some 31, []⟩), (6, ⟨32, some 32, []⟩), (7, ⟨126, some 33, [122, 170]⟩), (8, ⟨255, some 34, []⟩), (9, ⟨511, none, [2]⟩)], 218, ?_⟩
  have hKj : ∀ j, j < 32 → (put_ (fun _ => 0) (Int.toNat 0) (min (64 - Int.toNat 0) (32 - Int.toNat 0)) fun j => UL Bk (Int.toNat 0 + j)) j = UL Bk j := fun j hj => by
    unfold put_
    rw [if_pos ⟨Nat.zero_le _, by show j < 0 + 32; omega⟩]
    show UL Bk (0 + (j - 0)) = _
    rw [Nat.zero_add, Nat.sub_zero]
  have hK8 : R8 (put_ (fun _ => 0) (Int.toNat 0) (min (64 - Int.toNat 0) (32 - Int.toNat 0)) fun j => UL Bk (Int.toNat 0 + j)) 32 := fun j hj => by rw [hKj j hj]; exact R8_UL Bk 32 j hj
  have eK : L8 (put_ (fun _ => 0) (Int.toNat 0) (min (64 - Int.toNat 0) (32 - Int.toNat 0)) fun j => UL Bk (Int.toNat 0 + j)) 32 = aeK (L8 k 32) (L8 n 12) := by
    rw [L8_congr hKj, L8_take _ 64 32 (by omega), L8_UL' hBl.symm, hB]
    rfl
  have eM : L8 (fun j => UL (L8 (UL (L8 (UL D) d ++ leB 8 (Int.toNat (l : Int)))) (d + 8) ++ leB 8 (Int.toNat (m : Int))) (0 + j)) (d + 8 + 8) = aeM A C := by
    rw [hM, Int.toNat_natCast, Int.toNat_natCast, L8_UL' hDl.symm, L8_UL' (l := D ++ leB 8 l) (by rw [List.length_append, hDl, leB_length])]
    rw [show (fun j => UL (D ++ leB 8 l ++ leB 8 m) (0 + j)) = UL (D ++ leB 8 l ++ leB 8 m) from funext fun j => by rw [Nat.zero_add]]
    exact L8_UL' (by rw [List.length_append, List.length_append, hDl, leB_length, leB_length])
  repeat ((conv => whnf); (with_reducible refine And.intro ?_ ?_); · first | exact True.intro | (intro hg0; simp only [hg0, Bool.not_false, Bool.not_true]; done) | with_reducible assumption | omega | (intro _; refine ⟨True.intro, ?_⟩; omega) | (intro _; refine ⟨?_, True.intro⟩; omega) | (intro _; refine ⟨decide_eq_true ?_, ?_⟩ <;> omega) | (intro _; refine ⟨?_, ?_⟩ <;> first | omega | (simp [appG, Cd.holds]; done) | (simp [appG, Cd.holds]; omega)) | (refine decide_eq_true ?_; omega) | (intro _; omega) | (simp only [w_i64, w_u64, w_u32, w_u8]; omega) | exact ⟨U_nonneg _, U_lt32 _⟩ | exact R8_UL _ _ | exact R32_UL _ _ | (intro hg0; (repeat ((conv => whnf); (with_reducible refine And.intro ?_ ?_); · first | with_reducible assumption | omega | (intro _; refine ⟨?_, ?_⟩ <;> first | with_reducible assumption | omega | exact True.intro | (refine decide_eq_true ?_; omega) | (simp [appG, Cd.holds]; omega)) | (intro _; refine ⟨And.intro ?_ ?_, ?_⟩ <;> first | with_reducible assumption | omega | (refine decide_eq_true ?_; omega)) | (simp only [hg0, Bool.and_self, Bool.true_and]; done) | (intro hg1; simp only [hg0, hg1, Bool.and_self, Bool.true_and]; done) | (simp [hg0]; done) | exact hK8 | exact fun j hj => ⟨U_nonneg _, U_lt8 _⟩)); (conv => whnf); exact True.intro) | exact hK8 | exact fun j hj => ⟨U_nonneg _, U_lt8 _⟩)
  conv => whnf
  refine ⟨[], ?_⟩
  simp only [eK, eM]
  repeat ((conv => whnf); (with_reducible refine And.intro ?_ ?_); · first | exact fun _ _ => rfl | with_reducible rfl | exact (Bool.and_false _).symm | (intro _ _; with_reducible rfl) | exact True.intro | with_reducible assumption | (intro h; exact absurd h (by decide)) | omega | (intro _; omega) | (intro _; refine ⟨?_, True.intro⟩; omega) | (intro _; refine ⟨?_, True.intro⟩; intro _; omega) | (refine decide_eq_false ?_; omega) | (refine decide_eq_true ?_; omega) | (simp only [w_i64, w_u64, w_u32, w_u8]; omega) | exact fun j hj => (put_0 hj).symm | (intro j _; simp only [Nat.zero_add]; done) | (simp [appG]; done) | (simp [appG]; omega) | exact fun _ _ => rfl | (intro hgd; (try replace hgd := of_decide_eq_true hgd); (repeat ((conv => whnf); (with_reducible refine And.intro ?_ ?_); · first | with_reducible rfl | exact (Bool.and_false _).symm | (intro _ _; with_reducible rfl) | exact True.intro | with_reducible assumption | (intro h; exact absurd h (by decide)) | omega | (intro _; omega) | (intro _; refine ⟨?_, True.intro⟩; omega) | (intro _; refine ⟨?_, True.intro⟩; intro _; omega) | (refine decide_eq_false ?_; omega) | (refine decide_eq_true ?_; omega) | (simp only [w_i64, w_u64, w_u32, w_u8]; omega) | exact fun j hj => (put_0 hj).symm | (intro j _; simp only [Nat.zero_add]; done) | (simp [appG]; done) | (simp [appG]; omega) | exact fun _ _ => rfl)); (conv => whnf); exact True.intro))
  conv => whnf
  exact True.intro

theorem cok41 : COk Try.prog (tab [(57, xorS), (86, markS), (41, sameS)]) := cok_cons xorS_ok (cok_cons markS_ok (cok_cons sameS_ok cok_nil))
/-- aead.Seal. -/
noncomputable def sealS : Summary := mkS false [.v, .v, .r .u8, .r .u8] fun
  | [.v (.agg [.ints .u8 k 32]), .v (.agg [.ints .u8 n 12]), .r nl1 a l, .r nl2 c m] => some ⟨.and (.p (R8 k 32)) (.and (.p (R8 n 12)) (.and (.p (R8 a l)) (.and (.p (R8 c m)) (.p (l ≤ 10000 ∧ m ≤ 10000))))),
      some (.sa (.sc (.sl false true false 0 0 0 (m + 16) (m + 16)))), [(0, ownB 5 .u8 (UL (aeSeal (L8 k 32) (L8 n 12) (L8 a l) (L8 c m))) (m + 16))], 1⟩
  | _ => none
theorem sealS_ok : SumOk Try.prog 61 sealS := by
  unfold sealS
  apply sum_ok
  intro vs A H n o r hb h
  split at h
  rotate_left
  · cases h
  rename_i k n nl1 a l nl2 c m
  injection h with h
  subst h
  cases hb
  refine fsound_of_run tt_ok cok41 mixed_ok Try.call61 Try.func61 rfl (rs := _) Try.results61 (size := 23) Try.ntmps61 (Nat.le_of_ble_eq_true rfl) rfl fun hp hfa hfh => ?_
  obtain ⟨hk, hn, ha, hc, hl, hm⟩ := hp
  have hk : R8 k 32 := hk
  have hn : R8 n 12 := hn
  have ha : R8 a l := ha
  have hc : R8 c m := hc
  have hl : l ≤ 10000 := hl
  have hm : m ≤ 10000 := hm
  have u1 : u32R 1 := ⟨by decide, by decide⟩
  repeat ((conv => whnf); (with_reducible refine And.intro ?_ ?_); · first | exact True.intro | (intro hg0; simp only [hg0, Bool.not_false, Bool.not_true]; done) | with_reducible assumption | omega | (intro _; refine ⟨True.intro, ?_⟩; omega) | (intro _; refine ⟨?_, True.intro⟩; omega) | (intro _; refine ⟨decide_eq_true ?_, ?_⟩ <;> omega) | (intro _; refine ⟨?_, ?_⟩ <;> first | omega | (simp [appG, Cd.holds]; done) | (simp [appG, Cd.holds]; omega)) | (refine decide_eq_true ?_; omega) | (intro _; omega) | (simp only [w_i64, w_u64, w_u32, w_u8]; omega) | exact ⟨U_nonneg _, U_lt32 _⟩ | exact R8_UL _ _ | exact R32_UL _ _ | (intro hg0; (repeat ((conv => whnf); (with_reducible refine And.intro ?_ ?_); · first | with_reducible assumption | omega | (intro _; refine ⟨?_, ?_⟩ <;> first | with_reducible assumption | omega | exact True.intro | (refine decide_eq_true ?_; omega) | (simp [appG, Cd.holds]; omega)) | (intro _; refine ⟨And.intro ?_ ?_, ?_⟩ <;> first | with_reducible assumption | omega | (refine decide_eq_true ?_; omega)) | (simp only [hg0, Bool.and_self, Bool.true_and]; done) | (intro hg1; simp only [hg0, hg1, Bool.and_self, Bool.true_and]; done) | (simp [hg0]; done) | exact u1 | exact fun j hj => ⟨U_nonneg _, U_lt8 _⟩)); (conv => whnf); exact True.intro) | exact u1 | exact fun j hj => ⟨U_nonneg _, U_lt8 _⟩)
  conv => whnf
  obtain ⟨X, hX⟩ : ∃ X, X = chXor (L8 k 32) (BitVec.ofInt 32 1) (L8 n 12) (L8 c m) := ⟨_, rfl⟩
  have hXl : X.length = m := by rw [hX, chXor_length, L8_length]
  have eX : L8 (fun j => UL X (0 + j)) m = X := by
    rw [show (fun j => UL X (0 + j)) = UL X from funext fun j => by rw [Nat.zero_add]]
    exact L8_UL' hXl.symm
  have hS : aeSeal (L8 k 32) (L8 n 12) (L8 a l) (L8 c m) = X ++ aeMark (L8 k 32) (L8 n 12) (L8 a l) X := by rw [hX]; rfl
  obtain ⟨S, hSe⟩ : ∃ S, S = aeMark (L8 k 32) (L8 n 12) (L8 a l) X := ⟨_, rfl⟩
  have hSl : S.length = 16 := by rw [hSe, aeMark_length]
  have hfin : ∀ j, j < m + 16 → UL (X ++ S) j = put_ (UL X) m (16 - Int.toNat 0) (fun j => UL S (Int.toNat 0 + j)) j := fun j hj => by
    rw [← UL_app X S j (by omega), hXl, hSl]
    congr 1
    funext j
    show UL S j = UL S (0 + j)
    rw [Nat.zero_add]
  refine ⟨[(0, 4)], ?_⟩
  simp only [← hX, eX, hS, ← hSe]
  repeat ((conv => whnf); (with_reducible refine And.intro ?_ ?_); · first | with_reducible rfl | exact (Bool.and_false _).symm | (intro _ _; with_reducible rfl) | exact True.intro | assumption | (intro h; exact absurd h (by decide)) | omega | (intro _; omega) | (intro _; refine ⟨?_, True.intro⟩; omega) | (intro _; refine ⟨?_, True.intro⟩; intro _; omega) | (refine decide_eq_false ?_; omega) | (refine decide_eq_true ?_; omega) | (simp only [w_i64, w_u64, w_u32, w_u8]; omega) | exact fun j hj => (put_0 hj).symm | (intro j _; simp only [Nat.zero_add]; done) | (simp [appG]; done) | (simp [appG]; omega) | exact hfin | (intro hgd; (try replace hgd := of_decide_eq_true hgd); (repeat ((conv => whnf); (with_reducible refine And.intro ?_ ?_); · first | with_reducible rfl | exact (Bool.and_false _).symm | (intro _ _; with_reducible rfl) | exact True.intro | assumption | (intro h; exact absurd h (by decide)) | omega | (intro _; omega) | (intro _; refine ⟨?_, True.intro⟩; omega) | (intro _; refine ⟨?_, True.intro⟩; intro _; omega) | (refine decide_eq_false ?_; omega) | (refine decide_eq_true ?_; omega) | (simp only [w_i64, w_u64, w_u32, w_u8]; omega) | exact fun j hj => (put_0 hj).symm | (intro j _; simp only [Nat.zero_add]; done) | (simp [appG]; done) | (simp [appG]; omega) | exact hfin)); (conv => whnf); exact True.intro))
  conv => whnf
  exact True.intro

/-- What Open gives. -/
noncomputable def openS : Summary := mkS false [.v, .v, .r .u8, .r .u8] fun
  | [.v (.agg [.ints .u8 k 32]), .v (.agg [.ints .u8 n 12]), .r nl1 a l, .r nl2 c m] => some ⟨.and (.p (R8 k 32)) (.and (.p (R8 n 12)) (.and (.p (R8 a l)) (.and (.p (R8 c m)) (.p (l ≤ 10000 ∧ m ≤ 10000))))),
      some (.tup [.sc (.sl (!(aeIs (L8 k 32) (L8 n 12) (L8 a l) (L8 c m))) false false 0 0 0 (aeOut (L8 k 32) (L8 n 12) (L8 a l) (L8 c m)).length (aeOut (L8 k 32) (L8 n 12) (L8 a l) (L8 c m)).length), .sc (.bool (aeIs (L8 k 32) (L8 n 12) (L8 a l) (L8 c m)))]),
      [(0, ownB 5 .u8 (UL (aeOut (L8 k 32) (L8 n 12) (L8 a l) (L8 c m))) (aeOut (L8 k 32) (L8 n 12) (L8 a l) (L8 c m)).length)], 1⟩
  | _ => none
theorem openS_ok : SumOk Try.prog 62 openS := by
  unfold openS
  apply sum_ok
  intro vs A H n o r hb h
  split at h
  rotate_left
  · cases h
  rename_i k n nl1 a l nl2 c m
  injection h with h
  subst h
  cases hb
  refine fsound_of_run tt_ok cok41 mixed_ok Try.call62 Try.func62 rfl (rs := _) Try.results62 (size := 36) Try.ntmps62 (Nat.le_of_ble_eq_true rfl) rfl fun hp hfa hfh => ?_
  obtain ⟨hk, hn, ha, hc, hl, hm⟩ := hp
  have hk : R8 k 32 := hk
  have hn : R8 n 12 := hn
  have ha : R8 a l := ha
  have hc : R8 c m := hc
  have hl : l ≤ 10000 := hl
  have hm : m ≤ 10000 := hm
  have u1 : u32R 1 := ⟨by decide, by decide⟩
  have hCl : (L8 c m).length = m := L8_length _ _
  have hout : ∀ C, aeOut (L8 k 32) (L8 n 12) (L8 a l) C = if aeIs (L8 k 32) (L8 n 12) (L8 a l) C = true then chXor (L8 k 32) 1 (L8 n 12) (C.take (C.length - 16)) else [] := fun _ => aeOut_eq _ _ _ _
  have his : aeIs (L8 k 32) (L8 n 12) (L8 a l) (L8 c m) = decide (16 ≤ m ∧ aeMark (L8 k 32) (L8 n 12) (L8 a l) ((L8 c m).take (m - 16)) = (L8 c m).drop (m - 16)) := by rw [aeIs_eq, hCl]
  have ho := hout (L8 c m)
  rw [hCl] at ho
  obtain ⟨B, hB⟩ : ∃ B, B = aeIs (L8 k 32) (L8 n 12) (L8 a l) (L8 c m) := ⟨_, rfl⟩
  obtain ⟨O, hO⟩ : ∃ O, O = aeOut (L8 k 32) (L8 n 12) (L8 a l) (L8 c m) := ⟨_, rfl⟩
  rw [← hB] at his
  rw [← hB, ← hO] at ho
  simp only [← hB, ← hO]
  have w0 : IntKind.i64.wrap ((m : Int) - 16) = (m : Int) - 16 := by rw [w_i64]; omega
  repeat ((conv => whnf); (with_reducible refine And.intro ?_ ?_); · first | exact True.intro | (intro hg0; simp only [hg0, Bool.not_false, Bool.not_true]; done) | with_reducible assumption | omega | (intro _; refine ⟨True.intro, ?_⟩; omega) | (intro _; refine ⟨?_, True.intro⟩; omega) | (intro _; refine ⟨decide_eq_true ?_, ?_⟩ <;> omega) | (intro _; refine ⟨?_, ?_⟩ <;> first | omega | (simp [appG, Cd.holds]; done) | (simp [appG, Cd.holds]; omega)) | (refine decide_eq_true ?_; omega) | (intro _; omega) | (simp only [w_i64, w_u64, w_u32, w_u8]; omega) | exact ⟨U_nonneg _, U_lt32 _⟩ | exact R8_UL _ _ | exact R32_UL _ _ | (intro hg0; (repeat ((conv => whnf); (with_reducible refine And.intro ?_ ?_); · first | with_reducible assumption | omega | (intro _; refine ⟨?_, ?_⟩ <;> first | with_reducible assumption | omega | exact True.intro | (refine decide_eq_true ?_; omega) | (simp [appG, Cd.holds]; omega)) | (intro _; refine ⟨And.intro ?_ ?_, ?_⟩ <;> first | with_reducible assumption | omega | (refine decide_eq_true ?_; omega)) | (simp only [hg0, Bool.and_self, Bool.true_and]; done) | (intro hg1; simp only [hg0, hg1, Bool.and_self, Bool.true_and]; done) | (simp [hg0]; done))); (conv => whnf); exact True.intro))
  conv => whnf
  refine ⟨fun h1 => ?_, fun h1 => ?_⟩
  · replace h1 := of_decide_eq_true h1
    rw [w0] at h1
    have hBf : B = false := by rw [his]; exact decide_eq_false fun h => by omega
    rw [hBf] at ho ⊢
    rw [if_neg (by decide)] at ho
    subst ho
    repeat ((conv => whnf); (with_reducible refine And.intro ?_ ?_); · first | exact True.intro | (intro hg0; simp only [hg0, Bool.not_false, Bool.not_true]; done) | with_reducible assumption | omega | (intro _; refine ⟨True.intro, ?_⟩; omega) | (intro _; refine ⟨?_, True.intro⟩; omega) | (intro _; refine ⟨decide_eq_true ?_, ?_⟩ <;> omega) | (intro _; refine ⟨?_, ?_⟩ <;> first | omega | (simp [appG, Cd.holds]; done) | (simp [appG, Cd.holds]; omega)) | (refine decide_eq_true ?_; omega) | (intro _; omega) | (simp only [w_i64, w_u64, w_u32, w_u8]; omega) | exact ⟨U_nonneg _, U_lt32 _⟩ | exact R8_UL _ _ | exact R32_UL _ _ | (intro hg0; (repeat ((conv => whnf); (with_reducible refine And.intro ?_ ?_); · first | with_reducible assumption | omega | (intro _; refine ⟨?_, ?_⟩ <;> first | with_reducible assumption | omega | exact True.intro | (refine decide_eq_true ?_; omega) | (simp [appG, Cd.holds]; omega)) | (intro _; refine ⟨And.intro ?_ ?_, ?_⟩ <;> first | with_reducible assumption | omega | (refine decide_eq_true ?_; omega)) | (simp only [hg0, Bool.and_self, Bool.true_and]; done) | (intro hg1; simp only [hg0, hg1, Bool.and_self, Bool.true_and]; done) | (simp [hg0]; done))); (conv => whnf); exact True.intro))
    conv => whnf
    refine ⟨[], ?_⟩
    repeat ((conv => whnf); (with_reducible refine And.intro ?_ ?_); · first | with_reducible rfl | exact (Bool.and_false _).symm | (intro _ _; with_reducible rfl) | exact True.intro | assumption | (intro h; exact absurd h (by decide)) | omega | (intro _; omega) | (intro _; refine ⟨?_, True.intro⟩; omega) | (intro _; refine ⟨?_, True.intro⟩; intro _; omega) | (refine decide_eq_false ?_; omega) | (refine decide_eq_true ?_; omega) | (simp only [w_i64, w_u64, w_u32, w_u8]; omega) | exact fun j hj => (put_0 hj).symm | (intro j _; simp only [Nat.zero_add]; done) | (simp [appG]; done) | (simp [appG]; omega) | (intro hgd; (try replace hgd := of_decide_eq_true hgd); (repeat ((conv => whnf); (with_reducible refine And.intro ?_ ?_); · first | with_reducible rfl | exact (Bool.and_false _).symm | (intro _ _; with_reducible rfl) | exact True.intro | assumption | (intro h; exact absurd h (by decide)) | omega | (intro _; omega) | (intro _; refine ⟨?_, True.intro⟩; omega) | (intro _; refine ⟨?_, True.intro⟩; intro _; omega) | (refine decide_eq_false ?_; omega) | (refine decide_eq_true ?_; omega) | (simp only [w_i64, w_u64, w_u32, w_u8]; omega) | exact fun j hj => (put_0 hj).symm | (intro j _; simp only [Nat.zero_add]; done) | (simp [appG]; done) | (simp [appG]; omega))); (conv => whnf); exact True.intro))
    conv => whnf
    exact True.intro
  · replace h1 := of_decide_eq_false h1
    rw [w0] at h1
    have h16 : 16 ≤ m := by omega
    have hm16 : IntKind.i64.wrap ((m : Int) - 16) = ((m - 16 : Nat) : Int) := by rw [w0]; omega
    repeat ((conv => whnf); (with_reducible refine And.intro ?_ ?_); · first | exact True.intro | (intro hg0; simp only [hg0, Bool.not_false, Bool.not_true]; done) | with_reducible assumption | omega | (intro _; refine ⟨True.intro, ?_⟩; omega) | (intro _; refine ⟨?_, True.intro⟩; omega) | (intro _; refine ⟨decide_eq_true ?_, ?_⟩ <;> omega) | (intro _; refine ⟨?_, ?_⟩ <;> first | omega | (simp [appG, Cd.holds]; done) | (simp [appG, Cd.holds]; omega)) | (refine decide_eq_true ?_; omega) | (intro _; omega) | (simp only [hm16, Int.toNat_natCast]; omega) | (simp only [hm16, Int.toNat_natCast]; intro _; refine ⟨?_, ?_⟩ <;> first | omega | (refine decide_eq_true ?_; omega)) | exact ⟨U_nonneg _, U_lt32 _⟩ | exact R8_UL _ _ | exact R32_UL _ _ | (intro hg0; (repeat ((conv => whnf); (with_reducible refine And.intro ?_ ?_); · first | with_reducible assumption | omega | (intro _; refine ⟨?_, ?_⟩ <;> first | with_reducible assumption | omega | exact True.intro | (refine decide_eq_true ?_; omega) | (simp [appG, Cd.holds]; omega)) | (intro _; refine ⟨And.intro ?_ ?_, ?_⟩ <;> first | with_reducible assumption | omega | (refine decide_eq_true ?_; omega)) | (simp only [hg0, Bool.and_self, Bool.true_and]; done) | (intro hg1; simp only [hg0, hg1, Bool.and_self, Bool.true_and]; done) | (simp [hg0]; done))); (conv => whnf); exact True.intro))
    conv => whnf
    simp only [hm16, Int.toNat_natCast]
    have hT8 : R8 (fun j => c (Int.toNat 0 + j)) (Int.toNat ((m - 16 : Nat) : Int) - Int.toNat 0) := fun j hj => hc (0 + j) (by have : j < m - 16 - 0 := hj; omega)
    have eT : L8 (fun j => c (Int.toNat 0 + j)) (Int.toNat ((m - 16 : Nat) : Int) - Int.toNat 0) = (L8 c m).take (m - 16) := by
      rw [← L8_take c m (m - 16) (by omega)]
      show L8 (fun j => c (0 + j)) (m - 16) = _
      exact L8_congr fun j _ => by rw [Nat.zero_add]
    have hD8 : R8 (fun j => c (Int.toNat ((m - 16 : Nat) : Int) + j)) (m - Int.toNat ((m - 16 : Nat) : Int)) := fun j hj => hc (m - 16 + j) (by have : j < m - (m - 16) := hj; omega)
    have eD : L8 (fun j => c (Int.toNat ((m - 16 : Nat) : Int) + j)) (m - Int.toNat ((m - 16 : Nat) : Int)) = (L8 c m).drop (m - 16) := L8_drop c m (m - 16)
    obtain ⟨S, hS⟩ : ∃ S, S = aeMark (L8 k 32) (L8 n 12) (L8 a l) ((L8 c m).take (m - 16)) := ⟨_, rfl⟩
    have hSl : S.length = 16 := by rw [hS, aeMark_length]
    have eS : L8 (fun j => UL S (Int.toNat 0 + j)) (16 - Int.toNat 0) = S := by
      rw [show (fun j => UL S (Int.toNat 0 + j)) = UL S from funext fun j => by show UL S (0 + j) = _; rw [Nat.zero_add]]
      exact L8_UL' hSl.symm
    rw [← hS] at his
    refine ⟨[(0, ⟨0, some 17, []⟩), (1, ⟨0, some 18, []⟩), (2, ⟨0, some 19, []⟩), (3, ⟨0, some 20, []⟩), (4, ⟨0, some 21, []⟩), (5, ⟨24, some 22, []⟩), (6, ⟨63, some 23, []⟩), (7, ⟨0, some 11, [114]⟩), (8, ⟨255, none, [114]⟩)], 146, ?_⟩
    repeat ((conv => whnf); (with_reducible refine And.intro ?_ ?_); · first | exact True.intro | (intro hg0; simp only [hg0, Bool.not_false, Bool.not_true]; done) | with_reducible assumption | omega | (intro _; refine ⟨True.intro, ?_⟩; omega) | (intro _; refine ⟨?_, True.intro⟩; omega) | (intro _; refine ⟨decide_eq_true ?_, ?_⟩ <;> omega) | (intro _; refine ⟨?_, ?_⟩ <;> first | omega | (simp [appG, Cd.holds]; done) | (simp [appG, Cd.holds]; omega)) | (refine decide_eq_true ?_; omega) | (intro _; omega) | (simp only [w_i64, w_u64, w_u32, w_u8]; omega) | exact ⟨U_nonneg _, U_lt32 _⟩ | exact R8_UL _ _ | exact R32_UL _ _ | (intro hg0; (repeat ((conv => whnf); (with_reducible refine And.intro ?_ ?_); · first | with_reducible assumption | omega | (intro _; refine ⟨?_, ?_⟩ <;> first | with_reducible assumption | omega | exact True.intro | (refine decide_eq_true ?_; omega) | (simp [appG, Cd.holds]; omega)) | (intro _; refine ⟨And.intro ?_ ?_, ?_⟩ <;> first | with_reducible assumption | omega | (refine decide_eq_true ?_; omega)) | (simp only [hg0, Bool.and_self, Bool.true_and]; done) | (intro hg1; simp only [hg0, hg1, Bool.and_self, Bool.true_and]; done) | (simp [hg0]; done) | exact hT8)); (conv => whnf); exact True.intro) | exact hT8)
    conv => whnf
    simp only [eT, ← hS]
    refine ⟨[(0, ⟨0, some 24, []⟩), (1, ⟨0, some 25, []⟩), (2, ⟨0, some 26, []⟩), (3, ⟨6, some 27, []⟩), (4, ⟨15, some 28, []⟩), (5, ⟨31, some 29, []⟩)], 242, ?_⟩
    repeat ((conv => whnf); (with_reducible refine And.intro ?_ ?_); · first | exact True.intro | (intro hg0; simp only [hg0, Bool.not_false, Bool.not_true]; done) | with_reducible assumption | omega | (intro _; refine ⟨True.intro, ?_⟩; omega) | (intro _; refine ⟨?_, True.intro⟩; omega) | (intro _; refine ⟨decide_eq_true ?_, ?_⟩ <;> omega) | (intro _; refine ⟨?_, ?_⟩ <;> first | omega | (simp [appG, Cd.holds]; done) | (simp [appG, Cd.holds]; omega)) | (refine decide_eq_true ?_; omega) | (intro _; omega) | (simp only [w_i64, w_u64, w_u32, w_u8]; omega) | exact ⟨U_nonneg _, U_lt32 _⟩ | exact R8_UL _ _ | exact R32_UL _ _ | (intro hg0; (repeat ((conv => whnf); (with_reducible refine And.intro ?_ ?_); · first | with_reducible assumption | omega | (intro _; refine ⟨?_, ?_⟩ <;> first | with_reducible assumption | omega | exact True.intro | (refine decide_eq_true ?_; omega) | (simp [appG, Cd.holds]; omega)) | (intro _; refine ⟨And.intro ?_ ?_, ?_⟩ <;> first | with_reducible assumption | omega | (refine decide_eq_true ?_; omega)) | (simp only [hg0, Bool.and_self, Bool.true_and]; done) | (intro hg1; simp only [hg0, hg1, Bool.and_self, Bool.true_and]; done) | (simp [hg0]; done) | exact hD8 | exact fun j hj => ⟨U_nonneg _, U_lt8 _⟩)); (conv => whnf); exact True.intro) | exact hD8 | exact fun j hj => ⟨U_nonneg _, U_lt8 _⟩)
    conv => whnf
    simp only [eS, eD]
    refine ⟨fun h2 => ?_, fun h2 => ?_⟩
    · have hBf : B = false := by
        rw [his]
        refine decide_eq_false fun h => ?_
        rw [Bool.not_eq_true', decide_eq_false_iff_not] at h2
        exact h2 h.2
      rw [hBf] at ho ⊢
      rw [if_neg (by decide)] at ho
      subst ho
      repeat ((conv => whnf); (with_reducible refine And.intro ?_ ?_); · first | exact True.intro | (intro hg0; simp only [hg0, Bool.not_false, Bool.not_true]; done) | with_reducible assumption | omega | (intro _; refine ⟨True.intro, ?_⟩; omega) | (intro _; refine ⟨?_, True.intro⟩; omega) | (intro _; refine ⟨decide_eq_true ?_, ?_⟩ <;> omega) | (intro _; refine ⟨?_, ?_⟩ <;> first | omega | (simp [appG, Cd.holds]; done) | (simp [appG, Cd.holds]; omega)) | (refine decide_eq_true ?_; omega) | (intro _; omega) | (simp only [w_i64, w_u64, w_u32, w_u8]; omega) | exact ⟨U_nonneg _, U_lt32 _⟩ | exact R8_UL _ _ | exact R32_UL _ _ | (intro hg0; (repeat ((conv => whnf); (with_reducible refine And.intro ?_ ?_); · first | with_reducible assumption | omega | (intro _; refine ⟨?_, ?_⟩ <;> first | with_reducible assumption | omega | exact True.intro | (refine decide_eq_true ?_; omega) | (simp [appG, Cd.holds]; omega)) | (intro _; refine ⟨And.intro ?_ ?_, ?_⟩ <;> first | with_reducible assumption | omega | (refine decide_eq_true ?_; omega)) | (simp only [hg0, Bool.and_self, Bool.true_and]; done) | (intro hg1; simp only [hg0, hg1, Bool.and_self, Bool.true_and]; done) | (simp [hg0]; done))); (conv => whnf); exact True.intro))
      conv => whnf
      refine ⟨[], ?_⟩
      repeat ((conv => whnf); (with_reducible refine And.intro ?_ ?_); · first | with_reducible rfl | exact (Bool.and_false _).symm | (intro _ _; with_reducible rfl) | exact True.intro | assumption | (intro h; exact absurd h (by decide)) | omega | (intro _; omega) | (intro _; refine ⟨?_, True.intro⟩; omega) | (intro _; refine ⟨?_, True.intro⟩; intro _; omega) | (refine decide_eq_false ?_; omega) | (refine decide_eq_true ?_; omega) | (simp only [w_i64, w_u64, w_u32, w_u8]; omega) | exact fun j hj => (put_0 hj).symm | (intro j _; simp only [Nat.zero_add]; done) | (simp [appG]; done) | (simp [appG]; omega) | (intro hgd; (try replace hgd := of_decide_eq_true hgd); (repeat ((conv => whnf); (with_reducible refine And.intro ?_ ?_); · first | with_reducible rfl | exact (Bool.and_false _).symm | (intro _ _; with_reducible rfl) | exact True.intro | assumption | (intro h; exact absurd h (by decide)) | omega | (intro _; omega) | (intro _; refine ⟨?_, True.intro⟩; omega) | (intro _; refine ⟨?_, True.intro⟩; intro _; omega) | (refine decide_eq_false ?_; omega) | (refine decide_eq_true ?_; omega) | (simp only [w_i64, w_u64, w_u32, w_u8]; omega) | exact fun j hj => (put_0 hj).symm | (intro j _; simp only [Nat.zero_add]; done) | (simp [appG]; done) | (simp [appG]; omega))); (conv => whnf); exact True.intro))
      conv => whnf
      exact True.intro
    · have hBt : B = true := by
        rw [his]
        refine decide_eq_true ⟨h16, ?_⟩
        rw [Bool.not_eq_false', decide_eq_true_iff] at h2
        exact h2
      rw [hBt] at ho ⊢
      rw [if_pos rfl] at ho
      have hOl : O.length = m - 16 := by rw [ho, chXor_length, List.length_take, hCl, Nat.min_eq_left (by omega)]
      repeat ((conv => whnf); (with_reducible refine And.intro ?_ ?_); · first | exact True.intro | (intro hg0; simp only [hg0, Bool.not_false, Bool.not_true]; done) | with_reducible assumption | omega | (intro _; refine ⟨True.intro, ?_⟩; omega) | (intro _; refine ⟨?_, True.intro⟩; omega) | (intro _; refine ⟨decide_eq_true ?_, ?_⟩ <;> omega) | (intro _; refine ⟨?_, ?_⟩ <;> first | omega | (simp [appG, Cd.holds]; done) | (simp [appG, Cd.holds]; omega)) | (refine decide_eq_true ?_; omega) | (intro _; omega) | (simp only [w_i64, w_u64, w_u32, w_u8]; omega) | exact ⟨U_nonneg _, U_lt32 _⟩ | exact R8_UL _ _ | exact R32_UL _ _ | (intro hg0; (repeat ((conv => whnf); (with_reducible refine And.intro ?_ ?_); · first | with_reducible assumption | omega | (intro _; refine ⟨?_, ?_⟩ <;> first | with_reducible assumption | omega | exact True.intro | (refine decide_eq_true ?_; omega) | (simp [appG, Cd.holds]; omega)) | (intro _; refine ⟨And.intro ?_ ?_, ?_⟩ <;> first | with_reducible assumption | omega | (refine decide_eq_true ?_; omega)) | (simp only [hg0, Bool.and_self, Bool.true_and]; done) | (intro hg1; simp only [hg0, hg1, Bool.and_self, Bool.true_and]; done) | (simp [hg0]; done))); (conv => whnf); exact True.intro))
      conv => whnf
      refine ⟨[(0, ⟨0, some 30, []⟩), (1, ⟨0, some 31, []⟩), (2, ⟨0, some 32, []⟩), (3, ⟨0, some 33, []⟩), (4, ⟨12, some 34, []⟩), (5, ⟨31, some 35, [322]⟩), (6, ⟨63, some 8, []⟩), (7, ⟨127, some 9, []⟩)], 370, ?_⟩
      repeat ((conv => whnf); (with_reducible refine And.intro ?_ ?_); · first | exact True.intro | (intro hg0; simp only [hg0, Bool.not_false, Bool.not_true]; done) | with_reducible assumption | omega | (intro _; refine ⟨True.intro, ?_⟩; omega) | (intro _; refine ⟨?_, True.intro⟩; omega) | (intro _; refine ⟨decide_eq_true ?_, ?_⟩ <;> omega) | (intro _; refine ⟨?_, ?_⟩ <;> first | omega | (simp [appG, Cd.holds]; done) | (simp [appG, Cd.holds]; omega)) | (refine decide_eq_true ?_; omega) | (intro _; omega) | (simp only [w_i64, w_u64, w_u32, w_u8]; omega) | exact ⟨U_nonneg _, U_lt32 _⟩ | exact R8_UL _ _ | exact R32_UL _ _ | (intro hg0; (repeat ((conv => whnf); (with_reducible refine And.intro ?_ ?_); · first | with_reducible assumption | omega | (intro _; refine ⟨?_, ?_⟩ <;> first | with_reducible assumption | omega | exact True.intro | (refine decide_eq_true ?_; omega) | (simp [appG, Cd.holds]; omega)) | (intro _; refine ⟨And.intro ?_ ?_, ?_⟩ <;> first | with_reducible assumption | omega | (refine decide_eq_true ?_; omega)) | (simp only [hg0, Bool.and_self, Bool.true_and]; done) | (intro hg1; simp only [hg0, hg1, Bool.and_self, Bool.true_and]; done) | (simp [hg0]; done) | exact hT8 | exact u1)); (conv => whnf); exact True.intro) | exact hT8 | exact u1)
      conv => whnf
      simp only [eT]
      refine ⟨[(0, 322)], ?_⟩
      have ho2 : chXor (L8 k 32) (BitVec.ofInt 32 1) (L8 n 12) (List.take (m - 16) (L8 c m)) = O := by rw [ho]; rfl
      simp only [ho2, hOl]
      repeat ((conv => whnf); (with_reducible refine And.intro ?_ ?_); · first | with_reducible rfl | exact (Bool.and_false _).symm | (intro _ _; with_reducible rfl) | exact True.intro | assumption | (intro h; exact absurd h (by decide)) | omega | (intro _; omega) | (intro _; refine ⟨?_, True.intro⟩; omega) | (intro _; refine ⟨?_, True.intro⟩; intro _; omega) | (refine decide_eq_false ?_; omega) | (refine decide_eq_true ?_; omega) | (simp only [w_i64, w_u64, w_u32, w_u8]; omega) | exact fun j hj => (put_0 hj).symm | (intro j _; simp only [Nat.zero_add]; done) | (simp [appG]; done) | (simp [appG]; omega) | (intro hgd; (try replace hgd := of_decide_eq_true hgd); (repeat ((conv => whnf); (with_reducible refine And.intro ?_ ?_); · first | with_reducible rfl | exact (Bool.and_false _).symm | (intro _ _; with_reducible rfl) | exact True.intro | assumption | (intro h; exact absurd h (by decide)) | omega | (intro _; omega) | (intro _; refine ⟨?_, True.intro⟩; omega) | (intro _; refine ⟨?_, True.intro⟩; intro _; omega) | (refine decide_eq_false ?_; omega) | (refine decide_eq_true ?_; omega) | (simp only [w_i64, w_u64, w_u32, w_u8]; omega) | exact fun j hj => (put_0 hj).symm | (intro j _; simp only [Nat.zero_add]; done) | (simp [appG]; done) | (simp [appG]; omega))); (conv => whnf); exact True.intro))
      conv => whnf
      exact True.intro
end Go.Proofs.Ytogijkmflhjhkaa

/- Functions through the evaluator: what each law of mac begins with. No condition. -/
namespace Go.Proofs.Ytogijkmflhjhkaa
open Go.Sx Go.RowKit
set_option linter.unusedSimpArgs false
set_option maxRecDepth 100000
set_option linter.unusedVariables false

theorem cok17 : COk Try.prog (tab [(37, sumVS), (38, hmacS), (40, expandS), (41, sameS)]) := cok_cons sumVS_ok (cok_cons hmacS_ok (cok_cons expandS_ok (cok_cons sameS_ok cok_nil)))
def yesS : Summary := mkS false [] fun
  | [] => some ⟨.tt, some (.sa (.sc (.bool true))), [], 0⟩
  | _ => none
theorem yesS30_ok : SumOk Try.prog 30 yesS := by
  unfold yesS
  apply sum_ok
  intro vs A H n o r hb h
  split at h
  rotate_left
  · cases h
  injection h with h
  subst h
  cases hb
  refine fsound_of_run tt_ok cok17 mixed_ok Try.call30 Try.func30 rfl (rs := _) Try.results30 (size := 60) Try.ntmps30 (Nat.le_of_ble_eq_true rfl) rfl fun hp hfa hfh => ?_
  iterate 15 ((conv => whnf); (with_reducible refine And.intro ?_ ?_); · first | decide +kernel | (intro _; exact True.intro) | (intro _; refine ⟨True.intro, ?_⟩; omega) | (unfold R8; decide +kernel))
  generalize hA : sha (cat (fun _ => ⟨false, fun j => listI [99, 98, 97].reverse (0 + 0 + j), 3⟩) 1) = A
  generalize hB : hmac _ _ = B
  have a0 : UL A (Int.toNat 0) = 186 := by rw [← hA]; decide +kernel
  have a1 : UL A (Int.toNat 1) = 120 := by rw [← hA]; decide +kernel
  have a2 : UL A (Int.toNat 31) = 173 := by rw [← hA]; decide +kernel
  have b0 : UL B (Int.toNat 0) = 91 := by rw [← hB]; decide +kernel
  have b1 : UL B (Int.toNat 1) = 220 := by rw [← hB]; decide +kernel
  have b2 : UL B (Int.toNat 31) = 67 := by rw [← hB]; decide +kernel
  clear hA hB
  repeat ((conv => whnf); (with_reducible refine And.intro ?_ ?_); · first | exact True.intro | with_reducible assumption | omega | (intro _; refine ⟨True.intro, ?_⟩; omega) | (intro _; refine ⟨?_, True.intro⟩; omega) | (intro _; omega) | (refine decide_eq_true ?_; omega) | (intro _; refine ⟨decide_eq_true ?_, ?_⟩ <;> omega) | (simp only [w_i64, w_u64, w_u32, w_u8]; omega) | exact R8_UL _ _ | (intro hg0; (repeat ((conv => whnf); (with_reducible refine And.intro ?_ ?_); · first | assumption | omega | (intro _; refine ⟨?_, ?_⟩ <;> first | assumption | omega) | (simp only [hg0, Bool.and_self, Bool.true_and]; done) | exact fun j _ => ⟨U_nonneg _, U_lt8 _⟩ | (unfold R8; decide +kernel) | decide +kernel)); (conv => whnf); exact True.intro) | exact fun j _ => ⟨U_nonneg _, U_lt8 _⟩ | (unfold R8; decide +kernel) | decide +kernel)
  conv => whnf
  refine ⟨[], ?_⟩
  repeat ((conv => whnf); (with_reducible refine And.intro ?_ ?_); · first | with_reducible rfl | exact (Bool.and_false _).symm | (intro _ _; with_reducible rfl) | exact True.intro | assumption | (intro h; exact absurd h (by decide)) | omega | (intro _; omega) | (intro _; refine ⟨?_, True.intro⟩; omega) | (intro _; refine ⟨?_, True.intro⟩; intro _; omega) | (refine decide_eq_false ?_; omega) | (refine decide_eq_true ?_; omega) | (simp only [w_i64, w_u64, w_u32, w_u8]; omega) | exact fun j hj => (put_0 hj).symm | (intro j _; simp only [Nat.zero_add]; done) | (simp [appG]; done) | (simp [appG]; omega) | (simp only [a0, a1, a2, b0, b1, b2]; decide +kernel) | (intro hgd; (try replace hgd := of_decide_eq_true hgd); (repeat ((conv => whnf); (with_reducible refine And.intro ?_ ?_); · first | with_reducible rfl | exact (Bool.and_false _).symm | (intro _ _; with_reducible rfl) | exact True.intro | assumption | (intro h; exact absurd h (by decide)) | omega | (intro _; omega) | (intro _; refine ⟨?_, True.intro⟩; omega) | (intro _; refine ⟨?_, True.intro⟩; intro _; omega) | (refine decide_eq_false ?_; omega) | (refine decide_eq_true ?_; omega) | (simp only [w_i64, w_u64, w_u32, w_u8]; omega) | exact fun j hj => (put_0 hj).symm | (intro j _; simp only [Nat.zero_add]; done) | (simp [appG]; done) | (simp [appG]; omega) | (simp only [a0, a1, a2, b0, b1, b2]; decide +kernel))); (conv => whnf); exact True.intro))
  conv => whnf
  exact True.intro
theorem cok17b : COk Try.prog (tab [(30, yesS)]) := cok_cons yesS30_ok cok_nil
theorem yesS70_ok : SumOk Try.prog 70 yesS := by
  unfold yesS
  apply sum_ok
  intro vs A H n o r hb h
  split at h
  rotate_left
  · cases h
  injection h with h
  subst h
  cases hb
  refine fsound_of_run tt_ok cok17b mixed_ok Try.call70 Try.func70 rfl (rs := _) Try.results70 (size := 2) Try.ntmps70 (Nat.le_of_ble_eq_true rfl) rfl fun hp hfa hfh => ?_
  repeat ((conv => whnf); (with_reducible refine And.intro ?_ ?_); · first | exact True.intro | with_reducible assumption | omega | (intro _; refine ⟨True.intro, ?_⟩; omega) | (intro _; refine ⟨?_, True.intro⟩; omega) | (intro _; omega) | (refine decide_eq_true ?_; omega) | (intro _; refine ⟨decide_eq_true ?_, ?_⟩ <;> omega) | (simp only [w_i64, w_u64, w_u32, w_u8]; omega) | exact R8_UL _ _ | (intro hg0; (repeat ((conv => whnf); (with_reducible refine And.intro ?_ ?_); · first | assumption | omega | (intro _; refine ⟨?_, ?_⟩ <;> first | assumption | omega) | (simp only [hg0, Bool.and_self, Bool.true_and]; done))); (conv => whnf); exact True.intro))
  conv => whnf
  refine ⟨[], ?_⟩
  repeat ((conv => whnf); (with_reducible refine And.intro ?_ ?_); · first | with_reducible rfl | exact (Bool.and_false _).symm | (intro _ _; with_reducible rfl) | exact True.intro | assumption | (intro h; exact absurd h (by decide)) | omega | (intro _; omega) | (intro _; refine ⟨?_, True.intro⟩; omega) | (intro _; refine ⟨?_, True.intro⟩; intro _; omega) | (refine decide_eq_false ?_; omega) | (refine decide_eq_true ?_; omega) | (simp only [w_i64, w_u64, w_u32, w_u8]; omega) | exact fun j hj => (put_0 hj).symm | (intro j _; simp only [Nat.zero_add]; done) | (simp [appG]; done) | (simp [appG]; omega) | (intro hgd; (try replace hgd := of_decide_eq_true hgd); (repeat ((conv => whnf); (with_reducible refine And.intro ?_ ?_); · first | with_reducible rfl | exact (Bool.and_false _).symm | (intro _ _; with_reducible rfl) | exact True.intro | assumption | (intro h; exact absurd h (by decide)) | omega | (intro _; omega) | (intro _; refine ⟨?_, True.intro⟩; omega) | (intro _; refine ⟨?_, True.intro⟩; intro _; omega) | (refine decide_eq_false ?_; omega) | (refine decide_eq_true ?_; omega) | (simp only [w_i64, w_u64, w_u32, w_u8]; omega) | exact fun j hj => (put_0 hj).symm | (intro j _; simp only [Nat.zero_add]; done) | (simp [appG]; done) | (simp [appG]; omega))); (conv => whnf); exact True.intro))
  conv => whnf
  exact True.intro
end Go.Proofs.Ytogijkmflhjhkaa

/- Strings as lists of bytes. Plain lemmas, no condition. -/
namespace Go.Proofs.Ytogijkmflhjhkaa
open Go.Sx Go.RowKit
set_option linter.unusedSimpArgs false
set_option linter.unusedVariables false

/-- The string of bytes; a string's bytes. -/
def sb (l : List (BitVec 8)) : ByteArray := ⟨(l.map UInt8.ofBitVec).toArray⟩
def ls (s : ByteArray) : List (BitVec 8) := s.data.toList.map UInt8.toBitVec
theorem sb_ls (s : ByteArray) : sb (ls s) = s := by
  cases s with
  | mk d =>
    unfold sb ls
    simp only [List.map_map]
    congr 1
    rw [show (UInt8.ofBitVec ∘ UInt8.toBitVec) = id from rfl, List.map_id]
theorem ls_sb (l : List (BitVec 8)) : ls (sb l) = l := by
  unfold sb ls
  simp only [List.map_map]
  rw [show (UInt8.toBitVec ∘ UInt8.ofBitVec) = id from rfl, List.map_id]
theorem ls_length (s : ByteArray) : (ls s).length = s.size := by unfold ls; rw [List.length_map]; exact Array.length_toList
theorem sb_size (l : List (BitVec 8)) : (sb l).size = l.length := by rw [← ls_length, ls_sb]
theorem sb_inj {a b : List (BitVec 8)} (h : sb a = sb b) : a = b := by rw [← ls_sb a, h, ls_sb]
theorem byteArray_ext {a b : ByteArray} (h : a.data.toList = b.data.toList) : a = b := by
  cases a; cases b; simp only at h; congr 1; exact Array.toList_inj.1 h
theorem ls_append (a b : ByteArray) : ls (a ++ b) = ls a ++ ls b := by
  unfold ls
  rw [ByteArray.data_append]
  simp
theorem sb_append (a b : List (BitVec 8)) : sb a ++ sb b = sb (a ++ b) := by
  rw [← sb_ls (sb a ++ sb b), ls_append, ls_sb, ls_sb]
theorem ls_extract (s : ByteArray) (a b : Nat) : ls (s.extract a b) = ((ls s).drop a).take (b - a) := by
  unfold ls
  rw [ByteArray.data_extract]
  simp [List.map_drop, List.map_take, List.extract_eq_take_drop]
theorem sb_extract (l : List (BitVec 8)) (a b : Nat) : (sb l).extract a b = sb ((l.drop a).take (b - a)) := by
  rw [← sb_ls ((sb l).extract a b), ls_extract, ls_sb]
theorem bytesI_ls (s : ByteArray) (j : Nat) : bytesI s j = UL (ls s) j := by
  unfold bytesI UL ls U
  by_cases h : j < s.data.size
  · simp [Array.getD_eq_getD_getElem?, List.getD_eq_getElem?_getD, h]
  · simp [Array.getD_eq_getD_getElem?, List.getD_eq_getElem?_getD, h]
theorem bytesI_sb (l : List (BitVec 8)) (j : Nat) : bytesI (sb l) j = UL l j := by rw [bytesI_ls, ls_sb]
theorem strI_sb {g : Nat → Int} {n : Nat} (h : R8 g n) : strI g n = sb (L8 g n) := by
  apply byteArray_ext
  unfold strI sb L8
  simp only [List.map_map]
  apply List.map_congr_left
  intro j hj
  have hj : j < n := by simpa using hj
  apply UInt8.toBitVec_inj.1
  show BitVec.ofNat 8 (g j).toNat = BitVec.ofInt 8 (g j)
  have := h j hj
  apply BitVec.eq_of_toNat_eq
  rw [BitVec.toNat_ofNat, BitVec.toNat_ofInt]
  have e1 : (2 : Nat) ^ 8 = 256 := rfl
  rw [e1]
  omega
theorem toList_loop (s : ByteArray) : ∀ (k i : Nat) (r : List UInt8), s.size - i = k → ByteArray.toList.loop s i r = r.reverse ++ s.data.toList.drop i := by
  intro k
  induction k with
  | zero =>
    intro i r h
    unfold ByteArray.toList.loop
    rw [if_neg (by omega), List.drop_eq_nil_of_le (by have e0 : s.size = s.data.size := rfl; rw [Array.length_toList]; omega)]
    simp
  | succ k ih =>
    intro i r h
    have hi : i < s.data.size := by have : s.size = s.data.size := rfl; omega
    unfold ByteArray.toList.loop
    rw [if_pos (by have : s.size = s.data.size := rfl; omega), ih (i + 1) _ (by omega)]
    have e : s.data.toList.drop i = s.data.toList[i]'(by simpa using hi) :: s.data.toList.drop (i + 1) := by
      rw [List.getElem_cons_drop]
    rw [e, List.reverse_cons, List.append_assoc, List.singleton_append]
    congr 2
    show s.data[i]! = _
    rw [getElem!_pos s.data i hi, Array.getElem_toList]
theorem toList_data (s : ByteArray) : s.toList = s.data.toList := by
  unfold ByteArray.toList
  rw [toList_loop s s.size 0 [] (by omega)]
  simp
theorem eq_sb (a b : List (BitVec 8)) : ((sb a).toList == (sb b).toList) = decide (a = b) := by
  rw [toList_data, toList_data]
  by_cases h : a = b
  · subst h; simp
  · rw [decide_eq_false h, beq_eq_false_iff_ne]
    intro e
    exact h (sb_inj (byteArray_ext e))
end Go.Proofs.Ytogijkmflhjhkaa

/- The symbolic evaluator: a condition, part by part. Plain lemmas, no condition. -/
namespace Go.Sx
theorem Cd.holds_tt : Cd.tt.holds := True.intro
theorem Cd.holds_p {P : Prop} (h : P) : (Cd.p P).holds := h
theorem Cd.holds_and {a b : Cd} (h : a.holds) (k : b.holds) : (Cd.and a b).holds := ⟨h, k⟩
theorem Cd.holds_imp {g : Bool} {c : Cd} (h : g = true → c.holds) : (Cd.imp g c).holds := h
end Go.Sx

/- Functions through the evaluator: keys and nonces of bytes; what each law of chacha, poly, aead begins with. No condition. -/
namespace Go.Proofs.Ytogijkmflhjhkaa
open Go.Sx Go.RowKit
set_option maxRecDepth 100000
set_option maxHeartbeats 2000000
set_option linter.unusedVariables false
set_option linter.unusedSimpArgs false

/-- So many bytes of a list, noughts behind. -/
def kpad (m : Nat) (l : List B8) : List B8 := (l ++ List.replicate m 0).take m
theorem kpad_length (m : Nat) (l : List B8) : (kpad m l).length = m := by simp [kpad]
theorem kpad_at {m n : Nat} {g : Nat → Int} (hg : R8 g n) {f : Nat → Int} (hf : ∀ j, j < m → f j = if j < n then g j else 0) (j : Nat) (hj : j < m) : UL (kpad m (L8 g n)) j = f j := by
  rw [hf j hj, UL_getD, kpad, getD_take _ _ _ _ hj, List.getD_eq_getElem?_getD]
  by_cases h : j < n
  · rw [if_pos h, List.getElem?_append_left (by rw [L8_length]; exact h), ← List.getD_eq_getElem?_getD, ← UL_getD, UL_L8 hg j h]
  · rw [if_neg h, List.getElem?_append_right (by rw [L8_length]; omega), L8_length]
    simp [show j - n < m by omega, U]
theorem put_if {g : Nat → Int} {n m : Nat} (j : Nat) (hj : j < m) : put_ (fun _ => 0) (Int.toNat 0) (min n (m - Int.toNat 0)) g j = if j < n then g j else 0 := by
  unfold put_
  have e : Int.toNat 0 = 0 := rfl
  rw [e, Nat.sub_zero, Nat.sub_zero, Nat.zero_add]
  by_cases h : j < n
  · rw [if_pos h, if_pos (by omega)]
  · rw [if_neg h, if_neg (by omega)]
/-- indenturelaw4.Key. -/
def keyS : Summary := mkS false [.r .u8] fun
  | [.r nl g n] => some ⟨.p (R8 g n), some (.sa (.agg [.ints .u8 (UL (kpad 32 (L8 g n))) 32])), [], 0⟩
  | _ => none
theorem keyS_ok : SumOk Try.prog 53 keyS := by
  unfold keyS
  apply sum_ok
  intro vs A H n o r hb h
  split at h
  rotate_left
  · cases h
  rename_i nl g n
  injection h with h
  subst h
  cases hb
  refine fsound_of_run tt_ok cok_nil mixed_ok Try.call53 Try.func53 rfl (rs := _) Try.results53 (size := 8) Try.ntmps53 (Nat.le_of_ble_eq_true rfl) rfl fun hp hfa hfh => ?_
  have hg : R8 g n := hp
  repeat ((conv => whnf); (with_reducible refine And.intro ?_ ?_); · first | exact True.intro | with_reducible assumption | omega | (intro _; refine ⟨True.intro, ?_⟩; omega) | (intro _; refine ⟨?_, True.intro⟩; omega) | (intro _; omega) | (refine decide_eq_true ?_; omega) | (intro _; refine ⟨decide_eq_true ?_, ?_⟩ <;> omega) | (simp only [w_i64, w_u64, w_u32, w_u8]; omega) | exact R8_UL _ _ | (intro hg0; (repeat ((conv => whnf); (with_reducible refine And.intro ?_ ?_); · first | assumption | omega | (intro _; refine ⟨?_, ?_⟩ <;> first | assumption | omega) | (simp only [hg0, Bool.and_self, Bool.true_and]; done))); (conv => whnf); exact True.intro))
  conv => whnf
  refine ⟨[], ?_⟩
  repeat ((conv => whnf); (with_reducible refine And.intro ?_ ?_); · first | with_reducible rfl | exact (Bool.and_false _).symm | (intro _ _; with_reducible rfl) | exact True.intro | assumption | (intro h; exact absurd h (by decide)) | omega | (intro _; omega) | (intro _; refine ⟨?_, True.intro⟩; omega) | (intro _; refine ⟨?_, True.intro⟩; intro _; omega) | (refine decide_eq_false ?_; omega) | (refine decide_eq_true ?_; omega) | (simp only [w_i64, w_u64, w_u32, w_u8]; omega) | exact fun j hj => (put_0 hj).symm | (intro j _; simp only [Nat.zero_add]; done) | (simp [appG]; done) | (simp [appG]; omega) | exact kpad_at hg fun j hj => put_if j hj | (intro hgd; (try replace hgd := of_decide_eq_true hgd); (repeat ((conv => whnf); (with_reducible refine And.intro ?_ ?_); · first | with_reducible rfl | exact (Bool.and_false _).symm | (intro _ _; with_reducible rfl) | exact True.intro | assumption | (intro h; exact absurd h (by decide)) | omega | (intro _; omega) | (intro _; refine ⟨?_, True.intro⟩; omega) | (intro _; refine ⟨?_, True.intro⟩; intro _; omega) | (refine decide_eq_false ?_; omega) | (refine decide_eq_true ?_; omega) | (simp only [w_i64, w_u64, w_u32, w_u8]; omega) | exact fun j hj => (put_0 hj).symm | (intro j _; simp only [Nat.zero_add]; done) | (simp [appG]; done) | (simp [appG]; omega) | exact kpad_at hg fun j hj => put_if j hj)); (conv => whnf); exact True.intro))
  conv => whnf
  exact True.intro
/-- indenturelaw4.Nonce. -/
def nonceS : Summary := mkS false [.r .u8] fun
  | [.r nl g n] => some ⟨.p (R8 g n), some (.sa (.agg [.ints .u8 (UL (kpad 12 (L8 g n))) 12])), [], 0⟩
  | _ => none
theorem nonceS_ok : SumOk Try.prog 54 nonceS := by
  unfold nonceS
  apply sum_ok
  intro vs A H n o r hb h
  split at h
  rotate_left
  · cases h
  rename_i nl g n
  injection h with h
  subst h
  cases hb
  refine fsound_of_run tt_ok cok_nil mixed_ok Try.call54 Try.func54 rfl (rs := _) Try.results54 (size := 8) Try.ntmps54 (Nat.le_of_ble_eq_true rfl) rfl fun hp hfa hfh => ?_
  have hg : R8 g n := hp
  repeat ((conv => whnf); (with_reducible refine And.intro ?_ ?_); · first | exact True.intro | with_reducible assumption | omega | (intro _; refine ⟨True.intro, ?_⟩; omega) | (intro _; refine ⟨?_, True.intro⟩; omega) | (intro _; omega) | (refine decide_eq_true ?_; omega) | (intro _; refine ⟨decide_eq_true ?_, ?_⟩ <;> omega) | (simp only [w_i64, w_u64, w_u32, w_u8]; omega) | exact R8_UL _ _ | (intro hg0; (repeat ((conv => whnf); (with_reducible refine And.intro ?_ ?_); · first | assumption | omega | (intro _; refine ⟨?_, ?_⟩ <;> first | assumption | omega) | (simp only [hg0, Bool.and_self, Bool.true_and]; done))); (conv => whnf); exact True.intro))
  conv => whnf
  refine ⟨[], ?_⟩
  repeat ((conv => whnf); (with_reducible refine And.intro ?_ ?_); · first | with_reducible rfl | exact (Bool.and_false _).symm | (intro _ _; with_reducible rfl) | exact True.intro | assumption | (intro h; exact absurd h (by decide)) | omega | (intro _; omega) | (intro _; refine ⟨?_, True.intro⟩; omega) | (intro _; refine ⟨?_, True.intro⟩; intro _; omega) | (refine decide_eq_false ?_; omega) | (refine decide_eq_true ?_; omega) | (simp only [w_i64, w_u64, w_u32, w_u8]; omega) | exact fun j hj => (put_0 hj).symm | (intro j _; simp only [Nat.zero_add]; done) | (simp [appG]; done) | (simp [appG]; omega) | exact kpad_at hg fun j hj => put_if j hj | (intro hgd; (try replace hgd := of_decide_eq_true hgd); (repeat ((conv => whnf); (with_reducible refine And.intro ?_ ?_); · first | with_reducible rfl | exact (Bool.and_false _).symm | (intro _ _; with_reducible rfl) | exact True.intro | assumption | (intro h; exact absurd h (by decide)) | omega | (intro _; omega) | (intro _; refine ⟨?_, True.intro⟩; omega) | (intro _; refine ⟨?_, True.intro⟩; intro _; omega) | (refine decide_eq_false ?_; omega) | (refine decide_eq_true ?_; omega) | (simp only [w_i64, w_u64, w_u32, w_u8]; omega) | exact fun j hj => (put_0 hj).symm | (intro j _; simp only [Nat.zero_add]; done) | (simp [appG]; done) | (simp [appG]; omega) | exact kpad_at hg fun j hj => put_if j hj)); (conv => whnf); exact True.intro))
  conv => whnf
  exact True.intro

theorem R8_list {L : List Int} (h : L.all (fun x => decide (0 ≤ x ∧ x < 256)) = true) (a n : Nat) : R8 (fun j => listI L (a + j)) n := fun j _ => by
  show 0 ≤ L.getD (a + j) 0 ∧ L.getD (a + j) 0 < 256
  rw [List.getD_eq_getElem?_getD]
  cases e : L[a + j]? with
  | none => exact ⟨by decide, by decide⟩
  | some x =>
    have := List.all_eq_true.1 h x (List.mem_of_getElem? e)
    exact of_decide_eq_true this
theorem cokC : COk Try.prog (tab [(51, quarterS), (53, keyS), (54, nonceS), (59, tagS), (61, sealS), (62, openS), (70, yesS)]) :=
  cok_cons quarterS_ok (cok_cons keyS_ok (cok_cons nonceS_ok (cok_cons tagS_ok (cok_cons sealS_ok (cok_cons openS_ok (cok_cons yesS70_ok cok_nil))))))
theorem yesS50_ok : SumOk Try.prog 50 yesS := by
  unfold yesS
  apply sum_ok
  intro vs A H n o r hb h
  split at h
  rotate_left
  · cases h
  injection h with h
  subst h
  cases hb
  refine fsound_of_run tt_ok cokC mixed_ok Try.call50 Try.func50 rfl (rs := _) Try.results50 (size := 72) Try.ntmps50 (Nat.le_of_ble_eq_true rfl) rfl fun hp hfa hfh => ?_
  repeat ((conv => whnf); (with_reducible refine And.intro ?_ ?_); · first | exact True.intro | with_reducible rfl | (refine ⟨?_, ?_⟩ <;> decide))
  conv => whnf
  generalize hG : listI [27, 245, 73, 65, 175, 246, 191, 74, 253, 178, 13, 251, 138, 128, 3, 1, 168, 6, 213, 66, 254, 82, 68, 127, 51, 109, 85, 87, 120, 190, 214, 133].reverse = G
  have hG8 : R8 (fun j => G (0 + j)) 32 := by rw [← hG]; exact R8_list (by decide) 0 32
  repeat ((conv => whnf); (with_reducible refine And.intro ?_ ?_); · first | exact True.intro | with_reducible rfl | exact hG8 | (intro _; exact ⟨True.intro, by decide⟩) | exact fun j hj => ⟨U_nonneg _, U_lt8 _⟩ | decide)
  conv => whnf
  generalize hM : listI [112, 117, 111, 114, 71, 32, 104, 99, 114, 97, 101, 115, 101, 82, 32, 109, 117, 114, 111, 70, 32, 99, 105, 104, 112, 97, 114, 103, 111, 116, 112, 121, 114, 67].reverse = M
  have hM8 : R8 (fun j => M (0 + 0 + j)) 34 := by rw [← hM]; exact R8_list (by decide) (0 + 0) 34
  generalize hT : polyTag (L8 (UL (kpad 32 (L8 (fun j => G (0 + j)) 32))) 32) (L8 (fun j => M (0 + 0 + j)) 34) = T
  generalize hqa : U (q2a (BitVec.ofInt 32 286331153) (BitVec.ofInt 32 16909060) (BitVec.ofInt 32 2609737539) (BitVec.ofInt 32 19088743)) = va
  generalize hqd : U (q2d (BitVec.ofInt 32 286331153) (BitVec.ofInt 32 16909060) (BitVec.ofInt 32 2609737539) (BitVec.ofInt 32 19088743)) = vd
  refine ⟨hM8, ?_⟩
  repeat ((conv => whnf); (with_reducible refine And.intro ?_ ?_); · first | exact True.intro | with_reducible rfl | exact hG8 | exact hM8 | (intro _; exact ⟨True.intro, by decide⟩) | exact fun j hj => ⟨U_nonneg _, U_lt8 _⟩ | decide)
  conv => whnf
  refine ⟨fun j hj => absurd hj (Nat.not_lt_zero j), ?_⟩
  have hk8 : R8 (UL (kpad 32 (L8 (fun j => G (0 + j)) 32))) 32 := R8_UL _ _
  have hn8 : R8 (UL (kpad 12 (L8 (fun _ => 0) 0))) 12 := R8_UL _ _
  generalize hk : UL (kpad 32 (L8 (fun j => G (0 + j)) 32)) = kf at hk8 ⊢
  generalize hn : UL (kpad 12 (L8 (fun _ => 0) 0)) = nf at hn8 ⊢
  repeat (first | ((with_reducible refine (Cd.then_iff _ _).2 (And.intro ?_ ?_)); · repeat' ((conv => arg 1; whnf); first | exact Cd.holds_tt | (refine Cd.holds_p ?_; first | exact hk8 | exact hn8 | (refine R8_list ?_ _ _; decide) | (intro _; exact ⟨True.intro, by decide⟩) | exact fun j hj => ⟨U_nonneg _, U_lt8 _⟩ | exact fun j hj => absurd hj (Nat.not_lt_zero j) | exact True.intro | (intro hg0; simp only [hg0, Bool.not_false, Bool.not_true]; done) | with_reducible assumption | omega | (intro _; refine ⟨True.intro, ?_⟩; omega) | (intro _; refine ⟨?_, True.intro⟩; omega) | (intro _; refine ⟨decide_eq_true ?_, ?_⟩ <;> omega) | (intro _; refine ⟨?_, ?_⟩ <;> first | omega | (simp [appG, Cd.holds]; done) | (simp [appG, Cd.holds]; omega)) | (refine decide_eq_true ?_; omega) | (intro _; omega) | (simp only [w_i64, w_u64, w_u32, w_u8]; omega) | exact ⟨U_nonneg _, U_lt32 _⟩ | exact R8_UL _ _ | exact R32_UL _ _ | (intro hg0; (repeat ((conv => whnf); (with_reducible refine And.intro ?_ ?_); · first | with_reducible assumption | omega | (intro _; refine ⟨?_, ?_⟩ <;> first | with_reducible assumption | omega | exact True.intro | (refine decide_eq_true ?_; omega) | (simp [appG, Cd.holds]; omega)) | (intro _; refine ⟨And.intro ?_ ?_, ?_⟩ <;> first | with_reducible assumption | omega | (refine decide_eq_true ?_; omega)) | (simp only [hg0, Bool.and_self, Bool.true_and]; done) | (intro hg1; simp only [hg0, hg1, Bool.and_self, Bool.true_and]; done) | (simp [hg0]; done) | exact hk8 | exact hn8 | (refine R8_list ?_ _ _; decide) | (intro _; exact ⟨True.intro, by decide⟩) | exact fun j hj => ⟨U_nonneg _, U_lt8 _⟩ | exact fun j hj => absurd hj (Nat.not_lt_zero j))); (conv => whnf); exact True.intro)) | refine Cd.holds_and ?_ ?_ | (refine Cd.holds_imp fun hg0 => ?_))) | ((conv => whnf); (with_reducible refine And.intro ?_ ?_); · first | exact hk8 | exact hn8 | (refine R8_list ?_ _ _; decide) | (intro _; exact ⟨True.intro, by decide⟩) | exact fun j hj => ⟨U_nonneg _, U_lt8 _⟩ | exact fun j hj => absurd hj (Nat.not_lt_zero j) | exact True.intro | (intro hg0; simp only [hg0, Bool.not_false, Bool.not_true]; done) | with_reducible assumption | omega | (intro _; refine ⟨True.intro, ?_⟩; omega) | (intro _; refine ⟨?_, True.intro⟩; omega) | (intro _; refine ⟨decide_eq_true ?_, ?_⟩ <;> omega) | (intro _; refine ⟨?_, ?_⟩ <;> first | omega | (simp [appG, Cd.holds]; done) | (simp [appG, Cd.holds]; omega)) | (refine decide_eq_true ?_; omega) | (intro _; omega) | (simp only [w_i64, w_u64, w_u32, w_u8]; omega) | exact ⟨U_nonneg _, U_lt32 _⟩ | exact R8_UL _ _ | exact R32_UL _ _ | (intro hg0; (repeat ((conv => whnf); (with_reducible refine And.intro ?_ ?_); · first | with_reducible assumption | omega | (intro _; refine ⟨?_, ?_⟩ <;> first | with_reducible assumption | omega | exact True.intro | (refine decide_eq_true ?_; omega) | (simp [appG, Cd.holds]; omega)) | (intro _; refine ⟨And.intro ?_ ?_, ?_⟩ <;> first | with_reducible assumption | omega | (refine decide_eq_true ?_; omega)) | (simp only [hg0, Bool.and_self, Bool.true_and]; done) | (intro hg1; simp only [hg0, hg1, Bool.and_self, Bool.true_and]; done) | (simp [hg0]; done) | exact hk8 | exact hn8 | (refine R8_list ?_ _ _; decide) | (intro _; exact ⟨True.intro, by decide⟩) | exact fun j hj => ⟨U_nonneg _, U_lt8 _⟩ | exact fun j hj => absurd hj (Nat.not_lt_zero j))); (conv => whnf); exact True.intro)))
  conv => whnf
  obtain ⟨A, hA⟩ : ∃ A, A = L8 (fun j => listI [97].reverse (0 + 0 + j)) 1 := ⟨_, rfl⟩
  obtain ⟨P, hP⟩ : ∃ P, P = L8 (fun j => listI [99, 98].reverse (0 + 0 + j)) 2 := ⟨_, rfl⟩
  have hPl : P.length = 2 := by rw [hP, L8_length]
  have eS : L8 (fun j => UL (aeSeal (L8 kf 32) (L8 nf 12) A P) (0 + j)) (2 + 16) = aeSeal (L8 kf 32) (L8 nf 12) A P := by
    rw [show (fun j => UL (aeSeal (L8 kf 32) (L8 nf 12) A P) (0 + j)) = UL (aeSeal (L8 kf 32) (L8 nf 12) A P) from funext fun j => by rw [Nat.zero_add]]
    exact L8_UL' (by rw [aeSeal_length, hPl])
  have eP : (strI (fun j => UL P (0 + j)) P.length).toList == (ByteArray.mk #[98, 99]).toList := by
    rw [strI_sb (R8_z _ _), L8_z rfl, show (ByteArray.mk #[98, 99]) = sb [98, 99] from rfl, eq_sb]
    exact decide_eq_true (by rw [hP]; decide)
  have h1 : (va == 3928658676) = true := by rw [← hqa]; decide
  have h2 : (vd == 1484899515) = true := by rw [← hqd]; decide
  have hTT : T.getD 0 0 = 168 ∧ T.getD 15 0 = 169 := by rw [← hT, ← hG, ← hM, polyTag_eq]; decide +kernel
  have h3 : (UL T (Int.toNat 0) == 168) = true := by show (U (T.getD 0 0) == 168) = true; rw [hTT.1]; decide
  have h4 : (UL T (Int.toNat 15) == 169) = true := by show (U (T.getD 15 0) == 169) = true; rw [hTT.2]; decide
  have h5 : (((2 + 16 : Nat) : Int) == 18) = true := by decide
  refine ⟨[], ?_⟩
  simp only [hk, hn, ← hA, ← hP, eS, aeIs_seal, aeOut_seal, h1, h2, h3, h4, h5, eP, cond_true]
  repeat ((conv => whnf); (with_reducible refine And.intro ?_ ?_); · first | with_reducible rfl | exact (Bool.and_false _).symm | (intro _ _; with_reducible rfl) | exact True.intro | assumption | (intro h; exact absurd h (by decide)) | omega | (intro _; omega) | (intro _; refine ⟨?_, True.intro⟩; omega) | (intro _; refine ⟨?_, True.intro⟩; intro _; omega) | (refine decide_eq_false ?_; omega) | (refine decide_eq_true ?_; omega) | (simp only [w_i64, w_u64, w_u32, w_u8]; omega) | exact fun j hj => (put_0 hj).symm | (intro j _; simp only [Nat.zero_add]; done) | (simp [appG]; done) | (simp [appG]; omega) | (intro hgd; (try replace hgd := of_decide_eq_true hgd); (repeat ((conv => whnf); (with_reducible refine And.intro ?_ ?_); · first | with_reducible rfl | exact (Bool.and_false _).symm | (intro _ _; with_reducible rfl) | exact True.intro | assumption | (intro h; exact absurd h (by decide)) | omega | (intro _; omega) | (intro _; refine ⟨?_, True.intro⟩; omega) | (intro _; refine ⟨?_, True.intro⟩; intro _; omega) | (refine decide_eq_false ?_; omega) | (refine decide_eq_true ?_; omega) | (simp only [w_i64, w_u64, w_u32, w_u8]; omega) | exact fun j hj => (put_0 hj).symm | (intro j _; simp only [Nat.zero_add]; done) | (simp [appG]; done) | (simp [appG]; omega))); (conv => whnf); exact True.intro))
  conv => whnf
  exact True.intro
end Go.Proofs.Ytogijkmflhjhkaa

/- Numbers by digits of eight bits, as the document's Poly1305 reckons them. Plain definitions and lemmas: no program, no condition. -/
namespace Go.Proofs.Ytogijkmflhjhkaa
open Go.Sx Go.RowKit
set_option linter.unusedSimpArgs false
set_option linter.unusedVariables false
set_option maxRecDepth 100000

theorem vN_block (B c : Nat) (G : Nat → Nat) (i : Nat) : ∀ k n, i + k ≤ n → vN B (fun j => if i ≤ j ∧ j < i + k then c * G (j - i) else 0) n = c * vN B G k * B ^ i
  | 0, n, h => by
    rw [vN_zero fun j hj => if_neg (by omega)]
    simp [vN]
  | k + 1, n, h => by
    have ih := vN_block B c G i k n (by omega)
    have hu := vN_upd B (fun j => if i ≤ j ∧ j < i + k then c * G (j - i) else 0) (i + k) (c * G k) n (by omega)
    have hc : ∀ j, j < n → (if i ≤ j ∧ j < i + (k + 1) then c * G (j - i) else 0) = updN (fun j => if i ≤ j ∧ j < i + k then c * G (j - i) else 0) (i + k) (c * G k) j := fun j hj => by
      unfold updN
      by_cases e : j = i + k
      · rw [if_pos e, if_pos (by omega), e, Nat.add_sub_cancel_left]
      · rw [if_neg e]
        show _ = if i ≤ j ∧ j < i + k then c * G (j - i) else 0
        by_cases e2 : i ≤ j ∧ j < i + k
        · rw [if_pos e2, if_pos (by omega)]
        · rw [if_neg e2, if_neg (by omega)]
    rw [vN_congr hc]
    rw [ih] at hu
    simp only [show ¬ (i ≤ i + k ∧ i + k < i + k) from by omega, if_false, Nat.zero_mul, Nat.add_zero] at hu
    rw [hu, vN, Nat.mul_add, Nat.add_mul, Nat.pow_add, Nat.mul_comm (B ^ i), ← Nat.mul_assoc, ← Nat.mul_assoc]
theorem vN_split (B : Nat) (f : Nat → Nat) (i : Nat) : ∀ n, i ≤ n → ∃ q, vN B f n = vN B f i + q * B ^ i
  | 0, h => ⟨0, by rw [Nat.le_zero.1 h]; omega⟩
  | n + 1, h => by
    by_cases e : i = n + 1
    · exact ⟨0, by rw [e]; omega⟩
    · obtain ⟨q, hq⟩ := vN_split B f i n (by omega)
      refine ⟨q + f n * B ^ (n - i), ?_⟩
      rw [vN, hq, Nat.add_mul, Nat.mul_assoc, ← Nat.pow_add, show n - i + i = n by omega]
      omega
theorem vN_div {B : Nat} (hB : 0 < B) (f : Nat → Nat) (i : Nat) : vN B f (i + 1) / B ^ i = f i + vN B f i / B ^ i := by
  rw [vN, Nat.add_mul_div_right _ _ (Nat.pow_pos hB), Nat.add_comm]
theorem dg_car {B : Nat} (hB : 0 < B) (f : Nat → Nat) {i n : Nat} (h : i < n) : dg B (vN B f n) i = (f i + vN B f i / B ^ i) % B := by
  obtain ⟨q, hq⟩ := vN_split B f (i + 1) n h
  rw [dg, hq, Nat.pow_succ, Nat.mul_comm (B ^ i) B, ← Nat.mul_assoc, Nat.add_mul_div_right _ _ (Nat.pow_pos hB), Nat.add_mul_mod_self_right, vN_div hB]
theorem vN_le_mul {f : Nat → Nat} {M : Nat} : ∀ {i : Nat}, (∀ j, j < i → f j ≤ M) → vN 256 f i ≤ M * 256 ^ i
  | 0, _ => Nat.zero_le _
  | i + 1, h => by
    have h1 := vN_le_mul (i := i) fun j hj => h j (by omega)
    have h2 : f i * 256 ^ i ≤ M * 256 ^ i := Nat.mul_le_mul_right _ (h i (by omega))
    rw [vN, Nat.pow_succ, ← Nat.mul_assoc]
    omega
theorem vN_quo {f : Nat → Nat} {M i : Nat} (h : ∀ j, j < i → f j ≤ M) : vN 256 f i / 256 ^ i ≤ M := by
  refine Nat.div_le_of_le_mul ?_
  rw [Nat.mul_comm]
  exact vN_le_mul h
/-- Digits, the first i of them carried. -/
def carF (f : Nat → Nat) (V i j : Nat) : Nat := if j < i then dg 256 V j else if j = i then f i + vN 256 f i / 256 ^ i else f j
theorem carF_zero (f : Nat → Nat) (V j : Nat) : carF f V 0 j = f j := by
  unfold carF
  rw [if_neg (by omega)]
  split
  · subst j; simp [vN]
  · rfl
theorem car_step {f : Nat → Nat} {n i : Nat} (h : i + 1 < n) (j : Nat) :
    updN (updN (carF f (vN 256 f n) i) (i + 1) (f (i + 1) + (f i + vN 256 f i / 256 ^ i) / 256)) i ((f i + vN 256 f i / 256 ^ i) % 256) j = carF f (vN 256 f n) (i + 1) j := by
  unfold updN carF
  by_cases h1 : j = i
  · subst h1
    rw [if_pos rfl, if_pos (by omega), dg_car (by omega) f (by omega)]
  rw [if_neg h1]
  by_cases h2 : j = i + 1
  · subst h2
    rw [if_pos rfl, if_neg (by omega), if_pos rfl, Nat.pow_succ, ← Nat.div_div_eq_div_mul, vN_div (by omega)]
  rw [if_neg h2, if_neg h2]
  by_cases h3 : j < i
  · rw [if_pos h3, if_pos (by omega)]
  · rw [if_neg h3, if_neg (by omega), if_neg (by omega)]
theorem car_last {f : Nat → Nat} {m : Nat} (hV : vN 256 f (m + 1) < 256 ^ (m + 1)) (j : Nat) (hj : j < m + 1) : carF f (vN 256 f (m + 1)) m j = dg 256 (vN 256 f (m + 1)) j := by
  unfold carF
  by_cases h1 : j < m
  · rw [if_pos h1]
  · have e : j = m := by omega
    subst e
    rw [if_neg h1, if_pos rfl, dg_car (by omega) f (by omega), Nat.mod_eq_of_lt]
    rw [← vN_div (by omega)]
    rw [Nat.pow_succ] at hV
    exact Nat.div_lt_of_lt_mul hV
theorem car_top {f : Nat → Nat} {m : Nat} (hV : vN 256 f (m + 1) < 256 ^ (m + 1)) : f m + vN 256 f m / 256 ^ m < 256 := by
  rw [← vN_div (by omega)]
  rw [Nat.pow_succ] at hV
  exact Nat.div_lt_of_lt_mul hV

/-! what stands below 130 bits, and above -/
theorem dg_low {A j : Nat} (hj : j < 16) : dg 256 (A % 1361129467683753853853498429727072845824) j = dg 256 A j := by
  unfold dg
  rcases sixteen hj with rfl | rfl | rfl | rfl | rfl | rfl | rfl | rfl | rfl | rfl | rfl | rfl | rfl | rfl | rfl | rfl <;> (simp only [Nat.reducePow]; omega)
theorem dg_low16 (A : Nat) : dg 256 (A % 1361129467683753853853498429727072845824) 16 = dg 256 A 16 % 4 := by
  unfold dg
  simp only [Nat.reducePow]; omega
theorem quo130 (A m : Nat) : A / 1361129467683753853853498429727072845824 / 256 ^ m = A / 256 ^ (16 + m) / 4 := by
  rw [Nat.div_div_eq_div_mul, Nat.div_div_eq_div_mul, Nat.pow_add, show (256 : Nat) ^ 16 = 340282366920938463463374607431768211456 from rfl]
  congr 1
  omega
theorem dg_high (A m : Nat) : dg 256 (A / 1361129467683753853853498429727072845824) m = dg 256 A (16 + m) / 4 + dg 256 A (16 + m + 1) % 4 * 64 := by
  unfold dg
  rw [quo130, Nat.pow_succ, ← Nat.div_div_eq_div_mul]
  omega
theorem dg_0 {V n : Nat} (h : V < 256 ^ n) : dg 256 V n = 0 := dg_big h
theorem vN_dgV {V n : Nat} (h : V < 256 ^ n) : vN 256 (dg 256 V) n = V := by rw [vN_dg, Nat.mod_eq_of_lt h]
def D8 (f : Nat → Int) (n : Nat) : Prop := ∀ j, j < n → 0 ≤ f j ∧ f j < 256
theorem D8_dg (V n : Nat) : D8 (NI (dg 256 V)) n := fun j _ => by
  have := dg_lt (B := 256) (by omega) V j
  unfold NI; omega
theorem D8_eq {f : Nat → Int} {n : Nat} (h : D8 f n) (j : Nat) (hj : j < n) : f j = NI (dg 256 (vN 256 (toN f) n)) j := by
  unfold NI
  rw [dg_val (by omega) (fun i hi => by have := h i hi; unfold toN; omega) hj]
  have := h j hj
  unfold toN; omega
theorem D8_lt {f : Nat → Int} {n : Nat} (h : D8 f n) : vN 256 (toN f) n < 256 ^ n := vN_lt fun j hj => by have := h j hj; unfold toN; omega
end Go.Proofs.Ytogijkmflhjhkaa

/- Functions through the evaluator: the document's digits. No condition. -/
namespace Go.Proofs.Ytogijkmflhjhkaa
open Go.Sx Go.RowKit
set_option maxRecDepth 100000
set_option maxHeartbeats 1000000
set_option linter.unusedVariables false
set_option linter.unusedSimpArgs false

theorem put1 {g h : Nat → Int} {i : Nat} (hz : h 0 = g i) (j : Nat) (hj : j < i + 1) : g j = put_ g i 1 h j := by
  unfold put_
  split
  · rename_i e
    have : j = i := by omega
    subst this
    rw [Nat.sub_self, hz]
  · rfl
/-- indentureref4.digits. -/
def digitsS : Summary := mkS false [.r .u8] fun
  | [.r nl g n] => some ⟨.and (.p (R8 g n)) (.p (n ≤ 1000000)), some (.sa (.sc (ownA (Nat.beq n 0) n 0))), [(0, ownB 3 .i64 g n)], 1⟩
  | _ => none
theorem digitsS_ok : SumOk Try.prog 82 digitsS := by
  unfold digitsS
  apply sum_ok
  intro vs A H n o r hb h
  split at h
  rotate_left
  · cases h
  rename_i nl g n0
  injection h with h
  subst h
  cases hb
  refine fsound_of_run tt_ok cok_nil mixed_ok Try.call82 Try.func82 rfl (rs := _) Try.results82 (size := 20) Try.ntmps82 (Nat.le_of_ble_eq_true rfl) rfl fun hp hfa hfh => ?_
  obtain ⟨hg, hn⟩ := hp
  have hg : R8 g n0 := hg
  have hn : n0 ≤ 1000000 := hn
  repeat ((conv => whnf); (with_reducible refine And.intro ?_ ?_); · first | exact True.intro | (intro hg0; simp only [hg0, Bool.not_false, Bool.not_true]; done) | with_reducible assumption | omega | (intro _; refine ⟨True.intro, ?_⟩; omega) | (intro _; refine ⟨?_, True.intro⟩; omega) | (intro _; refine ⟨decide_eq_true ?_, ?_⟩ <;> omega) | (intro _; refine ⟨?_, ?_⟩ <;> first | omega | (simp [appG, Cd.holds]; done) | (simp [appG, Cd.holds]; omega)) | (refine decide_eq_true ?_; omega) | (intro _; omega) | (simp only [w_i64, w_u64, w_u32, w_u8]; omega) | exact ⟨U_nonneg _, U_lt32 _⟩ | exact R8_UL _ _ | exact R32_UL _ _ | (intro hg0; (repeat ((conv => whnf); (with_reducible refine And.intro ?_ ?_); · first | with_reducible assumption | omega | (intro _; refine ⟨?_, ?_⟩ <;> first | with_reducible assumption | omega | exact True.intro | (refine decide_eq_true ?_; omega) | (simp [appG, Cd.holds]; omega)) | (intro _; refine ⟨And.intro ?_ ?_, ?_⟩ <;> first | with_reducible assumption | omega | (refine decide_eq_true ?_; omega)) | (simp only [hg0, Bool.and_self, Bool.true_and]; done) | (intro hg1; simp only [hg0, hg1, Bool.and_self, Bool.true_and]; done) | (simp [hg0]; done))); (conv => whnf); exact True.intro))
  conv => whnf
  refine ⟨0, Nat, fun i => ⟨20, [(0, .sa (.sc (.im nl .u8 g n0))), (3, .sa (.sc (ownA (Nat.beq i 0) i 0))), (4, .sa (.sc (.int .i64 i)))],
    [(0, ownB 3 .i64 g i)], 1⟩, fun i => i ≤ n0, fun i => n0 - i, ⟨0, by omega, le_of [] ?_⟩, fun i hi => ?_⟩
  · repeat ((conv => whnf); (with_reducible refine And.intro ?_ ?_); · first | with_reducible rfl | exact (Bool.and_false _).symm | (intro _ _; with_reducible rfl) | exact True.intro | assumption | (intro h; exact absurd h (by decide)) | omega | (intro _; omega) | (intro _; refine ⟨?_, True.intro⟩; omega) | (intro _; refine ⟨?_, True.intro⟩; intro _; omega) | (refine decide_eq_false ?_; omega) | (refine decide_eq_true ?_; omega) | (simp only [w_i64, w_u64, w_u32, w_u8]; omega) | exact fun j hj => (put_0 hj).symm | (intro j _; simp only [Nat.zero_add]; done) | (simp [appG]; done) | (simp [appG]; omega) | (intro hgd; (try replace hgd := of_decide_eq_true hgd); (repeat ((conv => whnf); (with_reducible refine And.intro ?_ ?_); · first | with_reducible rfl | exact (Bool.and_false _).symm | (intro _ _; with_reducible rfl) | exact True.intro | assumption | (intro h; exact absurd h (by decide)) | omega | (intro _; omega) | (intro _; refine ⟨?_, True.intro⟩; omega) | (intro _; refine ⟨?_, True.intro⟩; intro _; omega) | (refine decide_eq_false ?_; omega) | (refine decide_eq_true ?_; omega) | (simp only [w_i64, w_u64, w_u32, w_u8]; omega) | exact fun j hj => (put_0 hj).symm | (intro j _; simp only [Nat.zero_add]; done) | (simp [appG]; done) | (simp [appG]; omega))); (conv => whnf); exact True.intro))
    conv => whnf
    exact True.intro
  have hi : i ≤ n0 := hi
  have hb0 : Nat.beq i 0 = true → i = 0 := fun h => by rw [Nat.beq_eq] at h; exact h
  repeat ((conv => whnf); (with_reducible refine And.intro ?_ ?_); · first | exact True.intro | (intro hg0; simp only [hg0, Bool.not_false, Bool.not_true]; done) | with_reducible assumption | omega | (intro _; refine ⟨True.intro, ?_⟩; omega) | (intro _; refine ⟨?_, True.intro⟩; omega) | (intro _; refine ⟨decide_eq_true ?_, ?_⟩ <;> omega) | (intro _; refine ⟨?_, ?_⟩ <;> first | omega | (simp [appG, Cd.holds]; done) | (simp [appG, Cd.holds]; omega)) | (refine decide_eq_true ?_; omega) | (intro _; omega) | (simp only [w_i64, w_u64, w_u32, w_u8]; omega) | exact ⟨U_nonneg _, U_lt32 _⟩ | exact R8_UL _ _ | exact R32_UL _ _ | (intro hg0; (repeat ((conv => whnf); (with_reducible refine And.intro ?_ ?_); · first | with_reducible assumption | omega | (intro _; refine ⟨?_, ?_⟩ <;> first | with_reducible assumption | omega | exact True.intro | (refine decide_eq_true ?_; omega) | (simp [appG, Cd.holds]; omega)) | (intro _; refine ⟨And.intro ?_ ?_, ?_⟩ <;> first | with_reducible assumption | omega | (refine decide_eq_true ?_; omega)) | (simp only [hg0, Bool.and_self, Bool.true_and]; done) | (intro hg1; simp only [hg0, hg1, Bool.and_self, Bool.true_and]; done) | (simp [hg0]; done))); (conv => whnf); exact True.intro))
  conv => whnf
  refine ⟨fun h1 => ?_, fun h1 => ?_⟩
  · replace h1 := of_decide_eq_true h1
    have hgi := hg i (by omega)
    have hw : IntKind.i64.wrap (g i) = g i := by rw [w_i64]; omega
    repeat ((conv => whnf); (with_reducible refine And.intro ?_ ?_); · first | exact True.intro | (intro hg0; simp only [hg0, Bool.not_false, Bool.not_true]; done) | with_reducible assumption | omega | (intro _; refine ⟨True.intro, ?_⟩; omega) | (intro _; refine ⟨?_, True.intro⟩; omega) | (intro _; refine ⟨decide_eq_true ?_, ?_⟩ <;> omega) | (intro _; refine ⟨?_, ?_⟩ <;> first | omega | (simp [appG, Cd.holds]; done) | (simp [appG, Cd.holds]; omega)) | (refine decide_eq_true ?_; omega) | (intro _; omega) | (simp only [w_i64, w_u64, w_u32, w_u8]; omega) | exact ⟨U_nonneg _, U_lt32 _⟩ | exact R8_UL _ _ | exact R32_UL _ _ | (intro hg0; (repeat ((conv => whnf); (with_reducible refine And.intro ?_ ?_); · first | with_reducible assumption | omega | (intro _; refine ⟨?_, ?_⟩ <;> first | with_reducible assumption | omega | exact True.intro | (refine decide_eq_true ?_; omega) | (simp [appG, Cd.holds]; omega)) | (intro _; refine ⟨And.intro ?_ ?_, ?_⟩ <;> first | with_reducible assumption | omega | (refine decide_eq_true ?_; omega)) | (simp only [hg0, Bool.and_self, Bool.true_and]; done) | (intro hg1; simp only [hg0, hg1, Bool.and_self, Bool.true_and]; done) | (simp [hg0]; done))); (conv => whnf); exact True.intro))
    conv => whnf
    refine ⟨i + 1, ⟨by show i + 1 ≤ n0; omega, by show n0 - (i + 1) < n0 - i; omega⟩, le_of [(0, 2)] ?_⟩
    simp only [Int.toNat_natCast, hw]
    have hfin : ∀ j, j < i + 1 → g j = put_ g i 1 (fun j => listI [g i].reverse (0 + j)) j := fun j hj => put1 (i := i) (h := fun j => listI [g i].reverse (0 + j)) rfl j hj
    repeat ((conv => whnf); (with_reducible refine And.intro ?_ ?_); · first | with_reducible rfl | exact (Bool.and_false _).symm | (intro _ _; with_reducible rfl) | exact True.intro | assumption | (intro h; exact absurd h (by decide)) | omega | (intro _; omega) | (intro _; refine ⟨?_, True.intro⟩; omega) | (intro _; refine ⟨?_, True.intro⟩; intro _; omega) | (refine decide_eq_false ?_; omega) | (refine decide_eq_true ?_; omega) | (simp only [w_i64, w_u64, w_u32, w_u8]; omega) | exact fun j hj => (put_0 hj).symm | (intro j _; simp only [Nat.zero_add]; done) | (simp [appG]; done) | (simp [appG]; omega) | exact hfin | rfl | (intro hgd; (try replace hgd := of_decide_eq_true hgd); (repeat ((conv => whnf); (with_reducible refine And.intro ?_ ?_); · first | with_reducible rfl | exact (Bool.and_false _).symm | (intro _ _; with_reducible rfl) | exact True.intro | assumption | (intro h; exact absurd h (by decide)) | omega | (intro _; omega) | (intro _; refine ⟨?_, True.intro⟩; omega) | (intro _; refine ⟨?_, True.intro⟩; intro _; omega) | (refine decide_eq_false ?_; omega) | (refine decide_eq_true ?_; omega) | (simp only [w_i64, w_u64, w_u32, w_u8]; omega) | exact fun j hj => (put_0 hj).symm | (intro j _; simp only [Nat.zero_add]; done) | (simp [appG]; done) | (simp [appG]; omega) | exact hfin | rfl)); (conv => whnf); exact True.intro))
    conv => whnf
    exact True.intro
  · replace h1 := of_decide_eq_false h1
    have hin : i = n0 := by omega
    subst hin
    repeat ((conv => whnf); (with_reducible refine And.intro ?_ ?_); · first | exact True.intro | (intro hg0; simp only [hg0, Bool.not_false, Bool.not_true]; done) | with_reducible assumption | omega | (intro _; refine ⟨True.intro, ?_⟩; omega) | (intro _; refine ⟨?_, True.intro⟩; omega) | (intro _; refine ⟨decide_eq_true ?_, ?_⟩ <;> omega) | (intro _; refine ⟨?_, ?_⟩ <;> first | omega | (simp [appG, Cd.holds]; done) | (simp [appG, Cd.holds]; omega)) | (refine decide_eq_true ?_; omega) | (intro _; omega) | (simp only [w_i64, w_u64, w_u32, w_u8]; omega) | exact ⟨U_nonneg _, U_lt32 _⟩ | exact R8_UL _ _ | exact R32_UL _ _ | (intro hg0; (repeat ((conv => whnf); (with_reducible refine And.intro ?_ ?_); · first | with_reducible assumption | omega | (intro _; refine ⟨?_, ?_⟩ <;> first | with_reducible assumption | omega | exact True.intro | (refine decide_eq_true ?_; omega) | (simp [appG, Cd.holds]; omega)) | (intro _; refine ⟨And.intro ?_ ?_, ?_⟩ <;> first | with_reducible assumption | omega | (refine decide_eq_true ?_; omega)) | (simp only [hg0, Bool.and_self, Bool.true_and]; done) | (intro hg1; simp only [hg0, hg1, Bool.and_self, Bool.true_and]; done) | (simp [hg0]; done))); (conv => whnf); exact True.intro))
    conv => whnf
    refine ⟨[], ?_⟩
    repeat ((conv => whnf); (with_reducible refine And.intro ?_ ?_); · first | with_reducible rfl | exact (Bool.and_false _).symm | (intro _ _; with_reducible rfl) | exact True.intro | assumption | (intro h; exact absurd h (by decide)) | omega | (intro _; omega) | (intro _; refine ⟨?_, True.intro⟩; omega) | (intro _; refine ⟨?_, True.intro⟩; intro _; omega) | (refine decide_eq_false ?_; omega) | (refine decide_eq_true ?_; omega) | (simp only [w_i64, w_u64, w_u32, w_u8]; omega) | exact fun j hj => (put_0 hj).symm | (intro j _; simp only [Nat.zero_add]; done) | (simp [appG]; done) | (simp [appG]; omega) | (intro hgd; (try replace hgd := of_decide_eq_true hgd); (repeat ((conv => whnf); (with_reducible refine And.intro ?_ ?_); · first | with_reducible rfl | exact (Bool.and_false _).symm | (intro _ _; with_reducible rfl) | exact True.intro | assumption | (intro h; exact absurd h (by decide)) | omega | (intro _; omega) | (intro _; refine ⟨?_, True.intro⟩; omega) | (intro _; refine ⟨?_, True.intro⟩; intro _; omega) | (refine decide_eq_false ?_; omega) | (refine decide_eq_true ?_; omega) | (simp only [w_i64, w_u64, w_u32, w_u8]; omega) | exact fun j hj => (put_0 hj).symm | (intro j _; simp only [Nat.zero_add]; done) | (simp [appG]; done) | (simp [appG]; omega))); (conv => whnf); exact True.intro))
    conv => whnf
    exact True.intro

/-- indentureref4.zero. -/
def zeroS : Summary := mkS false [.r .i64] fun
  | [.r nl g n] => some ⟨.and (.p (D8 g n)) (.p (n ≤ 1000000)), some (.sa (.sc (.bool (Nat.beq (vN 256 (toN g) n) 0)))), [], 0⟩
  | _ => none
theorem zeroS_ok : SumOk Try.prog 99 zeroS := by
  unfold zeroS
  apply sum_ok
  intro vs A H n o r hb h
  split at h
  rotate_left
  · cases h
  rename_i nl g n0
  injection h with h
  subst h
  cases hb
  refine fsound_of_run tt_ok cok_nil mixed_ok Try.call99 Try.func99 rfl (rs := _) Try.results99 (size := 15) Try.ntmps99 (Nat.le_of_ble_eq_true rfl) rfl fun hp hfa hfh => ?_
  obtain ⟨hg, hn⟩ := hp
  have hg : D8 g n0 := hg
  have hn : n0 ≤ 1000000 := hn
  obtain ⟨B, hB⟩ : ∃ B, B = Nat.beq (vN 256 (toN g) n0) 0 := ⟨_, rfl⟩
  rw [← hB]
  repeat ((conv => whnf); (with_reducible refine And.intro ?_ ?_); · first | exact True.intro | (intro hg0; simp only [hg0, Bool.not_false, Bool.not_true]; done) | with_reducible assumption | omega | (intro _; refine ⟨True.intro, ?_⟩; omega) | (intro _; refine ⟨?_, True.intro⟩; omega) | (intro _; refine ⟨decide_eq_true ?_, ?_⟩ <;> omega) | (intro _; refine ⟨?_, ?_⟩ <;> first | omega | (simp [appG, Cd.holds]; done) | (simp [appG, Cd.holds]; omega)) | (refine decide_eq_true ?_; omega) | (intro _; omega) | (simp only [w_i64, w_u64, w_u32, w_u8]; omega) | exact ⟨U_nonneg _, U_lt32 _⟩ | exact R8_UL _ _ | exact R32_UL _ _ | (intro hg0; (repeat ((conv => whnf); (with_reducible refine And.intro ?_ ?_); · first | with_reducible assumption | omega | (intro _; refine ⟨?_, ?_⟩ <;> first | with_reducible assumption | omega | exact True.intro | (refine decide_eq_true ?_; omega) | (simp [appG, Cd.holds]; omega)) | (intro _; refine ⟨And.intro ?_ ?_, ?_⟩ <;> first | with_reducible assumption | omega | (refine decide_eq_true ?_; omega)) | (simp only [hg0, Bool.and_self, Bool.true_and]; done) | (intro hg1; simp only [hg0, hg1, Bool.and_self, Bool.true_and]; done) | (simp [hg0]; done))); (conv => whnf); exact True.intro))
  conv => whnf
  refine ⟨0, Nat, fun i => ⟨15, [(0, .sa (.sc (.im nl .i64 g n0))), (3, .sa (.sc (.int .i64 i)))], [], 0⟩, fun i => i ≤ n0 ∧ ∀ j, j < i → g j = 0, fun i => n0 - i, ⟨0, ⟨by omega, fun j hj => by omega⟩, le_of [] ?_⟩, fun i hi => ?_⟩
  · repeat ((conv => whnf); (with_reducible refine And.intro ?_ ?_); · first | with_reducible rfl | exact (Bool.and_false _).symm | (intro _ _; with_reducible rfl) | exact True.intro | assumption | (intro h; exact absurd h (by decide)) | omega | (intro _; omega) | (intro _; refine ⟨?_, True.intro⟩; omega) | (intro _; refine ⟨?_, True.intro⟩; intro _; omega) | (refine decide_eq_false ?_; omega) | (refine decide_eq_true ?_; omega) | (simp only [w_i64, w_u64, w_u32, w_u8]; omega) | exact fun j hj => (put_0 hj).symm | (intro j _; simp only [Nat.zero_add]; done) | (simp [appG]; done) | (simp [appG]; omega) | (intro hgd; (try replace hgd := of_decide_eq_true hgd); (repeat ((conv => whnf); (with_reducible refine And.intro ?_ ?_); · first | with_reducible rfl | exact (Bool.and_false _).symm | (intro _ _; with_reducible rfl) | exact True.intro | assumption | (intro h; exact absurd h (by decide)) | omega | (intro _; omega) | (intro _; refine ⟨?_, True.intro⟩; omega) | (intro _; refine ⟨?_, True.intro⟩; intro _; omega) | (refine decide_eq_false ?_; omega) | (refine decide_eq_true ?_; omega) | (simp only [w_i64, w_u64, w_u32, w_u8]; omega) | exact fun j hj => (put_0 hj).symm | (intro j _; simp only [Nat.zero_add]; done) | (simp [appG]; done) | (simp [appG]; omega))); (conv => whnf); exact True.intro))
    conv => whnf
    exact True.intro
  obtain ⟨hi, hz⟩ := hi
  have hi : i ≤ n0 := hi
  have hz : ∀ j, j < i → g j = 0 := hz
  repeat ((conv => whnf); (with_reducible refine And.intro ?_ ?_); · first | exact True.intro | (intro hg0; simp only [hg0, Bool.not_false, Bool.not_true]; done) | with_reducible assumption | omega | (intro _; refine ⟨True.intro, ?_⟩; omega) | (intro _; refine ⟨?_, True.intro⟩; omega) | (intro _; refine ⟨decide_eq_true ?_, ?_⟩ <;> omega) | (intro _; refine ⟨?_, ?_⟩ <;> first | omega | (simp [appG, Cd.holds]; done) | (simp [appG, Cd.holds]; omega)) | (refine decide_eq_true ?_; omega) | (intro _; omega) | (simp only [w_i64, w_u64, w_u32, w_u8]; omega) | exact ⟨U_nonneg _, U_lt32 _⟩ | exact R8_UL _ _ | exact R32_UL _ _ | (intro hg0; (repeat ((conv => whnf); (with_reducible refine And.intro ?_ ?_); · first | with_reducible assumption | omega | (intro _; refine ⟨?_, ?_⟩ <;> first | with_reducible assumption | omega | exact True.intro | (refine decide_eq_true ?_; omega) | (simp [appG, Cd.holds]; omega)) | (intro _; refine ⟨And.intro ?_ ?_, ?_⟩ <;> first | with_reducible assumption | omega | (refine decide_eq_true ?_; omega)) | (simp only [hg0, Bool.and_self, Bool.true_and]; done) | (intro hg1; simp only [hg0, hg1, Bool.and_self, Bool.true_and]; done) | (simp [hg0]; done))); (conv => whnf); exact True.intro))
  conv => whnf
  refine ⟨fun h1 => ?_, fun h1 => ?_⟩
  · replace h1 := of_decide_eq_true h1
    repeat ((conv => whnf); (with_reducible refine And.intro ?_ ?_); · first | exact True.intro | (intro hg0; simp only [hg0, Bool.not_false, Bool.not_true]; done) | with_reducible assumption | omega | (intro _; refine ⟨True.intro, ?_⟩; omega) | (intro _; refine ⟨?_, True.intro⟩; omega) | (intro _; refine ⟨decide_eq_true ?_, ?_⟩ <;> omega) | (intro _; refine ⟨?_, ?_⟩ <;> first | omega | (simp [appG, Cd.holds]; done) | (simp [appG, Cd.holds]; omega)) | (refine decide_eq_true ?_; omega) | (intro _; omega) | (simp only [w_i64, w_u64, w_u32, w_u8]; omega) | exact ⟨U_nonneg _, U_lt32 _⟩ | exact R8_UL _ _ | exact R32_UL _ _ | (intro hg0; (repeat ((conv => whnf); (with_reducible refine And.intro ?_ ?_); · first | with_reducible assumption | omega | (intro _; refine ⟨?_, ?_⟩ <;> first | with_reducible assumption | omega | exact True.intro | (refine decide_eq_true ?_; omega) | (simp [appG, Cd.holds]; omega)) | (intro _; refine ⟨And.intro ?_ ?_, ?_⟩ <;> first | with_reducible assumption | omega | (refine decide_eq_true ?_; omega)) | (simp only [hg0, Bool.and_self, Bool.true_and]; done) | (intro hg1; simp only [hg0, hg1, Bool.and_self, Bool.true_and]; done) | (simp [hg0]; done))); (conv => whnf); exact True.intro))
    conv => whnf
    refine ⟨fun h2 => ?_, fun h2 => ?_⟩
    · have hBf : B = false := by
        cases e : B with
        | false => rfl
        | true =>
          rw [e] at hB
          have h3 := vN_pos (B := 256) (by omega) (Nat.eq_of_beq_eq_true hB.symm) i (by omega)
          have h4 := hg i (by omega)
          have h5 : g i = 0 := by unfold toN at h3; omega
          have h6 : (!(g i == 0)) = true := h2
          rw [h5] at h6
          cases h6
      repeat ((conv => whnf); (with_reducible refine And.intro ?_ ?_); · first | exact True.intro | (intro hg0; simp only [hg0, Bool.not_false, Bool.not_true]; done) | with_reducible assumption | omega | (intro _; refine ⟨True.intro, ?_⟩; omega) | (intro _; refine ⟨?_, True.intro⟩; omega) | (intro _; refine ⟨decide_eq_true ?_, ?_⟩ <;> omega) | (intro _; refine ⟨?_, ?_⟩ <;> first | omega | (simp [appG, Cd.holds]; done) | (simp [appG, Cd.holds]; omega)) | (refine decide_eq_true ?_; omega) | (intro _; omega) | (simp only [w_i64, w_u64, w_u32, w_u8]; omega) | exact ⟨U_nonneg _, U_lt32 _⟩ | exact R8_UL _ _ | exact R32_UL _ _ | (intro hg0; (repeat ((conv => whnf); (with_reducible refine And.intro ?_ ?_); · first | with_reducible assumption | omega | (intro _; refine ⟨?_, ?_⟩ <;> first | with_reducible assumption | omega | exact True.intro | (refine decide_eq_true ?_; omega) | (simp [appG, Cd.holds]; omega)) | (intro _; refine ⟨And.intro ?_ ?_, ?_⟩ <;> first | with_reducible assumption | omega | (refine decide_eq_true ?_; omega)) | (simp only [hg0, Bool.and_self, Bool.true_and]; done) | (intro hg1; simp only [hg0, hg1, Bool.and_self, Bool.true_and]; done) | (simp [hg0]; done))); (conv => whnf); exact True.intro))
      conv => whnf
      refine ⟨[], ?_⟩
      simp only [hBf]
      repeat ((conv => whnf); (with_reducible refine And.intro ?_ ?_); · first | with_reducible rfl | exact (Bool.and_false _).symm | (intro _ _; with_reducible rfl) | exact True.intro | assumption | (intro h; exact absurd h (by decide)) | omega | (intro _; omega) | (intro _; refine ⟨?_, True.intro⟩; omega) | (intro _; refine ⟨?_, True.intro⟩; intro _; omega) | (refine decide_eq_false ?_; omega) | (refine decide_eq_true ?_; omega) | (simp only [w_i64, w_u64, w_u32, w_u8]; omega) | exact fun j hj => (put_0 hj).symm | (intro j _; simp only [Nat.zero_add]; done) | (simp [appG]; done) | (simp [appG]; omega) | (intro hgd; (try replace hgd := of_decide_eq_true hgd); (repeat ((conv => whnf); (with_reducible refine And.intro ?_ ?_); · first | with_reducible rfl | exact (Bool.and_false _).symm | (intro _ _; with_reducible rfl) | exact True.intro | assumption | (intro h; exact absurd h (by decide)) | omega | (intro _; omega) | (intro _; refine ⟨?_, True.intro⟩; omega) | (intro _; refine ⟨?_, True.intro⟩; intro _; omega) | (refine decide_eq_false ?_; omega) | (refine decide_eq_true ?_; omega) | (simp only [w_i64, w_u64, w_u32, w_u8]; omega) | exact fun j hj => (put_0 hj).symm | (intro j _; simp only [Nat.zero_add]; done) | (simp [appG]; done) | (simp [appG]; omega))); (conv => whnf); exact True.intro))
      conv => whnf
      exact True.intro
    · have h6 : (!(g i == 0)) = false := h2
      have h7 : g i = 0 := by rw [Bool.not_eq_false'] at h6; exact eq_of_beq h6
      repeat ((conv => whnf); (with_reducible refine And.intro ?_ ?_); · first | exact True.intro | (intro hg0; simp only [hg0, Bool.not_false, Bool.not_true]; done) | with_reducible assumption | omega | (intro _; refine ⟨True.intro, ?_⟩; omega) | (intro _; refine ⟨?_, True.intro⟩; omega) | (intro _; refine ⟨decide_eq_true ?_, ?_⟩ <;> omega) | (intro _; refine ⟨?_, ?_⟩ <;> first | omega | (simp [appG, Cd.holds]; done) | (simp [appG, Cd.holds]; omega)) | (refine decide_eq_true ?_; omega) | (intro _; omega) | (simp only [w_i64, w_u64, w_u32, w_u8]; omega) | exact ⟨U_nonneg _, U_lt32 _⟩ | exact R8_UL _ _ | exact R32_UL _ _ | (intro hg0; (repeat ((conv => whnf); (with_reducible refine And.intro ?_ ?_); · first | with_reducible assumption | omega | (intro _; refine ⟨?_, ?_⟩ <;> first | with_reducible assumption | omega | exact True.intro | (refine decide_eq_true ?_; omega) | (simp [appG, Cd.holds]; omega)) | (intro _; refine ⟨And.intro ?_ ?_, ?_⟩ <;> first | with_reducible assumption | omega | (refine decide_eq_true ?_; omega)) | (simp only [hg0, Bool.and_self, Bool.true_and]; done) | (intro hg1; simp only [hg0, hg1, Bool.and_self, Bool.true_and]; done) | (simp [hg0]; done))); (conv => whnf); exact True.intro))
      conv => whnf
      refine ⟨i + 1, ⟨⟨by show i + 1 ≤ n0; omega, fun j hj => ?_⟩, by show n0 - (i + 1) < n0 - i; omega⟩, le_of [] ?_⟩
      · by_cases e : j = i
        · rw [e]; exact h7
        · exact hz j (by have : j < i + 1 := hj; omega)
      · repeat ((conv => whnf); (with_reducible refine And.intro ?_ ?_); · first | with_reducible rfl | exact (Bool.and_false _).symm | (intro _ _; with_reducible rfl) | exact True.intro | assumption | (intro h; exact absurd h (by decide)) | omega | (intro _; omega) | (intro _; refine ⟨?_, True.intro⟩; omega) | (intro _; refine ⟨?_, True.intro⟩; intro _; omega) | (refine decide_eq_false ?_; omega) | (refine decide_eq_true ?_; omega) | (simp only [w_i64, w_u64, w_u32, w_u8]; omega) | exact fun j hj => (put_0 hj).symm | (intro j _; simp only [Nat.zero_add]; done) | (simp [appG]; done) | (simp [appG]; omega) | (intro hgd; (try replace hgd := of_decide_eq_true hgd); (repeat ((conv => whnf); (with_reducible refine And.intro ?_ ?_); · first | with_reducible rfl | exact (Bool.and_false _).symm | (intro _ _; with_reducible rfl) | exact True.intro | assumption | (intro h; exact absurd h (by decide)) | omega | (intro _; omega) | (intro _; refine ⟨?_, True.intro⟩; omega) | (intro _; refine ⟨?_, True.intro⟩; intro _; omega) | (refine decide_eq_false ?_; omega) | (refine decide_eq_true ?_; omega) | (simp only [w_i64, w_u64, w_u32, w_u8]; omega) | exact fun j hj => (put_0 hj).symm | (intro j _; simp only [Nat.zero_add]; done) | (simp [appG]; done) | (simp [appG]; omega))); (conv => whnf); exact True.intro))
        conv => whnf
        exact True.intro
  · replace h1 := of_decide_eq_false h1
    have hin : i = n0 := by omega
    subst hin
    have hBt : B = true := by
      rw [hB, vN_zero fun j hj => by unfold toN; rw [hz j hj]; rfl]
      rfl
    repeat ((conv => whnf); (with_reducible refine And.intro ?_ ?_); · first | exact True.intro | (intro hg0; simp only [hg0, Bool.not_false, Bool.not_true]; done) | with_reducible assumption | omega | (intro _; refine ⟨True.intro, ?_⟩; omega) | (intro _; refine ⟨?_, True.intro⟩; omega) | (intro _; refine ⟨decide_eq_true ?_, ?_⟩ <;> omega) | (intro _; refine ⟨?_, ?_⟩ <;> first | omega | (simp [appG, Cd.holds]; done) | (simp [appG, Cd.holds]; omega)) | (refine decide_eq_true ?_; omega) | (intro _; omega) | (simp only [w_i64, w_u64, w_u32, w_u8]; omega) | exact ⟨U_nonneg _, U_lt32 _⟩ | exact R8_UL _ _ | exact R32_UL _ _ | (intro hg0; (repeat ((conv => whnf); (with_reducible refine And.intro ?_ ?_); · first | with_reducible assumption | omega | (intro _; refine ⟨?_, ?_⟩ <;> first | with_reducible assumption | omega | exact True.intro | (refine decide_eq_true ?_; omega) | (simp [appG, Cd.holds]; omega)) | (intro _; refine ⟨And.intro ?_ ?_, ?_⟩ <;> first | with_reducible assumption | omega | (refine decide_eq_true ?_; omega)) | (simp only [hg0, Bool.and_self, Bool.true_and]; done) | (intro hg1; simp only [hg0, hg1, Bool.and_self, Bool.true_and]; done) | (simp [hg0]; done))); (conv => whnf); exact True.intro))
    conv => whnf
    refine ⟨[], ?_⟩
    simp only [hBt]
    repeat ((conv => whnf); (with_reducible refine And.intro ?_ ?_); · first | with_reducible rfl | exact (Bool.and_false _).symm | (intro _ _; with_reducible rfl) | exact True.intro | assumption | (intro h; exact absurd h (by decide)) | omega | (intro _; omega) | (intro _; refine ⟨?_, True.intro⟩; omega) | (intro _; refine ⟨?_, True.intro⟩; intro _; omega) | (refine decide_eq_false ?_; omega) | (refine decide_eq_true ?_; omega) | (simp only [w_i64, w_u64, w_u32, w_u8]; omega) | exact fun j hj => (put_0 hj).symm | (intro j _; simp only [Nat.zero_add]; done) | (simp [appG]; done) | (simp [appG]; omega) | (intro hgd; (try replace hgd := of_decide_eq_true hgd); (repeat ((conv => whnf); (with_reducible refine And.intro ?_ ?_); · first | with_reducible rfl | exact (Bool.and_false _).symm | (intro _ _; with_reducible rfl) | exact True.intro | assumption | (intro h; exact absurd h (by decide)) | omega | (intro _; omega) | (intro _; refine ⟨?_, True.intro⟩; omega) | (intro _; refine ⟨?_, True.intro⟩; intro _; omega) | (refine decide_eq_false ?_; omega) | (refine decide_eq_true ?_; omega) | (simp only [w_i64, w_u64, w_u32, w_u8]; omega) | exact fun j hj => (put_0 hj).symm | (intro j _; simp only [Nat.zero_add]; done) | (simp [appG]; done) | (simp [appG]; omega))); (conv => whnf); exact True.intro))
    conv => whnf
    exact True.intro

/-- Digits, not carried yet, all of them in reach. -/
def Dbig (f : Nat → Int) (n : Nat) : Prop := ∀ j, j < n → 0 ≤ f j ∧ f j ≤ 1099511627776
/-- indentureref4.carry of a number that its digits hold. -/
def carryS : Summary := mkS false [.a 3 .i64] fun
  | [.a nl f n] => some ⟨.and (.p (Dbig f n)) (.p (vN 256 (toN f) n < 256 ^ n ∧ 1 ≤ n ∧ n ≤ 1000 ∧ nl = false)), some (.sa (.sc (ownA nl n 0))), [(0, ownB 3 .i64 (NI (dg 256 (vN 256 (toN f) n))) n)], 1⟩
  | _ => none
theorem carryS_ok : SumOk Try.prog 100 carryS := by
  unfold carryS
  apply sum_ok
  intro vs A H n o r hb h
  split at h
  rotate_left
  · cases h
  rename_i nl f n0
  injection h with h
  subst h
  cases hb
  refine fsound_of_run tt_ok cok_nil mixed_ok Try.call100 Try.func100 rfl (rs := _) Try.results100 (size := 66) Try.ntmps100 (Nat.le_of_ble_eq_true rfl) rfl fun hp hfa hfh => ?_
  obtain ⟨hf, hV, hn1, hn2, hnl⟩ := hp
  have hf : Dbig f n0 := hf
  have hnl : nl = false := hnl
  subst hnl
  obtain ⟨F, hF⟩ : ∃ F, F = toN f := ⟨_, rfl⟩
  have hFj : ∀ j, j < n0 → f j = (F j : Int) ∧ F j ≤ 1099511627776 := fun j hj => by
    have := hf j hj
    rw [hF]; unfold toN; omega
  rw [← hF] at hV ⊢
  obtain ⟨V, hVe⟩ : ∃ V, V = vN 256 F n0 := ⟨_, rfl⟩
  rw [← hVe] at hV ⊢
  have hq : ∀ i, i ≤ n0 → vN 256 F i / 256 ^ i ≤ 1099511627776 := fun i hi => vN_quo fun j hj => (hFj j (by omega)).2
  repeat ((conv => whnf); (with_reducible refine And.intro ?_ ?_); · first | exact True.intro | (intro hg0; simp only [hg0, Bool.not_false, Bool.not_true]; done) | with_reducible assumption | omega | (intro _; refine ⟨True.intro, ?_⟩; omega) | (intro _; refine ⟨?_, True.intro⟩; omega) | (intro _; refine ⟨decide_eq_true ?_, ?_⟩ <;> omega) | (intro _; refine ⟨?_, ?_⟩ <;> first | omega | (simp [appG, Cd.holds]; done) | (simp [appG, Cd.holds]; omega)) | (refine decide_eq_true ?_; omega) | (intro _; omega) | (simp only [w_i64, w_u64, w_u32, w_u8]; omega) | exact ⟨U_nonneg _, U_lt32 _⟩ | exact R8_UL _ _ | exact R32_UL _ _ | (intro hg0; (repeat ((conv => whnf); (with_reducible refine And.intro ?_ ?_); · first | with_reducible assumption | omega | (intro _; refine ⟨?_, ?_⟩ <;> first | with_reducible assumption | omega | exact True.intro | (refine decide_eq_true ?_; omega) | (simp [appG, Cd.holds]; omega)) | (intro _; refine ⟨And.intro ?_ ?_, ?_⟩ <;> first | with_reducible assumption | omega | (refine decide_eq_true ?_; omega)) | (simp only [hg0, Bool.and_self, Bool.true_and]; done) | (intro hg1; simp only [hg0, hg1, Bool.and_self, Bool.true_and]; done) | (simp [hg0]; done))); (conv => whnf); exact True.intro))
  conv => whnf
  refine ⟨0, Nat, fun i => ⟨66, [(0, .sa (.sc (ownA false n0 0))), (3, .sa (.sc (.int .i64 i)))], [(0, ownB 3 .i64 (NI (carF F V i)) n0)], 1⟩, fun i => i + 1 ≤ n0, fun i => n0 - i, ⟨0, by show 0 + 1 ≤ n0; omega, le_of [] ?_⟩, fun i hi => ?_⟩
  · have h0 : ∀ j, j < n0 → NI (carF F V 0) j = f j := fun j hj => by
      unfold NI
      rw [carF_zero, (hFj j hj).1]
    repeat ((conv => whnf); (with_reducible refine And.intro ?_ ?_); · first | with_reducible rfl | exact (Bool.and_false _).symm | (intro _ _; with_reducible rfl) | exact True.intro | assumption | (intro h; exact absurd h (by decide)) | omega | (intro _; omega) | (intro _; refine ⟨?_, True.intro⟩; omega) | (intro _; refine ⟨?_, True.intro⟩; intro _; omega) | (refine decide_eq_false ?_; omega) | (refine decide_eq_true ?_; omega) | (simp only [w_i64, w_u64, w_u32, w_u8]; omega) | exact fun j hj => (put_0 hj).symm | (intro j _; simp only [Nat.zero_add]; done) | (simp [appG]; done) | (simp [appG]; omega) | exact h0 | (intro hgd; (try replace hgd := of_decide_eq_true hgd); (repeat ((conv => whnf); (with_reducible refine And.intro ?_ ?_); · first | with_reducible rfl | exact (Bool.and_false _).symm | (intro _ _; with_reducible rfl) | exact True.intro | assumption | (intro h; exact absurd h (by decide)) | omega | (intro _; omega) | (intro _; refine ⟨?_, True.intro⟩; omega) | (intro _; refine ⟨?_, True.intro⟩; intro _; omega) | (refine decide_eq_false ?_; omega) | (refine decide_eq_true ?_; omega) | (simp only [w_i64, w_u64, w_u32, w_u8]; omega) | exact fun j hj => (put_0 hj).symm | (intro j _; simp only [Nat.zero_add]; done) | (simp [appG]; done) | (simp [appG]; omega) | exact h0)); (conv => whnf); exact True.intro))
    conv => whnf
    exact True.intro
  have hi : i + 1 ≤ n0 := hi
  have w0 : IntKind.i64.wrap ((n0 : Int) - 1) = ((n0 - 1 : Nat) : Int) := by rw [w_i64]; omega
  repeat ((conv => whnf); (with_reducible refine And.intro ?_ ?_); · first | exact True.intro | (intro hg0; simp only [hg0, Bool.not_false, Bool.not_true]; done) | with_reducible assumption | omega | (intro _; refine ⟨True.intro, ?_⟩; omega) | (intro _; refine ⟨?_, True.intro⟩; omega) | (intro _; refine ⟨decide_eq_true ?_, ?_⟩ <;> omega) | (intro _; refine ⟨?_, ?_⟩ <;> first | omega | (simp [appG, Cd.holds]; done) | (simp [appG, Cd.holds]; omega)) | (refine decide_eq_true ?_; omega) | (intro _; omega) | (simp only [w0]; omega) | (simp only [w0]; intro _; refine ⟨?_, ?_⟩ <;> first | omega | (refine decide_eq_true ?_; omega)) | exact ⟨U_nonneg _, U_lt32 _⟩ | exact R8_UL _ _ | exact R32_UL _ _ | (intro hg0; (repeat ((conv => whnf); (with_reducible refine And.intro ?_ ?_); · first | with_reducible assumption | omega | (intro _; refine ⟨?_, ?_⟩ <;> first | with_reducible assumption | omega | exact True.intro | (refine decide_eq_true ?_; omega) | (simp [appG, Cd.holds]; omega)) | (intro _; refine ⟨And.intro ?_ ?_, ?_⟩ <;> first | with_reducible assumption | omega | (refine decide_eq_true ?_; omega)) | (simp only [hg0, Bool.and_self, Bool.true_and]; done) | (intro hg1; simp only [hg0, hg1, Bool.and_self, Bool.true_and]; done) | (simp [hg0]; done))); (conv => whnf); exact True.intro))
  conv => whnf
  simp only [w0]
  refine ⟨fun h1 => ?_, fun h1 => ?_⟩
  · replace h1 := of_decide_eq_true h1
    have hi2 : i + 1 < n0 := by omega
    have w1 : IntKind.i64.wrap ((i : Int) + 1) = ((i + 1 : Nat) : Int) := by rw [w_i64]; omega
    obtain ⟨s, hs⟩ : ∃ s, s = F i + vN 256 F i / 256 ^ i := ⟨_, rfl⟩
    have hsb : s ≤ 2199023255552 := by have := (hFj i (by omega)).2; have := hq i (by omega); omega
    have ci : NI (carF F V i) i = (s : Int) := by unfold NI carF; rw [if_neg (by omega), if_pos rfl, hs]
    have ci1 : NI (carF F V i) (i + 1) = (F (i + 1) : Int) := by unfold NI carF; rw [if_neg (by omega), if_neg (by omega)]
    have hF1 := (hFj (i + 1) hi2).2
    have v1 : IntKind.i64.wrap ((s : Int).tdiv 256) = ((s / 256 : Nat) : Int) := by rw [show ((s : Nat) : Int).tdiv 256 = ((s / 256 : Nat) : Int) from rfl, w_i64]; omega
    have v2 : IntKind.i64.wrap ((F (i + 1) : Int) + ((s / 256 : Nat) : Int)) = ((F (i + 1) + s / 256 : Nat) : Int) := by rw [w_i64]; omega
    have v3 : ((s : Nat) : Int).tmod 256 = ((s % 256 : Nat) : Int) := rfl
    have hst := fun j => car_step (f := F) (n := n0) (i := i) hi2 j
    rw [← hVe, ← hs] at hst
    refine ⟨[(0, ⟨0, some 12, []⟩), (1, ⟨0, some 13, []⟩), (2, ⟨2, some 14, []⟩), (3, ⟨7, some 15, []⟩), (4, ⟨15, some 16, []⟩), (5, ⟨0, some 17, []⟩), (6, ⟨0, some 18, []⟩), (7, ⟨96, some 19, []⟩), (8, ⟨224, some 20, []⟩), (9, ⟨480, some 21, []⟩), (10, ⟨1023, some 22, []⟩), (11, ⟨2047, some 23, []⟩), (12, ⟨4095, none, [0]⟩)], 209, ?_⟩
    repeat ((conv => whnf); (with_reducible refine And.intro ?_ ?_); · first | exact True.intro | (intro hg0; simp only [hg0, Bool.not_false, Bool.not_true]; done) | with_reducible assumption | omega | (intro _; refine ⟨True.intro, ?_⟩; omega) | (intro _; refine ⟨?_, True.intro⟩; omega) | (intro _; refine ⟨decide_eq_true ?_, ?_⟩ <;> omega) | (intro _; refine ⟨?_, ?_⟩ <;> first | omega | (simp [appG, Cd.holds]; done) | (simp [appG, Cd.holds]; omega)) | (refine decide_eq_true ?_; omega) | (intro _; omega) | (simp only [w1, Int.toNat_natCast]; omega) | (simp only [w1, Int.toNat_natCast]; intro _; refine ⟨?_, ?_⟩ <;> first | omega | (refine decide_eq_true ?_; omega)) | exact ⟨U_nonneg _, U_lt32 _⟩ | exact R8_UL _ _ | exact R32_UL _ _ | (intro hg0; (repeat ((conv => whnf); (with_reducible refine And.intro ?_ ?_); · first | with_reducible assumption | omega | (intro _; refine ⟨?_, ?_⟩ <;> first | with_reducible assumption | omega | exact True.intro | (refine decide_eq_true ?_; omega) | (simp [appG, Cd.holds]; omega)) | (intro _; refine ⟨And.intro ?_ ?_, ?_⟩ <;> first | with_reducible assumption | omega | (refine decide_eq_true ?_; omega)) | (simp only [hg0, Bool.and_self, Bool.true_and]; done) | (intro hg1; simp only [hg0, hg1, Bool.and_self, Bool.true_and]; done) | (simp [hg0]; done))); (conv => whnf); exact True.intro))
    conv => whnf
    simp only [w1, Int.toNat_natCast, Nat.zero_add, ci, ci1, v1, v2, NI_upd]
    have ci2 : NI (updN (carF F V i) (i + 1) (F (i + 1) + s / 256)) i = (s : Int) := by
      unfold NI updN
      rw [if_neg (by omega)]
      exact ci
    simp only [ci2, v3, NI_upd]
    refine ⟨i + 1, ⟨by show i + 1 + 1 ≤ n0; omega, by show n0 - (i + 1) < n0 - i; omega⟩, le_of [] ?_⟩
    have hfin : ∀ j, j < n0 → NI (carF F V (i + 1)) j = NI (updN (updN (carF F V i) (i + 1) (F (i + 1) + s / 256)) i (s % 256)) j := fun j _ => by unfold NI; rw [hst j]
    repeat ((conv => whnf); (with_reducible refine And.intro ?_ ?_); · first | with_reducible rfl | exact (Bool.and_false _).symm | (intro _ _; with_reducible rfl) | exact True.intro | assumption | (intro h; exact absurd h (by decide)) | omega | (intro _; omega) | (intro _; refine ⟨?_, True.intro⟩; omega) | (intro _; refine ⟨?_, True.intro⟩; intro _; omega) | (refine decide_eq_false ?_; omega) | (refine decide_eq_true ?_; omega) | (simp only [w_i64, w_u64, w_u32, w_u8]; omega) | exact fun j hj => (put_0 hj).symm | (intro j _; simp only [Nat.zero_add]; done) | (simp [appG]; done) | (simp [appG]; omega) | exact hfin | (intro hgd; (try replace hgd := of_decide_eq_true hgd); (repeat ((conv => whnf); (with_reducible refine And.intro ?_ ?_); · first | with_reducible rfl | exact (Bool.and_false _).symm | (intro _ _; with_reducible rfl) | exact True.intro | assumption | (intro h; exact absurd h (by decide)) | omega | (intro _; omega) | (intro _; refine ⟨?_, True.intro⟩; omega) | (intro _; refine ⟨?_, True.intro⟩; intro _; omega) | (refine decide_eq_false ?_; omega) | (refine decide_eq_true ?_; omega) | (simp only [w_i64, w_u64, w_u32, w_u8]; omega) | exact fun j hj => (put_0 hj).symm | (intro j _; simp only [Nat.zero_add]; done) | (simp [appG]; done) | (simp [appG]; omega) | exact hfin)); (conv => whnf); exact True.intro))
    conv => whnf
    exact True.intro
  · replace h1 := of_decide_eq_false h1
    have hie : i = n0 - 1 := by omega
    obtain ⟨M, hM⟩ : ∃ M, n0 = M + 1 := ⟨n0 - 1, by omega⟩
    subst hM
    have hie : i = M := by omega
    subst hie
    have hlast : ∀ j, j < i + 1 → NI (dg 256 V) j = NI (carF F V i) j := fun j hj => by
      unfold NI
      rw [hVe, car_last (by rw [← hVe]; exact hV) j hj]
    repeat ((conv => whnf); (with_reducible refine And.intro ?_ ?_); · first | exact True.intro | (intro hg0; simp only [hg0, Bool.not_false, Bool.not_true]; done) | with_reducible assumption | omega | (intro _; refine ⟨True.intro, ?_⟩; omega) | (intro _; refine ⟨?_, True.intro⟩; omega) | (intro _; refine ⟨decide_eq_true ?_, ?_⟩ <;> omega) | (intro _; refine ⟨?_, ?_⟩ <;> first | omega | (simp [appG, Cd.holds]; done) | (simp [appG, Cd.holds]; omega)) | (refine decide_eq_true ?_; omega) | (intro _; omega) | (simp only [w_i64, w_u64, w_u32, w_u8]; omega) | exact ⟨U_nonneg _, U_lt32 _⟩ | exact R8_UL _ _ | exact R32_UL _ _ | (intro hg0; (repeat ((conv => whnf); (with_reducible refine And.intro ?_ ?_); · first | with_reducible assumption | omega | (intro _; refine ⟨?_, ?_⟩ <;> first | with_reducible assumption | omega | exact True.intro | (refine decide_eq_true ?_; omega) | (simp [appG, Cd.holds]; omega)) | (intro _; refine ⟨And.intro ?_ ?_, ?_⟩ <;> first | with_reducible assumption | omega | (refine decide_eq_true ?_; omega)) | (simp only [hg0, Bool.and_self, Bool.true_and]; done) | (intro hg1; simp only [hg0, hg1, Bool.and_self, Bool.true_and]; done) | (simp [hg0]; done))); (conv => whnf); exact True.intro))
    conv => whnf
    refine ⟨0, Unit, fun _ => ⟨66, [(0, .sa (.sc (ownA false (i + 1) 0)))], [(0, ownB 3 .i64 (NI (dg 256 V)) (i + 1))], 1⟩, fun _ => True, fun _ => 0, ⟨(), trivial, le_of [] ?_⟩, fun _ _ => ?_⟩
    · repeat ((conv => whnf); (with_reducible refine And.intro ?_ ?_); · first | with_reducible rfl | exact (Bool.and_false _).symm | (intro _ _; with_reducible rfl) | exact True.intro | assumption | (intro h; exact absurd h (by decide)) | omega | (intro _; omega) | (intro _; refine ⟨?_, True.intro⟩; omega) | (intro _; refine ⟨?_, True.intro⟩; intro _; omega) | (refine decide_eq_false ?_; omega) | (refine decide_eq_true ?_; omega) | (simp only [w_i64, w_u64, w_u32, w_u8]; omega) | exact fun j hj => (put_0 hj).symm | (intro j _; simp only [Nat.zero_add]; done) | (simp [appG]; done) | (simp [appG]; omega) | exact hlast | (intro hgd; (try replace hgd := of_decide_eq_true hgd); (repeat ((conv => whnf); (with_reducible refine And.intro ?_ ?_); · first | with_reducible rfl | exact (Bool.and_false _).symm | (intro _ _; with_reducible rfl) | exact True.intro | assumption | (intro h; exact absurd h (by decide)) | omega | (intro _; omega) | (intro _; refine ⟨?_, True.intro⟩; omega) | (intro _; refine ⟨?_, True.intro⟩; intro _; omega) | (refine decide_eq_false ?_; omega) | (refine decide_eq_true ?_; omega) | (simp only [w_i64, w_u64, w_u32, w_u8]; omega) | exact fun j hj => (put_0 hj).symm | (intro j _; simp only [Nat.zero_add]; done) | (simp [appG]; done) | (simp [appG]; omega) | exact hlast)); (conv => whnf); exact True.intro))
      conv => whnf
      exact True.intro
    repeat ((conv => whnf); (with_reducible refine And.intro ?_ ?_); · first | exact True.intro | (intro hg0; simp only [hg0, Bool.not_false, Bool.not_true]; done) | with_reducible assumption | omega | (intro _; refine ⟨True.intro, ?_⟩; omega) | (intro _; refine ⟨?_, True.intro⟩; omega) | (intro _; refine ⟨decide_eq_true ?_, ?_⟩ <;> omega) | (intro _; refine ⟨?_, ?_⟩ <;> first | omega | (simp [appG, Cd.holds]; done) | (simp [appG, Cd.holds]; omega)) | (refine decide_eq_true ?_; omega) | (intro _; omega) | (simp only [w0]; omega) | (simp only [w0]; intro _; refine ⟨?_, ?_⟩ <;> first | omega | (refine decide_eq_true ?_; omega)) | exact ⟨U_nonneg _, U_lt32 _⟩ | exact R8_UL _ _ | exact R32_UL _ _ | (intro hg0; (repeat ((conv => whnf); (with_reducible refine And.intro ?_ ?_); · first | with_reducible assumption | omega | (intro _; refine ⟨?_, ?_⟩ <;> first | with_reducible assumption | omega | exact True.intro | (refine decide_eq_true ?_; omega) | (simp [appG, Cd.holds]; omega)) | (intro _; refine ⟨And.intro ?_ ?_, ?_⟩ <;> first | with_reducible assumption | omega | (refine decide_eq_true ?_; omega)) | (simp only [hg0, Bool.and_self, Bool.true_and]; done) | (intro hg1; simp only [hg0, hg1, Bool.and_self, Bool.true_and]; done) | (simp [hg0]; done))); (conv => whnf); exact True.intro))
    conv => whnf
    have hle : ∀ j, NI (dg 256 V) j ≤ 255 := fun j => by have := (D8_dg V (j + 1) j (by omega)).2; omega
    refine ⟨fun h2 => ?_, fun h2 => ?_⟩
    · obtain ⟨_, h3⟩ := andT h2
      have h4 := of_decide_eq_true h3
      have h5 := hle (0 + (IntKind.i64.wrap (((i + 1 : Nat) : Int) - 1)).toNat)
      exact absurd h4 (by omega)
    · repeat ((conv => whnf); (with_reducible refine And.intro ?_ ?_); · first | exact True.intro | (intro hg0; simp only [hg0, Bool.not_false, Bool.not_true]; done) | with_reducible assumption | omega | (intro _; refine ⟨True.intro, ?_⟩; omega) | (intro _; refine ⟨?_, True.intro⟩; omega) | (intro _; refine ⟨decide_eq_true ?_, ?_⟩ <;> omega) | (intro _; refine ⟨?_, ?_⟩ <;> first | omega | (simp [appG, Cd.holds]; done) | (simp [appG, Cd.holds]; omega)) | (refine decide_eq_true ?_; omega) | (intro _; omega) | (simp only [w_i64, w_u64, w_u32, w_u8]; omega) | exact ⟨U_nonneg _, U_lt32 _⟩ | exact R8_UL _ _ | exact R32_UL _ _ | (intro hg0; (repeat ((conv => whnf); (with_reducible refine And.intro ?_ ?_); · first | with_reducible assumption | omega | (intro _; refine ⟨?_, ?_⟩ <;> first | with_reducible assumption | omega | exact True.intro | (refine decide_eq_true ?_; omega) | (simp [appG, Cd.holds]; omega)) | (intro _; refine ⟨And.intro ?_ ?_, ?_⟩ <;> first | with_reducible assumption | omega | (refine decide_eq_true ?_; omega)) | (simp only [hg0, Bool.and_self, Bool.true_and]; done) | (intro hg1; simp only [hg0, hg1, Bool.and_self, Bool.true_and]; done) | (simp [hg0]; done))); (conv => whnf); exact True.intro))
      conv => whnf
      refine ⟨[], ?_⟩
      repeat ((conv => whnf); (with_reducible refine And.intro ?_ ?_); · first | with_reducible rfl | exact (Bool.and_false _).symm | (intro _ _; with_reducible rfl) | exact True.intro | assumption | (intro h; exact absurd h (by decide)) | omega | (intro _; omega) | (intro _; refine ⟨?_, True.intro⟩; omega) | (intro _; refine ⟨?_, True.intro⟩; intro _; omega) | (refine decide_eq_false ?_; omega) | (refine decide_eq_true ?_; omega) | (simp only [w_i64, w_u64, w_u32, w_u8]; omega) | exact fun j hj => (put_0 hj).symm | (intro j _; simp only [Nat.zero_add]; done) | (simp [appG]; done) | (simp [appG]; omega) | (intro hgd; (try replace hgd := of_decide_eq_true hgd); (repeat ((conv => whnf); (with_reducible refine And.intro ?_ ?_); · first | with_reducible rfl | exact (Bool.and_false _).symm | (intro _ _; with_reducible rfl) | exact True.intro | assumption | (intro h; exact absurd h (by decide)) | omega | (intro _; omega) | (intro _; refine ⟨?_, True.intro⟩; omega) | (intro _; refine ⟨?_, True.intro⟩; intro _; omega) | (refine decide_eq_false ?_; omega) | (refine decide_eq_true ?_; omega) | (simp only [w_i64, w_u64, w_u32, w_u8]; omega) | exact fun j hj => (put_0 hj).symm | (intro j _; simp only [Nat.zero_add]; done) | (simp [appG]; done) | (simp [appG]; omega))); (conv => whnf); exact True.intro))
      conv => whnf
      exact True.intro
end Go.Proofs.Ytogijkmflhjhkaa

/- Functions through the evaluator: the document's products and sums of digits. No condition. -/
namespace Go.Proofs.Ytogijkmflhjhkaa
open Go.Sx Go.RowKit
set_option maxRecDepth 100000
set_option maxHeartbeats 1000000
set_option linter.unusedVariables false
set_option linter.unusedSimpArgs false

/-- Digits of W, with k digits of a product more from place i on. -/
def tmF (A B : Nat → Nat) (W i k j : Nat) : Nat := dg 256 W j + if i ≤ j ∧ j < i + k then A i * B (j - i) else 0
theorem tmF_zero (A B : Nat → Nat) (W i j : Nat) : tmF A B W i 0 j = dg 256 W j := by
  unfold tmF; rw [if_neg (by omega), Nat.add_zero]
theorem tmF_at (A B : Nat → Nat) (W i k : Nat) : tmF A B W i k (i + k) = dg 256 W (i + k) := by
  unfold tmF; rw [if_neg (by omega), Nat.add_zero]
theorem tmF_step (A B : Nat → Nat) (W i k j : Nat) : tmF A B W i (k + 1) j = updN (tmF A B W i k) (i + k) (dg 256 W (i + k) + A i * B k) j := by
  unfold updN tmF
  by_cases h : j = i + k
  · rw [if_pos h, if_pos (by omega), h, Nat.add_sub_cancel_left]
  · rw [if_neg h]
    by_cases h2 : i ≤ j ∧ j < i + k
    · rw [if_pos h2, if_pos (by omega)]
    · rw [if_neg h2, if_neg (by omega)]
theorem tmF_le {A B : Nat → Nat} {W i nb : Nat} (hA : A i < 256) (hB : ∀ j, j < nb → B j < 256) (j : Nat) : tmF A B W i nb j ≤ 65280 := by
  unfold tmF
  have h1 := dg_lt (B := 256) (by omega) W j
  split
  · rename_i h
    have h2 := hB (j - i) (by omega)
    have h3 : A i * B (j - i) ≤ 255 * 255 := Nat.mul_le_mul (by omega) (by omega)
    omega
  · omega
theorem tmF_val {A B : Nat → Nat} {W i nb n : Nat} (hW : W < 256 ^ n) (hi : i + nb ≤ n) : vN 256 (tmF A B W i nb) n = W + A i * vN 256 B nb * 256 ^ i := by
  have h := vN_add 256 (dg 256 W) (fun j => if i ≤ j ∧ j < i + nb then A i * B (j - i) else 0) n
  rw [vN_dgV hW, vN_block 256 (A i) B i nb n hi] at h
  exact h
theorem prod_lt {A B : Nat → Nat} {i na nb : Nat} (hA : ∀ j, j < na → A j < 256) (hB : ∀ j, j < nb → B j < 256) (hi : i ≤ na) : vN 256 A i * vN 256 B nb < 256 ^ (na + nb) := by
  have h1 := vN_lt (B := 256) (g := A) (n := i) fun j hj => hA j (by omega)
  have h2 := vN_lt (B := 256) (g := B) (n := nb) hB
  have h3 := Nat.pow_le_pow_right (n := 256) (by omega) hi
  rw [Nat.pow_add]
  exact Nat.mul_lt_mul'' (by omega) h2
theorem cok45 : COk Try.prog (tab [(100, carryS)]) := cok_cons carryS_ok cok_nil
/-- indentureref4.times. -/
def rtimesS : Summary := mkS false [.r .i64, .r .i64] fun
  | [.r nl1 a na, .r nl2 b nb] => some ⟨.and (.and (.p (D8 a na)) (.p (D8 b nb))) (.p (na ≤ 100 ∧ nb ≤ 100 ∧ 1 ≤ na + nb)), some (.sa (.sc (.sl false false false 0 0 0 (na + nb) (na + nb)))), [(0, ownB 3 .i64 (NI (dg 256 (vN 256 (toN a) na * vN 256 (toN b) nb))) (na + nb))], 1⟩
  | _ => none
theorem rtimesS_ok : SumOk Try.prog 84 rtimesS := by
  unfold rtimesS
  apply sum_ok
  intro vs A H n o r hb h
  split at h
  rotate_left
  · cases h
  rename_i nl1 a na nl2 b nb
  injection h with h
  subst h
  cases hb
  refine fsound_of_run tt_ok cok45 mixed_ok Try.call84 Try.func84 rfl (rs := _) Try.results84 (size := 46) Try.ntmps84 (Nat.le_of_ble_eq_true rfl) rfl fun hp hfa hfh => ?_
  obtain ⟨⟨ha, hb⟩, hna, hnb, hn1⟩ := hp
  have ha : D8 a na := ha
  have hb : D8 b nb := hb
  obtain ⟨A, hA⟩ : ∃ A, A = toN a := ⟨_, rfl⟩
  obtain ⟨B, hB⟩ : ∃ B, B = toN b := ⟨_, rfl⟩
  have hAj : ∀ j, j < na → a j = (A j : Int) := fun j hj => by rw [hA]; exact (Int.toNat_of_nonneg (ha j hj).1).symm
  have hBj : ∀ j, j < nb → b j = (B j : Int) := fun j hj => by rw [hB]; exact (Int.toNat_of_nonneg (hb j hj).1).symm
  have hAl : ∀ j, j < na → A j < 256 := fun j hj => by have := ha j hj; have := hAj j hj; omega
  have hBl : ∀ j, j < nb → B j < 256 := fun j hj => by have := hb j hj; have := hBj j hj; omega
  rw [← hA, ← hB]
  have wn : IntKind.i64.wrap ((na : Int) + (nb : Int)) = ((na + nb : Nat) : Int) := by rw [w_i64]; omega
  repeat ((conv => whnf); (with_reducible refine And.intro ?_ ?_); · first | exact True.intro | with_reducible with_reducible assumption | omega | (intro _; refine ⟨True.intro, ?_⟩; omega) | (intro _; refine ⟨?_, True.intro⟩; omega) | (intro _; omega) | (refine decide_eq_true ?_; omega) | (intro _; refine ⟨decide_eq_true ?_, ?_⟩ <;> omega) | (simp only [wn, Int.toNat_natCast]; omega) | (simp only [wn, Int.toNat_natCast]; intro _; refine ⟨?_, ?_⟩ <;> first | omega | (refine decide_eq_true ?_; omega)) | exact R8_UL _ _ | (intro hg0; (repeat ((conv => whnf); (with_reducible refine And.intro ?_ ?_); · first | with_reducible assumption | omega | (intro _; refine ⟨?_, ?_⟩ <;> first | with_reducible assumption | omega) | (simp only [hg0, Bool.and_self, Bool.true_and]; done))); (conv => whnf); exact True.intro))
  conv => whnf
  simp only [wn, Int.toNat_natCast]
  refine ⟨0, Nat, fun i => ⟨46, [(0, .sa (.sc (.im nl1 .i64 a na))), (1, .sa (.sc (.im nl2 .i64 b nb))), (5, .sa (.sc (.sl false false false 0 0 0 (na + nb) (na + nb)))), (6, .sa (.sc (.int .i64 i)))],
    [(0, ownB 3 .i64 (NI (dg 256 (vN 256 A i * vN 256 B nb))) (na + nb))], 1⟩, fun i => i ≤ na, fun i => na - i, ⟨0, by show 0 ≤ na; omega, le_of [] ?_⟩, fun i hi => ?_⟩
  · have h0 : ∀ j, j < na + nb → NI (dg 256 (vN 256 A 0 * vN 256 B nb)) j = 0 := fun j _ => by
      unfold NI dg
      rw [show vN 256 A 0 = 0 from rfl, Nat.zero_mul, Nat.zero_div]; rfl
    repeat ((conv => whnf); (with_reducible refine And.intro ?_ ?_); · first | with_reducible rfl | exact (Bool.and_false _).symm | (intro _ _; with_reducible rfl) | exact True.intro | assumption | (intro h; exact absurd h (by decide)) | omega | (intro _; omega) | (intro _; refine ⟨?_, True.intro⟩; omega) | (intro _; refine ⟨?_, True.intro⟩; intro _; omega) | (refine decide_eq_false ?_; omega) | (refine decide_eq_true ?_; omega) | (simp only [w_i64, w_u64, w_u32, w_u8]; omega) | exact fun j hj => (put_0 hj).symm | (intro j _; simp only [Nat.zero_add]; done) | (simp [appG]; done) | (simp [appG]; omega) | exact h0 | (intro hgd; (try replace hgd := of_decide_eq_true hgd); (repeat ((conv => whnf); (with_reducible refine And.intro ?_ ?_); · first | with_reducible rfl | exact (Bool.and_false _).symm | (intro _ _; with_reducible rfl) | exact True.intro | assumption | (intro h; exact absurd h (by decide)) | omega | (intro _; omega) | (intro _; refine ⟨?_, True.intro⟩; omega) | (intro _; refine ⟨?_, True.intro⟩; intro _; omega) | (refine decide_eq_false ?_; omega) | (refine decide_eq_true ?_; omega) | (simp only [w_i64, w_u64, w_u32, w_u8]; omega) | exact fun j hj => (put_0 hj).symm | (intro j _; simp only [Nat.zero_add]; done) | (simp [appG]; done) | (simp [appG]; omega) | exact h0)); (conv => whnf); exact True.intro))
    conv => whnf
    exact True.intro
  have hi : i ≤ na := hi
  repeat ((conv => whnf); (with_reducible refine And.intro ?_ ?_); · first | exact True.intro | with_reducible with_reducible assumption | omega | (intro _; refine ⟨True.intro, ?_⟩; omega) | (intro _; refine ⟨?_, True.intro⟩; omega) | (intro _; omega) | (refine decide_eq_true ?_; omega) | (intro _; refine ⟨decide_eq_true ?_, ?_⟩ <;> omega) | (simp only [w_i64, w_u64, w_u32, w_u8]; omega) | exact R8_UL _ _ | (intro hg0; (repeat ((conv => whnf); (with_reducible refine And.intro ?_ ?_); · first | with_reducible assumption | omega | (intro _; refine ⟨?_, ?_⟩ <;> first | with_reducible assumption | omega) | (simp only [hg0, Bool.and_self, Bool.true_and]; done))); (conv => whnf); exact True.intro))
  conv => whnf
  refine ⟨fun h1 => ?_, fun h1 => ?_⟩
  · replace h1 := of_decide_eq_true h1
    have hi2 : i < na := by omega
    obtain ⟨W, hW⟩ : ∃ W, W = vN 256 A i * vN 256 B nb := ⟨_, rfl⟩
    have hWl : W < 256 ^ (na + nb) := by rw [hW]; exact prod_lt hAl hBl hi
    rw [← hW]
    repeat ((conv => whnf); (with_reducible refine And.intro ?_ ?_); · first | exact True.intro | with_reducible with_reducible assumption | omega | (intro _; refine ⟨True.intro, ?_⟩; omega) | (intro _; refine ⟨?_, True.intro⟩; omega) | (intro _; omega) | (refine decide_eq_true ?_; omega) | (intro _; refine ⟨decide_eq_true ?_, ?_⟩ <;> omega) | (simp only [w_i64, w_u64, w_u32, w_u8]; omega) | exact R8_UL _ _ | (intro hg0; (repeat ((conv => whnf); (with_reducible refine And.intro ?_ ?_); · first | with_reducible assumption | omega | (intro _; refine ⟨?_, ?_⟩ <;> first | with_reducible assumption | omega) | (simp only [hg0, Bool.and_self, Bool.true_and]; done))); (conv => whnf); exact True.intro))
    conv => whnf
    refine ⟨0, Nat, fun k => ⟨46, [(0, .sa (.sc (.im nl1 .i64 a na))), (1, .sa (.sc (.im nl2 .i64 b nb))), (5, .sa (.sc (.sl false false false 0 0 0 (na + nb) (na + nb)))), (6, .sa (.sc (.int .i64 i))), (7, .sa (.sc (.int .i64 k)))],
      [(0, ownB 3 .i64 (NI (tmF A B W i k)) (na + nb))], 1⟩, fun k => k ≤ nb, fun k => nb - k, ⟨0, by show 0 ≤ nb; omega, le_of [] ?_⟩, fun k hk => ?_⟩
    · have h0 : ∀ j, j < na + nb → NI (tmF A B W i 0) j = NI (dg 256 W) j := fun j _ => by unfold NI; rw [tmF_zero]
      repeat ((conv => whnf); (with_reducible refine And.intro ?_ ?_); · first | with_reducible rfl | exact (Bool.and_false _).symm | (intro _ _; with_reducible rfl) | exact True.intro | assumption | (intro h; exact absurd h (by decide)) | omega | (intro _; omega) | (intro _; refine ⟨?_, True.intro⟩; omega) | (intro _; refine ⟨?_, True.intro⟩; intro _; omega) | (refine decide_eq_false ?_; omega) | (refine decide_eq_true ?_; omega) | (simp only [w_i64, w_u64, w_u32, w_u8]; omega) | exact fun j hj => (put_0 hj).symm | (intro j _; simp only [Nat.zero_add]; done) | (simp [appG]; done) | (simp [appG]; omega) | exact h0 | (intro hgd; (try replace hgd := of_decide_eq_true hgd); (repeat ((conv => whnf); (with_reducible refine And.intro ?_ ?_); · first | with_reducible rfl | exact (Bool.and_false _).symm | (intro _ _; with_reducible rfl) | exact True.intro | assumption | (intro h; exact absurd h (by decide)) | omega | (intro _; omega) | (intro _; refine ⟨?_, True.intro⟩; omega) | (intro _; refine ⟨?_, True.intro⟩; intro _; omega) | (refine decide_eq_false ?_; omega) | (refine decide_eq_true ?_; omega) | (simp only [w_i64, w_u64, w_u32, w_u8]; omega) | exact fun j hj => (put_0 hj).symm | (intro j _; simp only [Nat.zero_add]; done) | (simp [appG]; done) | (simp [appG]; omega) | exact h0)); (conv => whnf); exact True.intro))
      conv => whnf
      exact True.intro
    have hk : k ≤ nb := hk
    repeat ((conv => whnf); (with_reducible refine And.intro ?_ ?_); · first | exact True.intro | with_reducible with_reducible assumption | omega | (intro _; refine ⟨True.intro, ?_⟩; omega) | (intro _; refine ⟨?_, True.intro⟩; omega) | (intro _; omega) | (refine decide_eq_true ?_; omega) | (intro _; refine ⟨decide_eq_true ?_, ?_⟩ <;> omega) | (simp only [w_i64, w_u64, w_u32, w_u8]; omega) | exact R8_UL _ _ | (intro hg0; (repeat ((conv => whnf); (with_reducible refine And.intro ?_ ?_); · first | with_reducible assumption | omega | (intro _; refine ⟨?_, ?_⟩ <;> first | with_reducible assumption | omega) | (simp only [hg0, Bool.and_self, Bool.true_and]; done))); (conv => whnf); exact True.intro))
    conv => whnf
    refine ⟨fun h2 => ?_, fun h2 => ?_⟩
    · replace h2 := of_decide_eq_true h2
      have hk2 : k < nb := by omega
      have wk : IntKind.i64.wrap ((i : Int) + (k : Int)) = ((i + k : Nat) : Int) := by rw [w_i64]; omega
      have hAi := hAl i hi2
      have hBk := hBl k hk2
      have hd := dg_lt (B := 256) (by omega) W (i + k)
      have hm : A i * B k ≤ 255 * 255 := Nat.mul_le_mul (by omega) (by omega)
      have hp : IntKind.i64.wrap (a i * b k) = ((A i * B k : Nat) : Int) := by rw [hAj i hi2, hBj k hk2, ← Int.natCast_mul, w_i64]; omega
      have hs : IntKind.i64.wrap (NI (tmF A B W i k) (i + k) + ((A i * B k : Nat) : Int)) = ((dg 256 W (i + k) + A i * B k : Nat) : Int) := by
        unfold NI
        rw [tmF_at, w_i64]; omega
      refine ⟨[(0, ⟨0, some 26, []⟩), (1, ⟨0, some 27, []⟩), (2, ⟨0, some 28, []⟩), (3, ⟨6, some 29, []⟩), (4, ⟨15, some 30, []⟩), (5, ⟨31, some 31, []⟩), (6, ⟨0, some 32, []⟩), (7, ⟨0, some 33, []⟩), (8, ⟨192, some 34, []⟩), (9, ⟨448, some 35, []⟩), (10, ⟨0, some 36, []⟩), (11, ⟨0, some 37, []⟩), (12, ⟨3072, some 38, []⟩), (13, ⟨7168, some 39, []⟩), (14, ⟨16320, some 40, []⟩), (15, ⟨32767, some 41, []⟩), (16, ⟨65535, some 42, []⟩), (17, ⟨131071, none, [0]⟩)], 289, ?_⟩
      repeat ((conv => whnf); (with_reducible refine And.intro ?_ ?_); · first | exact True.intro | with_reducible with_reducible assumption | omega | (intro _; refine ⟨True.intro, ?_⟩; omega) | (intro _; refine ⟨?_, True.intro⟩; omega) | (intro _; omega) | (refine decide_eq_true ?_; omega) | (intro _; refine ⟨decide_eq_true ?_, ?_⟩ <;> omega) | (simp only [wk, Int.toNat_natCast]; omega) | (simp only [wk, Int.toNat_natCast]; intro _; refine ⟨?_, ?_⟩ <;> first | omega | (refine decide_eq_true ?_; omega)) | exact R8_UL _ _ | (intro hg0; (repeat ((conv => whnf); (with_reducible refine And.intro ?_ ?_); · first | with_reducible assumption | omega | (intro _; refine ⟨?_, ?_⟩ <;> first | with_reducible assumption | omega) | (simp only [hg0, Bool.and_self, Bool.true_and]; done))); (conv => whnf); exact True.intro))
      conv => whnf
      simp only [wk, Int.toNat_natCast, Nat.zero_add, hp, hs, NI_upd]
      refine ⟨k + 1, ⟨by show k + 1 ≤ nb; omega, by show nb - (k + 1) < nb - k; omega⟩, le_of [] ?_⟩
      have hfin : ∀ j, j < na + nb → NI (tmF A B W i (k + 1)) j = NI (updN (tmF A B W i k) (i + k) (dg 256 W (i + k) + A i * B k)) j := fun j _ => by unfold NI; rw [tmF_step]
      repeat ((conv => whnf); (with_reducible refine And.intro ?_ ?_); · first | with_reducible rfl | exact (Bool.and_false _).symm | (intro _ _; with_reducible rfl) | exact True.intro | assumption | (intro h; exact absurd h (by decide)) | omega | (intro _; omega) | (intro _; refine ⟨?_, True.intro⟩; omega) | (intro _; refine ⟨?_, True.intro⟩; intro _; omega) | (refine decide_eq_false ?_; omega) | (refine decide_eq_true ?_; omega) | (simp only [w_i64, w_u64, w_u32, w_u8]; omega) | exact fun j hj => (put_0 hj).symm | (intro j _; simp only [Nat.zero_add]; done) | (simp [appG]; done) | (simp [appG]; omega) | exact hfin | (intro hgd; (try replace hgd := of_decide_eq_true hgd); (repeat ((conv => whnf); (with_reducible refine And.intro ?_ ?_); · first | with_reducible rfl | exact (Bool.and_false _).symm | (intro _ _; with_reducible rfl) | exact True.intro | assumption | (intro h; exact absurd h (by decide)) | omega | (intro _; omega) | (intro _; refine ⟨?_, True.intro⟩; omega) | (intro _; refine ⟨?_, True.intro⟩; intro _; omega) | (refine decide_eq_false ?_; omega) | (refine decide_eq_true ?_; omega) | (simp only [w_i64, w_u64, w_u32, w_u8]; omega) | exact fun j hj => (put_0 hj).symm | (intro j _; simp only [Nat.zero_add]; done) | (simp [appG]; done) | (simp [appG]; omega) | exact hfin)); (conv => whnf); exact True.intro))
      conv => whnf
      exact True.intro
    · replace h2 := of_decide_eq_false h2
      have hkn : k = nb := by omega
      subst hkn
      have hbig : Dbig (NI (tmF A B W i k)) (na + k) := fun j hj => by
        have := tmF_le (W := W) (hAl i hi2) hBl j
        unfold NI; omega
      have hval : vN 256 (toN (NI (tmF A B W i k))) (na + k) = vN 256 A (i + 1) * vN 256 B k := by
        rw [toN_NI, tmF_val hWl (by omega), hW, show vN 256 A (i + 1) = vN 256 A i + A i * 256 ^ i from rfl, Nat.add_mul, Nat.mul_right_comm]
      have hlt := prod_lt (i := i + 1) hAl hBl (by omega)
      repeat (first | ((with_reducible refine (Cd.then_iff _ _).2 (And.intro ?_ ?_)); · repeat' ((conv => arg 1; whnf); first | exact Cd.holds_tt | (refine Cd.holds_p ?_; first | exact hbig | (rw [hval]; exact ⟨hlt, by omega, by omega, rfl⟩) | exact True.intro | (intro hg0; simp only [hg0, Bool.not_false, Bool.not_true]; done) | with_reducible assumption | omega | (intro _; refine ⟨True.intro, ?_⟩; omega) | (intro _; refine ⟨?_, True.intro⟩; omega) | (intro _; refine ⟨decide_eq_true ?_, ?_⟩ <;> omega) | (intro _; refine ⟨?_, ?_⟩ <;> first | omega | (simp [appG, Cd.holds]; done) | (simp [appG, Cd.holds]; omega)) | (refine decide_eq_true ?_; omega) | (intro _; omega) | (simp only [w_i64, w_u64, w_u32, w_u8]; omega) | exact ⟨U_nonneg _, U_lt32 _⟩ | exact R8_UL _ _ | exact R32_UL _ _ | (intro hg0; (repeat ((conv => whnf); (with_reducible refine And.intro ?_ ?_); · first | with_reducible assumption | omega | (intro _; refine ⟨?_, ?_⟩ <;> first | with_reducible assumption | omega | exact True.intro | (refine decide_eq_true ?_; omega) | (simp [appG, Cd.holds]; omega)) | (intro _; refine ⟨And.intro ?_ ?_, ?_⟩ <;> first | with_reducible assumption | omega | (refine decide_eq_true ?_; omega)) | (simp only [hg0, Bool.and_self, Bool.true_and]; done) | (intro hg1; simp only [hg0, hg1, Bool.and_self, Bool.true_and]; done) | (simp [hg0]; done) | exact hbig | (rw [hval]; exact ⟨hlt, by omega, by omega, rfl⟩))); (conv => whnf); exact True.intro)) | refine Cd.holds_and ?_ ?_ | (refine Cd.holds_imp fun hg0 => ?_))) | ((conv => whnf); (with_reducible refine And.intro ?_ ?_); · first | exact hbig | (rw [hval]; exact ⟨hlt, by omega, by omega, rfl⟩) | exact True.intro | (intro hg0; simp only [hg0, Bool.not_false, Bool.not_true]; done) | with_reducible assumption | omega | (intro _; refine ⟨True.intro, ?_⟩; omega) | (intro _; refine ⟨?_, True.intro⟩; omega) | (intro _; refine ⟨decide_eq_true ?_, ?_⟩ <;> omega) | (intro _; refine ⟨?_, ?_⟩ <;> first | omega | (simp [appG, Cd.holds]; done) | (simp [appG, Cd.holds]; omega)) | (refine decide_eq_true ?_; omega) | (intro _; omega) | (simp only [w_i64, w_u64, w_u32, w_u8]; omega) | exact ⟨U_nonneg _, U_lt32 _⟩ | exact R8_UL _ _ | exact R32_UL _ _ | (intro hg0; (repeat ((conv => whnf); (with_reducible refine And.intro ?_ ?_); · first | with_reducible assumption | omega | (intro _; refine ⟨?_, ?_⟩ <;> first | with_reducible assumption | omega | exact True.intro | (refine decide_eq_true ?_; omega) | (simp [appG, Cd.holds]; omega)) | (intro _; refine ⟨And.intro ?_ ?_, ?_⟩ <;> first | with_reducible assumption | omega | (refine decide_eq_true ?_; omega)) | (simp only [hg0, Bool.and_self, Bool.true_and]; done) | (intro hg1; simp only [hg0, hg1, Bool.and_self, Bool.true_and]; done) | (simp [hg0]; done) | exact hbig | (rw [hval]; exact ⟨hlt, by omega, by omega, rfl⟩))); (conv => whnf); exact True.intro)))
      conv => whnf
      simp only [hval]
      refine ⟨i + 1, ⟨by show i + 1 ≤ na; omega, by show na - (i + 1) < na - i; omega⟩, le_of [] ?_⟩
      repeat ((conv => whnf); (with_reducible refine And.intro ?_ ?_); · first | with_reducible rfl | exact (Bool.and_false _).symm | (intro _ _; with_reducible rfl) | exact True.intro | assumption | (intro h; exact absurd h (by decide)) | omega | (intro _; omega) | (intro _; refine ⟨?_, True.intro⟩; omega) | (intro _; refine ⟨?_, True.intro⟩; intro _; omega) | (refine decide_eq_false ?_; omega) | (refine decide_eq_true ?_; omega) | (simp only [w_i64, w_u64, w_u32, w_u8]; omega) | exact fun j hj => (put_0 hj).symm | (intro j _; simp only [Nat.zero_add]; done) | (simp [appG]; done) | (simp [appG]; omega) | (intro hgd; (try replace hgd := of_decide_eq_true hgd); (repeat ((conv => whnf); (with_reducible refine And.intro ?_ ?_); · first | with_reducible rfl | exact (Bool.and_false _).symm | (intro _ _; with_reducible rfl) | exact True.intro | assumption | (intro h; exact absurd h (by decide)) | omega | (intro _; omega) | (intro _; refine ⟨?_, True.intro⟩; omega) | (intro _; refine ⟨?_, True.intro⟩; intro _; omega) | (refine decide_eq_false ?_; omega) | (refine decide_eq_true ?_; omega) | (simp only [w_i64, w_u64, w_u32, w_u8]; omega) | exact fun j hj => (put_0 hj).symm | (intro j _; simp only [Nat.zero_add]; done) | (simp [appG]; done) | (simp [appG]; omega))); (conv => whnf); exact True.intro))
      conv => whnf
      exact True.intro
  · replace h1 := of_decide_eq_false h1
    have hin : i = na := by omega
    subst hin
    repeat ((conv => whnf); (with_reducible refine And.intro ?_ ?_); · first | exact True.intro | with_reducible with_reducible assumption | omega | (intro _; refine ⟨True.intro, ?_⟩; omega) | (intro _; refine ⟨?_, True.intro⟩; omega) | (intro _; omega) | (refine decide_eq_true ?_; omega) | (intro _; refine ⟨decide_eq_true ?_, ?_⟩ <;> omega) | (simp only [w_i64, w_u64, w_u32, w_u8]; omega) | exact R8_UL _ _ | (intro hg0; (repeat ((conv => whnf); (with_reducible refine And.intro ?_ ?_); · first | with_reducible assumption | omega | (intro _; refine ⟨?_, ?_⟩ <;> first | with_reducible assumption | omega) | (simp only [hg0, Bool.and_self, Bool.true_and]; done))); (conv => whnf); exact True.intro))
    conv => whnf
    refine ⟨[], ?_⟩
    repeat ((conv => whnf); (with_reducible refine And.intro ?_ ?_); · first | with_reducible rfl | exact (Bool.and_false _).symm | (intro _ _; with_reducible rfl) | exact True.intro | assumption | (intro h; exact absurd h (by decide)) | omega | (intro _; omega) | (intro _; refine ⟨?_, True.intro⟩; omega) | (intro _; refine ⟨?_, True.intro⟩; intro _; omega) | (refine decide_eq_false ?_; omega) | (refine decide_eq_true ?_; omega) | (simp only [w_i64, w_u64, w_u32, w_u8]; omega) | exact fun j hj => (put_0 hj).symm | (intro j _; simp only [Nat.zero_add]; done) | (simp [appG]; done) | (simp [appG]; omega) | (intro hgd; (try replace hgd := of_decide_eq_true hgd); (repeat ((conv => whnf); (with_reducible refine And.intro ?_ ?_); · first | with_reducible rfl | exact (Bool.and_false _).symm | (intro _ _; with_reducible rfl) | exact True.intro | assumption | (intro h; exact absurd h (by decide)) | omega | (intro _; omega) | (intro _; refine ⟨?_, True.intro⟩; omega) | (intro _; refine ⟨?_, True.intro⟩; intro _; omega) | (refine decide_eq_false ?_; omega) | (refine decide_eq_true ?_; omega) | (simp only [w_i64, w_u64, w_u32, w_u8]; omega) | exact fun j hj => (put_0 hj).symm | (intro j _; simp only [Nat.zero_add]; done) | (simp [appG]; done) | (simp [appG]; omega))); (conv => whnf); exact True.intro))
    conv => whnf
    exact True.intro
end Go.Proofs.Ytogijkmflhjhkaa
