/- Functions through the evaluator: HMAC. No condition. -/
import Derived.Test.YtogijkmflhjhkaaSxT
import Derived.Test.YtogijkmflhjhkaaSxU
import Derived.Test.YtogijkmflhjhkaaF6
namespace Go.Proofs.Ytogijkmflhjhkaa
open Go.Sx Go.RowKit
set_option linter.unusedSimpArgs false
set_option maxRecDepth 100000
set_option linter.unusedVariables false

def hmac (k d : List B8) : List B8 := sha (kturn k 0x5c ++ sha (kturn k 0x36 ++ d))
theorem kturn_length (k : List B8) (b : B8) : (kturn k b).length = 64 := by unfold kturn; rw [List.length_map, kblock_length]
theorem cat_put1 (r : Row) (h : Nat → Row) : ∀ m, cat (putR (fun _ => r) 1 h) (1 + m) = L8 r.f r.n ++ cat h m
  | 0 => by show [] ++ L8 r.f r.n = _; rw [List.nil_append]; exact (List.append_nil _).symm
  | m + 1 => by
    rw [← Nat.add_assoc, cat, cat_put1 r h m, cat, List.append_assoc]
    have : putR (fun _ => r) 1 h (1 + m) = h m := by unfold putR; rw [if_neg (by omega)]; congr 1; omega
    rw [this]
theorem L8_z {l : List B8} {n : Nat} (h : n = l.length) : L8 (fun j => UL l (0 + j)) n = l := by
  rw [show (fun j => UL l (0 + j)) = UL l from funext fun j => by rw [Nat.zero_add]]
  exact L8_UL' h
theorem put1_R8 {r : Row} {h : Nat → Row} {m : Nat} (hr : R8 r.f r.n) (hh : ∀ j, j < m → R8 (h j).f (h j).n) : ∀ j, j < 1 + m → R8 (putR (fun _ => r) 1 h j).f (putR (fun _ => r) 1 h j).n := by
  intro j hj
  unfold putR
  split
  · exact hr
  · exact hh _ (by omega)
theorem cok7 : COk Try.prog (tab [(37, sumVS), (69, turnS)]) := cok_cons sumVS_ok (cok_cons turnS_ok cok_nil)
def hmacS : Summary := mkS false [.r .u8, .rr .u8] fun
  | [.r nl g n, .rr nl2 h m] => some ⟨.and (.p (R8 g n)) (.and (.p (n ≤ 900000)) (.and (.p (∀ j, j < m → R8 (h j).f (h j).n)) (.and (.p ((cat h m).length ≤ 800000)) (.p (m ≤ 1000000))))), some (.sa (.agg [.ints .u8 (UL (hmac (L8 g n) (cat h m))) 32])), [], 0⟩
  | _ => none
theorem hmacS_ok : SumOk Try.prog 38 hmacS := by
  unfold hmacS
  apply sum_ok
  intro vs A H n o r hb h
  split at h
  rotate_left
  · cases h
  rename_i nl g n0 nl2 h m
  injection h with h
  subst h
  cases hb
  refine fsound_of_run tt_ok cok7 mixed_ok Try.call38 Try.func38 rfl (rs := _) Try.results38 (size := 17) Try.ntmps38 (Nat.le_of_ble_eq_true rfl) rfl fun hp hfa hfh => ?_
  obtain ⟨hg, hn, hh, hl, hm⟩ := hp
  have hg : R8 g n0 := hg
  have hn : n0 ≤ 900000 := hn
  have hh : ∀ j, j < m → R8 (h j).f (h j).n := hh
  have hl : (cat h m).length ≤ 800000 := hl
  have hm : m ≤ 1000000 := hm
  have hk1 : L8 (fun j => UL (kturn (L8 g n0) (BitVec.ofInt 8 54)) (0 + j)) 64 = kturn (L8 g n0) 0x36 := L8_z (kturn_length _ _).symm
  have hc1 : cat (putR (fun x => ⟨false, fun j => UL (kturn (L8 g n0) (BitVec.ofInt 8 54)) (0 + j), 64⟩) 1 h) (1 + m) = kturn (L8 g n0) 0x36 ++ cat h m := by
    rw [cat_put1]; exact congrArg (· ++ cat h m) hk1
  have hcl : (cat (putR (fun x => ⟨false, fun j => UL (kturn (L8 g n0) (BitVec.ofInt 8 54)) (0 + j), 64⟩) 1 h) (1 + m)).length ≤ 900000 := by
    rw [hc1, List.length_append, kturn_length]; omega
  repeat ((conv => whnf); (with_reducible refine And.intro ?_ ?_); · first | exact True.intro | (intro hg0; simp only [hg0, Bool.not_false, Bool.not_true]; done) | assumption | omega | (intro _; refine ⟨True.intro, ?_⟩; omega) | (intro _; refine ⟨?_, True.intro⟩; omega) | (intro _; refine ⟨decide_eq_true ?_, ?_⟩ <;> omega) | (intro _; refine ⟨?_, ?_⟩ <;> first | omega | (simp [appG, Cd.holds]; done) | (simp [appG, Cd.holds]; omega)) | (refine decide_eq_true ?_; omega) | (intro _; omega) | (simp only [w_i64, w_u64, w_u32, w_u8]; omega) | exact ⟨U_nonneg _, U_lt32 _⟩ | exact R8_UL _ _ | exact R32_UL _ _ | (intro hg0; (repeat ((conv => whnf); (with_reducible refine And.intro ?_ ?_); · first | assumption | omega | (intro _; refine ⟨?_, ?_⟩ <;> first | assumption | omega | exact True.intro | (refine decide_eq_true ?_; omega) | (simp [appG, Cd.holds]; omega)) | (intro _; refine ⟨And.intro ?_ ?_, ?_⟩ <;> first | assumption | omega | (refine decide_eq_true ?_; omega)) | (simp only [hg0, Bool.and_self, Bool.true_and]; done) | (intro hg1; simp only [hg0, hg1, Bool.and_self, Bool.true_and]; done) | (simp [hg0]; done) | exact Eq.refl 1 | (intro _; simp [appG, Cd.holds]; done) | exact put1_R8 (R8_z _ _) hh | exact hcl)); (conv => whnf); exact True.intro) | exact Eq.refl 1 | (intro _; simp [appG, Cd.holds]; done) | exact put1_R8 (R8_z _ _) hh | exact hcl)
  conv => whnf
  simp only [hc1]
  have hk2 : L8 (fun j => UL (kturn (L8 g n0) (BitVec.ofInt 8 92)) (0 + j)) 64 = kturn (L8 g n0) 0x5c := L8_z (kturn_length _ _).symm
  have hk3 : L8 (fun j => UL (sha (kturn (L8 g n0) 54 ++ cat h m)) (Int.toNat 0 + j)) (32 - Int.toNat 0) = sha (kturn (L8 g n0) 54 ++ cat h m) := L8_z (n := 32) (sha_length _).symm
  have hc2 : cat (putR (fun x => ⟨false, fun j => UL (kturn (L8 g n0) (BitVec.ofInt 8 92)) (0 + j), 64⟩) 1 (fun x => ⟨false, fun j => UL (sha (kturn (L8 g n0) 54 ++ cat h m)) (Int.toNat 0 + j), 32 - Int.toNat 0⟩)) 2 =
      kturn (L8 g n0) 0x5c ++ sha (kturn (L8 g n0) 54 ++ cat h m) := by
    rw [show (2 : Nat) = 1 + 1 from rfl, cat_put1]
    exact congr (congrArg (· ++ ·) hk2) ((List.nil_append _).trans hk3)
  have hcl2 : (cat (putR (fun x => ⟨false, fun j => UL (kturn (L8 g n0) (BitVec.ofInt 8 92)) (0 + j), 64⟩) 1 (fun x => ⟨false, fun j => UL (sha (kturn (L8 g n0) 54 ++ cat h m)) (Int.toNat 0 + j), 32 - Int.toNat 0⟩)) 2).length ≤ 900000 := by
    rw [hc2, List.length_append, kturn_length, sha_length]; omega
  refine ⟨[(0, ⟨0, some 12, []⟩), (1, ⟨1, some 13, [21]⟩), (2, ⟨0, some 14, []⟩), (3, ⟨7, some 15, [53]⟩), (4, ⟨15, some 16, []⟩), (5, ⟨31, none, [0]⟩)], 101, ?_⟩
  repeat ((conv => whnf); (with_reducible refine And.intro ?_ ?_); · first | exact True.intro | (intro hg0; simp only [hg0, Bool.not_false, Bool.not_true]; done) | assumption | omega | (intro _; refine ⟨True.intro, ?_⟩; omega) | (intro _; refine ⟨?_, True.intro⟩; omega) | (intro _; refine ⟨decide_eq_true ?_, ?_⟩ <;> omega) | (intro _; refine ⟨?_, ?_⟩ <;> first | omega | (simp [appG, Cd.holds]; done) | (simp [appG, Cd.holds]; omega)) | (refine decide_eq_true ?_; omega) | (intro _; omega) | (simp only [w_i64, w_u64, w_u32, w_u8]; omega) | exact ⟨U_nonneg _, U_lt32 _⟩ | exact R8_UL _ _ | exact R32_UL _ _ | (intro hg0; (repeat ((conv => whnf); (with_reducible refine And.intro ?_ ?_); · first | assumption | omega | (intro _; refine ⟨?_, ?_⟩ <;> first | assumption | omega | exact True.intro | (refine decide_eq_true ?_; omega) | (simp [appG, Cd.holds]; omega)) | (intro _; refine ⟨And.intro ?_ ?_, ?_⟩ <;> first | assumption | omega | (refine decide_eq_true ?_; omega)) | (simp only [hg0, Bool.and_self, Bool.true_and]; done) | (intro hg1; simp only [hg0, hg1, Bool.and_self, Bool.true_and]; done) | (simp [hg0]; done) | exact Eq.refl 2 | exact put1_R8 (m := 1) (R8_z _ _) (fun j _ => R8_z _ _) | exact hcl2)); (conv => whnf); exact True.intro) | exact Eq.refl 2 | exact put1_R8 (m := 1) (R8_z _ _) (fun j _ => R8_z _ _) | exact hcl2)
  conv => whnf
  refine ⟨[], ?_⟩
  simp only [hc2]
  repeat ((conv => whnf); (with_reducible refine And.intro ?_ ?_); · first | with_reducible rfl | exact (Bool.and_false _).symm | (intro _ _; with_reducible rfl) | exact True.intro | assumption | (intro h; exact absurd h (by decide)) | omega | (intro _; omega) | (intro _; refine ⟨?_, True.intro⟩; omega) | (intro _; refine ⟨?_, True.intro⟩; intro _; omega) | (refine decide_eq_false ?_; omega) | (refine decide_eq_true ?_; omega) | (simp only [w_i64, w_u64, w_u32, w_u8]; omega) | exact fun j hj => (put_0 hj).symm | (intro j _; simp only [Nat.zero_add]; done) | (simp [appG]; done) | (simp [appG]; omega) | exact fun j _ => rfl | (intro hgd; (try replace hgd := of_decide_eq_true hgd); (repeat ((conv => whnf); (with_reducible refine And.intro ?_ ?_); · first | with_reducible rfl | exact (Bool.and_false _).symm | (intro _ _; with_reducible rfl) | exact True.intro | assumption | (intro h; exact absurd h (by decide)) | omega | (intro _; omega) | (intro _; refine ⟨?_, True.intro⟩; omega) | (intro _; refine ⟨?_, True.intro⟩; intro _; omega) | (refine decide_eq_false ?_; omega) | (refine decide_eq_true ?_; omega) | (simp only [w_i64, w_u64, w_u32, w_u8]; omega) | exact fun j hj => (put_0 hj).symm | (intro j _; simp only [Nat.zero_add]; done) | (simp [appG]; done) | (simp [appG]; omega) | exact fun j _ => rfl)); (conv => whnf); exact True.intro))
  conv => whnf
  exact True.intro
end Go.Proofs.Ytogijkmflhjhkaa
