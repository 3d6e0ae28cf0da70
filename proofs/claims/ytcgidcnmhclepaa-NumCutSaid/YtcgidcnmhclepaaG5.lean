/- Functions through the evaluator: the beginning. No condition. -/
import Derived.Test.YtcgidcnmhclepaaSxT
import Derived.Test.YtcgidcnmhclepaaSxU
import Derived.Test.YtcgidcnmhclepaaG4
namespace Go.Proofs.Ytcgidcnmhclepaa
open Go.Sx Go.RowKit
set_option maxRecDepth 100000
set_option linter.unusedVariables false

theorem cokH : COk Try.prog (tab [(13, putS), (14, rputS), (15, getS), (20, getS), (16, putTextS), (18, rputTextS), (17, getTextS), (21, getTextS), (19, fourS), (11, shortS), (12, cutS)]) :=
  cok_cons putS_ok (cok_cons rputS_ok (cok_cons getS_ok (cok_cons getSR_ok (cok_cons putTextS_ok (cok_cons rputTextS_ok (cok_cons getTextS_ok (cok_cons getTextSR_ok (cok_cons fourS_ok (cok_cons shortS_ok (cok_cons cutS_ok cok_nil))))))))))
theorem put_ab : putT (ls ⟨#[97, 98]⟩) = [4, 97, 98] := by
  have e : ls ⟨#[97, 98]⟩ = [97, 98] := rfl
  rw [e]
  unfold putT putL
  rw [putN_lt (by decide)]
  rfl
theorem put_m1 : putL (-1) = [1] := by
  unfold putL
  rw [putN_lt (by decide)]
  rfl
theorem R8_sub0 {f : Nat → Int} {n m : Nat} (h : R8 f n) (hm : m ≤ n) : R8 (fun j => f (0 + j)) m := fun j hj => h _ (by omega)
def beginS : Summary := mkS false [] fun
  | [] => some ⟨.tt, some (.sa (.sc (.bool true))), [], 0⟩
  | _ => none
theorem beginS_ok : SumOk Try.prog 10 beginS := by
  unfold beginS
  apply sum_ok
  intro vs A H n o r hb h
  split at h
  rotate_left
  · cases h
  injection h with h
  subst h
  cases hb
  refine fsound_of_run tt_ok cokH mixed_ok Try.call10 Try.func10 rfl (rs := _) Try.results10 (size := 65) Try.ntmps10 (Nat.le_of_ble_eq_true rfl) rfl fun hp hfa hfh => ?_
  have hl : (putT (ls ⟨#[97, 98]⟩)).length = 3 := by rw [put_ab]; rfl
  have hl1 : (putL (-1)).length = 1 := by rw [put_m1]; rfl
  repeat ((conv => whnf); (with_reducible refine And.intro ?_ ?_); · first | exact True.intro | (intro hg0; simp only [hg0, Bool.not_false, Bool.not_true]; done) | assumption | omega | (intro _; refine ⟨True.intro, ?_⟩; omega) | (intro _; refine ⟨?_, True.intro⟩; omega) | (intro _; refine ⟨decide_eq_true ?_, ?_⟩ <;> omega) | (intro _; refine ⟨?_, ?_⟩ <;> first | omega | (simp [appG, Cd.holds]; done) | (simp [appG, Cd.holds]; omega)) | (refine decide_eq_true ?_; omega) | (intro _; omega) | (simp only [w_i64, w_u64, w_u32, w_u8]; omega) | exact ⟨U_nonneg _, U_lt32 _⟩ | exact R8_UL _ _ | exact R32_UL _ _ | exact fun j _ => ⟨U_nonneg _, U_lt8 _⟩ | decide | (unfold R8; decide) | (refine R8_put ?_ ?_ <;> first | exact R8_UL _ _ | assumption | (unfold R8; decide)) | (intro hg0; (repeat ((conv => whnf); (with_reducible refine And.intro ?_ ?_); · first | assumption | omega | (intro _; refine ⟨?_, ?_⟩ <;> first | assumption | omega | exact True.intro | (refine decide_eq_true ?_; omega) | (simp [appG, Cd.holds]; omega)) | (intro _; refine ⟨And.intro ?_ ?_, ?_⟩ <;> first | assumption | omega | (refine decide_eq_true ?_; omega)) | (simp only [hg0, Bool.and_self, Bool.true_and]; done) | (intro hg1; simp only [hg0, hg1, Bool.and_self, Bool.true_and]; done) | (simp [hg0]; done) | (intro hg0; rw [hl]; decide) | (refine R8_sub0 (R8_put (R8_UL _ _) ?_) (by omega); unfold R8; decide))); (conv => whnf); exact True.intro) | (intro hg0; rw [hl]; decide) | (refine R8_sub0 (R8_put (R8_UL _ _) ?_) (by omega); unfold R8; decide))
  conv => whnf
  refine ⟨[], ?_⟩
  have h1 : strI (fun j => UL (L8 (fun x => 0) 0 ++ putL (-1)) (0 + j)) (0 + (putL (-1)).length) = ⟨#[1]⟩ := by rw [put_m1]; rfl
  have h2 : getL (L8 (fun j => listI [1, 128].reverse (0 + j)) 2) = (64, 2, 0) := by decide
  have h3 : getL (L8 (fun x => 0) 0) = (0, 0, 2) := rfl
  have h4 : getT (L8 (fun j => put_ (UL (L8 (fun x => 0) 0 ++ putT (ls ⟨#[97, 98]⟩))) (0 + (putT (ls ⟨#[97, 98]⟩)).length) 1 (fun j => listI [9].reverse (0 + j)) (0 + j)) (0 + (putT (ls ⟨#[97, 98]⟩)).length + 1)) = ([97, 98], 3, 0) := by
    rw [put_ab]; decide
  have h5 : sb [97, 98] = ⟨#[97, 98]⟩ := rfl
  have h6 : (strI (fun j => UL (four (BitVec.ofInt 32 258)) (0 + j)) 4).toList == (⟨#[0, 0, 1, 2]⟩ : ByteArray).toList := by
    rw [show strI (fun j => UL (four (BitVec.ofInt 32 258)) (0 + j)) 4 = ⟨#[0, 0, 1, 2]⟩ from rfl, beq_self_eq_true]
  simp only [h1, h2, h3, h4, h5, h6, beq_self_eq_true]
  repeat ((conv => whnf); (with_reducible refine And.intro ?_ ?_); · first | with_reducible rfl | exact (Bool.and_false _).symm | (intro _ _; with_reducible rfl) | exact True.intro | assumption | (intro h; exact absurd h (by decide)) | omega | (intro _; omega) | (intro _; refine ⟨?_, True.intro⟩; omega) | (intro _; refine ⟨?_, True.intro⟩; intro _; omega) | (refine decide_eq_false ?_; omega) | (refine decide_eq_true ?_; omega) | (simp only [w_i64, w_u64, w_u32, w_u8]; omega) | exact fun j hj => (put_0 hj).symm | (intro j _; simp only [Nat.zero_add]; done) | (simp [appG]; done) | (simp [appG]; omega) | rfl | (intro hgd; (try replace hgd := of_decide_eq_true hgd); (repeat ((conv => whnf); (with_reducible refine And.intro ?_ ?_); · first | with_reducible rfl | exact (Bool.and_false _).symm | (intro _ _; with_reducible rfl) | exact True.intro | assumption | (intro h; exact absurd h (by decide)) | omega | (intro _; omega) | (intro _; refine ⟨?_, True.intro⟩; omega) | (intro _; refine ⟨?_, True.intro⟩; intro _; omega) | (refine decide_eq_false ?_; omega) | (refine decide_eq_true ?_; omega) | (simp only [w_i64, w_u64, w_u32, w_u8]; omega) | exact fun j hj => (put_0 hj).symm | (intro j _; simp only [Nat.zero_add]; done) | (simp [appG]; done) | (simp [appG]; omega) | rfl)); (conv => whnf); exact True.intro))
  conv => whnf
  exact True.intro
end Go.Proofs.Ytcgidcnmhclepaa
