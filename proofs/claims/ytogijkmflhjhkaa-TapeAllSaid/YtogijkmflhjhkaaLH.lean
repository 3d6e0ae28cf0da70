/- What the laws' walks share: truths, arrays held against each other, pieces. Plain lemmas, no condition. -/
import Derived.Test.YtogijkmflhjhkaaLst
import Derived.Test.YtogijkmflhjhkaaSha
namespace Go.Proofs.Ytogijkmflhjhkaa
open Go.Sx Go.RowKit
set_option linter.unusedSimpArgs false
set_option linter.unusedVariables false

abbrev isTrue : Res := ⟨.tt, some (.sa (.sc (.bool true))), [], 0⟩
theorem eqI_self (n : Nat) (f : Nat → Int) : eqI n f f = true := by simp [eqI]
theorem eqI_of {n : Nat} {a b : List B8} (h : a = b) : eqI n (UL a) (UL b) = true := by subst h; exact eqI_self _ _
theorem eqI_dec {n : Nat} {a b : List B8} (ha : a.length = n) (hb : b.length = n) : eqI n (UL a) (UL b) = decide (a = b) := by
  by_cases h : a = b
  · rw [eqI_of h, decide_eq_true h]
  · rw [decide_eq_false h]
    cases hq : eqI n (UL a) (UL b) with
    | false => rfl
    | true =>
      exfalso
      apply h
      refine list_ext 0 (by omega) fun i hi => ?_
      unfold eqI at hq
      rw [List.all_eq_true] at hq
      have := hq i (by simp; omega)
      exact U_inj (by simpa [UL] using this)

theorem orF {a b : Bool} (h : cond a true b = false) : a = false ∧ b = false := by cases a <;> simp_all
theorem orT {a b : Bool} (h : cond a true b = true) : a = true ∨ b = true := by cases a <;> simp_all
theorem andT {a b : Bool} (h : cond a b false = true) : a = true ∧ b = true := by cases a <;> simp_all
theorem andF {a b : Bool} (h : cond a b false = false) : a = false ∨ b = false := by cases a <;> simp_all
theorem andI {a b : Bool} (ha : a = true) (hb : b = true) : cond a b false = true := by rw [ha, hb]; rfl
theorem cut_join (G : Nat → Int) {c n : Nat} (h : c ≤ n) : L8 (fun j => G (0 + Int.toNat 0 + j)) (c - Int.toNat 0) ++ (L8 (fun _ => 0) 0 ++ L8 (fun j => G (0 + c + j)) (n - c)) = L8 G n := by
  have e1 : L8 (fun j => G (0 + Int.toNat 0 + j)) (c - Int.toNat 0) = (L8 G n).take c := by
    rw [show (fun j => G (0 + Int.toNat 0 + j)) = G from funext fun j => by rw [show 0 + Int.toNat 0 + j = j by simp], show c - Int.toNat 0 = c from rfl, L8_take G n c h]
  have e2 : L8 (fun j => G (0 + c + j)) (n - c) = (L8 G n).drop c := by
    rw [show (fun j => G (0 + c + j)) = fun j => G (c + j) from funext fun j => by rw [Nat.zero_add], L8_drop]
  rw [e1, e2]
  exact List.take_append_drop _ _
theorem cut_R1 {G : Nat → Int} {c n : Nat} (hR : R8 G n) (h : c ≤ n) : R8 (fun j => G (0 + Int.toNat 0 + j)) (c - Int.toNat 0) := fun j hj => by
  show 0 ≤ G (0 + Int.toNat 0 + j) ∧ G (0 + Int.toNat 0 + j) < 256
  have hj : j < c := hj
  rw [show 0 + Int.toNat 0 + j = j by simp]; exact hR j (by omega)
theorem cut_R2 {G : Nat → Int} {c n : Nat} (hR : R8 G n) (h : c ≤ n) : R8 (fun j => G (0 + c + j)) (n - c) := fun j hj => by
  show 0 ≤ G (0 + c + j) ∧ G (0 + c + j) < 256
  exact hR _ (by omega)
theorem cut_R0 {G : Nat → Int} {n : Nat} (hR : R8 G n) : R8 (fun j => G (0 + j)) n := fun j hj => by
  show 0 ≤ G (0 + j) ∧ G (0 + j) < 256
  exact hR _ (by omega)
end Go.Proofs.Ytogijkmflhjhkaa
