/- The table of what called functions do. Plain lemmas, no condition. -/
import Derived.Test.YtogijkmflhjhkaaSxS
namespace Go.Sx
open Go.RowKit
set_option linter.unusedSimpArgs false
set_option linter.unusedVariables false
def tab (l : List (FuncId × Summary)) (f : FuncId) : Option Summary := getA l f
theorem cok_nil {P : Program} : COk P (tab []) := fun _ _ h => by cases h
theorem cok_cons {P : Program} {f : FuncId} {S : Summary} {l : List (FuncId × Summary)} (hS : SumOk P f S) (h : COk P (tab l)) : COk P (tab ((f, S) :: l)) := by
  intro g S' e
  unfold tab at e
  rw [getA_cons] at e
  split at e
  · rename_i hg; subst hg; injection e with e; subst e; exact hS
  · exact h g S' e
/-- One of two. -/
def orS (S S' : Summary) : Summary := fun l s => match S l s with | some r => some r | none => S' l s
theorem orS_ok {P : Program} {f : FuncId} {S S' : Summary} (h : SumOk P f S) (h' : SumOk P f S') : SumOk P f (orS S S') := by
  intro W w0 F ρ s a w l vs r hR hl e hp
  unfold orS at e
  split at e
  · rename_i r' e'; injection e with e; subst e; exact h W w0 F ρ s a w l vs _ hR hl e' hp
  · exact h' W w0 F ρ s a w l vs _ hR hl e hp
/-- A function's condition, at hand. -/
theorem FSound.imp {P : Program} {f : FuncId} {A : List SA} {H : List (Nat × SB)} {n : Nat} {p : Cd} {v : Option SV} {d : List (Nat × SB)} {m : Nat} (h : p.holds → FSound P f A H n ⟨.tt, v, d, m⟩) : FSound P f A H n ⟨p, v, d, m⟩ :=
  fun ρ w vs hg hv hp => h hp ρ w vs hg hv trivial
theorem w_i64 (x : Int) : IntKind.i64.wrap x = (x + 9223372036854775808) % 18446744073709551616 - 9223372036854775808 := by
  have e1 : (2 : Int) ^ 64 = 18446744073709551616 := by decide
  have e2 : (2 : Int) ^ (64 - 1) = 9223372036854775808 := by decide
  simp only [IntKind.wrap, IntKind.signed, IntKind.bits, Bool.true_and, decide_eq_true_eq, e1, e2]
  split <;> omega
theorem w_u64 (x : Int) : IntKind.u64.wrap x = x % 18446744073709551616 := by
  have e1 : (2 : Int) ^ 64 = 18446744073709551616 := by decide
  simp only [IntKind.wrap, IntKind.signed, IntKind.bits, Bool.false_and, Bool.false_eq_true, if_false, e1]
theorem w_u32 (x : Int) : IntKind.u32.wrap x = x % 4294967296 := by
  have e1 : (2 : Int) ^ 32 = 4294967296 := by decide
  simp only [IntKind.wrap, IntKind.signed, IntKind.bits, Bool.false_and, Bool.false_eq_true, if_false, e1]
theorem w_u8 (x : Int) : IntKind.u8.wrap x = x % 256 := by
  have e1 : (2 : Int) ^ 8 = 256 := by decide
  simp only [IntKind.wrap, IntKind.signed, IntKind.bits, Bool.false_and, Bool.false_eq_true, if_false, e1]
end Go.Sx
