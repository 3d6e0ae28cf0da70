/- The symbolic evaluator: its operations are the model's (the simple ones). Plain lemmas, no condition. -/
import Derived.Test.YtogijkmflhjhkaaSxB
import Derived.Deep.MidRow
namespace Go.Sx
open Go.RowKit
set_option linter.unusedSimpArgs false
set_option linter.unusedVariables false

/-- What the table of types must say. -/
def TyD.ok (P : Program) (t : TypeId) (zero : List Seg) (size : Nat) : TyD → Prop
  | .int k => P.underlying t = some (.int k)
  | .bool => P.underlying t = some .bool
  | .str => P.underlying t = some .string
  | .slice e bytes z => P.underlying t = some (.slice e) ∧ ∃ ie ze, P.info? e = some ie ∧ ie.size = 1 ∧ ie.bytes = bytes ∧ ie.zero = some ze ∧ ze.oneCell' = true ∧
      (match z with | .ints k _ _ => ze = .int k 0 ∧ P.underlying e = some (.int k) | .one c => (∀ ρ, Rel1 ρ c ze) | .rows _ _ _ => False)
  | .array n e => P.underlying t = some (.array n e) ∧ (∃ ie, P.info? e = some ie ∧ ie.size = 1) ∧ P.eqGuardType P.depth t = false ∧ (∀ k f m, zero = [.ints k f m] → P.underlying e = some (.int k) ∧ m = n ∧ ∀ j, f j = 0) ∧ size = n
  | .struct fs => ∃ F, P.underlying t = some (.struct F) ∧ F.size = fs.length ∧ ∀ (i : Nat) x, fs[i]? = some x → ∃ f, F[i]? = some f ∧ f.offset = x.1 ∧ ∃ jf, P.info? f.type = some jf ∧ jf.size = x.2 ∧ jf.size ≠ 0
  | .ptr => ∃ e, P.underlying t = some (.pointer e)
def TOk (P : Program) (T : TypeId → Option TyI) : Prop :=
  ∀ t ti, T t = some ti → ti.d.ok P t ti.zero ti.size ∧ ∃ i z, P.info? t = some i ∧ i.size = ti.size ∧ i.zero = some z ∧ ∀ ρ, RelS ρ ti.zero z.cells.toList

section
variable {P : Program} {W : Env} {w0 w : World} {F : Nat → Prop} {ρ : Rho} {s : St} {a : Act} {op : Oper}

/-- The operation does what r says. -/
def Ok (P : Program) (ρ : Rho) (s : St) (a : Act) (w : World) (op : Oper) (r : Res) : Prop :=
  ∀ (K : Act → World → Prop) (Q : Exit → Act → World → Prop),
    (∀ v w' ρ', Eff ρ ρ' s.heap s.next r.d r.next w w' → (∀ sv, r.v = some sv → RelV ρ' sv v) → K (a.put op.dst v) w') → op.wp P a w K Q

theorem Eff.refl (ρ : Rho) (hp : List (Nat × SB)) (next : Nat) (w : World) : Eff ρ ρ hp next [] next w w :=
  ⟨Ext.refl _, Nat.le_refl _, by omega, Nat.le_refl _, rfl, rfl, rfl, fun _ _ h => .inl h, fun _ _ h => (by cases h), fun _ _ h => (by cases h), fun _ _ _ => rfl, fun _ _ _ _ _ _ _ _ _ h => (by cases h)⟩

/-- It only reads. -/
theorem ok_pure {p : Cd} {sv : SV} {v : Value} (hr : (execOp a.eval op).run P w = .ok (.value v) w) (hv : RelV ρ sv v) : Ok P ρ s a w op ⟨p, some sv, [], s.next⟩ := by
  intro K Q hK
  unfold Oper.wp
  rw [hr]
  exact hK v w ρ (Eff.refl _ _ _ _) (fun sv' h => by injection h with h; subst h; exact hv)

def Rho.set (ρ : Rho) (t : Nat) (pl : Pl) : Rho := { ρ with pl := fun u => if u = t then some pl else ρ u }
theorem Rho.set_ext {t : Nat} {pl : Pl} (h : ρ t = none) : Ext ρ (ρ.set t pl) := ⟨fun u p hu => by
  simp only [Rho.set]
  split
  · rename_i e; subst e; rw [h] at hu; cases hu
  · exact hu, rfl, rfl⟩
theorem Rho.set_same {t : Nat} {pl : Pl} : ρ.set t pl t = some pl := by simp [Rho.set]
theorem R.fresh (h : R W w0 F ρ s a w) : ρ s.next = none := by
  cases e : ρ s.next with
  | none => rfl
  | some pl => exact absurd (h.dom _ pl e).1 (h.free _ (Nat.le_refl _) (by omega))
theorem R.ne_next (h : R W w0 F ρ s a w) {t : Nat} {b : SB} (hb : getA s.heap t = some b) : t ≠ s.next := fun e => absurd (h.tags t b hb) (e ▸ h.free _ (Nat.le_refl _) (by omega))

/-- w' is w with one block more. -/
structure Push (w w' : World) (o : Obj) : Prop where
  heap : w'.heap = w.heap.push o
  os : w'.os = w.os
  tape : w'.tape = w.tape
  output : w'.output = w.output
theorem push_alloc (w : World) (o : Obj) : Push w (w.alloc o) o := ⟨rfl, rfl, rfl, rfl⟩
theorem Push.at {w' : World} {o : Obj} (h : Push w w' o) : w'.heap[w.heap.size]? = some o := by rw [h.heap]; simp
theorem Push.old {w' : World} {o : Obj} (h : Push w w' o) {i : Nat} (hi : i < w.heap.size) : w'.heap[i]? = w.heap[i]? := by rw [h.heap, Array.getElem?_push, if_neg (by omega)]
theorem Push.size {w' : World} {o : Obj} (h : Push w w' o) : w'.heap.size = w.heap.size + 1 := by rw [h.heap]; simp

theorem sat_new {l : List Seg} {vs post : List Value} {ty : TypeId} {t : Nat} {w' : World} {m : Bool} (h : R W w0 F ρ s a w) (hw : Push w w' (.cells (vs ++ post).toArray ty)) (hl : RelS ρ l vs) (ht : t = s.next) (hm : m = false → post = []) :
    Sat (ρ.set t ⟨w.heap.size, 0, (vs ++ post).length⟩) w' (.own ty l m) t :=
  ⟨_, vs, post, Rho.set_same, rfl, hw.at, rfl, hl.ext (Rho.set_ext (ht ▸ h.fresh)), hm⟩

/-- A new block, and nothing else. -/
theorem eff_new (h : R W w0 F ρ s a w) {w' : World} {o : Obj} {pl : Pl} {b : SB} (hw : Push w w' o) (hpl : pl.b = w.heap.size) (hs : Sat (ρ.set s.next pl) w' b s.next) :
    Eff ρ (ρ.set s.next pl) s.heap s.next [(s.next, b)] (s.next + 1) w w' := by
  have hget : ∀ t b', getA [(s.next, b)] t = some b' → t = s.next ∧ b' = b := by
    intro t b' hb
    simp only [getA] at hb
    split at hb
    · rename_i e; simp only [Nat.beq_eq] at e; injection hb with hb; exact ⟨e.symm, hb.symm⟩
    · cases hb
  refine ⟨Rho.set_ext h.fresh, by omega, by omega, by rw [hw.size]; omega, hw.os, hw.tape, hw.output, ?_, ?_, ?_, ?_, ?_⟩
  · intro t p hp
    simp only [Rho.set] at hp
    split at hp
    · rename_i e
      injection hp with hp
      subst hp
      exact .inr ⟨by omega, by omega, by rw [hpl, hw.size]; omega, fun _ _ _ => .inl (by omega)⟩
    · exact .inl hp
  · intro t b' hb
    obtain ⟨rfl, rfl⟩ := hget t b' hb
    exact hs
  · intro t b' hb
    obtain ⟨rfl, rfl⟩ := hget t b' hb
    exact .inl ⟨Nat.le_refl _, by omega⟩
  · intro i hi _
    exact hw.old hi
  · intro t t' b1 b2 hne _ _ _ _ h1 h2
    exact absurd ((hget t b1 h1).1.trans (hget t' b2 h2).1.symm) hne

/-- An operation that makes one block. -/
theorem ok_new (h : R W w0 F ρ s a w) {w' : World} {o : Obj} {pl : Pl} {b : SB} {p : Cd} {sv : SV} {v : Value} (hr : (execOp a.eval op).run P w = .ok (.value v) w') (hw : Push w w' o) (hpl : pl.b = w.heap.size)
    (hs : Sat (ρ.set s.next pl) w' b s.next) (hv : RelV (ρ.set s.next pl) sv v) : Ok P ρ s a w op ⟨p, some sv, [(s.next, b)], s.next + 1⟩ := by
  intro K Q hK
  unfold Oper.wp
  rw [hr]
  exact hK v w' _ (eff_new h hw hpl hs) (fun sv' h => by injection h with h; subst h; exact hv)

theorem ev_ok (h : R W w0 F ρ s a w) {x : Operand} {v : SV} (e : s.ev x = some v) : RelV ρ v (a.eval x) := by
  cases x with
  | tmp t => exact h.frame t v e
  | const c =>
    simp only [St.ev] at e
    unfold ofConst at e
    split at e <;> first | (injection e with e; subst e; first | rfl | exact .inl ⟨rfl, rfl, rfl, rfl⟩) | cases e
  | global g => cases e
  | func f => cases e
theorem ev1_ok (h : R W w0 F ρ s a w) {x : Operand} {p : Cd} {v : SA} (e : s.ev1 x = some (p, v)) (hp : p.holds) : RelA ρ v (a.eval x) := by
  unfold St.ev1 at e
  split at e
  · rename_i u hu; injection e with e; injection e with e1 e2; subst e2; exact ev_ok h hu
  · rename_i g u hu; injection e with e; injection e with e1 e2; subst e1; subst e2; exact (ev_ok h hu).1 hp
  · cases e

end
end Go.Sx
