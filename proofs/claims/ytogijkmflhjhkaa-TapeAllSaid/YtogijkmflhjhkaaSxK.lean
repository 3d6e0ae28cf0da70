/- The symbolic evaluator: any operation; calls; guards; a list of operations. Plain lemmas, no condition. -/
import Derived.Test.YtogijkmflhjhkaaSxJ
namespace Go.Sx
open Go.RowKit
set_option linter.unusedSimpArgs false

set_option linter.unusedVariables false
section
variable {P : Program} {W : Env} {w0 w : World} {F : Nat → Prop} {ρ : Rho} {s : St} {a : Act} {op : Oper} {T : TypeId → Option TyI} {C : FuncId → Option Summary} {r : Res}

/-- A call of f with these arguments does what Post says. -/
def Does (P : Program) (f : FuncId) (args : Array Value) (w : World) (Post : Value → World → Prop) : Prop :=
  ∀ (o : Oper) (a : Act) (next : Act → World → Prop) (Q : Exit → Act → World → Prop), (∀ v w', Post v w' → next (a.put o.dst v) w') → o.upon P a next Q ((callFunc f args).run P w)
theorem Does.of_calls {f : FuncId} {args : Array Value} {w : World} {Post : Value → World → Prop} (he : (callFunc f args).run P w = .ok (.enter f args) w)
    (h : Calls P f args w fun e w' => ∃ v, e = .returned v ∧ Post v w') : Does P f args w Post := by
  intro o a next Q hn
  rw [he]
  refine Calls.mono h fun e w' hh => ?_
  obtain ⟨v, rfl, hv⟩ := hh
  exact hn v w' hv

/-- What a summary says of its function. -/
def SumOk (P : Program) (f : FuncId) (S : Summary) : Prop :=
  ∀ (W : Env) (w0 : World) (F : Nat → Prop) (ρ : Rho) (s : St) (a : Act) (w : World) (l : List SA) (vs : List Value) (r : Res), R W w0 F ρ s a w → RelL ρ l vs → S l s = some r → r.p.holds →
    Does P f vs.toArray w fun v w' => ∃ ρ', Eff ρ ρ' s.heap s.next r.d r.next w w' ∧ ∀ sv, r.v = some sv → RelV ρ' sv v
def COk (P : Program) (C : FuncId → Option Summary) : Prop := ∀ f S, C f = some S → SumOk P f S

theorem relL_append : ∀ {l l' : List SA} {vs vs' : List Value}, RelL ρ l vs → RelL ρ l' vs' → RelL ρ (l ++ l') (vs ++ vs')
  | [], _, _, _, h, h' => by simp only [RelL] at h; subst h; exact h'
  | _ :: _, _, _, _, ⟨v, vs, e, h1, h2⟩, h' => by subst e; exact ⟨v, _, rfl, h1, relL_append h2 h'⟩

theorem act_call (h : R W w0 F ρ s a w) (hC : COk P C) {c : Call} {f : FuncId} {cap : List Value} {S : Summary} {l : List SA} {r : Res} (ho : op.op = .call c) (hx : execOp a.eval op = callFunc f (c.args.toList.map a.eval ++ cap).toArray)
    (hS : C f = some S) (hl : RelL ρ l (c.args.toList.map a.eval ++ cap)) (e : S l s = some r) (hp : r.p.holds) {p : Cd} : Ok P ρ s a w op { r with p := p } := by
  intro K Q hK
  unfold Oper.wp
  rw [hx]
  exact hC f S hS W w0 F ρ s a w l _ r h hl e hp op a K Q fun v w' hv => by obtain ⟨ρ', h1, h2⟩ := hv; exact hK v w' ρ' h1 h2

theorem act_ok (h : R W w0 F ρ s a w) (hT : TOk P T) (hC : COk P C) (e : act T C s op = some r) (hp : r.p.holds) : Ok P ρ s a w op r := by
  have e0 := e
  cases ho : op.op
  case move x => exact act_move h (.inl ho) e
  case assign x => exact act_move h (.inr ho) e
  case pick c x y => exact act_pick h ho e hp
  case alloc t => exact act_alloc h hT ho e hp
  case box t x => exact act_box h ho e hp
  case build t ps => exact act_build h hT ho e hp
  case buildSlice t n ps => exact act_buildSlice h hT ho e hp
  case load t x => exact act_load h hT ho e hp
  case store t x y => exact act_store h hT ho e hp
  case nilCheck x => exact act_nilCheck h ho e hp
  case binOp bop xt x y yt => exact act_binOp h hT ho e hp
  case unOp u t x => exact act_unOp h ho e hp
  case convert t u x => exact act_convert h hT ho e hp
  case makeFunc fn x y => exact act_makeFunc h ho e hp
  case makeSlice t x y => exact act_makeSlice h hT ho e hp
  case slice t x lo hi mx => exact act_slice h hT ho e hp
  case fieldAddr t x f => exact act_fieldAddr h hT ho e hp
  case indexAddr t x y => exact act_indexAddr h hT ho e hp
  case index t x y => exact act_index h hT ho e hp
  case extract x i => exact act_extract h ho e hp
  case call c =>
    cases hc : c.callee
    case builtin b =>
      cases b
      case len => exact act_len h hT ho hc e hp
      case min => exact act_min h ho hc e hp
      case max => exact act_max h ho hc e hp
      case append => exact act_append h hT ho hc e hp
      case copy => exact act_copy h hT ho hc e hp
      all_goals (simp only [act, ho, hc] at e; cases e)
    case invoke => simp only [act, ho, hc] at e; cases e
    case value x =>
      have clo : (match s.ev1 x with
          | some (p, .sc (.fn f t)) =>
            match C f, evArgs s c.args.toList with
            | some S, some (q, l) => match S (l ++ [.sc (.ptr t 0 0)]) s with
              | some ⟨rp, rv, rd, rn⟩ => some ⟨.and p (.and q rp), rv, rd, rn⟩
              | none => none
            | _, _ => none
          | _ => none) = some r → Ok P ρ s a w op r := by
        intro e
        split at e
        · rename_i p f t h1
          split at e
          · rename_i S q l hS hl
            split at e
            rotate_left
            · cases e
            rename_i rp rv rd rn e1
            injection e with e2
            subst e2
            obtain ⟨pl, g1, g2⟩ := ev1_ok h h1 hp.1
            refine act_call (cap := [.pointer (some ⟨pl.b, pl.f, none⟩)]) (r := ⟨rp, rv, rd, rn⟩) h hC ho ?_ hS (relL_append (l' := [.sc (.ptr t 0 0)]) (evArgs_ok h hl hp.2.1) ⟨_, [], rfl, ⟨pl, g1, by simp⟩, rfl⟩) e1 hp.2.2
            simp only [execOp, ho, resolve, hc, g2, Deferred.ofValue, pure_bind, invoke]
            congr 1
            apply Array.ext'
            simp
          · cases e
        · cases e
      cases x with
      | func f =>
        simp only [act, ho, hc] at e
        split at e
        · rename_i S p l hS hl
          split at e
          rotate_left
          · cases e
          rename_i rp rv rd rn e1
          injection e with e2
          subst e2
          refine act_call (cap := []) (r := ⟨rp, rv, rd, rn⟩) h hC ho ?_ hS (by simpa using evArgs_ok h hl hp.1) e1 hp.2
          simp only [execOp, ho, resolve, hc, Deferred.ofValue, Act.eval, pure_bind, invoke]
          congr 1
          apply Array.ext'
          simp
        · cases e
      | tmp t => simp only [act, ho, hc] at e; exact clo e
      | const v => simp only [act, ho, hc] at e; exact clo e
      | global g => simp only [act, ho, hc] at e; exact clo e
  all_goals (simp only [act, ho] at e; cases e)

end
end Go.Sx
