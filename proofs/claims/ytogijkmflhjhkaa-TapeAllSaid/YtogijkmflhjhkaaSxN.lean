/- The symbolic evaluator: code, loops, functions. Definitions and plain lemmas, no condition. -/
import Derived.Test.YtogijkmflhjhkaaSxM
import Derived.Scope
namespace Go.Sx
open Go.RowKit
set_option linter.unusedSimpArgs false

set_option linter.unusedVariables false

inductive Out where
  | norm
  | exit (id : Nat)
  | ret
def Out.ex : Out → Exit
  | .norm => .normal
  | .exit id => .exit id
  | .ret => .ret

/-- What the state s says, the state t says too, with other tags: those below n stay. -/
def Le (n : Nat) (s t : St) : Prop := ∀ (W : Env) (w0 : World) (ρ : Rho) (a : Act) (w : World), W.lim = n → R W w0 (top s.next) ρ s a w → ∃ ρ', R W w0 (top t.next) ρ' t a w

/-- A branch. -/
structure Br (b : Bool) (A B : Prop) : Prop where
  t : b = true → A
  f : b = false → B
theorem Br.mono {b : Bool} {A B A' B' : Prop} (h : Br b A B) (ha : A → A') (hb : B → B') : Br b A' B' := ⟨fun e => ha (h.t e), fun e => hb (h.f e)⟩
/-- A loop, k rounds of which are gone one by one; then: a family of states that a round keeps, and a measure. -/
def loopK (n : Nat) (R : St → (Out → St → Prop) → Prop) : Nat → St → (Out → St → Prop) → Prop
  | 0, s, K => ∃ (X : Type) (I : X → St) (J : X → Prop) (μ : X → Nat), (∃ x, J x ∧ Le n s (I x)) ∧ ∀ x, J x → R (I x) fun o s' => match o with
    | .norm => ∃ x', (J x' ∧ μ x' < μ x) ∧ Le n s' (I x')
    | .exit j => K (.exit j) s'
    | .ret => K .ret s'
  | k + 1, s, K => R s fun o s' => match o with
    | .norm => loopK n R k s' K
    | .exit j => K (.exit j) s'
    | .ret => K .ret s'
/-- Code, from a state on: what it leads to meets K. -/
def run (T : TypeId → Option TyI) (C : FuncId → Option Summary) (n : Nat) : Code → St → (Out → St → Prop) → Prop
  | .skip, s, K => K .norm s
  | .region _ ops d, s, K =>
    match d with
    | true => St.draw T C ops.toList s (K .norm)
    | false => St.steps T C ops.toList ops.toList s (K .norm)
  | .seq x y, s, K => run T C n x s fun o s' => match o with
    | .norm => run T C n y s' K
    | .exit j => K (.exit j) s'
    | .ret => K .ret s'
  | .cond c x y, s, K =>
    match s.ev1 c with
    | some (p, .sc (.bool b)) => p.then (Br b (run T C n x s K) (run T C n y s K))
    | _ => False
  | .block id c, s, K => run T C n c s fun o s' => match o with
    | .norm => K .norm s'
    | .exit j => match Nat.beq j id with | true => K .norm s' | false => K (.exit j) s'
    | .ret => K .ret s'
  | .loop c, s, K => ∃ k, loopK n (run T C n c) k s K
  | .exit id, s, K => K (.exit id) s
  | .label _, s, K => K .norm s
  | .ret, s, K => K .ret s
  | .scope c, s, K => run T C n c s K
  | _, _, _ => False

section
variable {P : Program} {W : Env} {w0 w : World} {F : Nat → Prop} {ρ : Rho} {s : St} {a : Act} {op : Oper} {T : TypeId → Option TyI} {C : FuncId → Option Summary} {r : Res}

theorem R.drawn (h : R W w0 F ρ s a w) (n : Nat) : R W w0 F ρ s a { w with drawn := n } :=
  ⟨h.size, h.defers, h.frame, fun t b hb => Sat.keep (w := w) (w' := { w with drawn := n }) (fun _ _ => rfl) (h.heap t b hb), h.dom, h.inj, h.mine, h.tags, ⟨h.chg.os, h.chg.tape, h.chg.output, h.chg.size, h.chg.block⟩, h.free, h.base, h.imm, h.isep, h.same⟩

/-- From a round's beginning on. -/
def LoopIn (P : Program) (c : Code) (Q : Exit → Act → World → Prop) (a : Act) (w : World) : Prop :=
  ∀ (b : Frame) (k : List Item) (cs : List Frame), ∃ e a' w', Q e a' w' ∧ Arrives P (lone (b.at a (.code c :: .inLoop c :: k)) cs w) b k cs e a' w'
theorem loopIn_wp {c : Code} {Q : Exit → Act → World → Prop} (h : LoopIn P c Q a w) : (Code.loop c).wp P Q a w := by
  intro b k cs
  obtain ⟨e, a', w', hq, harr⟩ := h b k cs
  exact ⟨e, a', w', hq, .of_steps (.one step_loop) harr⟩
theorem loopIn_step {c : Code} {Q : Exit → Act → World → Prop} (h : c.wp P (Exit.then (LoopIn P c Q) Q) a w) : LoopIn P c Q a w := by
  intro b k cs
  obtain ⟨e, a₁, w₁, hq, harr⟩ := h b (.inLoop c :: k) cs
  cases e with
  | normal =>
    obtain ⟨e₂, a₂, w₂, hq₂, harr₂⟩ := hq b k cs
    exact ⟨e₂, a₂, w₂, hq₂, .of_steps (Steps.trans harr (.one step_inLoop)) harr₂⟩
  | exit id => exact ⟨_, a₁, w₁, hq, .pass (x := .inLoop c) rfl (fun _ _ => .inl (by simp)) harr⟩
  | goto l => exact ⟨_, a₁, w₁, hq, .pass (x := .inLoop c) rfl (fun _ _ => .inl (by simp)) harr⟩
  | ret => exact ⟨_, a₁, w₁, hq, .pass (x := .inLoop c) rfl (fun _ _ => .inl (by simp)) harr⟩
  | panic ch => exact ⟨_, a₁, w₁, hq, .pass (x := .inLoop c) rfl (fun _ _ => .inl (by simp)) harr⟩
  | outgrown => exact ⟨_, a₁, w₁, hq, .pass (x := .inLoop c) rfl (fun _ _ => .inl (by simp)) harr⟩
theorem loopIn_n {c : Code} {Q : Exit → Act → World → Prop} (I : Nat → Act → World → Prop)
    (round : ∀ n a w, I n a w → c.wp P (Exit.then (fun a' w' => ∃ m, m < n ∧ I m a' w') Q) a w) : ∀ (n : Nat) (a : Act) (w : World), I n a w → LoopIn P c Q a w := by
  intro n
  induction n using Nat.strongRecOn with
  | ind n ih =>
    intro a w hI
    refine loopIn_step (wp_mono (round n a w hI) fun e a' w' he => ?_)
    cases e with
    | normal =>
      obtain ⟨m, hm, hI'⟩ := he
      exact ih m hm a' w' hI'
    | exit id => exact he
    | goto l => exact he
    | ret => exact he
    | panic ch => exact he
    | outgrown => exact he

/-- A loop, if a round is understood. -/
theorem loopK_ok {n : Nat} (hW : W.lim = n) {c : Code} {Rr : St → (Out → St → Prop) → Prop}
    (hR0 : ∀ (s : St) (ρ : Rho) (a : Act) (w : World) (K : Out → St → Prop) (Q : Exit → Act → World → Prop), Rr s K → R W w0 (top s.next) ρ s a w → (∀ o s' ρ' a' w', K o s' → R W w0 (top s'.next) ρ' s' a' w' → Q o.ex a' w') → c.wp P Q a w) :
    ∀ (k : Nat) (s : St) (ρ : Rho) (a : Act) (w : World) (K : Out → St → Prop) (Q : Exit → Act → World → Prop), loopK n Rr k s K → R W w0 (top s.next) ρ s a w → (∀ o s' ρ' a' w', K o s' → R W w0 (top s'.next) ρ' s' a' w' → Q o.ex a' w') → LoopIn P c Q a w
  | 0, s, ρ, a, w, K, Q, h, hR, hK => by
    obtain ⟨X, I, J, μ, ⟨x, hJ, hx⟩, hround⟩ := h
    obtain ⟨ρ0, hR1⟩ := hx W w0 ρ a w hW hR
    refine loopIn_n (fun m a w => ∃ x ρ, J x ∧ μ x = m ∧ R W w0 (top (I x).next) ρ (I x) a w) (fun m a w ⟨x, ρ, hJ, hn, hR⟩ => ?_) (μ x) a w ⟨x, ρ0, hJ, rfl, hR1⟩
    refine hR0 (I x) ρ a w _ _ (hround x hJ) hR fun o s' ρ' a' w' hk hR' => ?_
    cases o with
    | norm =>
      obtain ⟨x', ⟨h0, h1⟩, h2⟩ := hk
      obtain ⟨ρ2, hR2⟩ := h2 W w0 ρ' a' w' hW hR'
      exact ⟨μ x', hn ▸ h1, x', ρ2, h0, rfl, hR2⟩
    | exit j => exact hK (.exit j) s' ρ' a' w' hk hR'
    | ret => exact hK .ret s' ρ' a' w' hk hR'
  | k + 1, s, ρ, a, w, K, Q, h, hR, hK => by
    refine loopIn_step (hR0 s ρ a w _ _ h hR fun o s' ρ' a' w' hk hR' => ?_)
    cases o with
    | norm => exact loopK_ok hW hR0 k s' ρ' a' w' K Q hk hR' hK
    | exit j => exact hK (.exit j) s' ρ' a' w' hk hR'
    | ret => exact hK .ret s' ρ' a' w' hk hR'

theorem run_ok {n : Nat} (hW : W.lim = n) (hT : TOk P T) (hC : COk P C) (hm : P.follows .mixedOrders = true) : ∀ (c : Code) (s : St) (ρ : Rho) (a : Act) (w : World) (K : Out → St → Prop) (Q : Exit → Act → World → Prop), run T C n c s K → R W w0 (top s.next) ρ s a w →
    (∀ o s' ρ' a' w', K o s' → R W w0 (top s'.next) ρ' s' a' w' → Q o.ex a' w') → c.wp P Q a w
  | .skip, s, ρ, a, w, K, Q, h, hR, hK => wp_skip (hK .norm s ρ a w h hR)
  | .region id ops d, s, ρ, a, w, K, Q, h, hR, hK => by
    cases d with
    | true =>
      simp only [run] at h
      refine wp_region_any hm ?_
      have := draw_ok (Q := Q) hT hC h (hR.drawn (w.drawn + 1)) (fun s' ρ' a' w' hk hR' => hK .norm s' ρ' a' w' hk hR')
      simpa using this
    | false =>
      simp only [run] at h
      have hl := wpOps_eq_wpList (P := P) (ops := ops) (Q := Q) ops.toList 0 (by simp)
      refine wp_region ?_
      rw [List.range_eq_range', show ops.size = ops.toList.length by simp, hl]
      have := steps_ok (Q := Q) hT hC ops.toList s ρ a w (K .norm) h hR (fun s' ρ' a' w' hk hR' => hK .norm s' ρ' a' w' hk hR')
      simpa using this
  | .seq x y, s, ρ, a, w, K, Q, h, hR, hK => by
    simp only [run] at h
    refine wp_seq (run_ok hW hT hC hm x s ρ a w _ _ h hR fun o s' ρ' a' w' hk hR' => ?_)
    cases o with
    | norm => exact run_ok hW hT hC hm y s' ρ' a' w' K Q hk hR' hK
    | exit j => exact hK (.exit j) s' ρ' a' w' hk hR'
    | ret => exact hK .ret s' ρ' a' w' hk hR'
  | .cond c x y, s, ρ, a, w, K, Q, h, hR, hK => by
    simp only [run] at h
    split at h
    · rename_i p b he
      rw [Cd.then_iff] at h
      have hv := ev1_ok hR he h.1
      simp only [RelA, Rel1] at hv
      exact wp_cond_split hv (fun hb => run_ok hW hT hC hm x s ρ a w K Q (h.2.t hb) hR hK) (fun hb => run_ok hW hT hC hm y s ρ a w K Q (h.2.f hb) hR hK)
    · exact h.elim
  | .block id c, s, ρ, a, w, K, Q, h, hR, hK => by
    simp only [run] at h
    refine wp_block (run_ok hW hT hC hm c s ρ a w _ _ h hR fun o s' ρ' a' w' hk hR' => ?_)
    cases o with
    | norm => exact hK .norm s' ρ' a' w' hk hR'
    | exit j =>
      simp only [Out.ex, Exit.inBlock]
      simp only at hk
      split at hk
      · rename_i hj; rw [if_pos (by simpa using hj)]; exact hK .norm s' ρ' a' w' hk hR'
      · rename_i hj; rw [if_neg (fun e => by subst e; simp at hj)]; exact hK (.exit j) s' ρ' a' w' hk hR'
    | ret => exact hK .ret s' ρ' a' w' hk hR'
  | .loop c, s, ρ, a, w, K, Q, h, hR, hK => by
    simp only [run] at h
    obtain ⟨k, h⟩ := h
    exact loopIn_wp (loopK_ok hW (fun s ρ a w K Q h hR hK => run_ok hW hT hC hm c s ρ a w K Q h hR hK) k s ρ a w K Q h hR hK)
  | .exit id, s, ρ, a, w, K, Q, h, hR, hK => wp_exit (hK (.exit id) s ρ a w h hR)
  | .label l, s, ρ, a, w, K, Q, h, hR, hK => wp_label (hK .norm s ρ a w h hR)
  | .ret, s, ρ, a, w, K, Q, h, hR, hK => wp_ret (hK .ret s ρ a w h hR)
  | .rangeFunc _ _ _ _, _, _, _, _, _, _, h, _, _ => h.elim
  | .scope c, s, ρ, a, w, K, Q, h, hR, hK => wp_scope_straight (run_ok hW hT hC hm c s ρ a w K (Exit.noGoto Q) h hR fun o s' ρ' a' w' hk hR' => by cases o <;> exact hK _ s' ρ' a' w' hk hR')
  | .goto _, _, _, _, _, _, _, h, _, _ => h.elim
  | .refuse _, _, _, _, _, _, _, h, _, _ => h.elim

/-- A weaker K. -/
theorem steps_mono {ops : List Oper} {K K' : St → Prop} (h : ∀ s, K s → K' s) : ∀ (l : List Oper) (s : St), St.steps T C ops l s K → St.steps T C ops l s K'
  | [], s, hs => h s hs
  | o :: l, s, hs => by
    simp only [St.steps] at hs ⊢
    split at hs
    · rw [Cd.then_iff] at hs ⊢; exact ⟨hs.1, steps_mono h l _ hs.2⟩
    · exact hs.elim
theorem drawGo_mono {ops : List Oper} {s0 : St} {I : List (Nat × Pre)} {K K' : List (Nat × Rc) → Prop} (h : ∀ s, K s → K' s) : ∀ (l : List Oper) (i : Nat) (recs : List (Nat × Rc)), drawGo T C ops s0 I i l recs K → drawGo T C ops s0 I i l recs K'
  | [], i, recs, hs => h _ hs
  | o :: l, i, recs, hs => by
    simp only [drawGo, forceL_eq] at hs ⊢
    split at hs
    · exact hs.elim
    · split at hs
      · split at hs
        · rw [Cd.then_iff] at hs ⊢; exact ⟨hs.1, drawGo_mono h l _ _ hs.2⟩
        · exact hs.elim
      · exact hs.elim
theorem run_mono {n : Nat} : ∀ (c : Code) (s : St) (K K' : Out → St → Prop), (∀ o s, K o s → K' o s) → run T C n c s K → run T C n c s K'
  | .skip, s, K, K', h, hs => h _ _ hs
  | .region id ops d, s, K, K', h, hs => by
    cases d with
    | true =>
      cases s
      simp only [run, St.draw] at hs ⊢
      obtain ⟨I, m, hs⟩ := hs
      refine ⟨I, m, ?_⟩
      split at hs
      · exact drawGo_mono (fun recs hr => by simp only [forceL_eq] at hr ⊢; exact h _ _ hr) _ _ _ hs
      · exact hs.elim
    | false => exact steps_mono (fun _ => h _ _) _ _ hs
  | .seq x y, s, K, K', h, hs => by
    simp only [run] at hs ⊢
    refine run_mono x s _ _ (fun o s' hk => ?_) hs
    cases o with
    | norm => exact run_mono y s' K K' h hk
    | exit j => exact h _ _ hk
    | ret => exact h _ _ hk
  | .cond c x y, s, K, K', h, hs => by
    simp only [run] at hs ⊢
    split at hs
    · rw [Cd.then_iff] at hs ⊢; exact ⟨hs.1, fun hb => run_mono x s K K' h (hs.2.t hb), fun hb => run_mono y s K K' h (hs.2.f hb)⟩
    · exact hs.elim
  | .block id c, s, K, K', h, hs => by
    simp only [run] at hs ⊢
    refine run_mono c s _ _ (fun o s' hk => ?_) hs
    cases o with
    | norm => exact h _ _ hk
    | exit j =>
      simp only at hk ⊢
      split at hk
      · exact h _ _ hk
      · exact h _ _ hk
    | ret => exact h _ _ hk
  | .loop c, s, K, K', h, hs => by
    simp only [run] at hs ⊢
    obtain ⟨k, hs⟩ := hs
    refine ⟨k, ?_⟩
    induction k generalizing s with
    | zero =>
      obtain ⟨X, I, J, μ, hx, hr⟩ := hs
      refine ⟨X, I, J, μ, hx, fun x hJ => run_mono c (I x) _ _ (fun o s' hk => ?_) (hr x hJ)⟩
      cases o with
      | norm => exact hk
      | exit j => exact h _ _ hk
      | ret => exact h _ _ hk
    | succ k ih =>
      refine run_mono c s _ _ (fun o s' hk => ?_) hs
      cases o with
      | norm => exact ih s' hk
      | exit j => exact h _ _ hk
      | ret => exact h _ _ hk
  | .exit id, s, K, K', h, hs => h _ _ hs
  | .label l, s, K, K', h, hs => h _ _ hs
  | .ret, s, K, K', h, hs => h _ _ hs
  | .rangeFunc _ _ _ _, _, _, _, _, hs => hs.elim
  | .scope c, s, K, K', h, hs => run_mono c s K K' h hs
  | .goto _, _, _, _, _, hs => hs.elim
  | .refuse _, _, _, _, _, hs => hs.elim

end
end Go.Sx
