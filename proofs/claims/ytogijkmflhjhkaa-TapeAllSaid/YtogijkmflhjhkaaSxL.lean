/- The symbolic evaluator: a step; a list of operations, in the text's order. Plain lemmas, no condition. -/
import Derived.Test.YtogijkmflhjhkaaSxK
namespace Go.Sx
open Go.RowKit
set_option linter.unusedSimpArgs false

set_option linter.unusedVariables false
section
variable {P : Program} {W : Env} {w0 w : World} {F : Nat → Prop} {ρ : Rho} {s : St} {a : Act} {op : Oper} {T : TypeId → Option TyI} {C : FuncId → Option Summary} {r : Res}

/-- One frame entry more. -/
theorem R.put (h : R W w0 F ρ s a w) {i : Nat} {v : SV} {u : Value} (hi : i < s.size) (hv : RelV ρ v u) : R W w0 F ρ { s with frame := (i, v) :: s.frame } (a.put (some i) u) w := by
  refine ⟨?_, ?_, ?_, h.heap, h.dom, h.inj, h.mine, h.tags, h.chg, h.free, h.base, h.imm, h.isep, h.same⟩
  · simp [Act.put, h.size]
  · simp [Act.put, h.defers]
  · intro j v' hj
    rw [getA_cons] at hj
    rw [Act.getD_put (by rw [h.size]; exact hi)]
    by_cases hij : i = j
    · subst hij; rw [if_pos rfl] at hj ⊢; injection hj with hj; subst hj; exact hv
    · rw [if_neg hij] at hj ⊢; exact h.frame j v' hj

theorem put_ok (h : R W w0 F ρ s a w) {d : Option Nat} {v : Option SV} {u : Value} {s' : St} (e : s.put d v = some s') (hv : ∀ sv, v = some sv → RelV ρ sv u) : R W w0 F ρ s' (a.put d u) w := by
  unfold St.put at e
  split at e
  · injection e with e; subst e; exact h
  · split at e
    · rename_i hi
      cases s with
      | mk sz fr hp nx =>
      injection e with e; subst e
      exact h.put (Nat.le_of_ble_eq_true hi) (hv _ rfl)
    · cases e
  · cases e

theorem R.congrF {F' : Nat → Prop} (h : R W w0 F ρ s a w) (hF : ∀ t, F t ↔ F' t) : R W w0 F' ρ s a w := by
  have : F = F' := funext fun t => propext (hF t)
  exact this ▸ h

theorem put_res {d : Option Nat} {v : Option SV} {s1 : St} (e : s.put d v = some s1) (hp : List (Nat × SB)) (n : Nat) : { s with heap := hp, next := n }.put d v = some { s1 with heap := hp, next := n } := by
  unfold St.put at e ⊢
  cases d with
  | none => simp only at e ⊢; injection e with e; subst e; rfl
  | some i =>
    cases v with
    | none => cases e
    | some v =>
      simp only at e ⊢
      split at e
      · rename_i hi
        cases s with
        | mk sz fr hp nx => injection e with e; subst e; rfl
      · cases e

/-- An operation without a guard. -/
theorem res_ok (h : R W w0 F ρ s a w) {K : Act → World → Prop} {Q : Exit → Act → World → Prop} {s' : St} (ho : Ok P ρ s a w op r) (e : s.put op.dst r.v = some s') {next'' : Nat} (hfree : ∀ t, next'' ≤ t → t < next'' + 16 → ¬ used F s.next r.next t)
    (hK : ∀ ρ' a' w', R W w0 (used F s.next r.next) ρ' { s' with heap := r.d ++ s.heap, next := next'' } a' w' → Ext ρ ρ' → K a' w') : op.wp P a w K Q := by
  refine ho K Q fun v w' ρ' he hv => hK ρ' _ w' ?_ he.ext
  have h1 := h.eff he h.free hfree
  have hput : { s with heap := r.d ++ s.heap, next := next'' }.put op.dst r.v = some { s' with heap := r.d ++ s.heap, next := next'' } := by
    exact put_res e _ _
  exact put_ok h1 hput hv

/-- The tags below next are in use, no other one. -/
def top (n : Nat) (t : Nat) : Prop := t < n
theorem used_top {n n' : Nat} (h : n ≤ n') (t : Nat) : used (top n) n n' t ↔ top n' t := by unfold used top; omega
theorem free_top (n : Nat) (t : Nat) (h : n ≤ t) : ¬ top n t := by unfold top; omega

/-- The guard, as it is. -/
theorem guard_ok (h : R W w0 F ρ s a w) {ops : List Oper} {g : Nat × Bool} {b : Bool} (e : s.guard ops g = some b) : (yielded ops.toArray a.tmps g.1 == some g.2) = b := by
  have hd : ∀ (d : Nat) (x : Value), a.tmps.getD d undef = x → x ≠ undef → a.tmps[d]? = some x := by
    intro d x hx hne
    rw [Array.getD_eq_getD_getElem?] at hx
    cases hq : a.tmps[d]? with
    | none => rw [hq] at hx; exact absurd hx.symm hne
    | some y => rw [hq] at hx; simp at hx; rw [hx]
  unfold St.guard at e
  split at e
  · cases e
  · rename_i d hd1
    have hopd : ((ops.toArray[g.1]?).bind (·.dst)) = some d := by simpa using hd1
    split at e
    · rename_i b' hf
      have hb := h.frame d _ hf
      simp only [RelV, RelA, Rel1] at hb
      have := hd d _ hb (by simp [undef])
      simp only [yielded, hopd, Option.bind_some, this]
      split at e <;> (rename_i hg2; injection e with e; subst e; rw [hg2]; cases b' <;> rfl)
    · rename_i h' b' hf
      have hb := h.frame d _ hf
      simp only [RelV, RelA, Rel1] at hb
      cases h'
      · have hu := hb.2 rfl
        simp only [yielded, hopd, Option.bind_some]
        rw [Array.getD_eq_getD_getElem?] at hu
        cases hq : a.tmps[d]? with
        | none => split at e <;> (rename_i hg2; simp only [Option.some.injEq] at e; rw [hg2, ← e] <;> rfl)
        | some y => rw [hq] at hu; simp at hu; subst hu; split at e <;> (rename_i hg2; simp only [Option.some.injEq] at e; rw [hg2, ← e] <;> rfl)
      · have := hd d _ (hb.1 rfl) (by simp [undef])
        simp only [yielded, hopd, Option.bind_some, this]
        split at e <;> (rename_i hg2; injection e with e; subst e; rw [hg2]; cases b' <;> rfl)
    · cases e

theorem getA_gdAll (g : Bool) : ∀ (d : List (Nat × SB)) (t : Nat), getA (gdAll g d) t = (getA d t).map (.gd g)
  | [], t => rfl
  | (j, b) :: r, t => by
    simp only [gdAll]
    rw [getA_cons, getA_cons]
    by_cases h : j = t
    · rw [if_pos h, if_pos h]; rfl
    · rw [if_neg h, if_neg h]; exact getA_gdAll g r t
theorem newOnly_spec {hp : List (Nat × SB)} {n m : Nat} : ∀ {d : List (Nat × SB)}, newOnly hp n m d = true → ∀ t b, getA d t = some b → (n ≤ t ∧ t < m) ∨ (b = .dead ∧ ∃ b0, getA hp t = some b0)
  | [], _, t, b, h => by cases h
  | (j, v) :: r, hn, t, b, h => by
    simp only [newOnly, Bool.and_eq_true] at hn
    simp only [getA] at h
    split at h
    · rename_i e
      simp only [Nat.beq_eq] at e
      subst e
      injection h with h
      subst h
      obtain ⟨h1, _⟩ := hn
      split at h1
      · rename_i hc
        simp only [Bool.and_eq_true] at hc
        exact .inl ⟨Nat.le_of_ble_eq_true hc.1, Nat.le_of_ble_eq_true hc.2⟩
      · split at h1
        · rename_i b0 hg
          exact .inr ⟨rfl, _, hg⟩
        · cases h1
    · exact newOnly_spec hn.2 t b h

/-- Another list of blocks that says no more. -/
theorem R.conv (h : R W w0 F ρ s a w) {hp : List (Nat × SB)} (hh : ∀ t b', getA hp t = some b' → ∃ b, getA s.heap t = some b ∧ (Sat ρ w b t → Sat ρ w b' t) ∧ (b'.isOwn = true → b.isOwn = true) ∧ (b'.live = true → b.live = true)) :
    R W w0 F ρ { s with heap := hp } a w := by
  refine ⟨h.size, h.defers, h.frame, ?_, h.dom, ?_, ?_, ?_, h.chg, h.free, h.base, h.imm, ?_, h.same⟩
  · intro t b' hb
    obtain ⟨b, g1, g2, _⟩ := hh t b' hb
    exact g2 (h.heap t b g1)
  · intro t t' b b' hne hb hb' ho hl
    obtain ⟨c, g1, _, g2, _⟩ := hh t b hb
    obtain ⟨c', g1', _, _, g2'⟩ := hh t' b' hb'
    exact h.inj t t' c c' hne g1 g1' (g2 ho) (g2' hl)
  · intro t b pl hb ho
    obtain ⟨c, g1, _, g2, _⟩ := hh t b hb
    exact h.mine t c pl g1 (g2 ho)
  · intro t b hb
    obtain ⟨c, g1, _⟩ := hh t b hb
    exact h.tags t c g1
  · intro t b pl hb ho
    obtain ⟨c, g1, _, g2, _⟩ := hh t b hb
    exact h.isep t c pl g1 (g2 ho)

/-- What was not carried out. -/
theorem R.skip (h : R W w0 F ρ s a w) {hp : List (Nat × SB)} (hsub : ∀ t b0, getA hp t = some b0 → getA s.heap t = some b0) {d : List (Nat × SB)} {n n' next'' : Nat} (hle : n' ≤ n + 16) (hn : ∀ t, n ≤ t → t < n + 16 → ¬ F t) (hd : newOnly hp n n' d = true) (hfree : ∀ t, next'' ≤ t → t < next'' + 16 → ¬ used F n n' t) :
    R W w0 (used F n n') ρ { s with heap := gdAll false d ++ s.heap, next := next'' } a w := by
  have hcase : ∀ t b, getA (gdAll false d ++ s.heap) t = some b → getA s.heap t = some b ∨ (n ≤ t ∧ t < n' ∧ ρ t = none ∧ ∃ b', b = .gd false b') ∨ (b = .gd false .dead ∧ ∃ b0, getA s.heap t = some b0) := by
    intro t b hb
    rw [getA_append, getA_gdAll] at hb
    cases hq : getA d t with
    | none => rw [hq] at hb; exact .inl hb
    | some b1 =>
      rw [hq] at hb
      injection hb with hb
      rcases newOnly_spec hd t b1 hq with ⟨h1, h2⟩ | ⟨h1, b0, h2⟩
      · refine .inr (.inl ⟨h1, h2, ?_, b1, hb.symm⟩)
        cases hr : ρ t with
        | none => rfl
        | some pl => exact absurd (h.dom t pl hr).1 (hn t h1 (by omega))
      · subst h1
        exact .inr (.inr ⟨hb.symm, b0, hsub t b0 h2⟩)
  refine ⟨h.size, h.defers, h.frame, ?_, fun t pl hp => ⟨.inl (h.dom t pl hp).1, (h.dom t pl hp).2⟩, ?_, ?_, ?_, h.chg, hfree, fun t ht => ⟨.inl (h.base t ht).1, (h.base t ht).2⟩, h.imm, ?_, h.same⟩
  · intro t b hb
    rcases hcase t b hb with h1 | ⟨_, _, _, b', rfl⟩ | ⟨rfl, _⟩
    · exact h.heap t b h1
    · intro hh; cases hh
    · intro hh; cases hh
  · intro t t' b b' hne hb hb' ho hl pl pl' hp hp'
    rcases hcase t b hb with h1 | ⟨_, _, h1, _⟩ | ⟨rfl, _⟩
    · rcases hcase t' b' hb' with h2 | ⟨_, _, h2, _⟩ | ⟨rfl, _⟩
      · exact h.inj t t' b b' hne h1 h2 ho hl pl pl' hp hp'
      · rw [h2] at hp'; cases hp'
      · cases hl
    · rw [h1] at hp; cases hp
    · cases ho
  · intro t b pl hb ho hp
    rcases hcase t b hb with h1 | ⟨_, _, h1, _⟩ | ⟨rfl, _⟩
    · exact h.mine t b pl h1 ho hp
    · rw [h1] at hp; cases hp
    · cases ho
  · intro t b hb
    rcases hcase t b hb with h1 | ⟨h1, h2, _⟩ | ⟨_, b0, h1⟩
    · exact .inl (h.tags t b h1)
    · exact .inr ⟨h1, h2⟩
    · exact .inl (h.tags t b0 h1)
  · intro t b pl hb ho hp
    rcases hcase t b hb with h1 | ⟨_, _, h1, _⟩ | ⟨rfl, _⟩
    · exact h.isep t b pl h1 ho hp
    · rw [h1] at hp; cases hp
    · cases ho

/-- One operation in any state: what it leaves, whatever comes of its guard: r, its blocks d (under the guard), its value v. -/
structure Step1 (T : TypeId → Option TyI) (C : FuncId → Option Summary) (ops : List Oper) (s : St) (op : Oper) (p : Cd) (v : Option SV) (d : List (Nat × SB)) (next : Nat) : Prop where
  eq : (op.guard = none ∧ act T C s op = some ⟨p, v, d, next⟩) ∨
    (∃ g b q u u' d', op.guard = some g ∧ s.guard ops g = some b ∧ act T C s op = some ⟨q, u, d', next⟩ ∧ p = .imp b q ∧ gdR b u = some u' ∧ v = some u' ∧ d = gdAll b d' ∧ newOnly s.heap s.next next d' = true ∧ s.next ≤ next ∧ next ≤ s.next + 16) ∨
    (∃ g b q, op.guard = some g ∧ s.guard ops g = some b ∧ act T C s op = some ⟨q, v, d, next⟩ ∧ p = .and (.p (b = true)) q)

theorem gdR_true {ρ : Rho} {u : Option SV} {u' : SV} {v : Value} (h : gdR true u = some u') (hv : ∀ sv, u = some sv → RelV ρ sv v) : RelV ρ u' v := by
  unfold gdR at h
  split at h
  · injection h with h; subst h; exact ⟨fun _ => hv _ rfl, fun hh => by cases hh⟩
  · injection h with h; subst h
    rename_i x c
    have := hv _ rfl
    exact ⟨fun hh => this.1 (by simpa using hh), fun hh => this.2 (by simpa using hh)⟩
  · cases h
theorem gdR_false {ρ : Rho} {u : Option SV} {u' : SV} (h : gdR false u = some u') : RelV ρ u' undef := by
  unfold gdR at h
  split at h
  · injection h with h; subst h; exact ⟨fun hh => (by cases hh), fun _ => rfl⟩
  · injection h with h; subst h; exact ⟨fun hh => (by simp at hh), fun _ => rfl⟩
  · cases h
/-- What an operation does in a state that knows less (s) than the one that is kept (S). -/
theorem step1_ok {S : St} (hS : R W w0 F ρ S a w) (h : R W w0 F ρ s a w) (hsub : ∀ t b, getA s.heap t = some b → getA S.heap t = some b) (hT : TOk P T) (hC : COk P C) {ops : List Oper} {p : Cd} {v : Option SV} {d : List (Nat × SB)} {next next'' : Nat}
    (e : Step1 T C ops s op p v d next) (hp : p.holds) (hput : (s.put op.dst v).isSome = true) (hfree : ∀ t, next'' ≤ t → t < next'' + 16 → ¬ used F s.next next t) {K : Act → World → Prop} {Q : Exit → Act → World → Prop} {S' : St} (hS' : S.put op.dst v = some S')
    (hK : ∀ ρ' a' w', R W w0 (used F s.next next) ρ' { S' with heap := d ++ S.heap, next := next'' } a' w' → K a' w') : if Region.wanted op (yielded ops.toArray a.tmps) then op.wp P a w K Q else K (a.put op.dst undef) w := by
  have eff_sub : ∀ {ρ' : Rho} {d : List (Nat × SB)} {w' : World}, Eff ρ ρ' s.heap s.next d next w w' → Eff ρ ρ' S.heap s.next d next w w' := by
    intro ρ' d w' he
    refine ⟨he.ext, he.le, he.top, he.size, he.os, he.tape, he.output, ?_, he.sat, fun t b hb => (he.old t b hb).imp id fun ⟨b0, h0, h1⟩ => ⟨b0, hsub t b0 h0, h1⟩, he.block, he.inj⟩
    intro t pl hp
    refine (he.new t pl hp).imp id fun ⟨h1, h2, h3, h4⟩ => ⟨h1, h2, h3, fun b hb hl => (h4 b hb hl).imp id fun ⟨t0, b0, pl0, g1, g2, g3⟩ => ⟨t0, b0, pl0, g1, hsub t0 b0 g2, g3⟩⟩
  rcases e.eq with ⟨hg, ha⟩ | ⟨g, b, q, u, u', d', hg, hgb, ha, rfl, hgd, rfl, rfl, hn, hle, htop⟩ | ⟨g, b, q, hg, hgb, ha, rfl⟩
  · simp only [Region.wanted, hg, if_true]
    refine (act_ok h hT hC ha hp) K Q fun u w' ρ' he hv => ?_
    exact hK ρ' _ w' (put_ok (hS.eff (eff_sub he) h.free hfree) (put_res hS' _ _) hv)
  · have hw := guard_ok h hgb
    simp only [Region.wanted, hg, hw]
    cases b with
    | true =>
      simp only [if_true]
      refine (act_ok h hT hC ha (hp rfl)) K Q fun v' w' ρ' he hv => ?_
      have h1 := hS.eff (eff_sub he) h.free hfree
      have h2 : R W w0 (used F s.next next) ρ' { S with heap := gdAll true d' ++ S.heap, next := next'' } a w' := by
        refine h1.conv (hp := gdAll true d' ++ S.heap) fun t b' hb' => ?_
        simp only at *
        rw [getA_append, getA_gdAll] at hb'
        rw [getA_append]
        cases hq : getA d' t with
        | none => rw [hq] at hb'; exact ⟨b', hb', id, id, id⟩
        | some b1 =>
          rw [hq] at hb'
          injection hb' with hb'
          subst hb'
          exact ⟨b1, rfl, fun hs _ => hs, id, id⟩
      exact hK ρ' _ w' (put_ok h2 (put_res hS' _ _) (fun sv hsv => by injection hsv with hsv; subst hsv; exact gdR_true hgd hv))
    | false =>
      simp only [Bool.false_eq_true, if_false]
      have h1 := hS.skip hsub htop h.free hn hfree
      exact hK ρ _ w (put_ok h1 (put_res hS' _ _) (fun sv hsv => by injection hsv with hsv; subst hsv; exact gdR_false hgd))
  · have hw := guard_ok h hgb
    have hbt : b = true := hp.1
    subst hbt
    simp only [Region.wanted, hg, hw, if_true]
    refine (act_ok h hT hC ha hp.2) K Q fun u w' ρ' he hv => ?_
    exact hK ρ' _ w' (put_ok (hS.eff (eff_sub he) h.free hfree) (put_res hS' _ _) hv)

theorem step_step1 {ops : List Oper} {p : Cd} {s' : St} (e : s.step T C ops op = some (p, s')) : ∃ v d, Step1 T C ops s op p v d s'.next ∧ s.next ≤ s'.next ∧ ∃ s1, s.put op.dst v = some s1 ∧ s' = { s1 with heap := d ++ s.heap, next := s'.next } := by
  have hheap : ∀ {d : Option Nat} {v : Option SV} {sz : Nat} {fr : List (Nat × SV)} {hp : List (Nat × SB)} {nx : Nat}, s.put d v = some ⟨sz, fr, hp, nx⟩ → hp = s.heap := by
    intro d v sz fr hp nx e
    unfold St.put at e
    split at e
    · injection e with e; rw [e]
    · split at e
      · cases s with | mk a b c d => injection e with e; injection e with _ _ e _; exact e.symm
      · cases e
    · cases e
  unfold St.step at e
  split at e
  · rename_i hg
    split at e
    · rename_i rp rv rd rn ha
      split at e
      · rename_i hle
        split at e
        · rename_i sz fr hp nx hput
          rw [catK_eq] at e
          injection e with e; injection e with e1 e2
          subst e1; subst e2
          exact ⟨rv, rd, ⟨.inl ⟨hg, ha⟩⟩, Nat.le_of_ble_eq_true hle, _, hput, by rw [hheap hput]⟩
        · cases e
      · cases e
    · cases e
  · rename_i g hg
    split at e
    · rename_i b rp rv rd rn hb ha
      split at e
      · rename_i v hgd
        split at e
        · rename_i hn
          simp only [Bool.and_eq_true] at hn
          split at e
          · rename_i sz fr hp nx hput
            rw [catK_eq] at e
            injection e with e; injection e with e1 e2
            subst e1; subst e2
            exact ⟨some v, gdAll b rd, ⟨.inr (.inl ⟨g, b, rp, rv, v, rd, hg, hb, ha, rfl, hgd, rfl, rfl, hn.1, Nat.le_of_ble_eq_true hn.2.1, Nat.le_of_ble_eq_true hn.2.2⟩)⟩, Nat.le_of_ble_eq_true hn.2.1, _, hput, by rw [hheap hput]⟩
          · cases e
        · split at e
          · rename_i hle
            split at e
            · rename_i sz fr hp nx hput
              rw [catK_eq] at e
              injection e with e; injection e with e1 e2
              subst e1; subst e2
              exact ⟨rv, rd, ⟨.inr (.inr ⟨g, b, rp, hg, hb, ha, rfl⟩)⟩, Nat.le_of_ble_eq_true hle, _, hput, by rw [hheap hput]⟩
            · cases e
          · cases e
      · cases e
    · cases e

/-- A step, whatever comes of the guard. -/
theorem step_ok (h : R W w0 (top s.next) ρ s a w) (hT : TOk P T) (hC : COk P C) {ops : List Oper} {p : Cd} {s' : St} (e : s.step T C ops op = some (p, s')) (hp : p.holds) {K : Act → World → Prop} {Q : Exit → Act → World → Prop}
    (hK : ∀ ρ' a' w', R W w0 (top s'.next) ρ' s' a' w' → K a' w') : if Region.wanted op (yielded ops.toArray a.tmps) then op.wp P a w K Q else K (a.put op.dst undef) w := by
  obtain ⟨v, d, hs, hle, s1, h1, h2⟩ := step_step1 e
  · refine step1_ok (next'' := s'.next) h h (fun _ _ hh => hh) hT hC hs hp (by rw [h1]; rfl) ?_ h1 fun ρ' a' w' hR => hK ρ' a' w' ?_
    · intro t ht _ hu
      have := (used_top hle t).1 hu
      unfold top at this; omega
    · rw [h2]; exact hR.congrF (used_top hle)

/-- The operations, one behind the other. -/
theorem steps_ok (hT : TOk P T) (hC : COk P C) {ops : List Oper} {Q : Exit → Act → World → Prop} : ∀ (l : List Oper) (s : St) (ρ : Rho) (a : Act) (w : World) (K : St → Prop), St.steps T C ops l s K → R W w0 (top s.next) ρ s a w →
    (∀ s' ρ' a' w', K s' → R W w0 (top s'.next) ρ' s' a' w' → Q .normal a' w') → wpList P ops.toArray Q l a w
  | [], s, ρ, a, w, K, h, hR, hK => hK s ρ a w h hR
  | o :: l, s, ρ, a, w, K, h, hR, hK => by
    simp only [St.steps] at h
    split at h
    · rename_i p s' e
      rw [Cd.then_iff] at h
      unfold wpList
      have := step_ok (K := wpList P ops.toArray Q l) (Q := Q) hR hT hC e h.1 (fun ρ' a' w' hR' => steps_ok hT hC l s' ρ' a' w' K h.2 hR' hK)
      split at this
      · rename_i hw; rw [if_pos hw]; exact .inl this
      · rename_i hw; rw [if_neg hw]; exact this
    · exact h.elim
end
end Go.Sx
