/- The symbolic evaluator: its operations are the model's, one by one. Plain lemmas, no condition. -/
import Derived.Test.YtogijkmflhjhkaaSxC
namespace Go.Sx
open Go.RowKit
set_option linter.unusedSimpArgs false

set_option linter.unusedVariables false
section
variable {P : Program} {W : Env} {w0 w : World} {F : Nat → Prop} {ρ : Rho} {s : St} {a : Act} {op : Oper} {T : TypeId → Option TyI} {C : FuncId → Option Summary} {r : Res}

theorem kEq_spec {k k' : IntKind} (h : kEq k k' = true) : k = k' := by
  cases k <;> cases k' <;> first | rfl | (exact absurd h (by decide))

theorem one_inj {p : Cd} {v : SV} (h : s.one p v = some r) : r = ⟨p, some v, [], s.next⟩ := by
  cases s; unfold St.one at h; injection h with h; exact h.symm

theorem run_part_ints (e : TypeId) (k : IntKind) (he : P.underlying e = some (.int k)) (f : Nat → Int) (n i : Nat) (hi : i < n) :
    (part e (intsV k f n).toArray i).run P w = .ok (.int k (f i)) w := by
  have hg := intsV_get k f n i hi
  simp [part, isAgg, run_underlying he, hg]
theorem run_equalIn_int (d : Nat) (e : TypeId) (k : IntKind) (he : P.underlying e = some (.int k)) (x y : Int) :
    (Op.equalIn (d + 1) e (.int k x) (.int k y)).run P w = .ok (x == y) w := by
  simp [Op.equalIn, run_underlying he]
theorem run_equalIn_ints (d : Nat) (t e : TypeId) (n : Nat) (k : IntKind) (ht : P.underlying t = some (.array n e)) (he : P.underlying e = some (.int k))
    (hs : (sizeOf e).run P w = .ok 1 w) (f g : Nat → Int) :
    (Op.equalIn (d + 2) t (.agg (intsV k f n).toArray) (.agg (intsV k g n).toArray)).run P w = .ok (eqI n f g) w := by
  rw [Op.equalIn]
  simp only [Sem.run_bind, run_underlying ht, Result.andThen_ok, hs]
  simp only [Std.Legacy.Range.forIn_eq_forIn_range']
  have hl : ∀ l : List Nat, (∀ i ∈ l, i < n) → Sem.run P
          (forIn l (none, ()) fun i (__s : Option Bool × Unit) => do
            let __do_lift ← part e (intsV k f n).toArray (i * 1)
            let __do_lift_1 ← part e (intsV k g n).toArray (i * 1)
            let __do_lift ← Op.equalIn (d + 1) e __do_lift __do_lift_1
            if (!__do_lift) = true then pure (ForInStep.done (some false, ())) else pure (ForInStep.yield (none, ()))) w
        = .ok (if (l.all fun i => f i == g i) then (none, ()) else (some false, ())) w := by
    intro l
    induction l with
    | nil => intro _; simp
    | cons i l ih =>
      intro hi
      have hin := hi i (by simp)
      have ih' := ih (fun j hj => hi j (by simp [hj]))
      simp only [List.forIn_cons, Sem.run_bind, Nat.mul_one, run_part_ints e k he f n i hin, run_part_ints e k he g n i hin, Result.andThen_ok, run_equalIn_int d e k he]
      simp only [Nat.mul_one] at ih'
      by_cases hx : f i = g i
      · simp only [hx, beq_self_eq_true, Bool.not_true, Bool.false_eq_true, if_false, Sem.run_pure, Result.andThen_ok, List.all_cons, Bool.true_and]
        exact ih'
      · have hb : (f i == g i) = false := by simp [hx]
        simp [hb]
  rw [hl _ (by intro i hi; simp at hi; omega)]
  have hr : List.range' 0 [:n].size = List.range n := by simp [List.range_eq_range']
  rw [hr]
  simp only [Result.andThen_ok, eqI]
  cases (List.range n).all fun j => f j == g j <;> rfl

theorem act_move (h : R W w0 F ρ s a w) {x : Operand} (ho : op.op = .move x ∨ op.op = .assign x) (e : act T C s op = some r) : Ok P ρ s a w op r := by
  have e' : (s.ev x).bind (fun v => s.one .tt v) = some r := by rcases ho with ho | ho <;> simpa only [act, ho] using e
  rw [Option.bind_eq_some_iff] at e'
  obtain ⟨v, hv, e'⟩ := e'
  rw [one_inj e']
  refine ok_pure (v := a.eval x) ?_ (ev_ok h hv)
  rcases ho with ho | ho <;> simp only [execOp, ho] <;> rfl

theorem run_binI (bop : BinOp) (xt : TypeId) (k k' : IntKind) (x y : Int) (hk : isShift bop = true ∨ k = k') (hp : (binI bop k x y).1.holds) (X Y : Operand) :
    ∃ v, Sem.run P (do eqGuard bop xt X Y (.int k x) (.int k' y); binOp bop xt (.int k x) (.int k' y)) w = .ok v w ∧ Rel1 ρ (binI bop k x y).2 v := by
  rw [eqGuard_at_int]
  cases bop <;> simp only [isShift, Bool.false_eq_true, false_or] at hk <;> (try subst hk) <;> simp only [binI, Cd.holds] at hp <;>
    simp [binI, Rel1, go_sem, Op.intArith, Op.intDiv, hp]

theorem kEq_refl_iff {k k' : IntKind} : kEq k k' = true ↔ k = k' := ⟨kEq_spec, fun h => by subst h; cases k <;> rfl⟩

/-- From the operation's run as the walk writes it to its value. -/
theorem ok_run {p : Cd} {sv : SV} {v : Value} {m : Sem Value} (he : execOp a.eval op = (do pure (Next.value (← m)))) (hr : m.run P w = .ok v w) (hv : RelV ρ sv v) : Ok P ρ s a w op ⟨p, some sv, [], s.next⟩ := by
  refine ok_pure (v := v) ?_ hv
  rw [he]
  simp [hr]

theorem binOp_match {k k' : IntKind} {bop : BinOp} (h : (isShift bop || kEq k k') = true) : isShift bop = true ∨ k = k' := by
  simp only [Bool.or_eq_true] at h
  exact h.imp id kEq_spec

theorem run_equalPtr (xt : TypeId) {e : TypeId} (hu : P.underlying xt = some (.pointer e)) (A : Option Addr) : (Op.equal xt (.pointer A) (.pointer none)).run P w = .ok A.isNone w := by
  have h : ∀ d : Nat, (Op.equalIn (d + 1) xt (.pointer A) (.pointer none)).run P w = .ok A.isNone w := fun d => by
    cases A <;> simp [Op.equalIn, run_underlying hu]
  exact h 9999
theorem run_equalSlice (xt : TypeId) {e : TypeId} (hu : P.underlying xt = some (.slice e)) (A : Option Addr) (n c n' c' : Nat) : (Op.equal xt (.slice A n c) (.slice none n' c')).run P w = .ok A.isNone w := by
  have h : ∀ d : Nat, (Op.equalIn (d + 1) xt (.slice A n c) (.slice none n' c')).run P w = .ok A.isNone w := fun d => by
    cases A <;> simp [Op.equalIn, run_underlying hu]
  exact h 9999
theorem run_eqlBool (xt : TypeId) (hu : P.underlying xt = some .bool) (x y : Bool) (X Y : Operand) :
    (Sem.run P (do eqGuard .eql xt X Y (.bool x) (.bool y); binOp .eql xt (.bool x) (.bool y)) w = .ok (.bool (x == y)) w) ∧
    (Sem.run P (do eqGuard .neq xt X Y (.bool x) (.bool y); binOp .neq xt (.bool x) (.bool y)) w = .ok (.bool (!(x == y))) w) := by
  have he : (Op.equal xt (.bool x) (.bool y)).run P w = .ok (x == y) w := by
    have h : ∀ d : Nat, (Op.equalIn (d + 1) xt (.bool x) (.bool y)).run P w = .ok (x == y) w := fun d => by simp [Op.equalIn, run_underlying hu]
    exact h 9999
  rw [eqGuard_at_bool, eqGuard_at_bool]
  constructor <;> simp only [binOp, Sem.run_bind, Sem.run_pure, Result.andThen_ok, he]
theorem run_eqlPtr (xt : TypeId) {e : TypeId} (hu : P.underlying xt = some (.pointer e)) (A : Option Addr) (X Y : Operand) :
    (Sem.run P (do eqGuard .eql xt X Y (.pointer A) (.pointer none); binOp .eql xt (.pointer A) (.pointer none)) w = .ok (.bool A.isNone) w) ∧
    (Sem.run P (do eqGuard .neq xt X Y (.pointer A) (.pointer none); binOp .neq xt (.pointer A) (.pointer none)) w = .ok (.bool (!A.isNone)) w) := by
  rw [eqGuard_at_pointer, eqGuard_at_pointer]
  have he := run_equalPtr (w := w) xt hu A
  constructor <;> simp only [binOp, Sem.run_bind, Sem.run_pure, Result.andThen_ok, he]
theorem run_eqlSlice (xt : TypeId) {e : TypeId} (hu : P.underlying xt = some (.slice e)) (A : Option Addr) (n c n' c' : Nat) (X Y : Operand) :
    (Sem.run P (do eqGuard .eql xt X Y (.slice A n c) (.slice none n' c'); binOp .eql xt (.slice A n c) (.slice none n' c')) w = .ok (.bool A.isNone) w) ∧
    (Sem.run P (do eqGuard .neq xt X Y (.slice A n c) (.slice none n' c'); binOp .neq xt (.slice A n c) (.slice none n' c')) w = .ok (.bool (!A.isNone)) w) := by
  rw [eqGuard_at_slice, eqGuard_at_slice]
  have he := run_equalSlice (w := w) xt hu A n c n' c'
  constructor <;> simp only [binOp, Sem.run_bind, Sem.run_pure, Result.andThen_ok, he]


theorem act_pick (h : R W w0 F ρ s a w) {c x y : Operand} (ho : op.op = .pick c x y) (e : act T C s op = some r) (hp : r.p.holds) : Ok P ρ s a w op r := by
  have hx : ∀ v, (asBool (a.eval c)).run P w = .ok v w → (execOp a.eval op).run P w = .ok (.value (if v = true then a.eval x else a.eval y)) w := by
    intro v hv
    simp only [execOp, ho, Sem.run_bind, hv, Result.andThen_ok, Sem.run_pure]
  simp only [act, ho] at e
  split at e
  · rename_i p cb bx by_ h1 h2 h3
    rw [one_inj e] at hp ⊢
    have r1 := ev1_ok h h1 hp
    have r2 := ev_ok h h2
    have r3 := ev_ok h h3
    simp only [RelV, RelA, Rel1] at r1 r2 r3
    refine ok_pure (hx cb (by rw [r1]; rfl)) ?_
    rw [r2, r3]
    cases cb <;> rfl
  · rename_i p cb g bx by_ h1 h2 h3
    rw [one_inj e] at hp ⊢
    have r1 := ev1_ok h h1 hp.1
    have r2 := ev_ok h h2
    have r3 := ev_ok h h3
    simp only [RelV, RelA, Rel1] at r1 r2 r3
    refine ok_pure (hx cb (by rw [r1]; rfl)) ?_
    cases cb
    · exact r3
    · exact r2.1 (hp.2 rfl)
  · rename_i p cb bx g by_ h1 h2 h3
    rw [one_inj e] at hp ⊢
    have r1 := ev1_ok h h1 hp.1
    have r2 := ev_ok h h2
    have r3 := ev_ok h h3
    simp only [RelV, RelA, Rel1] at r1 r2 r3
    refine ok_pure (hx cb (by rw [r1]; rfl)) ?_
    cases cb
    · exact r3.1 (hp.2 rfl)
    · exact r2
  · cases e

theorem act_unOp (h : R W w0 F ρ s a w) {u : UnOp} {t : TypeId} {x : Operand} (ho : op.op = .unOp u t x) (e : act T C s op = some r) (hp : r.p.holds) : Ok P ρ s a w op r := by
  have hx : execOp a.eval op = (do pure (Next.value (← Op.unary u (a.eval x)))) := by simp only [execOp, ho]
  simp only [act, ho] at e
  split at e
  · rename_i p b h1
    rw [one_inj e] at hp ⊢
    have r1 := ev1_ok h h1 hp
    simp only [RelA, Rel1] at r1
    refine ok_run (v := .bool (!b)) hx ?_ rfl
    rw [r1]; rfl
  · rename_i p k n h1
    rw [one_inj e] at hp ⊢
    have r1 := ev1_ok h h1 hp
    simp only [RelA, Rel1] at r1
    refine ok_run (v := .int k (k.wrap (0 - n))) hx ?_ rfl
    rw [r1]; rfl
  · rename_i p k n h1
    rw [one_inj e] at hp ⊢
    have r1 := ev1_ok h h1 hp
    simp only [RelA, Rel1] at r1
    refine ok_run (v := .int k _) hx ?_ rfl
    rw [r1]; rfl
  · cases e

theorem sl_none {nl ex z : Bool} {t o i n c : Nat} {v : Value} (hr : Rel1 ρ (.sl nl ex z t o i n c) v) : ∃ A cap, v = .slice A n cap ∧ A.isNone = nl := by
  rcases hr with ⟨h1, h2, h3, h4⟩ | ⟨h1, A, cap, h2, _⟩
  · subst h1; subst h3; exact ⟨none, 0, h2, rfl⟩
  · subst h1; exact ⟨some A, cap, h2, rfl⟩

theorem nl_none {c : SC} {nl : Bool} {v : Value} (h : isNl c = some nl) (hr : Rel1 ρ c v) : ∃ A n cap, v = .slice A n cap ∧ A.isNone = nl := by
  cases c <;> simp only [isNl, reduceCtorEq, Option.some.injEq] at h
  · subst h; obtain ⟨A, cap, e, h⟩ := sl_none hr; exact ⟨A, _, cap, e, h⟩
  · subst h
    rcases hr with ⟨h1, h2, _⟩ | ⟨h1, A, cap, h2, _⟩
    · simp only at h1; subst h1; exact ⟨none, 0, 0, h2, rfl⟩
    · simp only at h1; subst h1; exact ⟨some A, _, cap, h2, rfl⟩
  · subst h
    rcases hr with ⟨h1, h2, _⟩ | ⟨h1, A, cap, h2, _⟩
    · subst h1; exact ⟨none, 0, 0, h2, rfl⟩
    · subst h1; exact ⟨some A, _, cap, h2, rfl⟩

theorem act_binOp (h : R W w0 F ρ s a w) (hT : TOk P T) {bop : BinOp} {xt yt : TypeId} {x y : Operand} (ho : op.op = .binOp bop xt x y yt) (e : act T C s op = some r) (hp : r.p.holds) : Ok P ρ s a w op r := by
  have hx : execOp a.eval op = (do pure (Next.value (← (do eqGuard bop xt x y (a.eval x) (a.eval y); binOp bop xt (a.eval x) (a.eval y))))) := by simp only [execOp, ho]
  simp only [act, ho] at e
  unfold actBin at e
  split at e
  · rename_i p k m q k' n h1 h2
    split at e
    · rename_i c v' hk hb
      rw [one_inj e] at hp ⊢
      have r1 := ev1_ok h h1 hp.1
      have r2 := ev1_ok h h2 hp.2.1
      simp only [RelA, Rel1] at r1 r2
      obtain ⟨v, hv, hr⟩ := run_binI (P := P) (w := w) (ρ := ρ) bop xt k k' m n (binOp_match hk) (by rw [hb]; exact hp.2.2) x y
      rw [hb] at hr
      refine ok_run (v := v) hx ?_ hr
      rw [r1, r2]; exact hv
    · cases e
  · rename_i p b q c h1 h2
    have done_ : ∀ (p' : Cd) (sv : SV) (v : Value), p.holds → q.holds → binOp bop xt (.string b) (.string c) = pure v → RelV ρ sv v → Ok P ρ s a w op ⟨p', some sv, [], s.next⟩ := by
      intro p' sv v hp1 hq1 hv hR
      have r1 := ev1_ok h h1 hp1
      have r2 := ev1_ok h h2 hq1
      simp only [RelA, Rel1] at r1 r2
      refine ok_run (v := v) hx ?_ hR
      rw [r1, r2, eqGuard_at_string, hv]; rfl
    cases bop <;> simp only [reduceCtorEq] at e
    · rw [one_inj e] at hp ⊢
      refine done_ _ _ (.string (b ++ c)) hp.1 hp.2.1 ?_ rfl
      have h2 : b.size + c.size ≤ 9223372036854775807 := hp.2.2
      show Op.stringOp .add b c = _
      simp only [Op.stringOp]
      rw [if_neg (by simp [IntKind.max, IntKind.bits, IntKind.signed]; omega)]
    · rw [one_inj e] at hp ⊢
      exact done_ _ _ (.bool (b.toList == c.toList)) hp.1 hp.2 rfl rfl
    · rw [one_inj e] at hp ⊢
      exact done_ _ _ (.bool (!(b.toList == c.toList))) hp.1 hp.2 rfl rfl
  · rename_i p b q c h1 h2
    split at e
    all_goals first | (cases e; done) | skip
    all_goals
      rename_i z1 z2 hz
      have hu : P.underlying xt = some .bool := (hT _ _ hz).1
      rw [one_inj e] at hp ⊢
      have r1 := ev1_ok h h1 hp.1
      have r2 := ev1_ok h h2 hp.2
      simp only [RelA, Rel1] at r1 r2
    · refine ok_run (v := .bool (b == c)) hx ?_ rfl
      rw [r1, r2]; exact (run_eqlBool xt hu b c x y).1
    · refine ok_run (v := .bool (!(b == c))) hx ?_ rfl
      rw [r1, r2]; exact (run_eqlBool xt hu b c x y).2
  · rename_i p q h1 h2
    split at e
    all_goals first | (cases e; done) | skip
    all_goals
      rename_i z1 z2 hz
      obtain ⟨et, hu⟩ := (hT _ _ hz).1
      rw [one_inj e] at hp ⊢
      have r1 := ev1_ok h h1 hp.1
      have r2 := ev1_ok h h2 hp.2
      simp only [RelA, Rel1] at r1 r2
    · refine ok_run (v := .bool true) hx ?_ rfl
      rw [r1, r2]; exact (run_eqlPtr xt hu none x y).1
    · refine ok_run (v := .bool false) hx ?_ rfl
      rw [r1, r2]; exact (run_eqlPtr xt hu none x y).2
  · rename_i p t0 o0 i0 q h1 h2
    split at e
    all_goals first | (cases e; done) | skip
    all_goals
      rename_i z1 z2 hz
      obtain ⟨et, hu⟩ := (hT _ _ hz).1
      rw [one_inj e] at hp ⊢
      have r1 := ev1_ok h h1 hp.1
      have r2 := ev1_ok h h2 hp.2
      simp only [RelA, Rel1] at r1 r2
      obtain ⟨pl, _, r1⟩ := r1
    · refine ok_run (v := .bool false) hx ?_ rfl
      rw [r1, r2]; exact (run_eqlPtr xt hu (some _) x y).1
    · refine ok_run (v := .bool true) hx ?_ rfl
      rw [r1, r2]; exact (run_eqlPtr xt hu (some _) x y).2
  · rename_i p vv q b1 b2 b3 b4 b5 b6 b7 h1 h2
    split at e
    all_goals first | (cases e; done) | skip
    all_goals
      rename_i z1 z2 z3 z4 z5 nl hz hnl
      obtain ⟨hu, _⟩ := (hT _ _ hz).1
      rw [one_inj e] at hp ⊢
      obtain ⟨A, nn, cap, e1, rfl⟩ := nl_none hnl (ev1_ok h h1 hp.1)
      obtain ⟨A2, cap2, e2, hA2⟩ := sl_none (ev1_ok h h2 hp.2)
      have hA2 : A2 = none := by cases A2 <;> simp_all
      subst hA2
    · refine ok_run (v := .bool A.isNone) hx ?_ rfl
      rw [e1, e2]; exact (run_eqlSlice xt hu A _ _ _ _ x y).1
    · refine ok_run (v := .bool (!A.isNone)) hx ?_ rfl
      rw [e1, e2]; exact (run_eqlSlice xt hu A _ _ _ _ x y).2
  · rename_i p k f n q k' g n' h1 h2
    split at e
    · rename_i m el sz k'' f'' m'' hz
      split at e
      · rename_i hk
        simp only [Bool.and_eq_true, Nat.beq_eq] at hk
        obtain ⟨hk1, hk2, hk3, hk4⟩ := hk
        obtain rfl := kEq_spec hk1
        obtain rfl := kEq_spec hk2
        subst hk3
        subst hk4
        obtain ⟨hu, ⟨ie, hie, his⟩, hg, hz0, _⟩ := (hT _ _ hz).1
        obtain ⟨hel, _⟩ := hz0 _ _ _ rfl
        have hso : (sizeOf el).run P w = .ok 1 w := by simp [sizeOf, typeInfo, hie, his]
        have done_ : ∀ (p' : Cd) (sv : SV) (b : Bool), p.holds → q.holds → (bop = .eql ∧ b = eqI n f g ∨ bop = .neq ∧ b = !(eqI n f g)) → RelV ρ sv (.bool b) → Ok P ρ s a w op ⟨p', some sv, [], s.next⟩ := by
          intro p' sv b hp1 hq1 hb hR
          obtain ⟨va, ra, vb, rb, rc⟩ := ev1_ok h h1 hp1
          obtain ⟨va', ra', vb', rb', rc'⟩ := ev1_ok h h2 hq1
          simp only [RelS] at rc rc'
          subst rc; subst rc'; subst rb; subst rb'
          refine ok_run (v := .bool b) hx ?_ hR
          rw [ra, ra']
          have hq := run_equalIn_ints (P := P) (w := w) 9998 xt el n k hu hel hso f g
          have hq' : (Op.equal xt (.agg (intsV k f n).toArray) (.agg (intsV k g n).toArray)).run P w = .ok (eqI n f g) w := hq
          rcases hb with ⟨rfl, rfl⟩ | ⟨rfl, rfl⟩
          · simp [eqGuard, hg, binOp, hq']
          · simp [eqGuard, hg, binOp, hq']
        split at e
        · rw [one_inj e] at hp ⊢
          exact done_ _ _ _ hp.1 hp.2 (.inl ⟨rfl, rfl⟩) rfl
        · rw [one_inj e] at hp ⊢
          exact done_ _ _ _ hp.1 hp.2 (.inr ⟨rfl, rfl⟩) rfl
        · cases e
      · cases e
    · cases e
  · cases e

end
end Go.Sx
