/- The symbolic evaluator: its operations are the model's: those that write a block of the call's own. Plain lemmas, no condition. -/
import Derived.Test.YtogijkmflhjhkaaSxH
namespace Go.Sx
open Go.RowKit
set_option linter.unusedSimpArgs false

set_option linter.unusedVariables false
section
variable {P : Program} {W : Env} {w0 w : World} {F : Nat → Prop} {ρ : Rho} {s : St} {a : Act} {op : Oper} {T : TypeId → Option TyI} {C : FuncId → Option Summary} {r : Res}

theorem rel1_one {c : SC} {v : Value} (hr : Rel1 ρ c v) : v.oneCell' = true := by
  cases c <;> simp only [Rel1] at hr
  case any => exact hr
  case ptr => obtain ⟨_, _, rfl⟩ := hr; rfl
  case sl => rcases hr with ⟨_, rfl, _⟩ | ⟨_, _, _, rfl, _⟩ <;> rfl
  case im => exact hr.one
  case rows => rcases hr with ⟨_, rfl, _⟩ | ⟨_, _, _, rfl, _⟩ <;> rfl
  case adr => obtain ⟨_, _, rfl, _⟩ := hr; rfl
  case opq => exact hr.2
  case fn => obtain ⟨_, _, rfl⟩ := hr; rfl
  all_goals (subst hr; rfl)
theorem relS_one : ∀ {l : List Seg} {vs : List Value}, RelS ρ l vs → ∀ v ∈ vs, v.oneCell' = true
  | [], vs, h, v, hv => by simp only [RelS] at h; subst h; cases hv
  | .one c :: l, vs, ⟨u, vs', e, h1, h2⟩, v, hv => by
    subst e
    rcases List.mem_cons.1 hv with rfl | hv
    · exact rel1_one h1
    · exact relS_one h2 v hv
  | .ints k f n :: l, vs, ⟨vs', e, h2⟩, v, hv => by
    subst e
    rcases List.mem_append.1 hv with hv | hv
    · simp only [intsV, List.mem_map] at hv; obtain ⟨_, _, rfl⟩ := hv; rfl
    · exact relS_one h2 v hv
  | .rows k f n :: l, vs, ⟨us, vs', e, h0, h1, h2⟩, v, hv => by
    subst e
    rcases List.mem_append.1 hv with hv | hv
    · obtain ⟨i, hi, rfl⟩ := List.mem_iff_getElem.1 hv
      exact (h1 i _ (by simp [hi])).one
    · exact relS_one h2 v hv

theorem hp_own {t : Nat} {q : Cd} {bt : TypeId} {l : List Seg} {m : Bool} (e : s.hp t = some (q, .own bt l m)) : ∃ b0, getA s.heap t = some b0 ∧ b0.isOwn = true := by
  unfold St.hp at e
  split at e
  · rename_i g g' b' hb; injection e with e; injection e with e1 e2; subst e2; exact ⟨_, hb, rfl⟩
  · rename_i g b' _ hb; injection e with e; injection e with e1 e2; subst e2; exact ⟨_, hb, rfl⟩
  · rename_i b' _ _ hb; injection e with e; injection e with e1 e2; subst e2; exact ⟨_, hb, rfl⟩
  · cases e

/-- A block of the call's own is written. -/
theorem eff_write (h : R W w0 F ρ s a w) {t : Nat} {b0 : SB} {pl : Pl} {old vs post : List Value} {bt : TypeId} {l : List Seg} {m : Bool} (hg : getA s.heap t = some b0) (ho : b0.isOwn = true) (hρ : ρ t = some pl) (hf : pl.f = 0)
    (hh : w.heap[pl.b]? = some (.cells old.toArray bt (0, 0))) (hn : (vs ++ post).length = pl.n) (hl : RelS ρ l vs) (hm : m = false → post = []) :
    Eff ρ ρ s.heap s.next [(t, .own bt l m)] s.next w (w.setRow pl.b (vs ++ post).toArray) := by
  have hget : ∀ t' b, getA [(t, SB.own bt l m)] t' = some b → t' = t ∧ b = .own bt l m := by
    intro t' b hb
    simp only [getA] at hb
    split at hb
    · rename_i e; simp only [Nat.beq_eq] at e; injection hb with hb; exact ⟨e.symm, hb.symm⟩
    · cases hb
  refine ⟨Ext.refl _, Nat.le_refl _, by omega, by simp, rfl, rfl, rfl, fun _ _ h => .inl h, ?_, ?_, ?_, ?_⟩
  · intro t' b hb
    obtain ⟨rfl, rfl⟩ := hget t' b hb
    exact ⟨pl, vs, post, hρ, hf, setRow_heap w pl.b _ _ _ _ hh, hn, hl, hm⟩
  · intro t' b hb
    obtain ⟨rfl, rfl⟩ := hget t' b hb
    exact .inr ⟨b0, hg, ho⟩
  · intro i hi hne
    refine setRow_other w pl.b i _ ?_
    rintro rfl
    exact hne t (.own bt l m) pl (by simp [getA]) hρ rfl
  · intro t' t'' b b' hne ht' ht2 _ _ hb _ _ _ _ _ _
    omega

theorem run_storeAt_row {b off : Nat} {ty bt : TypeId} {v : Value} {x pre xo post : List Value} (hv : v.cells = x.toArray) (hi : (P.info? ty).map (·.size) = some x.length) (hh : w.heap[b]? = some (.cells (pre ++ (xo ++ post)).toArray bt (0, 0)))
    (hx : xo.length = x.length) (ho : pre.length = off) (h1 : ∀ u ∈ x, u.oneCell' = true) :
    (Instr.storeAt ty (.pointer (some ⟨b, off, none⟩)) v).run P w = .ok () (w.setRow b (pre ++ (x ++ post)).toArray) := by
  have hst := run_storeCells_at P b off bt x 0 _ w hh (by simp; omega) h1
  cases hq : P.info? ty with
  | none => simp [hq] at hi
  | some i =>
    have hs : i.size = x.length := by simpa [hq] using hi
    have hrow : (((pre ++ (xo ++ post)).take off) ++ (x ++ (pre ++ (xo ++ post)).drop (off + x.length))) = pre ++ (x ++ post) := by
      subst ho
      rw [List.take_left, List.drop_append, List.drop_eq_nil_of_le (by omega), List.nil_append, Nat.add_sub_cancel_left, ← hx, List.drop_left]
    simp only [Nat.add_zero, List.append_assoc] at hst
    rw [hrow] at hst
    simp [Instr.storeAt, Instr.sureAddr, storeVar, sizeOf, typeInfo, hq, hv, hs, hst]

theorem ok_store {x y : Operand} {ty : TypeId} {r : Res} (ho : op.op = .store ty x y) (hrv : r.v = none) {w' : World} (hr : (Instr.storeAt ty (a.eval x) (a.eval y)).run P w = .ok () w') (he : Eff ρ ρ s.heap s.next r.d r.next w w') : Ok P ρ s a w op r := by
  intro K Q hK
  have hx : execOp a.eval op = (do Instr.storeAt ty (a.eval x) (a.eval y); pure Next.skip) := by simp only [execOp, ho]
  unfold Oper.wp
  rw [hx]
  simp only [Sem.run_bind, hr, Result.andThen_ok, Sem.run_pure]
  exact hK undef w' ρ he (fun sv h => by rw [hrv] at h; cases h)

theorem intsV_upd (k : IntKind) (f : Nat → Int) (n i : Nat) (z : Int) : (intsV k f n).set i (Value.int k z) = intsV k (upd f i z) n := by
  apply List.ext_getElem?
  intro j
  rw [List.getElem?_set]
  by_cases hj : j < n
  · rw [intsV_get _ _ _ _ hj, intsV_get _ _ _ _ hj, intsV_length]
    by_cases hi : i = j
    · subst hi; simp [upd, hj]
    · rw [if_neg hi]; simp [upd, Ne.symm hi]
  · rw [intsV_length, List.getElem?_eq_none (l := intsV k f n) (by rw [intsV_length]; omega), List.getElem?_eq_none (l := intsV k (upd f i z) n) (by rw [intsV_length]; omega)]
    by_cases hi : i = j
    · subst hi; simp [hj]
    · rw [if_neg hi]
theorem intsV_split (k : IntKind) (f : Nat → Int) (n i : Nat) (h : i < n) : ∃ p q, intsV k f n = p ++ (Value.int k (f i) :: q) ∧ p.length = i ∧ ∀ v, (intsV k f n).set i v = p ++ (v :: q) := by
  refine ⟨(intsV k f n).take i, (intsV k f n).drop (i + 1), ?_, by rw [List.length_take, intsV_length]; omega, fun v => ?_⟩
  · have hl : i < (intsV k f n).length := by rw [intsV_length]; exact h
    have : (intsV k f n)[i] = .int k (f i) := by
      have := intsV_get k f n i h
      rw [List.getElem?_eq_getElem hl] at this
      injection this
    rw [← this, List.getElem_cons_drop, List.take_append_drop]
  · rw [List.set_eq_take_append_cons_drop, if_pos (by rw [intsV_length]; exact h)]

theorem act_store (h : R W w0 F ρ s a w) (hT : TOk P T) {ty : TypeId} {x y : Operand} (ho : op.op = .store ty x y) (e : act T C s op = some r) (hp : r.p.holds) : Ok P ρ s a w op r := by
  simp only [act, ho] at e
  unfold actStore at e
  split at e
  · rename_i ti p t o i q v hti h1 h2
    obtain ⟨_, inf, z, hi1, hi2, _⟩ := hT _ _ hti
    split at e
    · rename_i g bt l m hb
      obtain ⟨b0, hg0, hown⟩ := hp_own hb
      split at e
      · rename_i new
        split at e
        · rename_i l' hl'
          split at e
          · rename_i hlen
            simp only [Nat.beq_eq] at hlen
            rw [St.wr_eq] at e
            injection e with e
            subst e
            obtain ⟨hp1, hp2, hp3⟩ := hp
            obtain ⟨pl, e1, e2⟩ := ev1_ok h h1 hp1
            obtain ⟨pl', vs, post, g1, g2, g3, g4, g5, g6⟩ := hp_ok h hb hp3
            rw [e1] at g1; injection g1 with g1; subst g1
            obtain ⟨us, u1, u2⟩ := ev1_ok h h2 hp2
            obtain ⟨va, vx, vb, rfl, n1, n2, hnew⟩ := segSplice_spec hl' g5
            have hul : us.length = ti.size := (relS_len u2).trans hlen
            refine ok_store ho rfl (w' := w.setRow pl.b ((va ++ (us ++ vb)) ++ post).toArray) ?_ (eff_write h hg0 hown e1 g2 g3 (by rw [← g4]; simp; omega) (hnew us u2) (fun hm => g6 hm))
            rw [e2, u1, g2, Nat.zero_add, Nat.add_zero]
            have := run_storeAt_row (P := P) (w := w) (b := pl.b) (off := o) (ty := ty) (bt := bt) (v := .agg us.toArray) (x := us) (pre := va) (xo := vx) (post := vb ++ post) rfl (by simp [hi1, hi2, hul]) (by simpa using g3) (by omega) n1 (relS_one u2)
            simpa using this
          · cases e
        · cases e
      · rename_i c
        split at e
        · rename_i hsz
          simp only [Nat.beq_eq] at hsz
          split at e
          · rename_i k f n r' hs
            split at e
            · rename_i k' z'
              split at e
              · rename_i hk
                obtain rfl := kEq_spec hk
                rw [Option.bind_eq_some_iff] at e
                obtain ⟨l', hl0, e⟩ := e
                rw [St.wr_eq] at e
                injection e with e
                subst e
                obtain ⟨hp1, hp2, hp3, hp4⟩ := hp
                have hl' : segSplice l o n [.ints k (upd f i z') n] = some l' := segPut_splice hl0 hs rfl (Nat.lt_of_le_of_lt (Nat.zero_le _) hp4)
                obtain ⟨pl, e1, e2⟩ := ev1_ok h h1 hp1
                have hsat := hp_ok h hb hp3
                have r2 := ev1_ok h h2 hp2
                simp only [RelA, Rel1] at r2
                obtain ⟨pl', vs, post, g1, g2, g3, g4, g5, g6⟩ := hsat
                rw [e1] at g1; injection g1 with g1; subst g1
                obtain ⟨la, rfl, hla⟩ := segDrop_spec hs
                obtain ⟨va0, vb0, rfl, ra, vb1, rfl, rb⟩ := relS_append.1 g5
                obtain ⟨va, vx, vb, hsp, n1, n2, hnew⟩ := segSplice_spec hl' g5
                have hva : va0.length = va.length := by rw [n1]; exact (relS_len ra).trans hla
                obtain ⟨rfl, hsp2⟩ := List.append_inj hsp hva
                obtain ⟨rfl, rfl⟩ := List.append_inj hsp2 (by rw [intsV_length, n2])
                obtain ⟨px, qx, q1, q2, q3⟩ := intsV_split k f n i hp4
                refine ok_store ho rfl (w' := w.setRow pl.b ((va0 ++ (intsV k (upd f i z') n ++ vb1)) ++ post).toArray) ?_ (eff_write h hg0 hown e1 g2 g3 (by rw [← g4]; simp [intsV_length]) (hnew _ ⟨[], by simp, rfl⟩) (fun hm => g6 hm))
                rw [e2, r2, g2, Nat.zero_add]
                have := run_storeAt_row (P := P) (w := w) (b := pl.b) (off := o + i) (ty := ty) (bt := bt) (v := .int k z') (x := [.int k z']) (pre := va0 ++ px) (xo := [.int k (f i)]) (post := qx ++ (vb1 ++ post)) rfl (by simp [hi1, hi2, hsz])
                  (by rw [g3, q1]; simp) rfl (by simp; omega) (by simp [Value.oneCell'])
                rw [← intsV_upd, q3]
                simpa using this
              · cases e
            · cases e
          · rename_i c0 r' hs
            split at e
            · rw [Option.bind_eq_some_iff] at e
              obtain ⟨l', hl', e⟩ := e
              rw [St.wr_eq] at e
              injection e with e
              subst e
              obtain ⟨hp1, hp2, hp3⟩ := hp
              obtain ⟨pl, e1, e2⟩ := ev1_ok h h1 hp1
              have r2 := ev1_ok h h2 hp2
              obtain ⟨pl', vs, post, g1, g2, g3, g4, g5, g6⟩ := hp_ok h hb hp3
              rw [e1] at g1; injection g1 with g1; subst g1
              obtain ⟨va, vx, vb, rfl, n1, n2, hnew⟩ := segSplice_spec hl' g5
              refine ok_store ho rfl (w' := w.setRow pl.b ((va ++ ([a.eval y] ++ vb)) ++ post).toArray) ?_ (eff_write h hg0 hown e1 g2 g3 (by rw [← g4]; simp; omega) (hnew _ ⟨_, [], rfl, r2, rfl⟩) (fun hm => g6 hm))
              rw [e2, g2, Nat.zero_add, Nat.add_zero]
              have := run_storeAt_row (P := P) (w := w) (b := pl.b) (off := o) (ty := ty) (bt := bt) (v := a.eval y) (x := [a.eval y]) (pre := va) (xo := vx) (post := vb ++ post) (rel1_cells r2) (by simp [hi1, hi2, hsz]) (by simpa using g3) (by simpa using n2) n1 (by simpa using rel1_one r2)
              simpa using this
            · cases e
          · cases e
        · cases e
    · cases e
  · cases e

theorem call_arg1 {x : Operand} {c : Call} (h : c.args.toList = [x]) : c.args = #[x] := by cases hh : c.args; simp [hh] at h; subst h; rfl
theorem call_arg2 {x y : Operand} {c : Call} (h : c.args.toList = [x, y]) : c.args = #[x, y] := by cases hh : c.args; simp [hh] at h; subst h; rfl
theorem call_ty1 {x : TypeId} {c : Call} (h : c.argTypes.toList = [x]) : c.argTypes = #[x] := by cases hh : c.argTypes; simp [hh] at h; subst h; rfl
theorem call_ty2 {x y : TypeId} {c : Call} (h : c.argTypes.toList = [x, y]) : c.argTypes = #[x, y] := by cases hh : c.argTypes; simp [hh] at h; subst h; rfl

theorem act_len (h : R W w0 F ρ s a w) (hT : TOk P T) {c : Call} (ho : op.op = .call c) (hc : c.callee = .builtin .len) (e : act T C s op = some r) (hp : r.p.holds) : Ok P ρ s a w op r := by
  have hx : execOp a.eval op = (do pure (Next.value (← Builtin.len_ c.argTypes op.type (c.args.map a.eval)))) := by simp only [execOp, ho, resolve, hc, pure_bind, invoke, builtin]
  simp only [act, ho, hc] at e
  split at e
  · rename_i x t h1 h2
    rw [call_arg1 h1, call_ty1 h2] at hx
    split at e
    · rename_i el b z sz zr p nl ex zz tg o f n c' hti h3
      rw [one_inj e] at hp ⊢
      obtain ⟨hu, _⟩ := (hT _ _ hti).1
      obtain ⟨A, cap, e1, _⟩ := sl_none (ev1_ok h h3 hp)
      refine ok_run (v := .int .i64 n) hx ?_ rfl
      simp [e1, Builtin.len_, run_underlying hu]; rfl
    · rename_i el b z sz zr p nl k f n hti h3
      rw [one_inj e] at hp ⊢
      obtain ⟨hu, _⟩ := (hT _ _ hti).1
      have hv : ∃ A cap, a.eval x = .slice A n cap := by
        rcases ev1_ok h h3 hp with ⟨_, e1, e2⟩ | ⟨_, A, cap, e1, _⟩
        · simp only at e2; subst e2; exact ⟨_, _, e1⟩
        · exact ⟨_, _, e1⟩
      obtain ⟨A, cap, e1⟩ := hv
      refine ok_run (v := .int .i64 n) hx ?_ rfl
      simp [e1, Builtin.len_, run_underlying hu]; rfl
    · rename_i el b z sz zr p nl k f n hti h3
      rw [one_inj e] at hp ⊢
      obtain ⟨hu, _⟩ := (hT _ _ hti).1
      have hv : ∃ A cap, a.eval x = .slice A n cap := by
        rcases ev1_ok h h3 hp with ⟨_, e1, e2⟩ | ⟨_, A, cap, e1, _⟩
        · subst e2; exact ⟨_, _, e1⟩
        · exact ⟨_, _, e1⟩
      obtain ⟨A, cap, e1⟩ := hv
      refine ok_run (v := .int .i64 n) hx ?_ rfl
      simp [e1, Builtin.len_, run_underlying hu]; rfl
    · rename_i sz zr p b hti h3
      rw [one_inj e] at hp ⊢
      have hu : P.underlying t = some .string := (hT _ _ hti).1
      have r1 := ev1_ok h h3 hp
      simp only [RelA, Rel1] at r1
      refine ok_run (v := .int .i64 b.size) hx ?_ rfl
      simp [r1, Builtin.len_, run_underlying hu]; rfl
    · cases e
  · cases e

theorem act_min (h : R W w0 F ρ s a w) {c : Call} (ho : op.op = .call c) (hc : c.callee = .builtin .min) (e : act T C s op = some r) (hp : r.p.holds) : Ok P ρ s a w op r := by
  have hx : execOp a.eval op = (do pure (Next.value (← Builtin.min_ c.argTypes op.type (c.args.map a.eval)))) := by simp only [execOp, ho, resolve, hc, pure_bind, invoke, builtin]
  simp only [act, ho, hc] at e
  split at e
  · rename_i x y h1
    rw [call_arg2 h1] at hx
    split at e
    · rename_i p k m q k' n h3 h4
      rw [one_inj e] at hp ⊢
      have r1 := ev1_ok h h3 hp.1
      have r2 := ev1_ok h h4 hp.2
      simp only [RelA, Rel1] at r1 r2
      refine ok_run (v := .int k (if n < m then n else m)) hx ?_ rfl
      simp [r1, r2, Builtin.min_, Builtin.min2]
    · cases e
  · cases e

theorem act_max (h : R W w0 F ρ s a w) {c : Call} (ho : op.op = .call c) (hc : c.callee = .builtin .max) (e : act T C s op = some r) (hp : r.p.holds) : Ok P ρ s a w op r := by
  have hx : execOp a.eval op = (do pure (Next.value (← Builtin.max_ c.argTypes op.type (c.args.map a.eval)))) := by simp only [execOp, ho, resolve, hc, pure_bind, invoke, builtin]
  simp only [act, ho, hc] at e
  split at e
  · rename_i x y h1
    rw [call_arg2 h1] at hx
    split at e
    · rename_i p k m q k' n h3 h4
      rw [one_inj e] at hp ⊢
      have r1 := ev1_ok h h3 hp.1
      have r2 := ev1_ok h h4 hp.2
      simp only [RelA, Rel1] at r1 r2
      refine ok_run (v := .int k (if n > m then n else m)) hx ?_ rfl
      simp [r1, r2, Builtin.max_, Builtin.max2]
    · cases e
  · cases e

theorem put_put (f g : Nat → Int) (i m : Nat) (k : IntKind) (z : Nat) (h : i + m ≤ z) : ∃ p q o, intsV k f z = p ++ (o ++ q) ∧ p.length = i ∧ o.length = m ∧ intsV k (put_ f i m g) z = p ++ (intsV k g m ++ q) := by
  refine ⟨(intsV k f z).take i, (intsV k f z).drop (i + m), ((intsV k f z).drop i).take m, ?_, by rw [List.length_take, intsV_length]; omega, by rw [List.length_take, List.length_drop, intsV_length]; omega, ?_⟩
  · rw [← List.drop_drop, List.take_append_drop, List.take_append_drop]
  · apply List.ext_getElem?
    intro j
    by_cases hj : j < z
    · rw [intsV_get _ _ _ _ hj]
      by_cases h1 : j < i
      · rw [List.getElem?_append_left (by rw [List.length_take, intsV_length]; omega), List.getElem?_take_of_lt h1, intsV_get _ _ _ _ hj]
        simp only [put_]; rw [if_neg (by omega)]
      · rw [List.getElem?_append_right (by rw [List.length_take, intsV_length]; omega), List.length_take, intsV_length, Nat.min_eq_left (by omega)]
        by_cases h2 : j < i + m
        · rw [List.getElem?_append_left (by rw [intsV_length]; omega), intsV_get _ _ _ _ (by omega)]
          simp only [put_]; rw [if_pos (by omega)]
        · rw [List.getElem?_append_right (by rw [intsV_length]; omega), intsV_length, List.getElem?_drop, intsV_get _ _ _ _ (by omega)]
          simp only [put_]; rw [if_neg (by omega)]
          congr 3; omega
    · rw [List.getElem?_eq_none (by rw [intsV_length]; omega), List.getElem?_eq_none (by simp only [List.length_append, List.length_take, List.length_drop, intsV_length]; omega)]

theorem act_copy (h : R W w0 F ρ s a w) (hT : TOk P T) {c : Call} (ho : op.op = .call c) (hc : c.callee = .builtin .copy) (e : act T C s op = some r) (hp : r.p.holds) : Ok P ρ s a w op r := by
  have hx : execOp a.eval op = (do pure (Next.value (← Builtin.copy_ c.argTypes op.type (c.args.map a.eval)))) := by simp only [execOp, ho, resolve, hc, pure_bind, invoke, builtin]
  simp only [act, ho, hc] at e
  split at e
  · rename_i x y tx ty h1 h2
    rw [call_arg2 h1, call_ty2 h2] at hx
    split at e
    · rename_i el b zz sz zr el2 b2 zz2 sz2 zr2 p ex z0 t o f n cc q src0 hti hty h3 h4
      split at e
      · rename_i u bt l m hb
        obtain ⟨b0, hg0, hown⟩ := hp_own hb
        split at e
        · rename_i k g z r' hs
          split at e
          · rename_i rp src n' hsrc
            rw [Option.bind_eq_some_iff] at e
            obtain ⟨l', hl', e⟩ := e
            rw [St.wr_eq] at e
            injection e with e
            subst e
            obtain ⟨hp1, hp2, hp3, hp4, hp5⟩ := hp
            have hp5 : f + n ≤ z := hp5
            obtain ⟨hu, ie, ze, c1, c2, _⟩ := (hT _ _ hti).1
            rcases ev1_ok h h3 hp1 with ⟨hcon, _⟩ | ⟨_, A, cap, e1, e2, e3, e4, e5, _⟩
            · cases hcon
            have hsat := hp_ok h hb hp3
            obtain ⟨pl, vs, post, g1, g2, g3, g4, g5, g6⟩ := hsat
            obtain ⟨la, rfl, hla⟩ := segDrop_spec hs
            obtain ⟨va0, vb0, rfl, ra, vb1, rfl, rb⟩ := relS_append.1 g5
            obtain ⟨va, vx, vb, hsp, n1, n2, hnew⟩ := segSplice_spec hl' g5
            have hva : va0.length = va.length := by rw [n1]; exact (relS_len ra).trans hla
            obtain ⟨rfl, hsp2⟩ := List.append_inj hsp hva
            obtain ⟨rfl, rfl⟩ := List.append_inj hsp2 (by rw [intsV_length, n2])
            obtain ⟨px, qx, ox, q1, q2, q3, q4⟩ := put_put g src f (min n' n) k z (by omega)
            have heff := eff_write (l := l') (m := m) (vs := va0 ++ (intsV k (put_ g f (min n' n) src) z ++ vb1)) (post := post) h hg0 hown g1 g2 g3 (by rw [← g4]; simp [intsV_length]) (hnew _ ⟨[], by simp, rfl⟩) (fun hm => g6 hm)
            have hnoop : min n' n = 0 → w.setRow pl.b ((va0 ++ (intsV k (put_ g f (min n' n) src) z ++ vb1)) ++ post).toArray = w := by
              intro h0
              rw [h0] at q3 q4
              have : ox = [] := List.eq_nil_of_length_eq_zero q3
              subst this
              rw [h0, q4, show intsV k src 0 = [] from rfl, ← q1]
              exact setRow_self w pl.b _ _ _ g3
            intro K Q hK
            unfold Oper.wp
            rw [hx]
            have fin : (Builtin.copy_ #[tx, ty] op.type #[a.eval x, a.eval y]).run P w = .ok (.int .i64 (min n' n : Nat)) (w.setRow pl.b ((va0 ++ (intsV k (put_ g f (min n' n) src) z ++ vb1)) ++ post).toArray) := by
              rcases src_ok h hsrc hp4 (ev1_ok h h4 hp2) with ⟨s1, s2⟩ | ⟨A', cap', s1, _, s2⟩
              · subst s2
                rw [hnoop (Nat.zero_min n), e1, s1, run_copy_nil (P := P) w tx ty op.type el A n cap hu (by simp [c1])]
                simp only [Nat.zero_min]; rfl
              · by_cases h0 : min n' n = 0
                · rw [hnoop h0, e1, s1, run_copy_none (P := P) w tx ty op.type el (some A) (some A') n cap n' cap' hu (by simp [c1, c2]) h0, h0]; rfl
                · obtain ⟨pl', k1, k2, k3⟩ := e5 (.inl (by omega))
                  rw [g1] at k1; injection k1 with k1; subst k1
                  have hrow := run_copy_row (P := P) w tx ty op.type el pl.b (o + f) n cap A' n' cap' _ bt (intsV k src (min n' n)) hu (by simp [c1, c2]) g3 (by rw [intsV_length])
                    (fun j v hv => by
                      have hj : j < min n' n := by have := (List.getElem?_eq_some_iff.1 hv).1; rwa [intsV_length] at this
                      rw [intsV_get _ _ _ _ hj] at hv
                      injection hv with hv
                      rw [← hv]; exact s2 j (by omega))
                    (by rw [intsV_length]; simp [intsV_length, n1]; omega) (fun v hv => by simp only [intsV, List.mem_map] at hv; obtain ⟨_, _, rfl⟩ := hv; rfl)
                  rw [e1, s1, k2, g2, Nat.zero_add, hrow, intsV_length]
                  congr 2
                  rw [q4, q1, show ((va0 ++ (px ++ (ox ++ qx) ++ vb1) ++ post)).toArray.toList = (va0 ++ px) ++ (ox ++ (qx ++ (vb1 ++ post))) by simp]
                  rw [List.take_left' (by simp; omega), ← List.append_assoc (va0 ++ px) ox, List.drop_left' (by simp; omega)]
                  simp
            simp only [List.map_toArray, List.map_cons, List.map_nil, Sem.run_bind, fin, Result.andThen_ok, Sem.run_pure]
            exact hK _ _ ρ heff (fun sv hsv => by injection hsv with hsv; subst hsv; rfl)
          · cases e
        · cases e
      · cases e
    · cases e
  · cases e

end
end Go.Sx
