/- The symbolic evaluator: its operations are the model's: those that read, and those that make one block. Plain lemmas, no condition. -/
import Derived.Test.YtogijkmflhjhkaaSxD
namespace Go.Sx
open Go.RowKit
set_option linter.unusedSimpArgs false

set_option linter.unusedVariables false
section
variable {P : Program} {W : Env} {w0 w : World} {F : Nat → Prop} {ρ : Rho} {s : St} {a : Act} {op : Oper} {T : TypeId → Option TyI} {C : FuncId → Option Summary} {r : Res}

theorem hp_ok (h : R W w0 F ρ s a w) {t : Nat} {p : Cd} {b : SB} (e : s.hp t = some (p, b)) (hp : p.holds) : Sat ρ w b t := by
  unfold St.hp at e
  split at e
  · rename_i g g' b' hb; injection e with e; injection e with e1 e2; subst e1; subst e2; exact h.heap _ _ hb hp.1 hp.2
  · rename_i g b' _ hb; injection e with e; injection e with e1 e2; subst e1; subst e2; exact h.heap _ _ hb hp
  · rename_i b' _ _ hb; injection e with e; injection e with e1 e2; subst e2; exact h.heap _ _ hb
  · cases e

/-- The cells of a stretch of an own block. -/
theorem sat_seg {ty : TypeId} {l r' : List Seg} {m : Bool} {t o : Nat} {g : Seg} (h : Sat ρ w (.own ty l m) t) (e : segDrop l o = some (g :: r')) :
    ∃ pl va vb post, ρ t = some pl ∧ pl.f = 0 ∧ w.heap[pl.b]? = some (.cells (va ++ (vb ++ post)).toArray ty (0, 0)) ∧ (va ++ (vb ++ post)).length = pl.n ∧ va.length = o ∧ RelS ρ (g :: r') vb := by
  obtain ⟨pl, vs, post, h1, h2, h3, h4, h5, h6⟩ := h
  obtain ⟨x, rfl, hx⟩ := segDrop_spec e
  obtain ⟨va, vb, rfl, ra, rb⟩ := relS_append.1 h5
  exact ⟨pl, va, vb, post, h1, h2, by simpa using h3, by simpa using h4, (relS_len ra).trans hx, rb⟩
theorem cell_in {w : World} {b : Nat} {vs : List Value} {ty : TypeId} {fr : Nat × Nat} (h : w.heap[b]? = some (.cells vs.toArray ty fr)) (j : Nat) : w.cell? ⟨b, j, none⟩ = vs[j]? := by
  rw [cell_of_row w b j _ ty fr h]; simp
theorem get_mid (va vb post : List Value) (i : Nat) (h : i < vb.length) : (va ++ (vb ++ post))[va.length + i]? = vb[i]? := by
  rw [List.getElem?_append_right (by omega), Nat.add_sub_cancel_left, List.getElem?_append_left h]
/-- An integer of a stretch of integers. -/
theorem cell_ints {ty : TypeId} {l r' : List Seg} {m : Bool} {t o : Nat} {k : IntKind} {f : Nat → Int} {n i : Nat} (h : Sat ρ w (.own ty l m) t) (e : segDrop l o = some (.ints k f n :: r')) (hi : i < n) :
    ∃ pl, ρ t = some pl ∧ w.cell? ⟨pl.b, pl.f + (o + i), none⟩ = some (.int k (f i)) := by
  obtain ⟨pl, va, vb, post, h1, h2, h3, h4, h5, vb', h6, h7⟩ := sat_seg h e
  refine ⟨pl, h1, ?_⟩
  rw [h2, Nat.zero_add, cell_in h3, ← h5, get_mid _ _ _ _ (by rw [h6, List.length_append, intsV_length]; omega), h6, List.getElem?_append_left (by rw [intsV_length]; exact hi)]
  exact intsV_get k f n i hi
theorem cell_one {ty : TypeId} {l r' : List Seg} {m : Bool} {t o : Nat} {c : SC} (h : Sat ρ w (.own ty l m) t) (e : segDrop l o = some (.one c :: r')) :
    ∃ pl v, ρ t = some pl ∧ w.cell? ⟨pl.b, pl.f + o, none⟩ = some v ∧ Rel1 ρ c v := by
  obtain ⟨pl, va, vb, post, h1, h2, h3, h4, h5, v, vb', h6, h7, h8⟩ := sat_seg h e
  refine ⟨pl, v, h1, ?_, h7⟩
  rw [h2, Nat.zero_add, cell_in h3, ← h5]
  have := get_mid va vb post 0 (by rw [h6]; simp)
  rw [Nat.add_zero] at this
  rw [this, h6]; rfl

/-- A row of a stretch of rows. -/
theorem cell_rows {ty : TypeId} {l r' : List Seg} {m : Bool} {t o : Nat} {k : IntKind} {f : Nat → Row} {n i : Nat} (h : Sat ρ w (.own ty l m) t) (e : segDrop l o = some (.rows k f n :: r')) (hi : i < n) :
    ∃ pl v, ρ t = some pl ∧ w.cell? ⟨pl.b, pl.f + (o + i), none⟩ = some v ∧ RelRow ρ k (f i) v := by
  obtain ⟨pl, va, vb, post, h1, h2, h3, h4, h5, us, vb', h6, hul, hrow, h7⟩ := sat_seg h e
  have hin : i < us.length := by omega
  refine ⟨pl, us[i], h1, ?_, hrow i _ (by simp [hin])⟩
  rw [h2, Nat.zero_add, cell_in h3, ← h5, get_mid _ _ _ _ (by rw [h6, List.length_append]; omega), h6, List.getElem?_append_left hin]
  simp [hin]

theorem run_loadVar_sc {ty : TypeId} (hagg : (isAgg ty).run P w = .ok false w) {A : Addr} {v : Value} (hc : w.cell? A = some v) : (Instr.loadAt ty (.pointer (some A))).run P w = .ok v w := by
  simp [Instr.loadAt, Instr.sureAddr, loadVar, hagg, load, Sem.run, hc]

theorem isAgg_false {t : TypeId} {ti : TyI} (hT : TOk P T) (e : T t = some ti) (hd : isRow ti.d = false) : (isAgg t).run P w = .ok false w := by
  have h := (hT t ti e).1
  cases hq : ti.d <;> rw [hq] at h hd <;> simp only [TyD.ok] at h
  case int => simp [isAgg, run_underlying h]
  case bool => simp [isAgg, run_underlying h]
  case str => simp [isAgg, run_underlying h]
  case slice => simp [isAgg, run_underlying h.1]
  case array => cases hd
  case struct => cases hd
  case ptr => obtain ⟨e', h⟩ := h; simp [isAgg, run_underlying h]

theorem row_of {t : TypeId} {ti : TyI} (hT : TOk P T) (e : T t = some ti) (hd : isRow ti.d = true) : ∃ d, P.underlying t = some d ∧ d.isRow = true := by
  have h := (hT t ti e).1
  cases hq : ti.d <;> rw [hq] at h hd <;> first | (cases hd; done) | skip
  case array => exact ⟨_, h.1, rfl⟩
  case struct => obtain ⟨F, h, _⟩ := h; exact ⟨_, h, rfl⟩

theorem load_agg (h : R W w0 F ρ s a w) (hT : TOk P T) {ty : TypeId} {x : Operand} {ti : TyI} {p q : Cd} {t o : Nat} {bt : TypeId} {l rr : List Seg} {m : Bool} (ho : op.op = .load ty x) (hti : T ty = some ti)
    (hd : isRow ti.d = true) (h1 : s.ev1 x = some (p, .sc (.ptr t o 0))) (hb : s.hp t = some (q, .own bt l m))
    (hseg : ((segDrop l o).bind fun r => segTake r ti.size) = some rr) (e : s.one (.and p q) (.sa (.agg rr)) = some r) (hp : r.p.holds) : Ok P ρ s a w op r := by
  have hx : execOp a.eval op = (do pure (Next.value (← Instr.loadAt ty (a.eval x)))) := by simp only [execOp, ho]
  rw [one_inj e] at hp ⊢
  obtain ⟨pl, e1, e2⟩ := ev1_ok h h1 hp.1
  have hsat := hp_ok h hb hp.2
  rw [Option.bind_eq_some_iff] at hseg
  obtain ⟨lr, hs1, hs2⟩ := hseg
  obtain ⟨pl', vs, post, g1, g2, g3, g4, g5, g6⟩ := hsat
  rw [e1] at g1; injection g1 with g1; subst g1
  obtain ⟨la, rfl, hla⟩ := segDrop_spec hs1
  obtain ⟨lc, rfl, hlc⟩ := segTake_spec hs2
  obtain ⟨va, vb, rfl, ra, rb⟩ := relS_append.1 g5
  obtain ⟨vc, vd, rfl, rc, rd⟩ := relS_append.1 rb
  refine ok_run (v := .agg vc.toArray) hx ?_ ⟨vc, rfl, rc⟩
  rw [e2]
  obtain ⟨hdok, inf, z, hi1, hi2, _⟩ := hT _ _ hti
  obtain ⟨d, hu, hrow⟩ := row_of hT hti hd
  have hrange : w.rangeAt pl.b (pl.f + (o + 0)) vc := by
    intro j v hv
    have hj : j < vc.length := (List.getElem?_eq_some_iff.1 hv).1
    have hva : va.length = o := (relS_len ra).trans hla
    rw [g2, Nat.zero_add, Nat.add_zero, cell_in g3, ← hva, List.append_assoc, List.append_assoc, get_mid va vc _ j hj]
    exact hv
  exact run_loadAt_mid w pl.b _ ty vc d hrange hu hrow (by rw [hi1]; simp [hi2, relS_len rc, hlc])

theorem load_sc (h : R W w0 F ρ s a w) (hT : TOk P T) {ty : TypeId} {x : Operand} {ti : TyI} {p : Cd} {t o i : Nat} {sv : SC} {p' : Cd} (ho : op.op = .load ty x) (hti : T ty = some ti)
    (hd : isRow ti.d = false) (h1 : s.ev1 x = some (p, .sc (.ptr t o i))) (hp : p.holds)
    (hc : ∃ pl v, ρ t = some pl ∧ w.cell? ⟨pl.b, pl.f + (o + i), none⟩ = some v ∧ Rel1 ρ sv v) : Ok P ρ s a w op ⟨p', some (Sx.sc sv), [], s.next⟩ := by
  have hx : execOp a.eval op = (do pure (Next.value (← Instr.loadAt ty (a.eval x)))) := by simp only [execOp, ho]
  obtain ⟨pl, v, e1, e2, e3⟩ := hc
  obtain ⟨pl', g1, g2⟩ := ev1_ok h h1 hp
  rw [e1] at g1; injection g1 with g1; subst g1
  refine ok_run (v := v) hx ?_ e3
  rw [g2]
  exact run_loadVar_sc (isAgg_false hT hti hd) e2

theorem load_adr (h : R W w0 F ρ s a w) (hT : TOk P T) {ty : TypeId} {x : Operand} {ti : TyI} {p : Cd} {c : SC} {p' : Cd} (ho : op.op = .load ty x) (hti : T ty = some ti)
    (hd : isRow ti.d = false) (h1 : s.ev1 x = some (p, .sc (.adr c))) (hp : p.holds) : Ok P ρ s a w op ⟨p', some (Sx.sc c), [], s.next⟩ := by
  have hx : execOp a.eval op = (do pure (Next.value (← Instr.loadAt ty (a.eval x)))) := by simp only [execOp, ho]
  obtain ⟨A, u, g1, g2, g3⟩ := ev1_ok h h1 hp
  refine ok_run (v := u) hx ?_ g3
  rw [g1]
  exact run_loadVar_sc (isAgg_false hT hti hd) (h.imm A u g2)

theorem act_load (h : R W w0 F ρ s a w) (hT : TOk P T) {ty : TypeId} {x : Operand} (ho : op.op = .load ty x) (e : act T C s op = some r) (hp : r.p.holds) : Ok P ρ s a w op r := by
  simp only [act, ho] at e
  unfold actLoad at e
  split at e
  · rename_i ti p c hti h1
    split at e
    · cases e
    · rename_i hd
      rw [one_inj e] at hp ⊢
      exact load_adr h hT ho hti hd h1 hp
  · rename_i ti p t o i hti h1
    split at e
    · rename_i q bt l m hb
      split at e
      · rename_i hd
        split at e
        · rename_i rr hseg
          exact load_agg h hT ho hti hd h1 hb hseg e hp
        · cases e
      · rename_i hd
        split at e
        · rename_i k f n r' hs
          rw [one_inj e] at hp ⊢
          obtain ⟨pl, c1, c2⟩ := cell_ints (hp_ok h hb hp.2.1) hs hp.2.2
          exact load_sc h hT ho hti hd h1 hp.1 ⟨pl, _, c1, c2, rfl⟩
        · rename_i k f n r' hs
          rw [one_inj e] at hp ⊢
          obtain ⟨pl, v, c1, c2, c3⟩ := cell_rows (hp_ok h hb hp.2.1) hs hp.2.2
          exact load_sc h hT ho hti hd h1 hp.1 ⟨pl, v, c1, c2, c3⟩
        · rename_i c r' hs
          split at e
          · rw [one_inj e] at hp ⊢
            obtain ⟨pl, v, c1, c2, c3⟩ := cell_one (hp_ok h hb hp.2) hs
            exact load_sc h hT ho hti hd h1 hp.1 ⟨pl, v, c1, c2, c3⟩
          · rename_i i j
            split at e
            · rename_i c' r'' hs'
              rw [one_inj e] at hp ⊢
              obtain ⟨pl, va, vb, post, c1, c2, c3, c4, c5, v, vb', rfl, c7, c8⟩ := sat_seg (hp_ok h hb hp.2) hs
              obtain ⟨x2, rfl, hx2⟩ := segDrop_spec hs'
              obtain ⟨vc, vd, rfl, rc, v', vd', rfl, c9, c10⟩ := relS_append.1 c8
              have hl : vc.length = j := (relS_len rc).trans hx2
              refine load_sc h hT ho hti hd h1 hp.1 ⟨pl, v', c1, ?_, c9⟩
              rw [c2, Nat.zero_add, cell_in c3, ← c5, get_mid _ _ _ _ (by simp; omega)]
              rw [show Nat.succ j = j + 1 from rfl, List.getElem?_cons_succ, ← hl, List.getElem?_append_right (Nat.le_refl _), Nat.sub_self]
              rfl
            · cases e
        · cases e
    · rename_i q k f n hb
      split at e
      · rename_i k' hd
        rw [one_inj e] at hp ⊢
        obtain ⟨pl, c1, c2⟩ := hp_ok h hb hp.2.1
        exact load_sc h hT ho hti (by rw [hd]; rfl) h1 hp.1 ⟨pl, _, c1, c2 _ hp.2.2, rfl⟩
      · cases e
    · cases e
  · cases e


theorem act_nilCheck (h : R W w0 F ρ s a w) {x : Operand} (ho : op.op = .nilCheck x) (e : act T C s op = some r) (hp : r.p.holds) : Ok P ρ s a w op r := by
  simp only [act, ho] at e
  split at e
  · rename_i p t o i h1
    rw [one_inj e] at hp ⊢
    have r1 := ev1_ok h h1 hp
    obtain ⟨pl, e1, e2⟩ := r1
    refine ok_pure (v := a.eval x) ?_ ⟨pl, e1, e2⟩
    simp only [execOp, ho, e2]; rfl
  · rename_i p c h1
    rw [one_inj e] at hp ⊢
    have r1 := ev1_ok h h1 hp
    obtain ⟨A, u, e1, e2, e3⟩ := r1
    refine ok_pure (v := a.eval x) ?_ ⟨A, u, e1, e2, e3⟩
    simp only [execOp, ho, e1]; rfl
  · cases e

theorem act_fieldAddr (h : R W w0 F ρ s a w) (hT : TOk P T) {t : TypeId} {x : Operand} {f : Nat} (ho : op.op = .fieldAddr t x f) (e : act T C s op = some r) (hp : r.p.holds) : Ok P ρ s a w op r := by
  have hx : execOp a.eval op = (do pure (Next.value (← Instr.fieldAt t (a.eval x) f))) := by simp only [execOp, ho]
  simp only [act, ho] at e
  split at e
  · rename_i fs sz z p tg o hti h1
    split at e
    · rename_i off csz hf
      rw [one_inj e] at hp ⊢
      obtain ⟨pl, e1, e2⟩ := ev1_ok h h1 hp
      obtain ⟨F, hu, hF, hall⟩ := (hT _ _ hti).1
      obtain ⟨fd, g1, g2, jf, g3, g4, g5⟩ := hall f _ hf
      refine ok_run (v := .pointer (some ⟨pl.b, pl.f + (o + off + 0), none⟩)) hx ?_ ⟨pl, e1, rfl⟩
      rw [e2]
      simp only [] at g2
      simp [Instr.fieldAt, run_underlying hu, g1, Instr.sureAddr, fieldPlace, sizeOf, typeInfo, g3, g5, g2, Addr.add_mid, Nat.add_assoc]
    · cases e
  · cases e

theorem elem_one {t e : TypeId} {b : Nat} {z : Seg} {sz : Nat} {zr : List Seg} (hT : TOk P T) (hti : T t = some ⟨.slice e b z, sz, zr⟩) : P.underlying t = some (.slice e) ∧ (sizeOf e).run P w = .ok 1 w := by
  obtain ⟨hu, ie, ze, h1, h2, _⟩ := (hT _ _ hti).1
  exact ⟨hu, by simp [sizeOf, typeInfo, h1, h2]⟩

theorem act_indexAddr (h : R W w0 F ρ s a w) (hT : TOk P T) {t : TypeId} {x y : Operand} (ho : op.op = .indexAddr t x y) (e : act T C s op = some r) (hp : r.p.holds) : Ok P ρ s a w op r := by
  have hx : execOp a.eval op = (do pure (Next.value (← Instr.indexAt t (a.eval x) (a.eval y)))) := by simp only [execOp, ho]
  simp only [act, ho] at e
  split at e
  · rename_i el b z sz zr p nl ex zz tg o f n c q k i hti h1 h2
    rw [one_inj e] at hp ⊢
    obtain ⟨hp1, hp2, hp3, hp4⟩ := hp
    obtain ⟨hu, hs⟩ := elem_one (w := w) hT hti
    have r2 := ev1_ok h h2 hp2
    simp only [RelA, Rel1] at r2
    rcases ev1_ok h h1 hp1 with ⟨_, e2, e3, _⟩ | ⟨_, A, cap, e2, _, _, _, e3⟩
    · omega
    · obtain ⟨pl, g1, g2, _⟩ := e3.1 (.inl (by omega))
      refine ok_run (v := .pointer (some ⟨pl.b, pl.f + (o + (f + i.toNat)), none⟩)) hx ?_ ⟨pl, g1, rfl⟩
      rw [e2, r2, g2]
      simp only [Instr.indexAt, asIntOf, Sem.run_bind, Sem.run_pure, Result.andThen_ok, run_underlying hu]
      rw [if_pos ⟨hp3, hp4⟩]
      simp only [Sem.run_bind, hs, Result.andThen_ok, Sem.run_pure, Addr.add_mid, Nat.mul_one, Nat.add_assoc]
  · rename_i el b z sz zr p nl k f n q k' i hti h1 h2
    rw [one_inj e] at hp ⊢
    obtain ⟨hp1, hp2, hp3, hp4⟩ := hp
    obtain ⟨hu, hs⟩ := elem_one (w := w) hT hti
    have r2 := ev1_ok h h2 hp2
    simp only [RelA, Rel1] at r2
    rcases ev1_ok h h1 hp1 with ⟨_, e2, e3⟩ | ⟨_, A, cap, e2, _, _, e3⟩
    · simp only at e3; omega
    · refine ok_run (v := .pointer (some (A.add i.toNat))) hx ?_ ⟨_, _, rfl, e3 i.toNat (by simp only; omega), rfl⟩
      rw [e2, r2]
      simp only [Instr.indexAt, asIntOf, Sem.run_bind, Sem.run_pure, Result.andThen_ok, run_underlying hu]
      rw [if_pos ⟨hp3, hp4⟩]
      simp only [Sem.run_bind, hs, Result.andThen_ok, Sem.run_pure, Nat.mul_one]
  · rename_i el b z sz zr p nl k f n q k' i hti h1 h2
    rw [one_inj e] at hp ⊢
    obtain ⟨hp1, hp2, hp3, hp4⟩ := hp
    obtain ⟨hu, hs⟩ := elem_one (w := w) hT hti
    have r2 := ev1_ok h h2 hp2
    simp only [RelA, Rel1] at r2
    rcases ev1_ok h h1 hp1 with ⟨_, e2, e3⟩ | ⟨_, A, cap, e2, _, _, e3⟩
    · omega
    · obtain ⟨u, g1, g2⟩ := e3 i.toNat (by omega)
      refine ok_run (v := .pointer (some (A.add i.toNat))) hx ?_ ⟨_, u, rfl, g1, g2⟩
      rw [e2, r2]
      simp only [Instr.indexAt, asIntOf, Sem.run_bind, Sem.run_pure, Result.andThen_ok, run_underlying hu]
      rw [if_pos ⟨hp3, hp4⟩]
      simp only [Sem.run_bind, hs, Result.andThen_ok, Sem.run_pure, Nat.mul_one]
  · rename_i n el sz zr p tg o q k i hti h1 h2
    rw [one_inj e] at hp ⊢
    obtain ⟨hp1, hp2, hp3, hp4⟩ := hp
    obtain ⟨hu, ⟨ie, hi1, hi2⟩, _⟩ := (hT _ _ hti).1
    have hs : (sizeOf el).run P w = .ok 1 w := by simp [sizeOf, typeInfo, hi1, hi2]
    have r2 := ev1_ok h h2 hp2
    simp only [RelA, Rel1] at r2
    obtain ⟨pl, g1, g2⟩ := ev1_ok h h1 hp1
    refine ok_run (v := .pointer (some ⟨pl.b, pl.f + (o + i.toNat), none⟩)) hx ?_ ⟨pl, g1, rfl⟩
    rw [g2, r2]
    simp only [Instr.indexAt, asIntOf, Sem.run_bind, Sem.run_pure, Result.andThen_ok, run_underlying hu, Instr.sureAddr]
    rw [if_pos ⟨hp3, hp4⟩]
    simp only [Sem.run_bind, hs, Result.andThen_ok, Sem.run_pure, Addr.add_mid, Nat.mul_one, Nat.add_assoc, Nat.add_zero]
  · cases e

theorem act_extract (h : R W w0 F ρ s a w) {x : Operand} {i : Nat} (ho : op.op = .extract x i) (e : act T C s op = some r) (hp : r.p.holds) : Ok P ρ s a w op r := by
  have hx : execOp a.eval op = (do pure (Next.value (← Instr.extract (a.eval x) i))) := by simp only [execOp, ho]
  simp only [act, ho] at e
  split at e
  · rename_i l h1
    rw [Option.bind_eq_some_iff] at e
    obtain ⟨v, hv, e⟩ := e
    rw [one_inj e] at hp ⊢
    obtain ⟨vs, e1, e2⟩ := ev_ok h h1
    have key : ∀ (l : List SA) (vs : List Value) (i : Nat) (v : SA), RelL ρ l vs → l[i]? = some v → ∃ u, vs[i]? = some u ∧ RelA ρ v u := by
      intro l
      induction l with
      | nil => intro vs i v _ h; simp at h
      | cons g l ih =>
        rintro vs i v ⟨u, vs', rfl, h1, h2⟩ h
        cases i with
        | zero => simp at h; subst h; exact ⟨u, rfl, h1⟩
        | succ i => simp at h; obtain ⟨u', g1, g2⟩ := ih vs' i v h2 h; exact ⟨u', by simpa using g1, g2⟩
    obtain ⟨u, g1, g2⟩ := key _ _ _ _ e2 hv
    refine ok_run (v := u) hx ?_ g2
    rw [e1]
    simp [Instr.extract, g1]
  · cases e

theorem act_makeFunc (h : R W w0 F ρ s a w) {fn : Fn} {x1 x2 : Array Operand} (ho : op.op = .makeFunc fn x1 x2) (e : act T C s op = some r) (hp : r.p.holds) : Ok P ρ s a w op r := by
  have hx : execOp a.eval op = (do pure (Next.value (← Instr.makeFunc fn (x1.map a.eval) (x2.map a.eval)))) := by simp only [execOp, ho]
  simp only [act, ho] at e
  split at e
  · rename_i f x h1 h2
    have e1 : x1 = #[] := by cases x1; simp at h1; subst h1; rfl
    have e2 : x2 = #[x] := by cases x2; simp at h2; subst h2; rfl
    subst e1; subst e2
    split at e
    · rename_i p t h1
      rw [one_inj e] at hp ⊢
      obtain ⟨pl, g1, g2⟩ := ev1_ok h h1 hp
      refine ok_run (v := .func (.func f) #[] #[.pointer (some ⟨pl.b, pl.f, none⟩)]) hx ?_ ⟨pl, g1, rfl⟩
      have g3 : a.eval x = .pointer (some ⟨pl.b, pl.f, none⟩) := by rw [g2]; rfl
      simp [Instr.makeFunc, g3]
    · cases e
  · cases e

end
end Go.Sx
