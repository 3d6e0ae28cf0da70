/- The symbolic evaluator: its operations are the model's: lengths, new blocks. Plain lemmas, no condition. -/
import Derived.Test.YtogijkmflhjhkaaSxF
namespace Go.Sx
open Go.RowKit
set_option linter.unusedSimpArgs false

set_option linter.unusedVariables false
section
variable {P : Program} {W : Env} {w0 w : World} {F : Nat → Prop} {ρ : Rho} {s : St} {a : Act} {op : Oper} {T : TypeId → Option TyI} {C : FuncId → Option Summary} {r : Res}

theorem act_index (h : R W w0 F ρ s a w) (hT : TOk P T) {t : TypeId} {x y : Operand} (ho : op.op = .index t x y) (e : act T C s op = some r) (hp : r.p.holds) : Ok P ρ s a w op r := by
  have hx : execOp a.eval op = (do pure (Next.value (← Instr.index t (a.eval x) (a.eval y)))) := by simp only [execOp, ho]
  simp only [act, ho] at e
  split at e
  · rename_i m el sz k0 f0 n0 p k f n q k' i hti h1 h2
    split at e
    · rename_i hnm
      simp only [Nat.beq_eq] at hnm
      subst hnm
      rw [one_inj e] at hp ⊢
      obtain ⟨hp1, hp2, hp3, hp4⟩ := hp
      obtain ⟨hu, ⟨ie, hi1, hi2⟩, _, hz0, _⟩ := (hT _ _ hti).1
      obtain ⟨hel, _⟩ := hz0 _ _ _ rfl
      have hs : (sizeOf el).run P w = .ok 1 w := by simp [sizeOf, typeInfo, hi1, hi2]
      have r2 := ev1_ok h h2 hp2
      simp only [RelA, Rel1] at r2
      obtain ⟨va, ra, vb, rb, rc⟩ := ev1_ok h h1 hp1
      simp only [RelS] at rc
      subst rc; subst rb
      rw [List.append_nil] at ra
      refine ok_run (v := .int k (f i.toNat)) hx ?_ rfl
      rw [ra, r2]
      have hin : i.toNat < n := by omega
      have hg := intsV_get k f n i.toNat hin
      have hpart : (part el (intsV k f n).toArray (i.toNat * 1)).run P w = .ok (.int k (f i.toNat)) w := by
        have : (isAgg el).run P w = .ok false w := by simp [isAgg, run_underlying hel]
        simp [part, this, hg]
      simp only [Instr.index, asIntOf, Sem.run_bind, Sem.run_pure, Result.andThen_ok, run_underlying hu]
      rw [if_pos ⟨hp3, hp4⟩]
      simp only [Sem.run_bind, hs, Result.andThen_ok, hpart]
    · cases e
  · rename_i sz zr p b q k i hti h1 h2
    rw [one_inj e] at hp ⊢
    obtain ⟨hp1, hp2, hp3, hp4⟩ := hp
    have hu : P.underlying t = some .string := (hT _ _ hti).1
    have r1 := ev1_ok h h1 hp1
    have r2 := ev1_ok h h2 hp2
    simp only [RelA, Rel1] at r1 r2
    refine ok_run (v := .int .u8 (bytesI b i.toNat)) hx ?_ rfl
    rw [r1, r2]
    have hin : i.toNat < b.size := by omega
    have hg : b[i.toNat]? = some b[i.toNat] := by simp [hin]
    simp only [Instr.index, asIntOf, Sem.run_bind, Sem.run_pure, Result.andThen_ok, run_underlying hu]
    rw [if_pos hp3, hg]
    have hd : i.toNat < b.data.size := hin
    simp only [Sem.run_pure, bytesI, Array.getD_eq_getD_getElem?, Array.getElem?_eq_getElem hd, Option.getD_some]
    rfl
  · cases e

theorem act_alloc (h : R W w0 F ρ s a w) (hT : TOk P T) {t : TypeId} (ho : op.op = .alloc t) (e : act T C s op = some r) (hp : r.p.holds) : Ok P ρ s a w op r := by
  have hx : execOp a.eval op = (do pure (Next.value (← Instr.alloc t true (.tuple #[])))) := by simp only [execOp, ho]
  simp only [act, ho] at e
  split at e
  · rename_i td tz tzero hti
    rw [St.newP_eq] at e
    injection e with e
    subst e
    obtain ⟨_, i, z, h1, h2, h3, h4⟩ := hT _ _ hti
    refine ok_new h (w' := w.alloc (.cells z.cells t)) (o := .cells z.cells t) (pl := ⟨w.heap.size, 0, z.cells.toList.length⟩) (v := .pointer (some ⟨w.heap.size, 0, none⟩)) ?_ (push_alloc _ _) rfl ?_ ⟨_, Rho.set_same, rfl⟩
    · rw [hx]
      simp [Instr.alloc, zeroValue, typeInfo, h1, h3, newVar, newRow]
    · have := sat_new (l := tzero) (vs := z.cells.toList) (post := []) (ty := t) (t := s.next) (w' := w.alloc (.cells z.cells t)) (m := false) h (by simpa using push_alloc w (.cells z.cells t)) (h4 ρ) rfl (fun _ => rfl)
      simpa using this
  · cases e

theorem one_cells {v : Value} (h : v.oneCell' = true) : v.cells = #[v] := by
  cases v <;> first | rfl | (exact absurd h (by decide)) | (simp [Value.oneCell'] at h)
theorem rel1_cells {c : SC} {v : Value} (hr : Rel1 ρ c v) : v.cells = #[v] := by
  cases c <;> simp only [Rel1] at hr
  case any => cases v <;> first | rfl | (exact absurd hr (by decide)) | (simp [Value.oneCell'] at hr)
  case ptr => obtain ⟨_, _, rfl⟩ := hr; rfl
  case sl => rcases hr with ⟨_, rfl, _⟩ | ⟨_, _, _, rfl, _⟩ <;> rfl
  case im => rcases hr with ⟨_, rfl, _⟩ | ⟨_, _, _, rfl, _⟩ <;> rfl
  case rows => rcases hr with ⟨_, rfl, _⟩ | ⟨_, _, _, rfl, _⟩ <;> rfl
  case adr => obtain ⟨_, _, rfl, _⟩ := hr; rfl
  case opq => exact one_cells hr.2
  case fn => obtain ⟨_, _, rfl⟩ := hr; rfl
  all_goals (subst hr; rfl)

theorem act_box (h : R W w0 F ρ s a w) {t : TypeId} {x : Operand} (ho : op.op = .box t x) (e : act T C s op = some r) (hp : r.p.holds) : Ok P ρ s a w op r := by
  have hx : execOp a.eval op = (do pure (Next.value (← Instr.box t (a.eval x)))) := by simp only [execOp, ho]
  simp only [act, ho] at e
  split at e
  · rename_i p v h1
    rw [St.newP_eq] at e
    injection e with e
    subst e
    have r1 := ev1_ok h h1 hp
    refine ok_new h (w' := w.alloc (.cells #[a.eval x] t)) (o := .cells #[a.eval x] t) (pl := ⟨w.heap.size, 0, 1⟩) (v := .pointer (some ⟨w.heap.size, 0, none⟩)) ?_ (push_alloc _ _) rfl ?_ ⟨_, Rho.set_same, rfl⟩
    · rw [hx]
      simp [Instr.box, newVar, newRow, rel1_cells r1]
    · exact sat_new (l := [.one v]) (vs := [a.eval x]) (post := []) (ty := t) (t := s.next) (w' := w.alloc (.cells #[a.eval x] t)) (m := false) h (push_alloc w _) ⟨_, [], rfl, r1, rfl⟩ rfl (fun _ => rfl)
  · rename_i p l h1
    rw [St.newP_eq] at e
    injection e with e
    subst e
    obtain ⟨vs, r1, r2⟩ := ev1_ok h h1 hp
    refine ok_new h (w' := w.alloc (.cells vs.toArray t)) (o := .cells vs.toArray t) (pl := ⟨w.heap.size, 0, vs.length⟩) (v := .pointer (some ⟨w.heap.size, 0, none⟩)) ?_ (push_alloc _ _) rfl ?_ ⟨_, Rho.set_same, rfl⟩
    · rw [hx, r1]
      simp [Instr.box, newVar, newRow, Value.cells]
    · have := sat_new (l := l) (vs := vs) (post := []) (ty := t) (t := s.next) (w' := w.alloc (.cells vs.toArray t)) (m := false) h (by simpa using push_alloc w (.cells vs.toArray t)) r2 rfl (fun _ => rfl)
      simpa using this
  · cases e


/-- The operands of a list, as values. -/
def RelP (ρ : Rho) : List (Nat × SA) → List (Nat × Value) → Prop
  | [], vs => vs = []
  | (i, v) :: r, vs => ∃ u vs', vs = (i, u) :: vs' ∧ RelA ρ v u ∧ RelP ρ r vs'
theorem evAll_ok (h : R W w0 F ρ s a w) : ∀ {l : List (Nat × Operand)} {p : Cd} {m : List (Nat × SA)}, evAll s l = some (p, m) → p.holds → RelP ρ m (l.map fun x => (x.1, a.eval x.2))
  | [], p, m, e, _ => by simp only [evAll] at e; injection e with e; injection e with e1 e2; subst e2; rfl
  | (i, x) :: l, p, m, e, hp => by
    simp only [evAll] at e
    split at e
    · rename_i p1 v q l' h1 h2
      injection e with e; injection e with e1 e2
      subst e1; subst e2
      exact ⟨_, _, rfl, ev1_ok h h1 hp.1, evAll_ok h h2 hp.2⟩
    · cases e
theorem evArgs_ok (h : R W w0 F ρ s a w) : ∀ {l : List Operand} {p : Cd} {m : List SA}, evArgs s l = some (p, m) → p.holds → RelL ρ m (l.map a.eval)
  | [], p, m, e, _ => by simp only [evArgs] at e; injection e with e; injection e with e1 e2; subst e2; rfl
  | x :: l, p, m, e, hp => by
    simp only [evArgs] at e
    split at e
    · rename_i p1 v q l' h1 h2
      injection e with e; injection e with e1 e2
      subst e1; subst e2
      exact ⟨_, _, rfl, ev1_ok h h1 hp.1, evArgs_ok h h2 hp.2⟩
    · cases e

theorem fill_step {place : Nat → Option (Nat × Nat)} {cells : Array Value} {i off : Nat} {v : Value} {rest : List (Nat × Value)} (hp : place i = some (off, 1)) (hv : v.cells = #[v]) (ho : off < cells.size) :
    Instr.fill place cells ((i, v) :: rest) = Instr.fill place (cells.setIfInBounds off v) rest := by
  simp only [Instr.fill, hp, hv]
  rw [if_neg (by simp; omega)]
  rfl
/-- Integers, one behind the other from place j on, laid over cells. -/
theorem fill_ints {k : IntKind} : ∀ {l : List (Nat × SA)} {j : Nat} {acc xs : List Int} {vs : List (Nat × Value)} {pre post : List Value} (place : Nat → Option (Nat × Nat)), (∀ i, place i = some (i, 1)) →
    partsI k l j acc = some xs → RelP ρ l vs → pre.length = j → l.length ≤ post.length →
    ∃ ys, xs = acc.reverse ++ ys ∧ ys.length = l.length ∧ Instr.fill place (pre ++ post).toArray vs = some (pre ++ (ys.map (Value.int k)) ++ post.drop l.length).toArray
  | [], j, acc, xs, vs, pre, post, place, hpl, e, hr, hj, hl => by
    simp only [partsI] at e
    injection e with e
    simp only [RelP] at hr
    subst hr; subst e
    exact ⟨[], by simp, rfl, by simp [Instr.fill]⟩
  | (i, v) :: l, j, acc, xs, vs, pre, post, place, hpl, e, hr, hj, hl => by
    obtain ⟨u, vs', rfl, h1, h2⟩ := hr
    cases v with
    | agg g => simp only [partsI] at e; cases e
    | sc c =>
      cases c <;> simp only [partsI, reduceCtorEq] at e
      rename_i k' n
      split at e
      · rename_i hc
        simp only [Bool.and_eq_true, Nat.beq_eq] at hc
        obtain ⟨rfl, hk⟩ := hc
        obtain rfl := kEq_spec hk
        simp only [RelA, Rel1] at h1
        subst h1
        cases post with
        | nil => simp at hl
        | cons x post =>
          have ih := fill_ints (pre := pre ++ [Value.int k n]) (post := post) place hpl e h2 (by simp [hj]) (by simpa using hl)
          obtain ⟨ys, g1, g2, g3⟩ := ih
          refine ⟨n :: ys, by rw [g1]; simp, by simp [g2], ?_⟩
          have hset : ((pre ++ x :: post).toArray.setIfInBounds i (Value.int k n)) = (pre ++ [Value.int k n] ++ post).toArray := by
            rw [List.setIfInBounds_toArray, List.set_append_right _ _ (by omega), hj, Nat.sub_self]
            simp
          rw [fill_step (hpl i) rfl (by simp; omega), hset, g3]
          simp
      · cases e

theorem partsI_len {k : IntKind} : ∀ {l : List (Nat × SA)} {j : Nat} {acc xs : List Int}, partsI k l j acc = some xs → xs.length = acc.length + l.length
  | [], j, acc, xs, e => by simp only [partsI] at e; injection e with e; subst e; simp
  | (i, v) :: l, j, acc, xs, e => by
    cases v with
    | agg g => simp only [partsI] at e; cases e
    | sc c =>
      cases c <;> simp only [partsI, reduceCtorEq] at e
      split at e
      · rw [partsI_len e]; simp; omega
      · cases e
theorem intsV_list (k : IntKind) (xs : List Int) (n : Nat) (h : xs.length ≤ n) : intsV k (listI xs) n = xs.map (Value.int k) ++ List.replicate (n - xs.length) (.int k 0) := by
  apply List.ext_getElem?
  intro j
  by_cases hj : j < n
  · rw [intsV_get _ _ _ _ hj]
    by_cases hx : j < xs.length
    · rw [List.getElem?_append_left (by simpa using hx)]
      simp [listI, hx]
    · rw [List.getElem?_append_right (by simpa using hx)]
      simp [listI, List.getElem?_replicate]
      rw [List.getElem?_eq_none (by omega)]
      simp; omega
  · rw [List.getElem?_eq_none (by rw [intsV_length]; omega), List.getElem?_eq_none (by simp; omega)]
theorem intsV_const (k : IntKind) (f : Nat → Int) (n : Nat) (h : ∀ j, f j = 0) : intsV k f n = List.replicate n (.int k 0) := by
  apply List.ext_getElem?
  intro j
  by_cases hj : j < n
  · rw [intsV_get _ _ _ _ hj, h, List.getElem?_replicate, if_pos hj]
  · rw [List.getElem?_eq_none (by rw [intsV_length]; omega), List.getElem?_eq_none (by simp; omega)]
theorem replicate_madeCells (k : IntKind) (n : Nat) : (Array.range n).map (#[Value.int k 0][· % 1]!) = (List.replicate n (Value.int k 0)).toArray := by
  apply Array.ext
  · simp
  · intro i h1 h2
    simp [Nat.mod_one]

/-- Values of one cell, one behind the other. -/
theorem fill_one : ∀ {l : List (Nat × SA)} {j : Nat} {xs : List Seg} {vs : List (Nat × Value)} {pre post : List Value} (place : Nat → Option (Nat × Nat)), (∀ i, place i = some (i, 1)) →
    partsO l j = some xs → RelP ρ l vs → pre.length = j → l.length = post.length → ∃ ys, Instr.fill place (pre ++ post).toArray vs = some (pre ++ ys).toArray ∧ RelS ρ xs ys
  | [], j, xs, vs, pre, post, place, hpl, e, hr, hj, hl => by
    simp only [partsO] at e
    injection e with e
    simp only [RelP] at hr
    subst hr; subst e
    cases post with
    | nil => exact ⟨[], by simp [Instr.fill], rfl⟩
    | cons x post => simp at hl
  | (i, v) :: l, j, xs, vs, pre, post, place, hpl, e, hr, hj, hl => by
    obtain ⟨u, vs', rfl, h1, h2⟩ := hr
    cases v with
    | agg g => simp only [partsO] at e; cases e
    | sc c =>
      simp only [partsO] at e
      split at e
      · rename_i hi
        simp only [Nat.beq_eq] at hi
        subst hi
        split at e
        rotate_left
        · cases e
        rename_i xs' e1
        injection e with e
        subst e
        cases post with
        | nil => simp at hl
        | cons x post =>
          obtain ⟨ys, g1, g2⟩ := fill_one (pre := pre ++ [u]) (post := post) place hpl e1 h2 (by simp [hj]) (by simpa using hl)
          refine ⟨u :: ys, ?_, u, ys, rfl, h1, g2⟩
          have hset : ((pre ++ x :: post).toArray.setIfInBounds i u) = (pre ++ [u] ++ post).toArray := by
            rw [List.setIfInBounds_toArray, List.set_append_right _ _ (by omega), hj, Nat.sub_self]
            simp
          rw [fill_step (hpl i) (rel1_cells h1) (by simp; omega), hset, g1]
          simp
      · cases e

theorem foldl_set : ∀ (x : List Value) (j0 off : Nat) (a b c : List Value), a.length = off + j0 → x.length = b.length →
    (x.zipIdx j0).foldl (fun (cs : Array Value) (p : Value × Nat) => cs.setIfInBounds (off + p.2) p.1) (a ++ (b ++ c)).toArray = (a ++ (x ++ c)).toArray
  | [], j0, off, a, b, c, ha, hb => by
    cases b with
    | nil => rfl
    | cons _ _ => simp at hb
  | v :: x, j0, off, a, b, c, ha, hb => by
    cases b with
    | nil => simp at hb
    | cons u b =>
      simp only [List.zipIdx_cons, List.foldl_cons]
      have hset : ((a ++ (u :: b ++ c)).toArray.setIfInBounds (off + j0) v) = ((a ++ [v]) ++ (b ++ c)).toArray := by
        rw [List.setIfInBounds_toArray, List.set_append_right _ _ (by omega), ha, Nat.sub_self]
        simp
      rw [hset, foldl_set x (j0 + 1) off (a ++ [v]) b c (by simp; omega) (by simpa using hb)]
      simp
theorem fill_step_agg {place : Nat → Option (Nat × Nat)} {i off n : Nat} {v : Value} {x a b c : List Value} {rest : List (Nat × Value)} (hp : place i = some (off, n)) (hv : v.cells = x.toArray) (hx : x.length = n) (hb : b.length = n) (ho : a.length = off) :
    Instr.fill place (a ++ (b ++ c)).toArray ((i, v) :: rest) = Instr.fill place (a ++ (x ++ c)).toArray rest := by
  simp only [Instr.fill, hp, hv]
  rw [if_neg (by simp; omega)]
  have := foldl_set x 0 off a b c (by omega) (by omega)
  rw [← this]
  simp

end
end Go.Sx
