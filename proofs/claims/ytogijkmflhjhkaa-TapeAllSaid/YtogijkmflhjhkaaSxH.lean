/- The symbolic evaluator: its operations are the model's: values built, slices made. Plain lemmas, no condition. -/
import Derived.Test.YtogijkmflhjhkaaSxG
import Derived.Test.YtogijkmflhjhkaaMem
namespace Go.Sx
open Go.RowKit
set_option linter.unusedSimpArgs false

set_option linter.unusedVariables false
section
variable {P : Program} {W : Env} {w0 w : World} {F : Nat → Prop} {ρ : Rho} {s : St} {a : Act} {op : Oper} {T : TypeId → Option TyI} {C : FuncId → Option Summary} {r : Res}

theorem run_mapM_list {α β : Type} (f : α → Sem β) (g : α → β) : ∀ (l : List α), (∀ x ∈ l, (f x).run P w = .ok (g x) w) → (l.mapM f).run P w = .ok (l.map g) w
  | [], _ => by simp
  | x :: l, h => by
    have ih := run_mapM_list f g l (fun y hy => h y (by simp [hy]))
    simp [List.mapM_cons, h x (by simp), ih]
theorem run_mapM_arr {α β : Type} (f : α → Sem β) (g : α → β) (l : Array α) (h : ∀ x ∈ l, (f x).run P w = .ok (g x) w) : (l.mapM f).run P w = .ok (l.map g) w := by
  have ht := run_mapM_list (P := P) (w := w) f g l.toList (fun x hx => h x (by simpa using hx))
  rw [Array.mapM_eq_mapM_toList, map_eq_pure_bind]
  simp only [Sem.run_bind, ht, Result.andThen_ok, Sem.run_pure]
  congr 1
  apply Array.ext'
  simp

theorem segSplice_cells {fs : List (Nat × Nat)} {place : Nat → Option (Nat × Nat)} (hpl : ∀ i x, fs[i]? = some x → place i = some x) :
    ∀ {l : List (Nat × SA)} {acc r : List Seg} {vs : List (Nat × Value)} {cs : List Value}, partsS fs l acc = some r → RelP ρ l vs → RelS ρ acc cs → ∃ ys, Instr.fill place cs.toArray vs = some ys.toArray ∧ RelS ρ r ys
  | [], acc, r, vs, cs, e, hr, hc => by
    simp only [partsS] at e
    injection e with e
    simp only [RelP] at hr
    subst hr; subst e
    exact ⟨cs, rfl, hc⟩
  | (i, v) :: l, acc, r, vs, cs, e, hr, hc => by
    obtain ⟨u, vs', rfl, h1, h2⟩ := hr
    simp only [partsS] at e
    split at e
    · cases e
    · rename_i off sz hf
      have hp := hpl _ _ hf
      split at e
      · rename_i c
        split at e
        · rename_i hs
          simp only [Nat.beq_eq] at hs
          subst hs
          rw [Option.bind_eq_some_iff] at e
          obtain ⟨acc', e1, e2⟩ := e
          obtain ⟨x, y, z, rfl, g1, g2, g3⟩ := segSplice_spec e1 hc
          rw [fill_step_agg (x := [u]) hp (rel1_cells h1) rfl g2 g1]
          exact segSplice_cells hpl e2 h2 (g3 [u] ⟨u, [], rfl, h1, rfl⟩)
        · cases e
      · rename_i sg
        split at e
        · rename_i hs
          simp only [Nat.beq_eq] at hs
          subst hs
          rw [Option.bind_eq_some_iff] at e
          obtain ⟨acc', e1, e2⟩ := e
          obtain ⟨x, y, z, rfl, g1, g2, g3⟩ := segSplice_spec e1 hc
          obtain ⟨us, rfl, h1⟩ := h1
          rw [fill_step_agg (x := us) hp rfl (relS_len h1) g2 g1]
          exact segSplice_cells hpl e2 h2 (g3 us h1)
        · cases e

theorem act_build (h : R W w0 F ρ s a w) (hT : TOk P T) {t : TypeId} {parts : Array (Nat × Operand)} (ho : op.op = .build t parts) (e : act T C s op = some r) (hp : r.p.holds) : Ok P ρ s a w op r := by
  have hx : execOp a.eval op = (do pure (Next.value (← Instr.build t (parts.map fun (i, x) => (i, a.eval x))))) := by simp only [execOp, ho]
  simp only [act, ho] at e
  split at e
  · rename_i n el sz k f m p l hti h1
    rw [Option.bind_eq_some_iff] at e
    obtain ⟨xs, e1, e2⟩ := e
    split at e2
    · rename_i hn
      have hn := Nat.le_of_ble_eq_true hn
      rw [one_inj e2] at hp ⊢
      have hR := evAll_ok h h1 hp
      have hlen := partsI_len e1
      simp only [List.length_nil, Nat.zero_add] at hlen
      obtain ⟨⟨hu, ⟨ie, hi1, hi2⟩, _, hz0, hsz⟩, inf, z, g1, g2, g3, g4⟩ := hT _ _ hti
      obtain ⟨hel, rfl, hf0⟩ := hz0 _ _ _ rfl
      have hz := g4 ρ
      obtain ⟨vs', hz1, hz2⟩ := hz
      simp only [RelS] at hz2
      subst hz2
      rw [List.append_nil, intsV_const k f _ hf0] at hz1
      obtain ⟨ys, q1, q2, q3⟩ := fill_ints (pre := []) (post := List.replicate m (Value.int k 0)) (fun i => some (i * 1, 1)) (fun i => by simp) e1 hR rfl (by simp; omega)
      simp only [List.reverse_nil, List.nil_append] at q1 q3
      subst q1
      refine ok_run (v := .agg (intsV k (listI xs) m).toArray) hx ?_ ⟨_, rfl, [], by simp, rfl⟩
      have hzc : z.cells = (List.replicate m (Value.int k 0)).toArray := by rw [← hz1]
      have hs : (sizeOf el).run P w = .ok 1 w := by simp [sizeOf, typeInfo, hi1, hi2]
      have hzv : (zeroValue t).run P w = .ok z w := by simp [zeroValue, typeInfo, g1, g3]
      simp only [Instr.build, Sem.run_bind, hzv, Result.andThen_ok, run_underlying hu, hs, hzc]
      rw [show (parts.map fun (x : Nat × Operand) => (x.1, a.eval x.2)).toList = parts.toList.map fun x => (x.1, a.eval x.2) by simp, q3]
      rw [intsV_list k xs m hn]
      simp [q2]
    · cases e2
  · rename_i fs sz z0 p l hti h1
    rw [Option.bind_eq_some_iff] at e
    obtain ⟨rr, e1, e2⟩ := e
    rw [one_inj e2] at hp ⊢
    have hR := evAll_ok h h1 hp
    obtain ⟨⟨F, hu, hF, hall⟩, inf, z, g1, g2, g3, g4⟩ := hT _ _ hti
    have hmap : (F.mapM fun f => (do pure (f.offset, ← sizeOf f.type) : Sem (Nat × Nat))).run P w = .ok (F.map fun f => (f.offset, match P.info? f.type with | some j => j.size | none => 0)) w := by
      refine run_mapM_arr _ _ F (fun f hf => ?_)
      obtain ⟨i, hi, rfl⟩ := Array.mem_iff_getElem.1 hf
      obtain ⟨f', c1, c2, jf, c3, c4, c5⟩ := hall i (fs[i]'(by omega)) (by simp)
      have : F[i] = f' := by
        rw [Array.getElem?_eq_getElem hi] at c1; injection c1
      rw [this]
      simp [sizeOf, typeInfo, c3]
    obtain ⟨ys, q1, q2⟩ := segSplice_cells (fs := fs) (place := ((F.map fun f => (f.offset, match P.info? f.type with | some j => j.size | none => 0))[·]?)) (fun i x hi => by
      obtain ⟨f', c1, c2, jf, c3, c4, c5⟩ := hall i x hi
      simp [c1, c3, c2, c4]) e1 hR (g4 ρ)
    refine ok_run (v := .agg ys.toArray) hx ?_ ⟨_, rfl, q2⟩
    have hzv : (zeroValue t).run P w = .ok z w := by simp [zeroValue, typeInfo, g1, g3]
    simp only [Instr.build, Sem.run_bind, hzv, Result.andThen_ok, run_underlying hu, hmap]
    rw [show (parts.map fun (x : Nat × Operand) => (x.1, a.eval x.2)).toList = parts.toList.map fun x => (x.1, a.eval x.2) by simp]
    rw [show z.cells.toList.toArray = z.cells by simp] at q1
    rw [q1]
    simp
  · cases e

theorem act_buildSlice (h : R W w0 F ρ s a w) (hT : TOk P T) {t : TypeId} {len : Nat} {parts : Array (Nat × Operand)} (ho : op.op = .buildSlice t len parts) (e : act T C s op = some r) (hp : r.p.holds) : Ok P ρ s a w op r := by
  have hx : execOp a.eval op = (do pure (Next.value (← Instr.buildSlice t len (parts.map fun (i, x) => (i, a.eval x))))) := by simp only [execOp, ho]
  have hpt : (parts.map fun (x : Nat × Operand) => (x.1, a.eval x.2)).toList = parts.toList.map fun x => (x.1, a.eval x.2) := by simp
  simp only [act, ho] at e
  have core : ∀ (el : TypeId) (b : Nat) (z : Seg) (sz : Nat) (zr : List Seg) (ze : Value) (ys : List Value) (l : List Seg) (p' : Cd), T t = some ⟨.slice el b z, sz, zr⟩ → P.info? el = (P.info? el) → (∃ ie, P.info? el = some ie ∧ ie.size = 1 ∧ ie.zero = some ze) → ze.oneCell' = true → len ≤ 16777216 → len = ys.length →
      Instr.fill (fun i => some (i * 1, 1)) (List.replicate len ze).toArray (parts.toList.map fun x => (x.1, a.eval x.2)) = some ys.toArray → RelS ρ l ys →
      Ok P ρ s a w op ⟨p', some (Sx.sc (.sl false true true s.next 0 0 len len)), [(s.next, .own el l false)], s.next + 1⟩ := by
    intro el b z sz zr ze ys l p' hti _ ⟨ie, hi1, hi2, hi3⟩ hone hlen hly hf hrel
    obtain ⟨hu, _⟩ := (hT _ _ hti).1
    have hs : (sizeOf el).run P w = .ok 1 w := by simp [sizeOf, typeInfo, hi1, hi2]
    have hzv : (zeroValue el).run P w = .ok ze w := by simp [zeroValue, typeInfo, hi1, hi3]
    have hzc : ze.cells = #[ze] := by cases ze <;> first | rfl | (simp [Value.oneCell'] at hone)
    refine ok_new h (w' := w.alloc (.cells ys.toArray el)) (o := .cells ys.toArray el) (pl := ⟨w.heap.size, 0, ys.length⟩) (v := .slice (some ⟨w.heap.size, 0, none⟩) len len) ?_ (push_alloc _ _) rfl ?_ (.inr ⟨rfl, _, _, rfl, Nat.le_refl _, Nat.le_refl _, by simp only [maxLen]; omega, fun _ => ⟨_, Rho.set_same, rfl, by simp [hly]⟩, fun _ h => h⟩)
    · rw [hx]
      simp only [Instr.buildSlice, Sem.run_bind, run_underlying hu, Result.andThen_ok, hs, Nat.mul_one, hpt]
      by_cases h0 : len = 0
      · subst h0
        rw [List.replicate_zero] at hf
        have hr0 : (Array.range 0) = #[] := rfl
        simp only [show ¬ (0 > 2 ^ 24) by omega, if_false, if_true, Sem.run_bind, Sem.run_pure, Result.andThen_ok, hr0, Array.map_empty]
        have hf' : Instr.fill (fun i => some (i * 1, 1)) #[] (parts.toList.map fun x => (x.1, a.eval x.2)) = some ys.toArray := hf
        simp only [Nat.mul_one] at hf'
        rw [hf']
        simp [newRow]
      · have hrep : (Array.range len).map (#[ze][· % 1]!) = (List.replicate len ze).toArray := by
          apply Array.ext
          · simp
          · intro i h1 h2; simp [Nat.mod_one]
        simp only [show ¬ (len > 2 ^ 24) by omega, if_false, h0, Sem.run_bind, hzv, Sem.run_pure, Result.andThen_ok, hzc]
        simp only [List.size_toArray, List.length_cons, List.length_nil, Nat.zero_add]
        rw [hrep]
        simp only [Nat.mul_one] at hf
        rw [hf]
        simp [newRow]
    · have := sat_new (l := l) (vs := ys) (post := []) (ty := el) (t := s.next) (w' := w.alloc (.cells ys.toArray el)) (m := false) h (by simpa using push_alloc w (.cells ys.toArray el)) hrel rfl (fun _ => rfl)
      simpa using this
  split at e
  · rename_i el b k f m sz zr p l hti h1
    rw [Option.bind_eq_some_iff] at e
    obtain ⟨xs, e1, e2⟩ := e
    split at e2
    · rename_i hn
      simp only [Bool.and_eq_true] at hn
      have hn1 := Nat.le_of_ble_eq_true hn.1
      have hn2 := Nat.le_of_ble_eq_true hn.2
      rw [St.newS_eq] at e2
      injection e2 with e2
      subst e2
      have hR := evAll_ok h h1 hp
      have hlen := partsI_len e1
      simp only [List.length_nil, Nat.zero_add] at hlen
      obtain ⟨hu, ie, ze, c1, c2, c3, c4, c5, rfl, c7⟩ := (hT _ _ hti).1
      obtain ⟨ys, q1, q2, q3⟩ := fill_ints (pre := []) (post := List.replicate len (Value.int k 0)) (fun i => some (i * 1, 1)) (fun i => by simp) e1 hR rfl (by simp; omega)
      simp only [List.reverse_nil, List.nil_append] at q1 q3
      subst q1
      refine core el b _ sz zr (.int k 0) (intsV k (listI xs) len) _ _ hti rfl ⟨ie, c1, c2, c4⟩ rfl hn2 (by rw [intsV_length]) ?_ ⟨[], by simp, rfl⟩
      rw [q3, intsV_list k xs len hn1]
      simp [q2]
    · cases e2
  · rename_i el b c sz zr p l hti h1
    split at e
    · rename_i hn
      simp only [Bool.and_eq_true, Nat.beq_eq] at hn
      have hn2 := Nat.le_of_ble_eq_true hn.2
      rw [Option.bind_eq_some_iff] at e
      obtain ⟨xs, e1, e2⟩ := e
      rw [St.newS_eq] at e2
      injection e2 with e2
      subst e2
      have hR := evAll_ok h h1 hp
      obtain ⟨hu, ie, ze, c1, c2, c3, c4, c5, c6⟩ := (hT _ _ hti).1
      obtain ⟨ys, q1, q2⟩ := fill_one (pre := []) (post := List.replicate len ze) (fun i => some (i * 1, 1)) (fun i => by simp) e1 hR rfl (by simp [hn.1])
      simp only [List.nil_append] at q1
      have hsz := relS_len q2
      have hlen : ∀ {l : List (Nat × SA)} {j : Nat} {xs : List Seg}, partsO l j = some xs → segsLen xs = l.length := by
        intro l
        induction l with
        | nil => intro j xs hh; simp only [partsO] at hh; injection hh with hh; subst hh; rfl
        | cons x l ih =>
          intro j xs hh
          obtain ⟨i, v⟩ := x
          cases v with
          | agg g => simp only [partsO] at hh; cases hh
          | sc c =>
            simp only [partsO] at hh
            split at hh
            · split at hh
              rotate_left
              · cases hh
              rename_i xs' hh'
              injection hh with hh2
              subst hh2
              have hh := hh'
              simp only [segsLen, Seg.len, ih hh, List.length_cons]; omega
            · cases hh
      exact core el b _ sz zr ze ys xs _ hti rfl ⟨ie, c1, c2, c4⟩ c5 hn2 (by rw [hsz, hlen e1, hn.1]) q1 q2
    · cases e
  · cases e

theorem act_makeSlice (h : R W w0 F ρ s a w) (hT : TOk P T) {t : TypeId} {x y : Operand} (ho : op.op = .makeSlice t x y) (e : act T C s op = some r) (hp : r.p.holds) : Ok P ρ s a w op r := by
  have hx : execOp a.eval op = (do pure (Next.value (← Instr.makeSlice t (a.eval x) (a.eval y)))) := by simp only [execOp, ho]
  simp only [act, ho] at e
  split at e
  · rename_i el b k f m sz zr p n q c hti h1 h2
    split at e
    · rename_i hb1
      have hb1 := Nat.le_of_ble_eq_true hb1
      rw [St.newS_eq] at e
      injection e with e
      subst e
      obtain ⟨hp1, hp2, hp3, hp4, hp5⟩ := hp
      obtain ⟨hu, ie, ze, c1, c2, c3, c4, c5, rfl, c7⟩ := (hT _ _ hti).1
      have r1 := ev1_ok h h1 hp1
      have r2 := ev1_ok h h2 hp2
      simp only [RelA, Rel1] at r1 r2
      obtain ⟨N, rfl⟩ := Int.eq_ofNat_of_zero_le hp3
      obtain ⟨M, rfl⟩ := Int.eq_ofNat_of_zero_le (Int.le_trans hp3 hp4)
      have hb2 : b * M ≤ 140737488355328 := by
        have : ((b * M : Nat) : Int) ≤ 140737488355328 := by rw [Int.natCast_mul]; exact hp5
        omega
      have hM : M ≤ b * M := Nat.le_mul_of_pos_left M (by omega)
      have hrun := Go.Proofs.Ytogijkmflhjhkaa.run_make_rowN (P := P) t el ie (.int k 0) hu c1 c4 .i64 .i64 N M (by omega) (by rw [c3]; omega) (by omega) w
      rw [c2, Nat.mul_one] at hrun
      have hrow : madeCells (Value.int k 0).cells M = (List.replicate M (Value.int k 0)).toArray := replicate_madeCells k M
      rw [hrow] at hrun
      simp only [Int.toNat_natCast]
      refine ok_new h (w' := w.alloc (.cells (List.replicate M (Value.int k 0)).toArray el)) (o := .cells (List.replicate M (Value.int k 0)).toArray el) (pl := ⟨w.heap.size, 0, M⟩) (v := .slice (some ⟨w.heap.size, 0, none⟩) N M) ?_ (push_alloc _ _) rfl ?_
        (.inr ⟨rfl, _, _, rfl, by omega, Nat.le_refl _, by simp only [maxLen]; omega, fun _ => ⟨_, Rho.set_same, rfl, by simp⟩, fun h => by cases h⟩)
      · rw [hx, r1, r2]
        simp only [Sem.run_bind, hrun, Result.andThen_ok, Sem.run_pure]
      · have := sat_new (l := [.ints k (fun _ => 0) M]) (vs := List.replicate M (Value.int k 0)) (post := []) (ty := el) (t := s.next) (w' := w.alloc (.cells (List.replicate M (Value.int k 0)).toArray el)) (m := false) h (by simpa using push_alloc w (.cells (List.replicate M (Value.int k 0)).toArray el))
          ⟨[], by rw [intsV_const k _ _ (fun _ => rfl)]; simp, rfl⟩ rfl (fun _ => rfl)
        simpa using this
    · cases e
  · cases e

end
end Go.Sx
