/- The symbolic evaluator: its operations are the model's: conversions, slicing, new blocks. Plain lemmas, no condition. -/
import Derived.Test.YtogijkmflhjhkaaSxE
namespace Go.Sx
open Go.RowKit
set_option linter.unusedSimpArgs false

set_option linter.unusedVariables false
section
variable {P : Program} {W : Env} {w0 w : World} {F : Nat → Prop} {ρ : Rho} {s : St} {a : Act} {op : Oper} {T : TypeId → Option TyI} {C : FuncId → Option Summary} {r : Res}

theorem some_und (hT : TOk P T) {t : TypeId} (h : (T t).isSome = true) : (P.underlying t).isSome = true := by
  obtain ⟨ti, e⟩ := Option.isSome_iff_exists.1 h
  have := (hT t ti e).1
  cases hq : ti.d <;> rw [hq] at this <;> simp only [TyD.ok] at this
  case int => rw [this]; rfl
  case bool => rw [this]; rfl
  case str => rw [this]; rfl
  case slice => rw [this.1]; rfl
  case array => rw [this.1]; rfl
  case struct => obtain ⟨F, h, _⟩ := this; rw [h]; rfl
  case ptr => obtain ⟨F, h⟩ := this; rw [h]; rfl

theorem strI_foldl (f : Nat → Int) (n : Nat) : (((List.range n).map f).foldl (fun (r : ByteArray) x => r.push (UInt8.ofNat x.toNat)) ByteArray.empty) = strI f n := by
  have h : ∀ (l : List Int) (b : ByteArray), l.foldl (fun (r : ByteArray) x => r.push (UInt8.ofNat x.toNat)) b = ⟨b.data ++ (l.map fun x => UInt8.ofNat x.toNat).toArray⟩ := by
    intro l
    induction l with
    | nil => intro b; simp
    | cons x l ih =>
      intro b
      rw [List.foldl_cons, ih]
      simp [ByteArray.push]
  rw [h]
  simp [strI, ByteArray.empty, ByteArray.emptyWithCapacity, Function.comp_def]
  rfl

theorem add_add (A : Addr) (l j : Nat) : (A.add l).add j = A.add (l + j) := by
  unfold Addr.add
  by_cases h1 : l = 0
  · subst h1; simp
  · by_cases h2 : j = 0
    · subst h2; simp [h1]
    · simp [h1, h2, Nat.add_assoc]

/-- The integers that a slice holds, as cells. -/
theorem srcT_ok (h : R W w0 F ρ s a w) {k : IntKind} {nl ex z : Bool} {t o f n c : Nat} {q : Cd} {g : Nat → Int} {v : Value} (e : s.srcT k nl t o f n = some (q, g)) (hq : q.holds) (hv : Rel1 ρ (.sl nl ex z t o f n c) v) :
    (v = .slice none 0 0 ∧ n = 0) ∨ ∃ A cap, v = .slice (some A) n cap ∧ (n ≤ cap ∧ cap ≤ maxLen) ∧ ∀ j, j < n → w.cell? (A.add j) = some (.int k (g j)) := by
  rcases hv with ⟨_, h2, h3, _⟩ | ⟨hnl, A, cap, h2, hnc, hcc, hcap, h3, _⟩
  · exact .inl ⟨h2, h3⟩
  · refine .inr ⟨A, cap, h2, ⟨by omega, hcap⟩, fun j hj => ?_⟩
    obtain ⟨pl, g1, g2, _⟩ := h3 (.inl (by omega))
    subst g2
    rw [Addr.add_mid]
    unfold St.srcT at e
    split at e
    · rename_i q' bt l m hb
      split at e
      · rename_i k' g' m' r' hs
        split at e
        · rename_i hk
          obtain rfl := kEq_spec hk
          injection e with e; injection e with e1 e2
          subst e1; subst e2
          have hq' : 0 < n → q'.holds ∧ f + n ≤ m' := hq
          obtain ⟨hq1, hq2⟩ := hq' (by omega)
          obtain ⟨pl', c1, c2⟩ := cell_ints (i := f + j) (hp_ok h hb hq1) hs (by omega)
          rw [g1] at c1; injection c1 with c1; subst c1
          rw [← c2]; congr 2; omega
        · cases e
      · cases e
    · rename_i q' k' g' m hb
      split at e
      · rename_i hk
        obtain rfl := kEq_spec hk
        injection e with e; injection e with e1 e2
        subst e1; subst e2
        have hq' : 0 < n → q'.holds ∧ o + f + n ≤ m := hq
        obtain ⟨hq1, hq2⟩ := hq' (by omega)
        obtain ⟨pl', c1, c2⟩ := hp_ok h hb hq1
        rw [g1] at c1; injection c1 with c1; subst c1
        rw [← c2 (o + f + j) (by omega)]; congr 2; omega
      · cases e
    · subst hnl; cases e
theorem src_ok (h : R W w0 F ρ s a w) {k : IntKind} {c : SC} {n : Nat} {q : Cd} {g : Nat → Int} {v : Value} (e : s.src k c = some (q, g, n)) (hq : q.holds) (hv : Rel1 ρ c v) :
    (v = .slice none 0 0 ∧ n = 0) ∨ ∃ A cap, v = .slice (some A) n cap ∧ (n ≤ cap ∧ cap ≤ maxLen) ∧ ∀ j, j < n → w.cell? (A.add j) = some (.int k (g j)) := by
  unfold St.src at e
  split at e
  · rename_i nl k' f n'
    split at e
    · rename_i hk
      obtain rfl := kEq_spec hk
      injection e with e; injection e with e1 e; injection e with e2 e3
      subst e1; subst e2; subst e3
      rcases hv with ⟨_, h2, h3⟩ | ⟨_, A, cap, h2, h3, h4, h5⟩
      · exact .inl ⟨h2, h3⟩
      · exact .inr ⟨A, cap, h2, ⟨h3, h4⟩, fun j hj => h.imm _ _ (h5 j hj)⟩
    · cases e
  · split at e
    · rename_i cc gg hs
      injection e with e; injection e with e1 e; injection e with e2 e3
      subst e1; subst e2; subst e3
      exact srcT_ok h hs hq hv
    · cases e
  · cases e

theorem heap_freeze {w : World} {b : Nat} {cs : Array Value} {ty : TypeId} {fr : Nat × Nat} (hh : w.heap[b]? = some (.cells cs ty fr)) (k : Nat) :
    (∃ fr', (w.freeze ⟨b, k, none⟩ 1).heap[b]? = some (.cells cs ty fr')) ∧ ∀ i, i ≠ b → (w.freeze ⟨b, k, none⟩ 1).heap[i]? = w.heap[i]? := by
  unfold World.freeze
  rw [if_neg (by decide)]
  refine ⟨?_, fun i hi => ?_⟩
  · simp only [Array.getElem?_modify, if_pos]
    rw [hh]
    exact ⟨_, rfl⟩
  · simp only [Array.getElem?_modify]
    rw [if_neg (fun h => hi h.symm)]
theorem run_convert_mark {t e : TypeId} (hu : P.underlying t = some (.slice e)) (he : P.underlying e = some (.int .u8)) {b : Nat} {cs : Array Value} {ty : TypeId} {fr : Nat × Nat} (hh : w.heap[b]? = some (.cells cs ty fr)) (off n c : Nat) :
    (convert t t (.slice (some ⟨b, off, none⟩) n c)).run P w = .ok (.slice (some ⟨b, off, none⟩) n c) (w.freeze ⟨b, cs.size, none⟩ 1) := by
  have hsh : w.shape? b = some (ty, cs.size) := by unfold World.shape?; rw [hh]
  simp [convert, run_underlying hu, run_underlying he, markStringish, hsh]
theorem act_convert (h : R W w0 F ρ s a w) (hT : TOk P T) {src dst : TypeId} {x : Operand} (ho : op.op = .convert src dst x) (e : act T C s op = some r) (hp : r.p.holds) : Ok P ρ s a w op r := by
  have hx : execOp a.eval op = (do pure (Next.value (← convert src dst (a.eval x)))) := by simp only [execOp, ho]
  simp only [act, ho] at e
  split at e
  · rename_i k sz z p k' n hti h1
    split at e
    · rename_i tsrc hsrc
      rw [one_inj e] at hp ⊢
      have r1 := ev1_ok h h1 hp
      simp only [RelA, Rel1] at r1
      have hd : P.underlying dst = some (.int k) := (hT _ _ hti).1
      obtain ⟨d, hs⟩ := Option.isSome_iff_exists.1 (some_und hT (by rw [hsrc]; rfl))
      refine ok_run (v := .int k (k.wrap n)) hx ?_ rfl
      rw [r1]
      simp [convert, run_underlying hs, run_underlying hd, Conv.intToInt]
    · cases e
  · rename_i sz z p sv hti h1
    split at e
    · rename_i el b k f m sz' z' hsrc
      split at e
      rotate_left
      · cases e
      rename_i q g n hs
      rw [one_inj e] at hp ⊢
      have hd : P.underlying dst = some .string := (hT _ _ hti).1
      obtain ⟨hu, ie, ze, _, _, _, _, _, _, he⟩ := (hT _ _ hsrc).1
      refine ok_run (v := .string (strI g n)) hx ?_ rfl
      have hconv : ∀ A l c', (convert src dst (.slice A l c')).run P w = (Conv.bytesToString (.slice A l c')).run P w := fun A l c' => by
        simp [convert, run_underlying hu, run_underlying hd, run_underlying he]
      rcases src_ok h hs hp.2 (ev1_ok h h1 hp.1) with ⟨e1, e2⟩ | ⟨A, cap, e1, _, e2⟩
      · subst e2
        rw [e1, hconv]; rfl
      · rw [e1, hconv]
        have hl := run_loadCells_list (P := P) w A (intsV .u8 g n) (fun j v hv => by
          have hj : j < n := by have := (List.getElem?_eq_some_iff.1 hv).1; rwa [intsV_length] at this
          rw [intsV_get _ _ _ _ hj] at hv
          injection hv with hv
          rw [← hv]; exact e2 j hj)
        rw [intsV_length] at hl
        have := run_bytesToString (P := P) w A n cap ((List.range n).map g) (by rw [hl]; simp [intsV])
        rw [strI_foldl] at this
        exact this
    · cases e
  · rename_i el f m sz z p b hti h1
    split at e
    · rename_i z1 z2 hsrc
      rw [St.newS_eq] at e
      injection e with e
      subst e
      have r1 := ev1_ok h h1 hp.1
      simp only [RelA, Rel1] at r1
      obtain ⟨hu, ie, ze, _, _, _, _, _, _, he⟩ := (hT _ _ hti).1
      have hs : P.underlying src = some .string := (hT _ _ hsrc).1
      have hrun := run_bytes_of_string (P := P) w src dst el b hs hu he
      have hb : b.size ≤ 9223372036854775807 := hp.2
      have hge := grownCap_ge w b.size 0 el
      have hle := grownCap_le_maxLen w b.size 0 el (by simp only [maxLen]; omega)
      refine ok_new h (w' := w.drew.alloc (.cells (bytesRow b (grownCap w b.size 0 el)) el ((bytesRow b (grownCap w b.size 0 el)).size, (bytesRow b (grownCap w b.size 0 el)).size + 1))) (o := .cells (bytesRow b (grownCap w b.size 0 el)) el ((bytesRow b (grownCap w b.size 0 el)).size, (bytesRow b (grownCap w b.size 0 el)).size + 1)) (pl := ⟨w.heap.size, 0, grownCap w b.size 0 el⟩)
        (v := .slice (some ⟨w.heap.size, 0, none⟩) b.size (grownCap w b.size 0 el)) ?_ ⟨rfl, rfl, rfl, rfl⟩ rfl ?_ ?_
      · rw [hx, r1]; simp only [Sem.run_bind, hrun, Result.andThen_ok, Sem.run_pure]
      · refine ⟨_, Rho.set_same, fun j hj => ?_⟩
        have hh : (w.drew.alloc (.cells (bytesRow b (grownCap w b.size 0 el)) el ((bytesRow b (grownCap w b.size 0 el)).size, (bytesRow b (grownCap w b.size 0 el)).size + 1))).heap[w.heap.size]? = some (.cells (bytesRow b (grownCap w b.size 0 el)) el ((bytesRow b (grownCap w b.size 0 el)).size, (bytesRow b (grownCap w b.size 0 el)).size + 1)) := heap_alloc_new w.drew _
        rw [cell_of_row _ _ _ _ _ _ hh, Nat.zero_add, bytesRow]
        have hj' : j < b.data.size := hj
        rw [Array.getElem?_append_left (by simpa using hj')]
        simp only [bytesI, Array.getElem?_map, Array.getD_eq_getD_getElem?, Array.getElem?_eq_getElem hj', Option.map_some, Option.getD_some]
      · exact .inr ⟨rfl, _, _, rfl, Nat.le_refl _, hge, hle, fun _ => ⟨_, Rho.set_same, rfl, by simp⟩, fun h => by cases h⟩
    · cases e
  · rename_i el f m sz z1 p z t n c hti h1
    split at e
    · rename_i q bt g m' hsd hb
      rw [St.wr_eq] at e
      injection e with e
      subst e
      have hsd := Nat.eq_of_beq_eq_true hsd
      subst hsd
      obtain ⟨hu, ie, ze, _, _, _, _, _, _, he⟩ := (hT _ _ hti).1
      have r1 := ev1_ok h h1 hp.1
      simp only [RelA, Rel1] at r1
      rcases r1 with ⟨hc, _⟩ | ⟨_, A, cap, hv, hn1, hn2, hn3, hpl, hz⟩
      · cases hc
      obtain ⟨pl, k1, k2, k3⟩ := hpl (.inr trivial)
      obtain ⟨pl', vs, post, g1, g2, g3, g4, g5, g6⟩ := hp_ok h hb hp.2
      rw [k1] at g1; injection g1 with g1; subst g1
      subst k2
      have hrun := run_convert_mark (P := P) (w := w) hu he g3 (pl.f + (0 + 0)) n cap
      have hown : ∃ b0, getA s.heap t = some b0 ∧ b0.isOwn = true := by
        unfold St.hp at hb
        split at hb
        · rename_i hb'; injection hb with hb; injection hb with e1 e2; subst e2; exact ⟨_, hb', rfl⟩
        · rename_i hb'; injection hb with hb; injection hb with e1 e2; subst e2; exact ⟨_, hb', rfl⟩
        · rename_i hb'; injection hb with hb; injection hb with e1 e2; subst e2; exact ⟨_, hb', rfl⟩
        · cases hb
      obtain ⟨⟨fr', hheap1⟩, hheap2⟩ := heap_freeze (w := w) g3 ((vs ++ post).toArray.size)
      have hget : ∀ t' b, getA [(t, SB.ro .u8 g m')] t' = some b → t' = t ∧ b = .ro .u8 g m' := by
        intro t' b hb
        simp only [getA] at hb
        split at hb
        · rename_i e; simp only [Nat.beq_eq] at e; injection hb with hb; exact ⟨e.symm, hb.symm⟩
        · cases hb
      intro K Q hK
      unfold Oper.wp
      rw [hx, hv]
      simp only [Sem.run_bind, hrun, Result.andThen_ok, Sem.run_pure]
      refine hK _ _ ρ ⟨Ext.refl _, Nat.le_refl _, (by show s.next ≤ s.next + 16; omega), by simp [World.freeze], rfl, rfl, rfl, fun _ _ h => .inl h, ?_, ?_, ?_, ?_⟩ fun sv hsv => ?_
      · intro t' b hb
        obtain ⟨rfl, rfl⟩ := hget t' b hb
        refine ⟨pl, k1, fun j hj => ?_⟩
        obtain ⟨vs', e1, e2⟩ := g5
        simp only [RelS] at e2
        subst e2
        rw [List.append_nil] at e1
        subst e1
        rw [cell_in hheap1, g2, Nat.zero_add, List.getElem?_append_left (by rw [intsV_length]; exact hj), intsV_get _ _ _ _ hj]
      · intro t' b hb
        obtain ⟨rfl, rfl⟩ := hget t' b hb
        exact .inr hown
      · intro i hi hne
        refine hheap2 i ?_
        rintro rfl
        exact hne t (.ro .u8 g m') pl (by show getA [(t, SB.ro .u8 g m')] t = _; simp [getA]) k1 rfl
      · intro t' t'' b b' hne ht' ht2 _ _ hb _ _ _ _ _ _
        exact absurd ht2 (by show ¬ t' < s.next; omega)
      · injection hsv with hsv
        subst hsv
        exact .inr ⟨rfl, _, cap, rfl, hn1, hn2, hn3, fun _ => ⟨pl, k1, rfl, k3⟩, hz⟩
    · cases e
  · cases e


theorem evI_ok (h : R W w0 F ρ s a w) {x : Operand} {p : Cd} {n : Int} (e : s.evI x = some (p, n)) (hp : p.holds) : ∃ k, a.eval x = .int k n := by
  unfold St.evI at e
  split at e
  · rename_i p' k m h1
    injection e with e; injection e with e1 e2
    subst e1; subst e2
    exact ⟨k, ev1_ok h h1 hp⟩
  · cases e
theorem lo_ok (h : R W w0 F ρ s a w) {lo : Option Operand} {q : Cd} {n : Int} (e : s.evLo lo = some (q, n)) (hq : q.holds) : (lo.map a.eval = none ∧ n = 0) ∨ ∃ k, lo.map a.eval = some (.int k n) := by
  cases lo with
  | none => simp only [St.evLo] at e; injection e with e; injection e with e1 e2; exact .inl ⟨rfl, e2.symm⟩
  | some x => obtain ⟨k, hk⟩ := evI_ok h e hq; exact .inr ⟨k, by simp [hk]⟩
theorem hi_ok (h : R W w0 F ρ s a w) {hi : Option Operand} {q : Cd} {n : Option Int} (e : s.evHi hi = some (q, n)) (hq : q.holds) : (hi.map a.eval = none ∧ n = none) ∨ ∃ k m, hi.map a.eval = some (.int k m) ∧ n = some m := by
  cases hi with
  | none => simp only [St.evHi] at e; injection e with e; injection e with e1 e2; exact .inl ⟨rfl, e2.symm⟩
  | some x =>
    simp only [St.evHi] at e
    split at e
    · rename_i p m e1
      injection e with e; injection e with e2 e3
      subst e2; subst e3
      obtain ⟨k, hk⟩ := evI_ok h e1 hq
      exact .inr ⟨k, m, by simp [hk], rfl⟩
    · cases e

/-- The bounds of a slice expression. -/
theorem run_bounds (b : Bool) (len cap : Nat) (lo hi : Option Value) (l u : Int) (hlo : (lo = none ∧ l = 0) ∨ ∃ k, lo = some (.int k l)) (hhi : (hi = none ∧ u = len) ∨ ∃ k, hi = some (.int k u))
    (h0 : 0 ≤ l) (h1 : l ≤ u) (h2 : u ≤ cap ∨ hi = none) : (Instr.sliceBounds b len cap lo hi none).run P w = .ok (l.toNat, u.toNat, cap) w := by
  have eu : (u.toNat : Int) = u := Int.toNat_of_nonneg (by omega)
  have k1 : ∀ (k : IntKind) (c : BoundsCode), (Instr.sliceBound (.int k l) u.toNat c).run P w = .ok l.toNat w := fun k c => run_sliceBound w k l _ c h0 (by omega)
  rcases hhi with ⟨rfl, rfl⟩ | ⟨kh, rfl⟩
  · have e3 : ((len : Int)).toNat = len := by simp
    rw [e3] at k1 ⊢
    rcases hlo with ⟨rfl, rfl⟩ | ⟨kl, rfl⟩
    · simp [Instr.sliceBounds]
    · simp [Instr.sliceBounds, k1]
  · have h2' : u ≤ cap := h2.elim id (fun h => by cases h)
    have k2 : ∀ (c : BoundsCode), (Instr.sliceBound (.int kh u) cap c).run P w = .ok u.toNat w := fun c => run_sliceBound w kh u _ c (by omega) h2'
    rcases hlo with ⟨rfl, rfl⟩ | ⟨kl, rfl⟩
    · simp [Instr.sliceBounds, k2]
    · simp [Instr.sliceBounds, k1, k2]

theorem run_bounds3 (len cap : Nat) (kh km : IntKind) : (Instr.sliceBounds true len cap none (some (.int kh 0)) (some (.int km 0))).run P w = .ok (0, 0, 0) w := by
  have k1 : ∀ (k : IntKind) (y : Nat) (c : BoundsCode), (Instr.sliceBound (.int k 0) y c).run P w = .ok (0 : Int).toNat w := fun k y c => run_sliceBound w k 0 _ c (by omega) (by omega)
  simp [Instr.sliceBounds, k1]

theorem act_slice (h : R W w0 F ρ s a w) (hT : TOk P T) {t : TypeId} {x : Operand} {lo hi mx : Option Operand} (ho : op.op = .slice t x lo hi mx) (e : act T C s op = some r) (hp : r.p.holds) : Ok P ρ s a w op r := by
  have hx : execOp a.eval op = (do pure (Next.value (← Instr.sliceAt t (a.eval x) (lo.map a.eval) (hi.map a.eval) (mx.map a.eval)))) := by simp only [execOp, ho]
  simp only [act, ho] at e
  unfold actSlice at e
  cases mx with
  | some m =>
    simp only at e
    split at e
    · rename_i el b z sz zr p v r' u r'' m' hti h1 h3 h4
      split at e
      rotate_left
      · cases e
      rename_i nl hnl
      rw [one_inj e] at hp ⊢
      obtain ⟨hp1, hp2, hp3, hp4⟩ := hp
      obtain ⟨hb0, hm0⟩ : u = 0 ∧ m' = 0 := hp4
      subst hb0; subst hm0
      obtain ⟨hu, hs⟩ := elem_one (w := w) hT hti
      obtain ⟨A, n, cap, e1, e2⟩ := nl_none hnl (ev1_ok h h1 hp1)
      obtain ⟨km, e4⟩ := evI_ok h h4 hp3
      rcases hi_ok h h3 hp2 with ⟨_, g2⟩ | ⟨kh, u', g1, g2⟩
      · cases g2
      · injection g2 with g2; subst g2
        refine ok_run (v := .slice A 0 0) hx ?_ ?_
        · rw [e1, g1]
          simp [Instr.sliceAt, Instr.slice, run_underlying hu, e4, run_bounds3 (P := P) (w := w), hs]
        · cases A with
          | none => exact .inl ⟨by rw [← e2]; rfl, rfl, rfl, rfl⟩
          | some A => exact .inr ⟨by rw [← e2]; rfl, A, 0, rfl, Nat.le_refl _, Nat.le_refl _, Nat.zero_le _, (fun hc => by rcases hc with hc | hc <;> cases hc), fun _ _ => rfl⟩
    · cases e
  | none =>
  simp only at e
  simp only [Option.map_none] at hx
  split at e
  · -- a slice
    rename_i el b z sz zr p nl ex zz tg o f n c q l r' hh hti h1 h2 h3
    obtain ⟨hu, hs⟩ := elem_one (w := w) hT hti
    have core : ∀ (u : Int) (p' : Cd), p.holds → q.holds → r'.holds → 0 ≤ l → l ≤ u → ((hi.map a.eval = none ∧ u = n) ∨ ((∃ k, hi.map a.eval = some (.int k u)) ∧ u ≤ (c : Int) ∧ (u ≤ (n : Int) ∨ ex = true))) →
        Ok P ρ s a w op ⟨p', some (Sx.sc (.sl nl (ex && (l == 0)) false tg o (f + l.toNat) (u.toNat - l.toNat) (c - l.toNat))), [], s.next⟩ := by
      intro u p' hp1 hq1 hr1 hl0 hlu hhu
      have hlo := lo_ok h h2 hq1
      rcases ev1_ok h h1 hp1 with ⟨e1, e2, e3, e4⟩ | ⟨e1, A, cap, e2, e3, e4, e5, e6, _⟩
      · subst e3; subst e4
        have hu0 : u = 0 := by rcases hhu with ⟨_, h⟩ | ⟨_, h⟩ <;> omega
        subst hu0
        have hl : l = 0 := by omega
        subst hl
        have hb := run_bounds (P := P) (w := w) true 0 0 (lo.map a.eval) (hi.map a.eval) 0 0 hlo (by rcases hhu with ⟨h, _⟩ | ⟨h, _⟩; exact .inl ⟨h, rfl⟩; exact .inr h) (by omega) (by omega) (by rcases hhu with ⟨h, _⟩ | ⟨h, _⟩; exact .inr h; exact .inl (by omega))
        refine ok_run (v := .slice none 0 0) hx ?_ (.inl ⟨e1, rfl, by simp, by simp⟩)
        rw [e2]
        simp [Instr.sliceAt, Instr.slice, run_underlying hu, hb, hs]
      · have hcu : u ≤ (cap : Int) := by rcases hhu with ⟨_, h⟩ | ⟨_, h⟩ <;> omega
        have hb := run_bounds (P := P) (w := w) true n cap (lo.map a.eval) (hi.map a.eval) l u hlo (by rcases hhu with ⟨h, h'⟩ | ⟨h, _⟩; exact .inl ⟨h, h'⟩; exact .inr h) hl0 hlu (.inl hcu)
        refine ok_run (v := .slice (if cap = l.toNat then some A else (some A).map (·.add (l.toNat * 1))) (u.toNat - l.toNat) (cap - l.toNat)) hx ?_ (.inr ⟨e1, (if cap = l.toNat then A else A.add (l.toNat * 1)), cap - l.toNat, ?_, ?_, ?_, ?_, ?_, fun h => by cases h⟩)
        · rw [e2]
          simp [Instr.sliceAt, Instr.slice, run_underlying hu, hb, hs]
        · split <;> rfl
        · rcases hhu with ⟨_, h⟩ | ⟨_, h⟩ <;> omega
        · omega
        · omega
        · intro hc
          have hc' : 0 < n ∨ ex = true := by
            rcases hc with hc | hc
            · rcases hhu with ⟨_, h⟩ | ⟨_, h⟩
              · exact .inl (by omega)
              · rcases h.2 with h | h
                · exact .inl (by omega)
                · exact .inr h
            · simp only [Bool.and_eq_true] at hc; exact .inr hc.1
          obtain ⟨pl, g1, g2, g3⟩ := e6 hc'
          refine ⟨pl, g1, ?_, by omega⟩
          rw [g2, Nat.mul_one, Addr.add_mid]
          split
          · rename_i hcl
            rcases hc with hc | hc
            · omega
            · simp only [Bool.and_eq_true, beq_iff_eq] at hc
              have : l.toNat = 0 := by omega
              rw [this]; rfl
          · simp only [Nat.add_assoc]
    split at e
    · have hn := hi_ok h h3
      rw [one_inj e] at hp ⊢
      obtain ⟨hp1, hp2, hp3, hp4, hp5⟩ := hp
      rcases hi_ok h h3 hp3 with ⟨g1, _⟩ | ⟨k, m, _, g2⟩
      · exact core n _ hp1 hp2 hp3 hp4 hp5 (.inl ⟨g1, rfl⟩)
      · cases g2
    · rename_i u
      rw [one_inj e] at hp ⊢
      obtain ⟨hp1, hp2, hp3, hp4, hp5, hp6, hp7⟩ := hp
      rcases hi_ok h h3 hp3 with ⟨_, g2⟩ | ⟨k, m, g1, g2⟩
      · cases g2
      · injection g2 with g2; subst g2
        exact core u _ hp1 hp2 hp3 hp4 hp5 (.inr ⟨⟨k, g1⟩, hp6, hp7⟩)
  · -- a slice that nobody writes
    rename_i el b z sz zr p nl kk f n q l r' hh hti h1 h2 h3
    obtain ⟨hu, hs⟩ := elem_one (w := w) hT hti
    have core : ∀ (u : Int) (p' : Cd), p.holds → q.holds → r'.holds → 0 ≤ l → l ≤ u → u ≤ (n : Int) → ((hi.map a.eval = none ∧ u = n) ∨ (∃ k, hi.map a.eval = some (.int k u))) →
        Ok P ρ s a w op ⟨p', some (Sx.sc (.im nl kk (fun j => f (l.toNat + j)) (u.toNat - l.toNat))), [], s.next⟩ := by
      intro u p' hp1 hq1 hr1 hl0 hlu hun hhu
      have hlo := lo_ok h h2 hq1
      rcases ev1_ok h h1 hp1 with ⟨e1, e2, e3⟩ | ⟨e1, A, cap, e2, e3, e4, e5⟩
      · simp only at e3
        subst e3
        have hu0 : u = 0 := by omega
        subst hu0
        have hl : l = 0 := by omega
        subst hl
        have hb := run_bounds (P := P) (w := w) true 0 0 (lo.map a.eval) (hi.map a.eval) 0 0 hlo (by simpa using hhu) (by omega) (by omega) (.inl (by omega))
        refine ok_run (v := .slice none 0 0) hx ?_ (.inl ⟨e1, rfl, by simp⟩)
        rw [e2]
        simp [Instr.sliceAt, Instr.slice, run_underlying hu, hb, hs]
      · simp only at e2 e3 e5
        have hb := run_bounds (P := P) (w := w) true n cap (lo.map a.eval) (hi.map a.eval) l u hlo hhu hl0 hlu (.inl (by omega))
        refine ok_run (v := .slice (if cap = l.toNat then some A else (some A).map (·.add (l.toNat * 1))) (u.toNat - l.toNat) (cap - l.toNat)) hx ?_ (.inr ⟨e1, (if cap = l.toNat then A else A.add (l.toNat * 1)), cap - l.toNat, ?_, ?_, ?_, ?_⟩)
        · rw [e2]
          simp [Instr.sliceAt, Instr.slice, run_underlying hu, hb, hs]
        · split <;> rfl
        · simp only; omega
        · omega
        · intro j hj
          simp only at hj ⊢
          rw [if_neg (by omega), Nat.mul_one, add_add]
          exact e5 _ (by omega)
    split at e
    · rw [one_inj e] at hp ⊢
      obtain ⟨hp1, hp2, hp3, hp4, hp5⟩ := hp
      rcases hi_ok h h3 hp3 with ⟨g1, _⟩ | ⟨k, m, _, g2⟩
      · exact core n _ hp1 hp2 hp3 hp4 hp5 (Int.le_refl _) (.inl ⟨g1, rfl⟩)
      · cases g2
    · rename_i u
      rw [one_inj e] at hp ⊢
      obtain ⟨hp1, hp2, hp3, hp4, hp5, hp6⟩ := hp
      rcases hi_ok h h3 hp3 with ⟨_, g2⟩ | ⟨k, m, g1, g2⟩
      · cases g2
      · injection g2 with g2; subst g2
        exact core u _ hp1 hp2 hp3 hp4 hp5 hp6 (.inr ⟨k, g1⟩)
  · -- an array
    rename_i n el sz zr p tg q l r' hh hti h1 h2 h3
    split at e
    · rename_i bt L hb
      split at e
      · rename_i hL
        simp only [Bool.and_eq_true, Nat.beq_eq] at hL
        have hn63 : n ≤ maxLen := by have := Nat.le_of_ble_eq_true hL.2; simp only [maxLen]; omega
        replace hL := hL.1
        obtain ⟨hu, ⟨ie, hi1, hi2⟩, _⟩ := (hT _ _ hti).1
        have hs : (sizeOf el).run P w = .ok 1 w := by simp [sizeOf, typeInfo, hi1, hi2]
        have core : ∀ (u : Int) (p' : Cd), p.holds → q.holds → r'.holds → 0 ≤ l → l ≤ u → u ≤ (n : Int) → ((hi.map a.eval = none ∧ u = n) ∨ (∃ k, hi.map a.eval = some (.int k u))) →
            Ok P ρ s a w op ⟨p', some (Sx.sc (.sl false (l == 0) false tg 0 l.toNat (u.toNat - l.toNat) (n - l.toNat))), [], s.next⟩ := by
          intro u p' hp1 hq1 hr1 hl0 hlu hun hhu
          have hlo := lo_ok h h2 hq1
          obtain ⟨pl, e1, e2⟩ := ev1_ok h h1 hp1
          obtain ⟨pl', vs, post, g1, g2, g3, g4, g5, g6⟩ := h.heap _ _ hb
          rw [e1] at g1; injection g1 with g1; subst g1
          have hpn : pl.n = n := by rw [← g4, g6 rfl, List.append_nil, relS_len g5, hL]
          have hb := run_bounds (P := P) (w := w) false n n (lo.map a.eval) (hi.map a.eval) l u hlo hhu hl0 hlu (.inl hun)
          refine ok_run (v := .slice (some (if n = l.toNat then ⟨pl.b, pl.f + (0 + 0), none⟩ else (⟨pl.b, pl.f + (0 + 0), none⟩ : Addr).add (l.toNat * 1))) (u.toNat - l.toNat) (n - l.toNat)) hx ?_ (.inr ⟨rfl, _, _, rfl, by omega, Nat.le_refl _, by omega, ?_, fun h => by cases h⟩)
          · rw [e2]
            simp [Instr.sliceAt, run_underlying hu, Instr.sureAddr, hb, hs]
          · intro hc
            refine ⟨pl, e1, ?_, by omega⟩
            rw [Nat.mul_one, Addr.add_mid]
            split
            · rcases hc with hc | hc
              · omega
              · simp only [beq_iff_eq] at hc
                have : l.toNat = 0 := by omega
                rw [this]
            · simp only [Nat.add_assoc, Nat.zero_add]
        split at e
        · rw [one_inj e] at hp ⊢
          obtain ⟨hp1, hp2, hp3, hp4, hp5⟩ := hp
          rcases hi_ok h h3 hp3 with ⟨g1, _⟩ | ⟨k, m, _, g2⟩
          · exact core n _ hp1 hp2 hp3 hp4 hp5 (Int.le_refl _) (.inl ⟨g1, rfl⟩)
          · cases g2
        · rename_i u
          rw [one_inj e] at hp ⊢
          obtain ⟨hp1, hp2, hp3, hp4, hp5, hp6⟩ := hp
          rcases hi_ok h h3 hp3 with ⟨_, g2⟩ | ⟨k, m, g1, g2⟩
          · cases g2
          · injection g2 with g2; subst g2
            exact core u _ hp1 hp2 hp3 hp4 hp5 hp6 (.inr ⟨k, g1⟩)
      · cases e
    · cases e
  · -- a string
    rename_i sz zr p b q l r' hh hti h1 h2 h3
    have hu : P.underlying t = some .string := (hT _ _ hti).1
    have core : ∀ (u : Int) (p' : Cd), p.holds → q.holds → r'.holds → 0 ≤ l → l ≤ u → u ≤ (b.size : Int) → ((hi.map a.eval = none ∧ u = b.size) ∨ (∃ k, hi.map a.eval = some (.int k u))) →
        Ok P ρ s a w op ⟨p', some (Sx.sc (.str (b.extract l.toNat u.toNat))), [], s.next⟩ := by
      intro u p' hp1 hq1 hr1 hl0 hlu hun hhu
      have hlo := lo_ok h h2 hq1
      have r1 := ev1_ok h h1 hp1
      simp only [RelA, Rel1] at r1
      have hb := run_bounds (P := P) (w := w) false b.size b.size (lo.map a.eval) (hi.map a.eval) l u hlo hhu hl0 hlu (.inl hun)
      refine ok_run (v := .string (b.extract l.toNat u.toNat)) hx ?_ rfl
      rw [r1]
      simp [Instr.sliceAt, Instr.slice, run_underlying hu, hb]
    split at e
    · rw [one_inj e] at hp ⊢
      obtain ⟨hp1, hp2, hp3, hp4, hp5⟩ := hp
      rcases hi_ok h h3 hp3 with ⟨g1, _⟩ | ⟨k, m, _, g2⟩
      · exact core b.size _ hp1 hp2 hp3 hp4 hp5 (Int.le_refl _) (.inl ⟨g1, rfl⟩)
      · cases g2
    · rename_i u
      rw [one_inj e] at hp ⊢
      obtain ⟨hp1, hp2, hp3, hp4, hp5, hp6⟩ := hp
      rcases hi_ok h h3 hp3 with ⟨_, g2⟩ | ⟨k, m, g1, g2⟩
      · cases g2
      · injection g2 with g2; subst g2
        exact core u _ hp1 hp2 hp3 hp4 hp5 hp6 (.inr ⟨k, g1⟩)
  · cases e

end
end Go.Sx
