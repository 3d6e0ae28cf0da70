/- The symbolic evaluator: a function, from its arguments to its result. Definitions and plain lemmas, no condition. -/
import Derived.Test.YtogijkmflhjhkaaSxO
namespace Go.Sx
open Go.RowKit
set_option linter.unusedSimpArgs false

set_option linter.unusedVariables false

/-- The memory that a function finds: its first tags lie below n. -/
structure Good (ρ : Rho) (w : World) (H : List (Nat × SB)) (n : Nat) : Prop where
  sat : ∀ t b, getA H t = some b → Sat ρ w b t
  dom : ∀ t pl, ρ t = some pl → t < n ∧ pl.b < w.heap.size
  inj : ∀ t t' b b', t ≠ t' → getA H t = some b → getA H t' = some b' → b.isOwn = true → b'.live = true → ∀ pl pl', ρ t = some pl → ρ t' = some pl' → pl.b ≠ pl'.b
  tags : ∀ t b, getA H t = some b → t < n
  imm : ∀ A v, ρ.im A = some v → w.cell? A = some v
  isep : ∀ t b pl, getA H t = some b → b.isOwn = true → ρ t = some pl → ∀ A : Addr, A.block = pl.b → ρ.im A = none

/-- A function, called with A where H is found, does r. -/
def FSound (P : Program) (f : FuncId) (A : List SA) (H : List (Nat × SB)) (n : Nat) (r : Res) : Prop :=
  ∀ ρ w vs, Good ρ w H n → RelL ρ A vs → r.p.holds → Does P f vs.toArray w fun v w' => ∃ ρ', Eff ρ ρ' H n r.d r.next w w' ∧ ∀ sv, r.v = some sv → RelV ρ' sv v

/-- The same of a call that is watched to its end. -/
def FCalls (P : Program) (f : FuncId) (A : List SA) (H : List (Nat × SB)) (n : Nat) (r : Res) : Prop :=
  ∀ ρ w vs, Good ρ w H n → RelL ρ A vs → r.p.holds → Calls P f vs.toArray w fun e w' => ∃ v, e = .returned v ∧ ∃ ρ', Eff ρ ρ' H n r.d r.next w w' ∧ ∀ sv, r.v = some sv → RelV ρ' sv v

def initF : Nat → List SA → List (Nat × SV)
  | _, [] => []
  | i, a :: r => (i, .sa a) :: initF (i + 1) r

/-- One result: a slot's value, or what lies behind its pointer. -/
def res1 (T : TypeId → Option TyI) (s : St) : ResultVar → Option (Cd × SA)
  | .tmp t => s.ev1 (.tmp t)
  | .cell c t =>
    match s.ev1 (.tmp c), T t with
    | some (p, .sc (.ptr tg o 0)), some ⟨.array _ _, sz, _⟩ =>
      match s.hp tg with
      | some (q, .own _ l _) =>
        match (segDrop l o).bind fun r => segTake r sz with
        | some g => some (.and p q, .agg g)
        | none => none
      | _ => none
    | _, _ => none
def resL (T : TypeId → Option TyI) (s : St) : List ResultVar → Option (Cd × List SA)
  | [] => some (.tt, [])
  | x :: r =>
    match res1 T s x, resL T s r with
    | some (p, a), some (q, l) => some (.and p q, a :: l)
    | _, _ => none
def resV (T : TypeId → Option TyI) (s : St) (rs : List ResultVar) : Option (Cd × SV) :=
  match resL T s rs with
  | some (p, [a]) => some (p, .sa a)
  | some (p, l) => some (p, .tup l)
  | none => none

/-- Old tags are own blocks; new ones are own; what is not live is .dead. -/
def dOk (H : List (Nat × SB)) (n : Nat) : List (Nat × SB) → Bool
  | [] => true
  | (t, b) :: r =>
    (match Nat.ble n t with
      | true => b.isOwn
      | false => match getA H t with | some b0 => b0.isOwn && (match b with | .dead => true | b => b.live) | none => false) && dOk H n r
/-- All own blocks that were found are told of. -/
def cover (d : List (Nat × SB)) : List (Nat × SB) → Bool
  | [] => true
  | (t, b) :: r => (!b.isOwn || (match getA d t with | some _ => true | none => false)) && cover d r

/-- The end of a function: its last state says what r says. -/
def endC (T : TypeId → Option TyI) (rs : List ResultVar) (H : List (Nat × SB)) (n : Nat) (r : Res) (l : List (Nat × Nat)) (s : St) : Cd :=
  match fixes n l && (Nat.ble n r.next && (Nat.ble r.next (n + 16) && (dist (images l r.d) && (dOk H n r.d && cover r.d H)))) with
  | true => .and (mH r.next l s r.d) (match resV T s rs with
    | some (p, v) => .and p (match r.v with | some u => mSV r.next l u v | none => .tt)
    | none => .ff)
  | false => .ff
def Ends (T : TypeId → Option TyI) (rs : List ResultVar) (H : List (Nat × SB)) (n : Nat) (r : Res) (o : Out) (s : St) : Prop :=
  match o with
  | .exit _ => False
  | _ => ∃ l : List (Nat × Nat), (endC T rs H n r l s).then True

section
variable {P : Program} {W : Env} {w0 w : World} {F : Nat → Prop} {ρ : Rho} {s : St} {a : Act} {T : TypeId → Option TyI} {C : FuncId → Option Summary}

theorem initF_get : ∀ {A : List SA} {vs : List Value} {i : Nat}, RelL ρ A vs → ∀ j v, getA (initF i A) j = some v → i ≤ j ∧ RelV ρ v (vs.getD (j - i) undef)
  | [], _, _, _, _, _, e => by cases e
  | a :: r, _, i, ⟨u, vs, e1, h1, h2⟩, j, v, e => by
    subst e1
    simp only [initF] at e
    rw [getA_cons] at e
    split at e
    · rename_i hj
      subst hj
      injection e with e
      subst e
      refine ⟨Nat.le_refl _, ?_⟩
      show RelA ρ a _
      simpa using h1
    · rename_i hj
      obtain ⟨h3, h4⟩ := initF_get h2 j v e
      refine ⟨by omega, ?_⟩
      rw [show j - i = (j - (i + 1)) + 1 by omega]
      simpa using h4
theorem relL_len : ∀ {A : List SA} {vs : List Value}, RelL ρ A vs → vs.length = A.length
  | [], _, h => by simp only [RelL] at h; subst h; rfl
  | _ :: _, _, ⟨_, _, e, _, h⟩ => by subst e; simp [relL_len h]
theorem initF_lt : ∀ {A : List SA} {i j : Nat} {v : SV}, getA (initF i A) j = some v → j < i + A.length
  | [], _, _, _, e => by cases e
  | a :: r, i, j, v, e => by
    simp only [initF] at e
    rw [getA_cons] at e
    split at e
    · simp; omega
    · have := initF_lt e; simp only [List.length_cons]; omega

/-- What the model does for one result. -/
def resF (tmps : Array Value) : ResultVar → Sem Value
  | .tmp t => pure (tmps.getD t undef)
  | .cell c t => do loadVar t (← asAddr (tmps.getD c undef))
theorem results_eq (fn : Func) (tmps : Array Value) : results fn tmps = (do let vs ← fn.results.mapM (resF tmps); pure (if h : vs.size = 1 then vs[0] else .tuple vs)) := by
  unfold results
  congr 1
theorem res1_ok (h : R W w0 F ρ s a w) (hT : TOk P T) {x : ResultVar} {p : Cd} {u : SA} (e : res1 T s x = some (p, u)) (hp : p.holds) : ∃ v, (resF a.tmps x).run P w = .ok v w ∧ RelA ρ u v := by
  cases x with
  | tmp t => exact ⟨_, rfl, ev1_ok h e hp⟩
  | cell c t =>
    simp only [res1] at e
    split at e
    · rename_i p1 tg o n el sz z h1 hti
      split at e
      · rename_i q bt l m hb
        split at e
        · rename_i g hseg
          injection e with e; injection e with e1 e2
          subst e1; subst e2
          obtain ⟨pl, k1, k2⟩ := ev1_ok h h1 hp.1
          rw [Option.bind_eq_some_iff] at hseg
          obtain ⟨lr, hs1, hs2⟩ := hseg
          obtain ⟨pl', vs, post, g1, g2, g3, g4, g5, g6⟩ := hp_ok h hb hp.2
          rw [k1] at g1; injection g1 with g1; subst g1
          obtain ⟨la, rfl, hla⟩ := segDrop_spec hs1
          obtain ⟨lc, rfl, hlc⟩ := segTake_spec hs2
          obtain ⟨va, vb, rfl, ra, rb⟩ := relS_append.1 g5
          obtain ⟨vc, vd, rfl, rc, rd⟩ := relS_append.1 rb
          obtain ⟨hdok, inf, z, hi1, hi2, _⟩ := hT _ _ hti
          have hrange : w.rangeAt pl.b (pl.f + (o + 0)) vc := by
            intro j v hv
            have hj : j < vc.length := (List.getElem?_eq_some_iff.1 hv).1
            have hva : va.length = o := (relS_len ra).trans hla
            rw [g2, Nat.zero_add, Nat.add_zero, cell_in g3, ← hva, List.append_assoc, List.append_assoc, get_mid va vc _ j hj]
            exact hv
          refine ⟨.agg vc.toArray, ?_, vc, rfl, rc⟩
          have hl := run_loadVar_mid (P := P) w pl.b _ t vc _ hrange hdok.1 rfl (by rw [hi1]; simp [hi2, relS_len rc, hlc])
          have he : a.tmps.getD c undef = .pointer (some ⟨pl.b, pl.f + (o + 0), none⟩) := k2
          simp only [resF, he, asAddr, Sem.run_bind, Sem.run_pure, Result.andThen_ok, hl]
        · cases e
      · cases e
    · cases e
theorem resL_ok (h : R W w0 F ρ s a w) (hT : TOk P T) : ∀ {rs : List ResultVar} {p : Cd} {l : List SA}, resL T s rs = some (p, l) → p.holds → ∃ vs, RelL ρ l vs ∧ (rs.mapM (resF a.tmps)).run P w = .ok vs w
  | [], p, l, e, _ => by simp only [resL] at e; injection e with e; injection e with e1 e2; subst e2; exact ⟨[], rfl, by simp⟩
  | x :: r, p, l, e, hp => by
    simp only [resL] at e
    split at e
    · rename_i p1 a1 q l1 h1 h2
      injection e with e; injection e with e1 e2
      subst e1; subst e2
      obtain ⟨vs, g1, g2⟩ := resL_ok h hT h2 hp.2
      obtain ⟨v, k1, k2⟩ := res1_ok h hT h1 hp.1
      exact ⟨v :: vs, ⟨v, vs, rfl, k2, g1⟩, by simp [List.mapM_cons, k1, g2]⟩
    · cases e
/-- The results as one value. -/
def tupV : List Value → Value
  | [v] => v
  | vs => .tuple vs.toArray
theorem run_results {fn : Func} {rs : List ResultVar} {vs : List Value} {tmps : Array Value} (h : fn.results = rs.toArray) (hm : (rs.mapM (resF tmps)).run P w = .ok vs w) :
    (results fn tmps).run P w = .ok (tupV vs) w := by
  rw [results_eq, h, Array.mapM_eq_mapM_toList, map_eq_pure_bind]
  simp only [Sem.run_bind, hm, Result.andThen_ok, Sem.run_pure]
  congr 1
  cases vs with
  | nil => simp [tupV]
  | cons t ts =>
    cases ts with
    | nil => simp [tupV]
    | cons u ts => simp [tupV]

theorem dOk_get {H : List (Nat × SB)} {n : Nat} : ∀ {d : List (Nat × SB)}, dOk H n d = true → ∀ t b, getA d t = some b → (n ≤ t ∧ b.isOwn = true) ∨ (t < n ∧ (∃ b0, getA H t = some b0 ∧ b0.isOwn = true) ∧ (b = .dead ∨ b.live = true))
  | (j, c) :: r, h, t, b, e => by
    simp only [dOk, Bool.and_eq_true] at h
    rw [getA_cons] at e
    split at e
    · rename_i hj
      subst hj
      injection e with e
      subst e
      have h1 := h.1
      split at h1
      · rename_i hle; exact .inl ⟨Nat.le_of_ble_eq_true hle, h1⟩
      · rename_i hle
        have hlt : j < n := by
          rcases Nat.lt_or_ge j n with h2 | h2
          · exact h2
          · rw [Nat.ble_eq_true_of_le h2] at hle; cases hle
        split at h1
        · rename_i b0 hb0
          simp only [Bool.and_eq_true] at h1
          refine .inr ⟨hlt, ⟨b0, hb0, h1.1⟩, ?_⟩
          have h2 := h1.2
          split at h2
          · exact .inl rfl
          · exact .inr h2
        · cases h1
    · exact dOk_get h.2 t b e
theorem cover_get {d : List (Nat × SB)} : ∀ {H : List (Nat × SB)}, cover d H = true → ∀ t b, getA H t = some b → b.isOwn = true → ∃ b', getA d t = some b'
  | (j, c) :: r, h, t, b, e, ho => by
    simp only [cover, Bool.and_eq_true] at h
    rw [getA_cons] at e
    split at e
    · rename_i hj
      subst hj
      injection e with e
      subst e
      have h1 := h.1
      rw [ho] at h1
      simp only [Bool.not_true, Bool.false_or] at h1
      split at h1
      · rename_i b' hb; exact ⟨b', hb⟩
      · cases h1
    · exact cover_get h.2 t b e ho

/-- What is known of any slice. -/
def fC : SC → Prop
  | .im nl _ _ n => (nl = true → n = 0) ∧ n ≤ 9223372036854775807
  | .rows nl _ _ n => (nl = true → n = 0) ∧ n ≤ 9223372036854775807
  | .sl nl _ _ _ _ _ n _ => (nl = true → n = 0) ∧ n ≤ 9223372036854775807
  | _ => True
def fS : List Seg → Prop
  | [] => True
  | .one c :: r => fC c ∧ fS r
  | _ :: r => fS r
def fA : SA → Prop
  | .sc c => fC c
  | .agg l => fS l
def fL : List SA → Prop
  | [] => True
  | a :: r => fA a ∧ fL r
def fB : SB → Prop
  | .own _ l _ => fS l
  | _ => True
def fH : List (Nat × SB) → Prop
  | [] => True
  | (_, b) :: r => fB b ∧ fH r
theorem fC_ok {c : SC} {v : Value} (h : Rel1 ρ c v) : fC c := by
  cases c <;> try trivial
  · rcases h with ⟨h1, h2, h3, _⟩ | ⟨h1, A, cap, h2, h3, h4, h5, _⟩
    · subst h3; exact ⟨fun _ => rfl, by omega⟩
    · subst h1; simp only [maxLen] at h5; exact ⟨fun h => (by cases h), by omega⟩
  · rcases h with ⟨h1, h2, h3⟩ | ⟨h1, A, cap, h2, h3, h4, h5⟩
    · simp only at h3; subst h3; exact ⟨fun _ => rfl, by omega⟩
    · simp only at h1 h3; subst h1; simp only [maxLen] at h4; exact ⟨fun h => (by cases h), by omega⟩
  · rcases h with ⟨h1, h2, h3⟩ | ⟨h1, A, cap, h2, h3, h4, h5⟩
    · subst h3; exact ⟨fun _ => rfl, by omega⟩
    · subst h1; simp only [maxLen] at h4; exact ⟨fun h => (by cases h), by omega⟩
theorem fS_ok : ∀ {l : List Seg} {vs : List Value}, RelS ρ l vs → fS l
  | [], _, _ => trivial
  | .one _ :: _, _, ⟨_, _, _, h1, h2⟩ => ⟨fC_ok h1, fS_ok h2⟩
  | .ints _ _ _ :: r, _, ⟨_, _, h2⟩ => fS_ok (l := r) h2
  | .rows _ _ _ :: r, _, ⟨_, _, _, _, _, h2⟩ => fS_ok (l := r) h2
theorem fL_ok : ∀ {l : List SA} {vs : List Value}, RelL ρ l vs → fL l
  | [], _, _ => trivial
  | .sc _ :: _, _, ⟨_, _, _, h1, h2⟩ => ⟨fC_ok h1, fL_ok h2⟩
  | .agg _ :: _, _, ⟨_, _, _, ⟨_, _, h1⟩, h2⟩ => ⟨fS_ok h1, fL_ok h2⟩
theorem fH_ok : ∀ {H : List (Nat × SB)}, (∀ x ∈ H, Sat ρ w x.2 x.1) → fH H
  | [], _ => trivial
  | (t, b) :: r, h => by
    refine ⟨?_, fH_ok fun x hx => h x (by simp [hx])⟩
    have := h (t, b) (by simp)
    cases b
    · obtain ⟨_, _, _, _, _, _, _, h5, _⟩ := this; exact fS_ok h5
    all_goals trivial
theorem getA_nodup {α : Type} : ∀ {l : List (Nat × α)}, dist (keysOf l) = true → ∀ x ∈ l, getA l x.1 = some x.2
  | (j, v) :: r, h, x, hx => by
    simp only [keysOf, dist, Bool.and_eq_true, Bool.not_eq_true'] at h
    rw [getA_cons]
    rcases List.mem_cons.1 hx with rfl | hx'
    · rw [if_pos rfl]
    · rw [if_neg ?_]
      · exact getA_nodup h.2 x hx'
      · intro hj
        have : mem (keysOf r) j = true := by rw [hj]; exact mem_spec.2 (keys_mem hx')
        rw [h.1] at this; cases this
  where keys_mem {α : Type} : ∀ {l : List (Nat × α)} {x : Nat × α}, x ∈ l → x.1 ∈ keysOf l
  | (j, v) :: r, x, hx => by
    simp only [keysOf]
    rcases List.mem_cons.1 hx with rfl | hx
    · simp
    · simp [keys_mem hx]

theorem fcalls_of_run (hT : TOk P T) (hC : COk P C) (hm : P.follows .mixedOrders = true) {f : FuncId} {fn : Func} {c : Code} (hf : P.funcs[f]? = some fn) (hb : fn.body = some c)
    {A : List SA} {H : List (Nat × SB)} {n : Nat} {r : Res} {rs : List ResultVar} (hrs : fn.results = rs.toArray) {size : Nat} (hsz : fn.ntmps = size) (hA : A.length ≤ size) (hH : dist (keysOf H) = true) (h : r.p.holds → fL A → fH H → forceL (initF 0 A) fun fr => forceL H fun hp => run T C n c ⟨size, fr, hp, n⟩ (Ends T rs H n r)) : FCalls P f A H n r := by
  subst hsz
  intro ρ w vs hg hvs hp
  refine calls_of_wp hf hb ?_
  let W : Env := ⟨fun i => ∃ t0 b0 pl0, getA H t0 = some b0 ∧ b0.isOwn = true ∧ ρ t0 = some pl0 ∧ pl0.b = i, ρ, n⟩
  have hl := relL_len hvs
  have hR : R W w (top n) ρ ⟨fn.ntmps, initF 0 A, H, n⟩ { tmps := vs.toArray ++ Array.replicate (fn.ntmps - vs.toArray.size) undef, defers := [] } w := by
    refine ⟨?_, rfl, ?_, hg.sat, fun t pl hp => hg.dom t pl hp, hg.inj, ?_, fun t b hb => hg.tags t b hb, Chg.refl _ _, fun t ht _ => free_top _ _ ht, fun t ht => ⟨ht, rfl⟩, hg.imm, hg.isep, ⟨rfl, rfl⟩⟩
    · simp; omega
    · intro i v hi
      have hlt := initF_lt hi
      obtain ⟨_, h2⟩ := initF_get hvs i v hi
      have : (vs.toArray ++ Array.replicate (fn.ntmps - vs.toArray.size) undef).getD i undef = vs.getD (i - 0) undef := by
        rw [Array.getD_eq_getD_getElem?, Array.getElem?_append_left (by simp; omega)]
        simp
      rw [this]; exact h2
    · intro t b pl hb ho hp
      exact .inr ⟨t, b, pl, hb, ho, hp, rfl⟩
  have hrun := h hp (fL_ok hvs) (fH_ok fun x hx => hg.sat _ _ (getA_nodup hH x hx))
  rw [forceL_eq, forceL_eq] at hrun
  refine run_ok (n := n) rfl hT hC hm c _ ρ _ w _ _ hrun hR fun o s' ρs a' w' hE hR' => ?_
  have hE' : (match o with | .exit _ => False | _ => True) ∧ ∃ l : List (Nat × Nat), (endC T rs H n r l s').holds := by
    cases o with
    | exit j => exact hE.elim
    | norm => obtain ⟨l, hl⟩ := hE; exact ⟨trivial, l, ((Cd.then_iff _ _).1 hl).1⟩
    | ret => obtain ⟨l, hl⟩ := hE; exact ⟨trivial, l, ((Cd.then_iff _ _).1 hl).1⟩
  obtain ⟨ho, l, hE2⟩ := hE'
  unfold endC at hE2
  split at hE2
  rotate_left
  · exact hE2.elim
  rename_i hchk
  obtain ⟨hmh, hres⟩ := hE2
  simp only [Bool.and_eq_true] at hchk
  obtain ⟨c1, c2, c3, c4, c5, c6⟩ := hchk
  have c2 := Nat.le_of_ble_eq_true c2
  have c3 := Nat.le_of_ble_eq_true c3
  have hfix := fixes_ok c1
  have hM := match_ok (n := n) (t := ⟨s'.size, [], r.d, r.next⟩) hR' rfl rfl c2 hfix trivial hmh c4
  have hbase : ∀ t, t < n → rho r.next l ρs t = ρ t := fun t ht => (hM.base t ht).2
  have heff : Eff ρ (rho r.next l ρs) H n r.d r.next w w' := by
    refine ⟨⟨?_, hM.same.1, hM.same.2⟩, c2, c3, hM.chg.size, hM.chg.os, hM.chg.tape, hM.chg.output, ?_, hM.heap, ?_, ?_, ?_⟩
    · intro t pl ht
      rw [hbase t (hg.dom t pl ht).1]; exact ht
    · intro t pl ht
      rcases Nat.lt_or_ge t n with hlt | hge
      · rw [hbase t hlt] at ht; exact .inl ht
      · obtain ⟨hlt, hbs⟩ := hM.dom t pl ht
        refine .inr ⟨hge, hlt, hbs, fun b hb hlive => ?_⟩
        rcases dOk_get c5 t b hb with ⟨_, hown⟩ | ⟨hlt', _⟩
        · rcases hM.mine t b pl hb hown ht with h1 | ⟨t0, b0, pl0, g1, g2, g3, g4⟩
          · exact .inl h1
          · obtain ⟨bd, hbd⟩ := cover_get c6 t0 b0 g1 g2
            have ht0 := hg.tags t0 b0 g1
            rcases dOk_get c5 t0 bd hbd with ⟨h1, _⟩ | ⟨_, _, h3⟩
            · omega
            · rcases h3 with rfl | h3
              · exact .inr ⟨t0, b0, pl0, hbd, g1, g2, g3, g4⟩
              · exact absurd g4.symm (hM.inj t t0 b bd (by omega) hb hbd hown h3 pl pl0 ht (by rw [hbase t0 ht0]; exact g3))
        · omega
    · intro t b hb
      rcases dOk_get c5 t b hb with ⟨h1, _⟩ | ⟨_, h2, _⟩
      · exact .inl ⟨h1, hM.tags t b hb⟩
      · exact .inr h2
    · intro i hi hne
      refine hM.chg.block i hi ?_
      rintro ⟨t0, b0, pl0, g1, g2, g3, g4⟩
      obtain ⟨bd, hbd⟩ := cover_get c6 t0 b0 g1 g2
      exact hne t0 bd pl0 hbd g3 g4
    · intro t t' b b' hne _ _ _ _ hb hb' ho hl pl pl' hp hp'
      exact hM.inj t t' b b' hne hb hb' ho hl pl pl' hp hp'
  -- the results
  have hval : ∃ v, (results fn a'.tmps).run P w' = .ok v w' ∧ ∀ sv, r.v = some sv → RelV (rho r.next l ρs) sv v := by
    split at hres
    · rename_i p v hv
      unfold resV at hv
      split at hv
      · rename_i p' a1 hl1
        injection hv with hv; injection hv with e1 e2
        subst e1; subst e2
        obtain ⟨us, g2, g1⟩ := resL_ok hR' hT hl1 hres.1
        refine ⟨_, run_results hrs g1, fun sv hsv => ?_⟩
        obtain ⟨u, us, rfl, e4, e5⟩ := g2
        simp only [RelL] at e5
        subst e5
        have hq := hres.2
        rw [hsv] at hq
        exact mSV_ok hq (show RelV ρs (.sa a1) u from e4)
      · rename_i p' l1 hne hl1
        injection hv with hv; injection hv with e1 e2
        subst e1; subst e2
        obtain ⟨us, g2, g1⟩ := resL_ok hR' hT hl1 hres.1
        refine ⟨_, run_results hrs g1, fun sv hsv => ?_⟩
        have hq := hres.2
        rw [hsv] at hq
        have hnot : ∀ u, us ≠ [u] := by
          intro u hu
          rw [hu] at g2
          have := relL_len g2
          cases l1 with
          | nil => simp at this
          | cons x l1 =>
            cases l1 with
            | nil => exact hne _ rfl
            | cons y l1 => simp at this
        have : tupV us = Value.tuple us.toArray := by
          unfold tupV
          split
          · rename_i u; exact absurd rfl (hnot u)
          · rfl
        rw [this]
        exact mSV_ok hq (show RelV ρs (.tup l1) _ from ⟨_, rfl, g2⟩)
      · cases hv
    · exact hres.elim
  obtain ⟨v, hv1, hv2⟩ := hval
  cases o with
  | exit j => exact ho.elim
  | norm => exact ⟨hR'.defers, v, hv1, v, rfl, _, heff, hv2⟩
  | ret => exact ⟨hR'.defers, v, hv1, v, rfl, _, heff, hv2⟩

theorem FCalls.fsound {f : FuncId} {A : List SA} {H : List (Nat × SB)} {n : Nat} {r : Res} (he : ∀ args w, (callFunc f args).run P w = .ok (.enter f args) w) (h : FCalls P f A H n r) : FSound P f A H n r :=
  fun ρ w vs hg hv hp => Does.of_calls (he _ _) (h ρ w vs hg hv hp)
theorem fsound_of_run (hT : TOk P T) (hC : COk P C) (hm : P.follows .mixedOrders = true) {f : FuncId} {fn : Func} {c : Code} (he : ∀ args w, (callFunc f args).run P w = .ok (.enter f args) w) (hf : P.funcs[f]? = some fn) (hb : fn.body = some c)
    {A : List SA} {H : List (Nat × SB)} {n : Nat} {r : Res} {rs : List ResultVar} (hrs : fn.results = rs.toArray) {size : Nat} (hsz : fn.ntmps = size) (hA : A.length ≤ size) (hH : dist (keysOf H) = true) (h : r.p.holds → fL A → fH H → forceL (initF 0 A) fun fr => forceL H fun hp => run T C n c ⟨size, fr, hp, n⟩ (Ends T rs H n r)) : FSound P f A H n r :=
  (fcalls_of_run hT hC hm hf hb hrs hsz hA hH h).fsound he

end
end Go.Sx
