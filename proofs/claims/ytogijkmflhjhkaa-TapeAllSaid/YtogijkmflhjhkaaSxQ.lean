/- The symbolic evaluator: what a function says of its own tags, said of its caller's. Definitions and plain lemmas, no condition. -/
import Derived.Test.YtogijkmflhjhkaaSxP
namespace Go.Sx
open Go.RowKit
set_option linter.unusedSimpArgs false

set_option linter.unusedVariables false

/-- The caller's tag of a callee's first tags, if it has one. -/
abbrev Sig := List (Nat × Option Nat)
def th (σ : Sig) (n next t : Nat) : Nat := match Nat.ble n t with | true => next + (t - n) | false => match getA σ t with | some (some t') => t' | _ => 0
/-- How a callee's values are said by its caller: st: what nobody writes is the same for both. -/
structure Rn where
  σ : Sig
  st : Bool
  ops : List SC
  n : Nat
  next : Nat
def renC (R : Rn) : SC → SC
  | .ptr t o i => match R with | ⟨σ, _, _, n, nx⟩ => .ptr (th σ n nx t) o i
  | .sl nl ex z t o i m c => match R with | ⟨σ, _, _, n, nx⟩ => .sl nl ex z (th σ n nx t) o i m c
  | .fn f t => match R with | ⟨σ, _, _, n, nx⟩ => .fn f (th σ n nx t)
  | .im nl k f m => match R.st with | true => .im nl k f m | false => .any
  | .rows nl k f m => match R.st with | true => .rows nl k f m | false => .any
  | .adr _ => .any
  | .opq i => match R.ops[i]? with | some c => c | none => .any
  | c => c
/-- Are there no rows that the caller can't say? -/
def okS (st : Bool) : List Seg → Bool
  | [] => true
  | .rows _ _ _ :: r => st && okS st r
  | _ :: r => okS st r
def renS (R : Rn) : List Seg → List Seg
  | [] => []
  | .one c :: r => .one (renC R c) :: renS R r
  | .ints k f m :: r => .ints k f m :: renS R r
  | .rows k f m :: r => .rows k f m :: renS R r
def renA (R : Rn) : SA → SA
  | .sc c => .sc (renC R c)
  | .agg l => .agg (renS R l)
def renL (R : Rn) : List SA → List SA
  | [] => []
  | a :: r => renA R a :: renL R r
def renV (R : Rn) : SV → SV
  | .sa a => .sa (renA R a)
  | .tup l => .tup (renL R l)
  | .gd g a => .gd g (renA R a)
def okA (st : Bool) : SA → Bool
  | .sc _ => true
  | .agg l => okS st l
def okL (st : Bool) : List SA → Bool
  | [] => true
  | a :: r => okA st a && okL st r
def okV (st : Bool) : SV → Bool
  | .sa a => okA st a
  | .tup l => okL st l
  | .gd _ a => okA st a
def renB (R : Rn) : SB → SB
  | .own ty l more => match okS R.st l with | true => .own ty (renS R l) more | false => .dead
  | .gd g b => .gd g (renB R b)
  | _ => .dead
def renD (R : Rn) : List (Nat × SB) → List (Nat × SB)
  | [] => []
  | (t, b) :: r =>
    match Nat.ble R.n t, getA R.σ t with
    | true, _ => (match R with | ⟨_, _, _, n, nx⟩ => nx + (t - n), renB R b) :: renD R r
    | false, some (some t') => (t', renB R b) :: renD R r
    | false, _ => renD R r

/-- The callee's places are the caller's. -/
def PlIn (σ : Sig) (n : Nat) (ρ ρc : Rho) : Prop := ∀ t, ρc t = if t < n then match getA σ t with | some (some t') => ρ t' | _ => none else none
/-- The caller's places, behind the call. -/
def rout (n next n' : Nat) (ρ ρ1 : Rho) : Rho := { ρ with pl := fun u => if next ≤ u ∧ u < next + (n' - n) then ρ1 (u - next + n) else ρ u }

section
variable {P : Program} {W : Env} {w0 w : World} {F : Nat → Prop} {ρ ρ' ρ1 : Rho} {s : St} {a : Act} {N : Rn}

/-- Tag by tag. -/
structure Turn (N : Rn) (ρ1 ρ' : Rho) : Prop where
  tag : ∀ t pl, ρ1 t = some pl → ρ' (th N.σ N.n N.next t) = some pl
  im : N.st = true → ρ'.im = ρ1.im
  ops : ∀ i c, N.ops[i]? = some c → Rel1 ρ' c (ρ1.oq i)
theorem renC_ok (h : Turn N ρ1 ρ') : ∀ {c : SC} {v : Value}, Rel1 ρ1 c v → Rel1 ρ' (renC N c) v := by
  intro c v r
  cases c
  case ptr t o i => obtain ⟨pl, e1, e2⟩ := r; exact ⟨pl, h.tag t pl e1, e2⟩
  case sl nl ex z t o i m c =>
    rcases r with r | ⟨e1, A, cap, e2, e3, e4, e5, e6, e7⟩
    · exact .inl r
    · exact .inr ⟨e1, A, cap, e2, e3, e4, e5, fun hc => by obtain ⟨pl, q1, q2⟩ := e6 hc; exact ⟨pl, h.tag t pl q1, q2⟩, e7⟩
  case fn f t => obtain ⟨pl, e1, e2⟩ := r; exact ⟨pl, h.tag t pl e1, e2⟩
  case im nl k f m =>
    simp only [renC]
    split
    · rename_i hs; exact relRow_im (h.im hs) r
    · exact rel1_one r
  case rows nl k f m =>
    simp only [renC]
    split
    · rename_i hs
      refine r.imp id fun ⟨e1, A, cap, e2, e3, e4, e5⟩ => ⟨e1, A, cap, e2, e3, e4, fun j hj => ?_⟩
      obtain ⟨u, q1, q2⟩ := e5 j hj
      exact ⟨u, by rw [h.im hs]; exact q1, relRow_im (h.im hs) q2⟩
    · exact rel1_one r
  case adr c => exact rel1_one r
  case opq i =>
    simp only [renC]
    split
    · rename_i c hc; have := h.ops i c hc; rw [← r.1] at this; exact this
    · exact r.2
  all_goals exact r
theorem renS_ok (h : Turn N ρ1 ρ') : ∀ {l : List Seg} {vs : List Value}, okS N.st l = true → RelS ρ1 l vs → RelS ρ' (renS N l) vs
  | [], _, _, r => r
  | .one _ :: _, _, ho, ⟨v, vs, e, h1, h2⟩ => ⟨v, vs, e, renC_ok h h1, renS_ok h ho h2⟩
  | .ints _ _ _ :: l, _, ho, ⟨vs, e, h2⟩ => ⟨vs, e, renS_ok (l := l) h ho h2⟩
  | .rows _ _ _ :: l, _, ho, ⟨us, vs, e, h0, h1, h2⟩ => by
    simp only [okS, Bool.and_eq_true] at ho
    exact ⟨us, vs, e, h0, fun j u hj => relRow_im (h.im ho.1) (h1 j u hj), renS_ok (l := l) h ho.2 h2⟩
theorem renA_ok (h : Turn N ρ1 ρ') : ∀ {a : SA} {v : Value}, okA N.st a = true → RelA ρ1 a v → RelA ρ' (renA N a) v
  | .sc _, _, _, r => renC_ok h r
  | .agg _, _, ho, ⟨vs, e, r⟩ => ⟨vs, e, renS_ok h ho r⟩
theorem renL_ok (h : Turn N ρ1 ρ') : ∀ {l : List SA} {vs : List Value}, okL N.st l = true → RelL ρ1 l vs → RelL ρ' (renL N l) vs
  | [], _, _, r => r
  | _ :: _, _, ho, ⟨v, vs, e, h1, h2⟩ => by
    simp only [okL, Bool.and_eq_true] at ho
    exact ⟨v, vs, e, renA_ok h ho.1 h1, renL_ok h ho.2 h2⟩
theorem renV_ok (h : Turn N ρ1 ρ') : ∀ {a : SV} {v : Value}, okV N.st a = true → RelV ρ1 a v → RelV ρ' (renV N a) v
  | .sa _, _, ho, r => renA_ok h ho r
  | .tup _, _, ho, ⟨vs, e, r⟩ => ⟨vs, e, renL_ok h ho r⟩
  | .gd _ _, _, ho, r => ⟨fun g => renA_ok h ho (r.1 g), r.2⟩
theorem renB_ok (h : Turn N ρ1 ρ') : ∀ {b : SB} {t : Nat}, Sat ρ1 w b t → Sat ρ' w (renB N b) (th N.σ N.n N.next t)
  | .own ty l more, t, ⟨pl, vs, post, g1, g2, g3, g4, g5, g6⟩ => by
    simp only [renB]
    split
    · rename_i ho; exact ⟨pl, vs, post, h.tag t pl g1, g2, g3, g4, renS_ok h ho g5, g6⟩
    · trivial
  | .gd g b, t, hs => fun hg => renB_ok h (b := b) (hs hg)
  | .ro _ _ _, _, _ => trivial
  | .dead, _, _ => trivial
theorem renB_own : ∀ {b : SB}, (renB N b).isOwn = true → b.isOwn = true
  | .own _ _ _, _ => rfl
  | .gd _ b, h => renB_own (b := b) h
  | .ro _ _ _, h => h
  | .dead, h => h
theorem renB_live : ∀ {b : SB}, (renB N b).live = true → b.live = true
  | .own _ _ _, _ => rfl
  | .gd _ b, h => renB_live (b := b) h
  | .ro _ _ _, h => rfl
  | .dead, h => h

theorem th_new {t : Nat} (h : N.n ≤ t) : th N.σ N.n N.next t = N.next + (t - N.n) := by unfold th; rw [Nat.ble_eq_true_of_le h]
theorem ble_lt {t n : Nat} (h : t < n) : Nat.ble n t = false := by
  cases hq : Nat.ble n t with
  | false => rfl
  | true => have := Nat.le_of_ble_eq_true hq; omega
theorem th_old {t t' : Nat} (h : t < N.n) (hs : getA N.σ t = some (some t')) : th N.σ N.n N.next t = t' := by unfold th; rw [ble_lt h, hs]
theorem renD_get : ∀ {d : List (Nat × SB)} {u : Nat} {b' : SB}, getA (renD N d) u = some b' → ∃ t b, getA d t = some b ∧ th N.σ N.n N.next t = u ∧ b' = renB N b ∧ (t < N.n → ∃ t', getA N.σ t = some (some t'))
  | (t, b) :: r, u, b', h => by
    simp only [renD] at h
    have up : th N.σ N.n N.next t ≠ u ∨ (t < N.n ∧ ∀ x, getA N.σ t ≠ some (some x)) → getA (renD N r) u = some b' → ∃ t0 b0, getA ((t, b) :: r) t0 = some b0 ∧ th N.σ N.n N.next t0 = u ∧ b' = renB N b0 ∧ (t0 < N.n → ∃ t', getA N.σ t0 = some (some t')) := by
      intro hne h
      obtain ⟨t0, b0, g1, g2, g3, g4⟩ := renD_get h
      refine ⟨t0, b0, ?_, g2, g3, g4⟩
      rw [getA_cons, if_neg ?_]
      · exact g1
      · rintro rfl
        rcases hne with hne | ⟨h1, h2⟩
        · exact hne g2
        · obtain ⟨t', e⟩ := g4 h1; exact h2 _ e
    split at h
    · rename_i hle
      have hle := Nat.le_of_ble_eq_true hle
      rw [getA_cons] at h
      split at h
      · rename_i hu
        injection h with h
        exact ⟨t, b, by rw [getA_cons, if_pos rfl], by rw [th_new hle, hu], h.symm, fun hlt => by omega⟩
      · rename_i hu
        exact up (.inl (by rw [th_new hle]; exact hu)) h
    · rename_i t' hle hs
      rw [getA_cons] at h
      have hth : th N.σ N.n N.next t = t' := by unfold th; rw [hle, hs]
      split at h
      · rename_i hu
        injection h with h
        exact ⟨t, b, by rw [getA_cons, if_pos rfl], by rw [hth, hu], h.symm, fun _ => ⟨t', hs⟩⟩
      · rename_i hu
        exact up (.inl (by rw [hth]; exact hu)) h
    · rename_i hle hs
      have hlt : t < N.n := by
        rcases Nat.lt_or_ge t N.n with h2 | h2
        · exact h2
        · rw [Nat.ble_eq_true_of_le h2] at hle; cases hle
      exact up (.inr ⟨hlt, fun x hx => hs x hx⟩) h

theorem renD_mem : ∀ {d : List (Nat × SB)} {t : Nat} {b : SB}, getA d t = some b → (N.n ≤ t ∨ ∃ x, getA N.σ t = some (some x)) → th N.σ N.n N.next t ∈ keysOf (renD N d)
  | (j, c) :: r, t, b, h, ht => by
    rw [getA_cons] at h
    simp only [renD]
    split at h
    · rename_i hj
      subst hj
      split
      · rename_i hle; rw [th_new (Nat.le_of_ble_eq_true hle)]; simp [keysOf]
      · rename_i t' hle hs
        have hth : th N.σ N.n N.next j = t' := by unfold th; rw [hle, hs]
        rw [hth]; simp [keysOf]
      · rename_i hle hs
        rcases ht with ht | ⟨x, hx⟩
        · rw [Nat.ble_eq_true_of_le ht] at hle; cases hle
        · exact absurd hx (hs x)
    · have ih := renD_mem (d := r) h ht
      split
      · simp only [keysOf, List.mem_cons]; exact .inr ih
      · simp only [keysOf, List.mem_cons]; exact .inr ih
      · exact ih
theorem dist_get {α : Type} : ∀ {l : List (Nat × α)} {t : Nat}, t ∈ keysOf l → ∃ b, getA l t = some b
  | (j, c) :: r, t, h => by
    rw [getA_cons]
    by_cases hj : j = t
    · rw [if_pos hj]; exact ⟨c, rfl⟩
    · rw [if_neg hj]
      simp only [keysOf, List.mem_cons] at h
      exact dist_get (h.resolve_left (Ne.symm hj))

/-- FROM THE CALLEE TO THE CALLER. -/
theorem does_of_fsound {f : FuncId} {A : List SA} {H : List (Nat × SB)} {r : Res} {vs : List Value} {ρc : Rho} (hF : FSound P f A H N.n r) (h : R W w0 F ρ s a w) (hnx : N.next = s.next) (hG : Good ρc w H N.n) (hpl : PlIn N.σ N.n ρ ρc) (hA : RelL ρc A vs) (hp : r.p.holds)
    (him : N.st = true → ρc.im = ρ.im) (hops : ∀ i c, N.ops[i]? = some c → Rel1 ρ c (ρc.oq i)) (hokv : ∀ sv, r.v = some sv → okV N.st sv = true)
    (hown : ∀ t b, getA H t = some b → b.isOwn = true → ∀ t', getA N.σ t = some (some t') → ∃ b0, getA s.heap t' = some b0 ∧ b0.isOwn = true)
    (hsep : ∀ t t' b, getA H t = some b → b.isOwn = true → ∀ x, getA N.σ t = some (some x) → getA N.σ t' = some (some x) → t = t') :
    Does P f vs.toArray w fun v w' => ∃ ρ', Eff ρ ρ' s.heap s.next (renD N r.d) (s.next + (r.next - N.n)) w w' ∧ ∀ sv, r.v = some sv → RelV ρ' (renV N sv) v := by
  intro o a next Q hK
  refine hF _ w vs hG hA hp o a next Q fun v w' ⟨ρ1, he, hv⟩ => ?_
  have key : Eff ρ (rout N.n N.next r.next ρ ρ1) s.heap s.next (renD N r.d) (s.next + (r.next - N.n)) w w' ∧ Turn N ρ1 (rout N.n N.next r.next ρ ρ1) := by
    have hrange : ∀ u, s.next ≤ u ∧ u < s.next + (r.next - N.n) → ¬ F u := fun u hu => h.free u hu.1 (by have := he.top; omega)
    have hrin : ∀ t pl, ρc t = some pl → t < N.n ∧ ∃ t', getA N.σ t = some (some t') ∧ ρ t' = some pl := by
      intro t pl ht
      rw [hpl] at ht
      split at ht
      · rename_i hlt
        split at ht
        · rename_i t' hs; exact ⟨hlt, t', hs, ht⟩
        · cases ht
      · cases ht
    have houtF : ∀ u, F u → rout N.n N.next r.next ρ ρ1 u = ρ u := fun u hu => by simp only [rout]; rw [if_neg (fun hr => hrange u (hnx ▸ hr) hu)]
    have hext : Ext ρ (rout N.n N.next r.next ρ ρ1) := ⟨fun u pl hu => by rw [houtF u (h.dom u pl hu).1]; exact hu, rfl, rfl⟩
    have hturn : Turn N ρ1 (rout N.n N.next r.next ρ ρ1) := by
      refine ⟨fun t pl ht => ?_, fun hs => ?_, fun i c hi => ?_⟩
      · rcases he.new t pl ht with h1 | ⟨h1, h2, _⟩
        · obtain ⟨hlt, t', e1, e2⟩ := hrin t pl h1
          rw [th_old hlt e1, houtF _ (h.dom t' pl e2).1]; exact e2
        · rw [th_new h1]
          simp only [rout]
          rw [if_pos ⟨by omega, by omega⟩, show N.next + (t - N.n) - N.next + N.n = t by omega]
          exact ht
      · show ρ.im = ρ1.im
        rw [he.ext.im, him hs]
      · rw [he.ext.oq]; exact (hops i c hi).ext hext
    -- of an entry of the new list: an old own block of the caller's, or a new one
    have hent : ∀ u b', getA (renD N r.d) u = some b' → ∃ t b, getA r.d t = some b ∧ th N.σ N.n N.next t = u ∧ b' = renB N b ∧
        ((N.n ≤ t ∧ t < r.next ∧ u = s.next + (t - N.n)) ∨ (t < N.n ∧ getA N.σ t = some (some u) ∧ (∃ b1, getA H t = some b1 ∧ b1.isOwn = true) ∧ (∃ b0, getA s.heap u = some b0 ∧ b0.isOwn = true) ∧ F u)) := by
      intro u b' hb
      obtain ⟨t, b, g1, g2, g3, g4⟩ := renD_get hb
      refine ⟨t, b, g1, g2, g3, ?_⟩
      rcases he.old t b g1 with ⟨h1, h2⟩ | ⟨b1, h1, h2⟩
      · exact .inl ⟨h1, h2, by rw [← g2, th_new h1, hnx]⟩
      · have hlt := hG.tags t b1 h1
        obtain ⟨t', e⟩ := g4 hlt
        have : t' = u := by rw [← g2, th_old hlt e]
        subst this
        obtain ⟨b0, k1, k2⟩ := hown t b1 h1 h2 t' e
        exact .inr ⟨hlt, e, ⟨b1, h1, h2⟩, ⟨b0, k1, k2⟩, h.tags t' b0 k1⟩
    refine ⟨⟨hext, by omega, by have := he.top; omega, he.size, he.os, he.tape, he.output, ?_, ?_, ?_, ?_, ?_⟩, hturn⟩
    · intro u pl hu
      by_cases hr : s.next ≤ u ∧ u < s.next + (r.next - N.n)
      · simp only [rout] at hu
        rw [hnx, if_pos hr] at hu
        rcases he.new _ pl hu with h1 | ⟨h1, h2, h3, h4⟩
        · obtain ⟨hlt, _⟩ := hrin _ pl h1; omega
        · refine .inr ⟨hr.1, hr.2, h3, fun b' hb' hl => ?_⟩
          obtain ⟨t, b, g1, g2, g3, g4⟩ := hent u b' hb'
          rcases g4 with ⟨k1, k2, k3⟩ | ⟨_, _, _, _, k5⟩
          · have htu : u - s.next + N.n = t := by omega
            rw [htu] at h4
            rcases h4 b g1 (renB_live (g3 ▸ hl)) with h5 | ⟨t0, b0, pl0, q1, q2, q3, q4, q5⟩
            · exact .inl h5
            · obtain ⟨hlt, t', e1, e2⟩ := hrin t0 pl0 q4
              obtain ⟨c0, k4, k5⟩ := hown t0 b0 q2 q3 t' e1
              have hFt := h.tags t' c0 k4
              have hmem := renD_mem (N := N) q1 (.inr ⟨_, e1⟩)
              rw [th_old hlt e1] at hmem
              obtain ⟨bx, hbx⟩ := dist_get hmem
              obtain ⟨tx, bx0, y1, y2, y3, y4⟩ := hent t' bx hbx
              have htx : tx = t0 := by
                rcases y4 with ⟨z1, z2, z3⟩ | ⟨z1, z2, _⟩
                · exact absurd hFt (hrange t' ⟨by omega, by omega⟩)
                · exact (hsep t0 tx b0 q2 q3 _ e1 z2).symm
              subst htx
              rw [q1] at y1
              injection y1 with y1
              subst y1
              exact .inr ⟨t', c0, pl0, by rw [hbx, y3]; rfl, k4, k5, e2, q5⟩
          · exact absurd k5 (hrange u hr)
      · simp only [rout] at hu
        rw [hnx, if_neg hr] at hu
        exact .inl hu
    · intro u b' hb'
      obtain ⟨t, b, g1, g2, g3, _⟩ := hent u b' hb'
      rw [← g2, g3]
      exact renB_ok hturn (he.sat t b g1)
    · intro u b' hb'
      obtain ⟨t, b, g1, g2, g3, g4⟩ := hent u b' hb'
      rcases g4 with ⟨k1, k2, k3⟩ | ⟨_, _, _, k4, _⟩
      · exact .inl ⟨by omega, by omega⟩
      · exact .inr k4
    · intro i hi hne
      refine he.block i hi fun t b pl hb hpl' => ?_
      obtain ⟨hlt, t', e1, e2⟩ := hrin t pl hpl'
      have hmem := renD_mem (N := N) hb (.inr ⟨_, e1⟩)
      rw [th_old hlt e1] at hmem
      obtain ⟨bx, hbx⟩ := dist_get hmem
      exact hne t' bx pl hbx e2
    · intro u u' b b' hne hu1 hu2 hu1' hu2' hb hb' ho hl pl pl' hp1 hp1'
      obtain ⟨t, c, g1, g2, g3, g4⟩ := hent u b hb
      obtain ⟨t', c', g1', g2', g3', g4'⟩ := hent u' b' hb'
      rcases g4 with ⟨k1, k2, k3⟩ | ⟨_, _, _, _, k5⟩
      · rcases g4' with ⟨k1', k2', k3'⟩ | ⟨_, _, _, _, k5'⟩
        · simp only [rout] at hp1 hp1'
          rw [hnx, if_pos ⟨hu1, hu2⟩, show u - s.next + N.n = t by omega] at hp1
          rw [hnx, if_pos ⟨hu1', hu2'⟩, show u' - s.next + N.n = t' by omega] at hp1'
          exact he.inj t t' c c' (by omega) k1 k2 k1' k2' g1 g1' (renB_own (g3 ▸ ho)) (renB_live (g3' ▸ hl)) pl pl' hp1 hp1'
        · exact absurd k5' (hrange u' ⟨hu1', hu2'⟩)
      · exact absurd k5 (hrange u ⟨hu1, hu2⟩)
  refine hK v w' ⟨_, key.1, fun sv hsv => ?_⟩
  exact renV_ok key.2 (hokv sv hsv) (hv sv hsv)
end
end Go.Sx
