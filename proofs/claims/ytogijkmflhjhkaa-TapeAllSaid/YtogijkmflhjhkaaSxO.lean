/- The symbolic evaluator: one state is taken for another one, with other tags. Definitions and plain lemmas, no condition. -/
import Derived.Test.YtogijkmflhjhkaaSxN
namespace Go.Sx
open Go.RowKit
set_option linter.unusedSimpArgs false

set_option linter.unusedVariables false

def tau (l : List (Nat × Nat)) (u : Nat) : Nat := match getA l u with | some v => v | none => u

/-- Is the tag t turned into t', and below m? -/
def tauB (m : Nat) (l : List (Nat × Nat)) (t t' : Nat) : Bool := Nat.beq (tau l t) t' && Nat.ble (t + 1) m
/-- Two slices of own blocks. -/
def slC (ex ex' : Bool) (n a a' : Nat) : Cd :=
  match ex with
  | false => .p (0 < n → a = a')
  | true => match ex' with
    | true => .p (a = a')
    | false => .p (a = a' ∧ 0 < n)
def slT (ex : Bool) (n : Nat) (b : Bool) : Cd :=
  match b with
  | true => .tt
  | false => match ex with
    | false => .p (n = 0)
    | true => .ff
def zC (z z' : Bool) : Cd :=
  match z with
  | false => .tt
  | true => match z' with
    | true => .tt
    | false => .ff
/-- The first value says no more than the second one; its tags are turned by l; m: its tags lie below. -/
def mSC (m : Nat) (l : List (Nat × Nat)) : SC → SC → Cd
  | .any, _ => .tt
  | .int k n, .int k' n' => match kEq k k' with | true => .p (n = n') | false => .ff
  | .bool b, .bool b' => .p (b = b')
  | .str s, .str s' => .p (s = s')
  | .nilp, .nilp => .tt
  | .ptr t o i, .ptr t' o' i' => match tauB m l t t' with | true => .p (o + i = o' + i') | false => .ff
  | .sl nl ex z t o i n c, .sl nl' ex' z' t' o' i' n' c' => .and (.p (nl = nl')) (.and (.p (n = n')) (.and (.p (nl = true → c = 0)) (.and (.imp (!nl) (.p (n ≤ c ∧ c ≤ c'))) (.and (.imp (!nl) (zC z z')) (.and (.imp (!nl) (slT ex n (tauB m l t t'))) (.imp (!nl) (slC ex ex' n (o + i) (o' + i'))))))))
  | .im nl k f n, .im nl' k' f' n' => match kEq k k' with | true => .and (.p (nl = nl')) (.and (.p (n = n')) (.p (∀ j, j < n → f j = f' j))) | false => .ff
  | .rows nl k g n, .rows nl' k' g' n' => match kEq k k' with | true => .and (.p (nl = nl')) (.and (.p (n = n')) (.p (∀ j, j < n → g j = g' j))) | false => .ff
  | .adr c, .adr c' => mSC m l c c'
  | .opq i, .opq i' => match Nat.beq i i' with | true => .tt | false => .ff
  | .fn f t, .fn f' t' => match Nat.beq f f' && tauB m l t t' with | true => .tt | false => .ff
  | _, _ => .ff
/-- Stretches as slices that nobody writes. -/
def toRows : List Seg → Option (IntKind × (Nat → Row) × Nat)
  | [] => none
  | .one (.im nl k f n) :: r => match r with
    | [] => some (k, (fun _ => ⟨nl, f, n⟩), 1)
    | r => match toRows r with
      | some (k', g, m) => (match kEq k k' with | true => some (k, putR (fun _ => ⟨nl, f, n⟩) 1 g, 1 + m) | false => none)
      | none => none
  | .rows k g n :: r => match r with
    | [] => some (k, g, n)
    | r => match toRows r with
      | some (k', g', m) => (match kEq k k' with | true => some (k, putR g n g', n + m) | false => none)
      | none => none
  | _ => none
def lenC (more : Bool) (n n' : Nat) : Cd := match more with | true => .p (n ≤ n') | false => .p (n = n')
/-- .. of stretches; more: the second list may be longer. -/
def mSeg (m : Nat) (l : List (Nat × Nat)) (more : Bool) : List Seg → List Seg → Cd
  | [], [] => .tt
  | [], _ :: _ => match more with | true => .tt | false => .ff
  | .one c :: r, .one c' :: r' => .and (mSC m l c c') (mSeg m l more r r')
  | .ints k f n :: r, .ints k' f' n' :: r' =>
    match kEq k k' with
    | true => .and (.p (∀ j, j < n → f j = f' j)) (match r with
      | [] => (match r' with
        | [] => lenC more n n'
        | _ :: _ => match more with | true => .p (n ≤ n') | false => .ff)
      | _ :: _ => .and (.p (n = n')) (mSeg m l more r r'))
    | false => .ff
  | [.rows _ _ n], [] => .p (n = 0)
  | [.rows k g n], b :: r' => match toRows (b :: r') with
    | some (k', g', n') => (match kEq k k' with | true => .and (.p (∀ j, j < n → g j = g' j)) (lenC more n n') | false => .ff)
    | none => .ff
  | _, _ => .ff
def mSA (m : Nat) (l : List (Nat × Nat)) : SA → SA → Cd
  | .sc c, .sc c' => mSC m l c c'
  | .agg r, .agg r' => mSeg m l false r r'
  | _, _ => .ff
def mTup (m : Nat) (l : List (Nat × Nat)) : List SA → List SA → Cd
  | [], [] => .tt
  | a :: r, a' :: r' => .and (mSA m l a a') (mTup m l r r')
  | _, _ => .ff
def mSV (m : Nat) (l : List (Nat × Nat)) : SV → SV → Cd
  | .sa a, .sa a' => mSA m l a a'
  | .tup r, .tup r' => mTup m l r r'
  | .sa a, .gd g a' => .and (.p (g = true)) (mSA m l a a')
  | .gd g a, .gd g' a' => .and (.p (g = g')) (mSA m l a a')
  | _, _ => .ff
def strip : SB → Cd × SB
  | .gd g b => (.and (.p (g = true)) (strip b).1, (strip b).2)
  | b => (.tt, b)
def mB1 (m : Nat) (l : List (Nat × Nat)) : SB → SB → Cd
  | .own ty r more, .own ty' r' more' => match Nat.beq ty ty' with | true => .and (mSeg m l more r r') (match more with | true => .tt | false => match more' with | true => .ff | false => .tt) | false => .ff
  | .ro k f n, .ro k' f' n' => match kEq k k' with | true => .p (n ≤ n' ∧ ∀ j, j < n → f j = f' j) | false => .ff
  | .ro k f n, .own _ (.ints k' f' n' :: _) _ => match kEq k k' with | true => .p (n ≤ n' ∧ ∀ j, j < n → f j = f' j) | false => .ff
  | .dead, _ => .tt
  | _, _ => .ff
def kindOk (b b' : SB) : Bool := (!b.isOwn || b'.isOwn) && (!b.live || b'.live)
def mSB (m : Nat) (l : List (Nat × Nat)) (b b' : SB) : Cd :=
  match kindOk b b' with
  | false => .ff
  | true =>
    match b with
    | .gd g b1 => .imp g (.and (strip b').1 (mB1 m l b1 (strip b').2))
    | .dead => .tt
    | b => .and (strip b').1 (mB1 m l b (strip b').2)
def mF (m : Nat) (l : List (Nat × Nat)) (s : St) : List (Nat × SV) → Cd
  | [] => .tt
  | (i, v) :: r => .and (match getA s.frame i with | some v' => mSV m l v v' | none => .ff) (mF m l s r)
def mH (m : Nat) (l : List (Nat × Nat)) (s : St) : List (Nat × SB) → Cd
  | [] => .tt
  | (u, b) :: r => .and (match Nat.ble (u + 1) m with
    | false => .ff
    | true => match getA s.heap (tau l u) with
      | some b' => mSB m l b b'
      | none => match b, Nat.ble s.next (tau l u) with | .gd g _, true => .p (g = false) | .dead, true => .tt | _, _ => .ff) (mH m l s r)
def dist : List Nat → Bool
  | [] => true
  | u :: r => !(mem r u) && dist r
def images {α : Type} (l : List (Nat × Nat)) : List (Nat × α) → List Nat
  | [] => []
  | (u, _) :: r => tau l u :: images l r

/-- The places, by the other tags. -/
def rho (m : Nat) (l : List (Nat × Nat)) (ρ : Rho) : Rho := { ρ with pl := fun t => if t < m then ρ (tau l t) else none }
theorem rho_at {m : Nat} {l : List (Nat × Nat)} {ρ : Rho} {t : Nat} {pl : Pl} (h : t < m) (e : ρ (tau l t) = some pl) : rho m l ρ t = some pl := by simp only [rho]; rw [if_pos h]; exact e

section
variable {m : Nat} {l : List (Nat × Nat)} {ρ : Rho} {w : World}
theorem tauB_ok {t t' : Nat} (h : tauB m l t t' = true) : tau l t = t' ∧ t < m := by
  unfold tauB at h
  simp only [Bool.and_eq_true, Nat.beq_eq] at h
  exact ⟨h.1, Nat.le_of_ble_eq_true h.2⟩
theorem relRow_im {k : IntKind} {r : Row} {v : Value} {ρ' : Rho} (h : ρ'.im = ρ.im) (hr : RelRow ρ k r v) : RelRow ρ' k r v := by
  unfold RelRow at hr ⊢; rw [h]; exact hr
theorem relRow_congr {k : IntKind} {nl : Bool} {f f' : Nat → Int} {n : Nat} {v : Value} (h : ∀ j, j < n → f j = f' j) (hr : RelRow ρ k ⟨nl, f', n⟩ v) : RelRow ρ k ⟨nl, f, n⟩ v := by
  rcases hr with hr | ⟨h1, A, cap, h2, h3, h4, h5⟩
  · exact .inl hr
  · exact .inr ⟨h1, A, cap, h2, h3, h4, fun j hj => by simp only at hj ⊢; rw [h j hj]; exact h5 j hj⟩
theorem mSC_ok : ∀ {c c' : SC} {v : Value}, (mSC m l c c').holds → Rel1 ρ c' v → Rel1 (rho m l ρ) c v := by
  intro c
  induction c with
  | any => intro c' v h r; exact rel1_one r
  | adr c ih =>
    intro c' v h r
    cases c' <;> simp only [mSC] at h <;> try (exact h.elim)
    obtain ⟨A, u, e1, e2, e3⟩ := r
    exact ⟨A, u, e1, e2, ih h e3⟩
  | int k n =>
    intro c' v h r
    cases c' <;> simp only [mSC] at h <;> try (exact h.elim)
    split at h
    · rename_i hk; obtain rfl := kEq_spec hk; cases h; exact r
    · exact h.elim
  | bool b =>
    intro c' v h r
    cases c' <;> simp only [mSC] at h <;> try (exact h.elim)
    cases h; exact r
  | str b =>
    intro c' v h r
    cases c' <;> simp only [mSC] at h <;> try (exact h.elim)
    cases h; exact r
  | nilp =>
    intro c' v h r
    cases c' <;> simp only [mSC] at h <;> try (exact h.elim)
    exact r
  | ptr t o i =>
    intro c' v h r
    cases c' <;> simp only [mSC] at h <;> try (exact h.elim)
    split at h
    · rename_i ht
      obtain ⟨rfl, h1⟩ := tauB_ok ht
      obtain ⟨pl, e1, e2⟩ := r
      have h : o + i = _ := h
      exact ⟨pl, rho_at h1 e1, by rw [e2, h]⟩
    · exact h.elim
  | sl nl ex z t o i n c =>
    intro c' v h r
    cases c' <;> simp only [mSC] at h <;> try (exact h.elim)
    rename_i nl' ex' z' t' o' i' n' c'
    obtain ⟨h1, h2, h3, h4, h5, h6, h7⟩ := h
    have h1 : nl = nl' := h1
    have h2 : n = n' := h2
    subst h1; subst h2
    rcases r with ⟨e1, e2, e3, e4⟩ | ⟨e1, A, cap, e2, e3, e4, e5, e6, e7⟩
    · exact .inl ⟨e1, e2, e3, h3 e1⟩
    · subst e1
      obtain ⟨g1, g2⟩ : n ≤ c ∧ c ≤ c' := h4 rfl
      have h5 := h5 rfl
      have h6 := h6 rfl
      have h7 := h7 rfl
      refine .inr ⟨rfl, A, cap, e2, g1, by omega, e5, fun hc => ?_, fun hz hn => ?_⟩
      · have htau : tau l t = t' ∧ t < m := by
          unfold slT at h6
          split at h6
          · rename_i ht; exact tauB_ok ht
          · split at h6
            · have h6 : n = 0 := h6
              rcases hc with hc | hc
              · omega
              · cases hc
            · exact h6.elim
        have hex : o + i = o' + i' ∧ (0 < n ∨ ex' = true) := by
          unfold slC at h7
          split at h7
          · have h7 : 0 < n → o + i = o' + i' := h7
            rcases hc with hc | hc
            · exact ⟨h7 hc, .inl hc⟩
            · cases hc
          · split at h7
            · exact ⟨h7, .inr rfl⟩
            · exact ⟨h7.1, .inl h7.2⟩
        obtain ⟨rfl, k1⟩ := htau
        obtain ⟨k2, k3⟩ := hex
        obtain ⟨pl, q1, q2, q3⟩ := e6 k3
        exact ⟨pl, rho_at k1 q1, by rw [q2, k2], by rw [k2]; exact q3⟩
      · subst hz
        unfold zC at h5
        simp only at h5
        split at h5
        · exact e7 rfl hn
        · exact h5.elim
  | im nl k f n =>
    intro c' v h r
    cases c' <;> simp only [mSC] at h <;> try (exact h.elim)
    split at h
    · rename_i hk
      obtain rfl := kEq_spec hk
      obtain ⟨h1, h2, h3⟩ := h
      cases h1; cases h2
      exact relRow_congr h3 (relRow_im (ρ := ρ) rfl r)
    · exact h.elim
  | rows nl k g n =>
    intro c' v h r
    cases c' <;> simp only [mSC] at h <;> try (exact h.elim)
    split at h
    · rename_i hk
      obtain rfl := kEq_spec hk
      obtain ⟨h1, h2, h3⟩ := h
      cases h1; cases h2
      rcases r with r | ⟨e1, A, cap, e2, e3, e4, e5⟩
      · exact .inl r
      · refine .inr ⟨e1, A, cap, e2, e3, e4, fun j hj => ?_⟩
        obtain ⟨u, q1, q2⟩ := e5 j hj
        have h3 : ∀ j, j < n → g j = _ := h3
        exact ⟨u, q1, by rw [h3 j hj]; exact relRow_im (ρ := ρ) rfl q2⟩
    · exact h.elim
  | opq i =>
    intro c' v h r
    cases c' <;> simp only [mSC] at h <;> try (exact h.elim)
    split at h
    · rename_i hi; rw [Nat.beq_eq] at hi; subst hi; exact r
    · exact h.elim
  | fn f t =>
    intro c' v h r
    cases c' <;> simp only [mSC] at h <;> try (exact h.elim)
    split at h
    · rename_i hi
      simp only [Bool.and_eq_true, Nat.beq_eq] at hi
      obtain ⟨rfl, hi⟩ := hi
      obtain ⟨rfl, h1⟩ := tauB_ok hi
      obtain ⟨pl, e1, e2⟩ := r
      exact ⟨pl, rho_at h1 e1, e2⟩
    · exact h.elim
theorem intsV_congr {k : IntKind} {f g : Nat → Int} {n : Nat} (h : ∀ j, j < n → f j = g j) : intsV k f n = intsV k g n := by
  unfold intsV
  exact List.map_congr_left fun j hj => by rw [h j (by simpa using hj)]
theorem toRows_ok : ∀ {r : List Seg} {k : IntKind} {g : Nat → Row} {n : Nat} {vs : List Value}, toRows r = some (k, g, n) → RelS ρ r vs → vs.length = n ∧ ∀ j u, vs[j]? = some u → RelRow ρ k (g j) u
  | [], _, _, _, _, h, _ => by cases h
  | [.one (.im nl k0 f0 n0)], k, g, n, vs, h, hr => by
    obtain ⟨v, vs', rfl, h1, h2⟩ := hr
    simp only [toRows, Option.some.injEq, Prod.mk.injEq] at h
    obtain ⟨rfl, rfl, rfl⟩ := h
    simp only [RelS] at h2
    subst h2
    refine ⟨rfl, fun j u hj => ?_⟩
    cases j with
    | zero => simp at hj; subst hj; exact h1
    | succ j => simp at hj
  | .one (.im nl k0 f0 n0) :: b :: r, k, g, n, vs, h, hr => by
    obtain ⟨v, vs', rfl, h1, h2⟩ := hr
    rw [toRows] at h
    split at h
    · rename_i k' g' m' he
      split at h
      · rename_i hk
        obtain rfl := kEq_spec hk
        simp only [Option.some.injEq, Prod.mk.injEq] at h
        obtain ⟨rfl, rfl, rfl⟩ := h
        obtain ⟨q1, q2⟩ := toRows_ok he h2
        refine ⟨by simp [q1]; omega, fun j u hj => ?_⟩
        cases j with
        | zero => simp at hj; subst hj; exact h1
        | succ j =>
          simp at hj
          have := q2 j u hj
          unfold putR
          rw [if_neg (by omega)]
          exact this
      · cases h
    · cases h
    · simp
  | [.rows k0 g0 n0], k, g, n, vs, h, hr => by
    obtain ⟨us, vs', rfl, h0, h1, h2⟩ := hr
    simp only [toRows, Option.some.injEq, Prod.mk.injEq] at h
    obtain ⟨rfl, rfl, rfl⟩ := h
    simp only [RelS] at h2
    subst h2
    simpa using ⟨h0, h1⟩
  | .rows k0 g0 n0 :: b :: r, k, g, n, vs, h, hr => by
    obtain ⟨us, vs', rfl, h0, h1, h2⟩ := hr
    rw [toRows] at h
    split at h
    · rename_i k' g' m' he
      split at h
      · rename_i hk
        obtain rfl := kEq_spec hk
        simp only [Option.some.injEq, Prod.mk.injEq] at h
        obtain ⟨rfl, rfl, rfl⟩ := h
        obtain ⟨q1, q2⟩ := toRows_ok he h2
        refine ⟨by simp [q1, h0], fun j u hj => ?_⟩
        unfold putR
        by_cases hjn : j < n0
        · rw [if_pos hjn]
          rw [List.getElem?_append_left (by omega)] at hj
          exact h1 j u hj
        · rw [if_neg hjn]
          rw [List.getElem?_append_right (by omega), h0] at hj
          exact q2 _ u hj
      · cases h
    · cases h
    · simp
  | .ints _ _ _ :: _, _, _, _, _, h, _ => by cases h
  | .one .any :: _, _, _, _, _, h, _ => by cases h
  | .one (.int _ _) :: _, _, _, _, _, h, _ => by cases h
  | .one (.bool _) :: _, _, _, _, _, h, _ => by cases h
  | .one (.str _) :: _, _, _, _, _, h, _ => by cases h
  | .one .nilp :: _, _, _, _, _, h, _ => by cases h
  | .one (.ptr _ _ _) :: _, _, _, _, _, h, _ => by cases h
  | .one (.sl _ _ _ _ _ _ _ _) :: _, _, _, _, _, h, _ => by cases h
  | .one (.rows _ _ _ _) :: _, _, _, _, _, h, _ => by cases h
  | .one (.adr _) :: _, _, _, _, _, h, _ => by cases h
  | .one (.opq _) :: _, _, _, _, _, h, _ => by cases h
  | .one (.fn _ _) :: _, _, _, _, _, h, _ => by cases h
theorem lenC_le {more : Bool} {n n' : Nat} (h : (lenC more n n').holds) : n ≤ n' ∧ (more = false → n = n') := by
  unfold lenC at h
  split at h
  · exact ⟨h, fun h => by cases h⟩
  · have h : n = n' := h
    exact ⟨by omega, fun _ => h⟩
theorem mSeg_ok {more : Bool} : ∀ {r r' : List Seg} {vs : List Value}, (mSeg m l more r r').holds → RelS ρ r' vs → ∃ a b, vs = a ++ b ∧ RelS (rho m l ρ) r a ∧ (more = false → b = [])
  | [], [], vs, h, hr => by simp only [RelS] at hr; subst hr; exact ⟨[], [], rfl, rfl, fun _ => rfl⟩
  | [], _ :: _, vs, h, hr => ⟨[], vs, rfl, rfl, fun hm => by subst hm; simp only [mSeg] at h; exact h.elim⟩
  | .one c :: r, .one c' :: r', vs, h, hr => by
    obtain ⟨h1, h2⟩ := h
    obtain ⟨v, vs', rfl, g1, g2⟩ := hr
    obtain ⟨a, b, rfl, k1, k2⟩ := mSeg_ok h2 g2
    exact ⟨v :: a, b, rfl, ⟨v, a, rfl, mSC_ok h1 g1, k1⟩, k2⟩
  | .ints k f n :: [], .ints k' f' n' :: r', vs, h, hr => by
    simp only [mSeg] at h
    split at h
    · rename_i hk
      obtain rfl := kEq_spec hk
      obtain ⟨h1, h2⟩ := h
      obtain ⟨vs', rfl, g2⟩ := hr
      have hle : n ≤ n' ∧ (more = false → n = n' ∧ r' = []) := by
        cases r' with
        | nil => obtain ⟨q1, q2⟩ := lenC_le h2; exact ⟨q1, fun hm => ⟨q2 hm, rfl⟩⟩
        | cons x r' => cases more with
          | true => exact ⟨h2, fun h => by cases h⟩
          | false => exact h2.elim
      obtain ⟨h2, h3⟩ := hle
      refine ⟨intsV k f n, (intsV k f' n').drop n ++ vs', ?_, ⟨[], by simp, rfl⟩, fun hm => ?_⟩
      · rw [intsV_congr h1, ← intsV_take k f' n n' h2, ← List.append_assoc, List.take_append_drop]
      · obtain ⟨e1, e2⟩ := h3 hm
        subst e1; subst e2
        simp only [RelS] at g2
        subst g2
        rw [List.drop_eq_nil_of_le (by rw [intsV_length]; omega)]; rfl
    · exact h.elim
  | .ints k f n :: (x :: r), .ints k' f' n' :: r', vs, h, hr => by
    simp only [mSeg] at h
    split at h
    · rename_i hk
      obtain rfl := kEq_spec hk
      obtain ⟨h1, h2, h3⟩ := h
      have h2 : n = n' := h2
      subst h2
      obtain ⟨vs', rfl, g2⟩ := hr
      obtain ⟨a, b, rfl, k1, k2⟩ := mSeg_ok h3 g2
      exact ⟨intsV k f' n ++ a, b, by simp, ⟨a, by rw [intsV_congr h1], k1⟩, k2⟩
    · exact h.elim
  | [.rows k g n], [], vs, h, hr => by
    simp only [RelS] at hr
    subst hr
    have h : n = 0 := h
    subst h
    exact ⟨[], [], rfl, ⟨[], [], rfl, rfl, fun j u hj => by simp at hj, rfl⟩, fun _ => rfl⟩
  | [.rows k g n], b :: r', vs, h, hr => by
    simp only [mSeg] at h
    split at h
    · rename_i k' g' n' ht
      split at h
      · rename_i hk
        obtain rfl := kEq_spec hk
        obtain ⟨h1, h2⟩ := h
        have h1 : ∀ j, j < n → g j = g' j := h1
        obtain ⟨h2, h3⟩ := lenC_le h2
        obtain ⟨q1, q2⟩ := toRows_ok ht hr
        refine ⟨vs.take n, vs.drop n, (List.take_append_drop _ _).symm, ⟨vs.take n, [], by simp, by simp; omega, fun j u hj => ?_, rfl⟩, fun hm => ?_⟩
        · have hjn : j < n := by have := (List.getElem?_eq_some_iff.1 hj).1; simp at this; omega
          rw [h1 j hjn]
          rw [List.getElem?_take_of_lt hjn] at hj
          exact relRow_im (ρ := ρ) rfl (q2 j u hj)
        · rw [List.drop_eq_nil_of_le (by have := h3 hm; omega)]
      · exact h.elim
    · exact h.elim
  | .one _ :: _, [], _, h, _ => h.elim
  | .one _ :: _, .ints _ _ _ :: _, _, h, _ => h.elim
  | .one _ :: _, .rows _ _ _ :: _, _, h, _ => h.elim
  | .ints _ _ _ :: _, [], _, h, _ => h.elim
  | .ints _ _ _ :: _, .one _ :: _, _, h, _ => h.elim
  | .ints _ _ _ :: _, .rows _ _ _ :: _, _, h, _ => h.elim
  | .rows _ _ _ :: _ :: _, _, _, h, _ => by simp only [mSeg] at h; exact h.elim
theorem mSA_ok {a a' : SA} {v : Value} (h : (mSA m l a a').holds) (r : RelA ρ a' v) : RelA (rho m l ρ) a v := by
  cases a <;> cases a' <;> simp only [mSA] at h <;> try (exact h.elim)
  · exact mSC_ok h r
  · obtain ⟨vs, rfl, hr⟩ := r
    obtain ⟨x, y, rfl, k1, k2⟩ := mSeg_ok h hr
    rw [k2 rfl, List.append_nil]
    exact ⟨x, rfl, k1⟩
theorem mTup_ok : ∀ {r r' : List SA} {vs : List Value}, (mTup m l r r').holds → RelL ρ r' vs → RelL (rho m l ρ) r vs
  | [], [], _, _, hr => hr
  | a :: r, a' :: r', _, h, ⟨v, vs, e, h1, h2⟩ => ⟨v, vs, e, mSA_ok h.1 h1, mTup_ok h.2 h2⟩
  | [], _ :: _, _, h, _ => h.elim
  | _ :: _, [], _, h, _ => h.elim
theorem mSV_ok {a a' : SV} {v : Value} (h : (mSV m l a a').holds) (r : RelV ρ a' v) : RelV (rho m l ρ) a v := by
  cases a <;> cases a' <;> simp only [mSV] at h <;> try (exact h.elim)
  · exact mSA_ok h r
  · exact mSA_ok h.2 (r.1 h.1)
  · obtain ⟨vs, e, hr⟩ := r
    exact ⟨vs, e, mTup_ok h hr⟩
  · obtain ⟨h0, h⟩ := h
    cases h0
    exact ⟨fun g => mSA_ok h (r.1 g), r.2⟩
theorem strip_ok : ∀ {b : SB} {t : Nat}, (strip b).1.holds → Sat ρ w b t → Sat ρ w (strip b).2 t
  | .gd g b, t, h, hs => strip_ok (b := b) h.2 (hs h.1)
  | .own _ _ _, _, _, hs => hs
  | .ro _ _ _, _, _, hs => hs
  | .dead, _, _, hs => hs
theorem mB1_ok {b b' : SB} {u : Nat} (hu : u < m) (h : (mB1 m l b b').holds) (hs : Sat ρ w b' (tau l u)) : Sat (rho m l ρ) w b u := by
  cases b
  case dead => trivial
  case own ty r more =>
    cases b' <;> simp only [mB1] at h <;> try (exact h.elim)
    split at h
    · rename_i hty
      rw [Nat.beq_eq] at hty
      subst hty
      obtain ⟨h1, h2⟩ := h
      obtain ⟨pl, vs, post, g1, g2, g3, g4, g5, g6⟩ := hs
      obtain ⟨x, y, rfl, k1, k2⟩ := mSeg_ok h1 g5
      refine ⟨pl, x, y ++ post, rho_at hu g1, g2, by rw [← List.append_assoc]; exact g3, by rw [← List.append_assoc]; exact g4, k1, fun hm => ?_⟩
      subst hm
      simp only at h2
      split at h2
      · exact h2.elim
      · rename_i hm'; rw [k2 rfl, g6 rfl]; rfl
    · exact h.elim
  case ro k f n =>
    cases b'
    case ro k' f' n' =>
      simp only [mB1] at h
      split at h
      · rename_i hk
        obtain rfl := kEq_spec hk
        obtain ⟨h1, h2⟩ := h
        obtain ⟨pl, g1, g2⟩ := hs
        exact ⟨pl, rho_at hu g1, fun j hj => by rw [h2 j hj]; exact g2 j (by omega)⟩
      · exact h.elim
    case own ty r' more' =>
      cases r' with
      | nil => exact h.elim
      | cons x r' =>
        cases x with
        | one c => exact h.elim
        | rows _ _ _ => exact h.elim
        | ints k' f' n' =>
          simp only [mB1] at h
          split at h
          · rename_i hk
            obtain rfl := kEq_spec hk
            obtain ⟨h1, h2⟩ := h
            obtain ⟨pl, _, _, g1, _⟩ := id hs
            refine ⟨pl, rho_at hu g1, fun j hj => ?_⟩
            obtain ⟨pl', q1, q2⟩ := cell_ints (o := 0) (i := j) hs rfl (by omega)
            rw [g1] at q1; injection q1 with q1; subst q1
            rw [h2 j hj, ← q2, Nat.zero_add]
          · exact h.elim
    all_goals exact h.elim
  case gd => cases b' <;> exact h.elim
theorem mSB_kind {b b' : SB} (h : (mSB m l b b').holds) : kindOk b b' = true := by
  unfold mSB at h
  split at h
  · exact h.elim
  · assumption
theorem mSB_ok {b b' : SB} {u : Nat} (hu : u < m) (h : (mSB m l b b').holds) (hs : Sat ρ w b' (tau l u)) : Sat (rho m l ρ) w b u := by
  unfold mSB at h
  split at h
  · exact h.elim
  · cases b
    case gd g b1 => exact fun hg => mB1_ok hu (h hg).2 (strip_ok (h hg).1 hs)
    case dead => trivial
    all_goals exact mB1_ok hu h.2 (strip_ok h.1 hs)

theorem mF_get {s : St} : ∀ {r : List (Nat × SV)}, (mF m l s r).holds → ∀ i v, getA r i = some v → ∃ v', getA s.frame i = some v' ∧ (mSV m l v v').holds
  | (j, u) :: r, h, i, v, e => by
    rw [getA_cons] at e
    split at e
    · rename_i hj
      subst hj
      injection e with e
      subst e
      have h1 := h.1
      split at h1
      · rename_i v' hv; exact ⟨v', hv, h1⟩
      · exact h1.elim
    · exact mF_get h.2 i v e
theorem mH_get {s : St} : ∀ {r : List (Nat × SB)}, (mH m l s r).holds → ∀ u b, getA r u = some b → u < m ∧ ((∃ b', getA s.heap (tau l u) = some b' ∧ (mSB m l b b').holds) ∨ (s.next ≤ tau l u ∧ ((∃ b', b = .gd false b') ∨ b = .dead)))
  | (j, c) :: r, h, u, b, e => by
    rw [getA_cons] at e
    split at e
    · rename_i hj
      subst hj
      injection e with e
      subst e
      have h1 := h.1
      split at h1
      · exact h1.elim
      · rename_i hlt
        refine ⟨Nat.le_of_ble_eq_true hlt, ?_⟩
        split at h1
        · rename_i b' hb; exact .inl ⟨b', hb, h1⟩
        · split at h1
          · rename_i g bb hle; cases h1; exact .inr ⟨Nat.le_of_ble_eq_true hle, .inl ⟨_, rfl⟩⟩
          · rename_i hle; exact .inr ⟨Nat.le_of_ble_eq_true hle, .inr rfl⟩
          · exact h1.elim
    · exact mH_get h.2 u b e
theorem images_mem {α : Type} : ∀ {r : List (Nat × α)} {u : Nat} {b : α}, getA r u = some b → tau l u ∈ images l r
  | (j, c) :: r, u, b, e => by
    rw [getA_cons] at e
    split at e
    · rename_i hj; subst hj; simp [images]
    · simp only [images, List.mem_cons]; exact .inr (images_mem e)
theorem dist_ok {α : Type} : ∀ {r : List (Nat × α)}, dist (images l r) = true → ∀ u u' b b', u ≠ u' → getA r u = some b → getA r u' = some b' → tau l u ≠ tau l u'
  | (j, c) :: r, h, u, u', b, b', hne, e, e' => by
    simp only [images, dist, Bool.and_eq_true, Bool.not_eq_true'] at h
    rw [getA_cons] at e e'
    have hnot : ∀ {x : Nat} {y : α}, getA r x = some y → tau l j ≠ tau l x := by
      intro x y hx he
      have := images_mem (l := l) hx
      rw [← he, ← mem_spec, h.1] at this
      cases this
    split at e
    · rename_i hj
      subst hj
      split at e'
      · rename_i hj'; exact absurd hj' hne
      · exact hnot e'
    · split at e'
      · rename_i hj'; subst hj'; exact Ne.symm (hnot e)
      · exact dist_ok h.2 u u' b b' hne e e'

/-- ONE STATE FOR ANOTHER. -/
theorem match_ok {n : Nat} {W : Env} {w0 : World} {s t : St} {a : Act} (h : R W w0 (top s.next) ρ s a w) (hW : W.lim = n) (hsize : t.size = s.size) (hn : n ≤ t.next) (hfix : ∀ u, u < n → tau l u = u)
    (hfr : (mF t.next l s t.frame).holds) (hhp : (mH t.next l s t.heap).holds) (hd : dist (images l t.heap) = true) : R W w0 (top t.next) (rho t.next l ρ) t a w := by
  have hnone : ∀ u, s.next ≤ tau l u → ρ (tau l u) = none := fun u hu => by
    cases hq : ρ (tau l u) with
    | none => rfl
    | some pl => have : tau l u < s.next := (h.dom _ pl hq).1; omega
  refine ⟨h.size.trans hsize.symm, h.defers, ?_, ?_, ?_, ?_, ?_, ?_, h.chg, fun x hx _ => free_top _ _ hx, ?_, h.imm, ?_, h.same⟩
  · intro i v hi
    obtain ⟨v', g1, g2⟩ := mF_get hfr i v hi
    exact mSV_ok g2 (h.frame i v' g1)
  · intro u b hb
    obtain ⟨g0, ⟨b', g1, g2⟩ | ⟨_, ⟨b', rfl⟩ | rfl⟩⟩ := mH_get hhp u b hb
    · exact mSB_ok g0 g2 (h.heap _ b' g1)
    · intro hc; cases hc
    · trivial
  · intro x pl hx
    simp only [rho] at hx
    split at hx
    · rename_i hlt; exact ⟨hlt, (h.dom _ pl hx).2⟩
    · cases hx
  · intro u u' b b' hne hb hb' ho hl pl pl' hp hp'
    simp only [rho] at hp hp'
    obtain ⟨g0, g1⟩ := mH_get hhp u b hb
    obtain ⟨g0', g1'⟩ := mH_get hhp u' b' hb'
    rw [if_pos g0] at hp
    rw [if_pos g0'] at hp'
    rcases g1 with ⟨c, g1, g2⟩ | ⟨g1, _⟩
    · rcases g1' with ⟨c', g1', g2'⟩ | ⟨g1', _⟩
      · have k1 := mSB_kind g2
        have k2 := mSB_kind g2'
        unfold kindOk at k1 k2
        rw [ho] at k1
        rw [hl] at k2
        simp only [Bool.not_true, Bool.false_or, Bool.and_eq_true] at k1 k2
        exact h.inj _ _ c c' (dist_ok hd u u' b b' hne hb hb') g1 g1' k1.1 k2.2 pl pl' hp hp'
      · rw [hnone _ g1'] at hp'; cases hp'
    · rw [hnone _ g1] at hp; cases hp
  · intro u b pl hb ho hp
    simp only [rho] at hp
    obtain ⟨g0, g1⟩ := mH_get hhp u b hb
    rw [if_pos g0] at hp
    rcases g1 with ⟨c, g1, g2⟩ | ⟨g1, _⟩
    · have k1 := mSB_kind g2
      unfold kindOk at k1
      rw [ho] at k1
      simp only [Bool.not_true, Bool.false_or, Bool.and_eq_true] at k1
      exact h.mine _ c pl g1 k1.1 hp
    · rw [hnone _ g1] at hp; cases hp
  · intro u b hb
    exact (mH_get hhp u b hb).1
  · intro u hu
    have hlt : u < t.next := by omega
    refine ⟨hlt, ?_⟩
    simp only [rho]
    rw [if_pos hlt, hfix u (by omega)]
    exact (h.base u hu).2
  · intro u b pl hb ho hp A hA
    simp only [rho] at hp
    obtain ⟨g0, g1⟩ := mH_get hhp u b hb
    rw [if_pos g0] at hp
    rcases g1 with ⟨c, g1, g2⟩ | ⟨g1, _⟩
    · have k1 := mSB_kind g2
      unfold kindOk at k1
      rw [ho] at k1
      simp only [Bool.not_true, Bool.false_or, Bool.and_eq_true] at k1
      exact h.isep _ c pl g1 k1.1 hp A hA
    · rw [hnone _ g1] at hp; cases hp
def fixes (n : Nat) : List (Nat × Nat) → Bool
  | [] => true
  | (t, _) :: r => Nat.ble n t && fixes n r
theorem fixes_ok {n : Nat} : ∀ {l : List (Nat × Nat)}, fixes n l = true → ∀ u, u < n → tau l u = u := by
  intro l h u hu
  have : getA l u = none := by
    induction l with
    | nil => rfl
    | cons x l ih =>
      obtain ⟨j, v⟩ := x
      simp only [fixes, Bool.and_eq_true] at h
      have := Nat.le_of_ble_eq_true h.1
      rw [getA_cons, if_neg (by omega)]
      exact ih h.2
  unfold tau
  rw [this]
/-- What must hold that s says what t says, its tags turned by l. -/
def leC (n : Nat) (l : List (Nat × Nat)) (s t : St) : Cd :=
  match Nat.beq t.size s.size && (Nat.ble n t.next && (fixes n l && dist (images l t.heap))) with
  | true => .and (mF t.next l s t.frame) (mH t.next l s t.heap)
  | false => .ff
theorem le_of {n : Nat} {s t : St} (l : List (Nat × Nat)) (h : (leC n l s t).then True) : Le n s t := by
  rw [Cd.then_iff] at h
  have h := h.1
  unfold leC at h
  split at h
  · rename_i hc
    simp only [Bool.and_eq_true, Nat.beq_eq] at hc
    exact fun W w0 ρ a w hW hR => ⟨_, match_ok hR hW hc.1 (Nat.le_of_ble_eq_true hc.2.1) (fixes_ok hc.2.2.1) h.1 h.2 hc.2.2.2⟩
  · exact h.elim
end
end Go.Sx
