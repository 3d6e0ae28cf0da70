/- The symbolic evaluator: a summary for a caller is what the function does. Plain lemmas, no condition. -/
import Derived.Test.YtogijkmflhjhkaaSxR
namespace Go.Sx
open Go.RowKit
set_option linter.unusedSimpArgs false

set_option linter.unusedVariables false
section
variable {P : Program} {W : Env} {w0 w : World} {F : Nat → Prop} {ρ ρc : Rho} {s : St} {a : Act} {st : Bool} {OW : List (Option Nat)}

theorem memO_iff : ∀ {l : List (Option Nat)} {t : Nat}, distO.memO l t = true ↔ some t ∈ l
  | [], t => by simp [distO.memO]
  | none :: r, t => by simp [distO.memO, memO_iff (l := r)]
  | some u :: r, t => by simp [distO.memO, memO_iff (l := r)]; constructor <;> (rintro (h | h); exact .inl h.symm; exact .inr h)
theorem distO_ok : ∀ {l : List (Option Nat)}, distO l = true → ∀ (i j t : Nat), l[i]? = some (some t) → l[j]? = some (some t) → i = j
  | [], _, i, _, _, h, _ => by simp at h
  | none :: r, hd, i, j, t, hi, hj => by
    simp only [distO] at hd
    cases i with
    | zero => simp at hi
    | succ i => cases j with
      | zero => simp at hj
      | succ j => simp at hi hj; rw [distO_ok hd i j t hi hj]
  | some u :: r, hd, i, j, t, hi, hj => by
    simp only [distO, Bool.and_eq_true, Bool.not_eq_true'] at hd
    have hn : ∀ k, r[k]? ≠ some (some u) := fun k hk => by
      have := memO_iff.2 (List.mem_of_getElem? hk)
      rw [hd.1] at this; cases this
    cases i with
    | zero => cases j with
      | zero => rfl
      | succ j => simp at hi hj; subst hi; exact absurd hj (hn j)
    | succ i => cases j with
      | zero => simp at hi hj; subst hj; exact absurd hi (hn i)
      | succ j => simp at hi hj; rw [distO_ok hd.2 i j t hi hj]
theorem apart_ok : ∀ {l : List Nat}, apart OW l = true → ∀ t ∈ l, some t ∉ OW
  | [], _, t, h => by cases h
  | u :: r, h, t, ht => by
    simp only [apart, Bool.and_eq_true, Bool.not_eq_true'] at h
    rcases List.mem_cons.1 ht with rfl | ht
    · intro hc; rw [memO_iff.2 hc] at h; exact absurd h.1 (by simp)
    · exact apart_ok h.2 t ht
theorem apart_append {l l' : List Nat} (h : apart OW (l ++ l') = true) : apart OW l = true ∧ apart OW l' = true := by
  induction l with
  | nil => exact ⟨rfl, h⟩
  | cons u r ih =>
    simp only [List.cons_append, apart, Bool.and_eq_true] at h ⊢
    exact ⟨⟨h.1, (ih h.2).1⟩, (ih h.2).2⟩
theorem sig_get : ∀ {l : List (Option Nat)} {i t : Nat}, getA (sigOf i l) t = if i ≤ t then l[t - i]? else none
  | [], i, t => by simp [sigOf, getA]
  | o :: r, i, t => by
    simp only [sigOf]
    rw [getA_cons, sig_get]
    by_cases h : i = t
    · subst h; simp
    · rw [if_neg h]
      by_cases h2 : i ≤ t
      · rw [if_pos h2, if_pos (by omega), show t - i = (t - (i + 1)) + 1 by omega]; simp
      · rw [if_neg h2, if_neg (by omega)]

/-- What the callee's places must be. -/
def plO (ρ : Rho) : Option Nat → Option Pl
  | some t => ρ t
  | none => none
def Cal (st : Bool) (ρ : Rho) (w : World) (OW : List (Option Nat)) (ρc : Rho) : Prop :=
  match st with
  | true => ρc.im = ρ.im
  | false => ∀ A v, w.cell? A = some v → (∀ t pl, some t ∈ OW → ρ t = some pl → pl.b ≠ A.block) → ρc.im A = some v
def OwnIn (s : St) (ow : List (Option Nat)) : Prop := ∀ t, some t ∈ ow → ∃ b0, getA s.heap t = some b0 ∧ b0.isOwn = true

theorem cal_row (h : R W w0 F ρ s a w) (hc : Cal st ρ w OW ρc) (hO : OwnIn s OW) {k : IntKind} {r : Row} {v : Value} (hr : RelRow ρ k r v) : RelRow ρc k r v := by
  cases st with
  | true => exact relRow_im hc hr
  | false =>
    rcases hr with hr | ⟨h1, A, cap, h2, h3, h4, h5⟩
    · exact .inl hr
    · refine .inr ⟨h1, A, cap, h2, h3, h4, fun j hj => hc _ _ (h.imm _ _ (h5 j hj)) fun t pl ht hpl he => ?_⟩
      obtain ⟨b0, g1, g2⟩ := hO t ht
      have := h.isep t b0 pl g1 g2 hpl _ he.symm
      rw [h5 j hj] at this; cases this

theorem add_block (A : Addr) (j : Nat) : (A.add j).block = A.block := by unfold Addr.add; split <;> rfl
theorem srcT_live {k : IntKind} {nl : Bool} {t o f n : Nat} {q : Cd} {g : Nat → Int} (e : s.srcT k nl t o f n = some (q, g)) (hnl : nl = false) : ∃ b, getA s.heap t = some b ∧ b.live = true := by
  have hl : ∀ q' b, s.hp t = some (q', b) → b.live = true → ∃ b, getA s.heap t = some b ∧ b.live = true := by
    intro q' b e hb
    unfold St.hp at e
    split at e
    · rename_i g g' b' hq; injection e with e; injection e with e1 e2; subst e2; exact ⟨_, hq, hb⟩
    · rename_i g b' _ hq; injection e with e; injection e with e1 e2; subst e2; exact ⟨_, hq, hb⟩
    · rename_i b' _ _ hq; injection e with e; injection e with e1 e2; subst e2; exact ⟨_, hq, hb⟩
    · cases e
  unfold St.srcT at e
  split at e
  · rename_i hq; exact hl _ _ hq rfl
  · rename_i hq; exact hl _ _ hq rfl
  · subst hnl; cases e

theorem impS_ok (h : R W w0 F ρ s a w) (hc : Cal st ρ w OW ρc) (hO : OwnIn s OW) {k : IntKind} {c : SC} {q : Cd} {nl : Bool} {f : Nat → Int} {n : Nat} {rd : List Nat} {v : Value} (e : impS s st k c = some (q, nl, f, n, rd)) (hq : q.holds) (hv : Rel1 ρ c v) (ha : apart OW rd = true) :
    RelRow ρc k ⟨nl, f, n⟩ v := by
  unfold impS at e
  split at e
  · split at e
    · rename_i hk
      obtain rfl := kEq_spec hk
      simp only [Option.some.injEq, Prod.mk.injEq] at e
      obtain ⟨rfl, rfl, rfl, rfl, rfl⟩ := e
      exact cal_row h hc hO hv
    · cases e
  · split at e
    · cases e
    · rename_i nl0 ex z t o i n0 c0 _
      split at e
      · rename_i q0 g0 hs
        simp only [Option.some.injEq, Prod.mk.injEq] at e
        obtain ⟨rfl, rfl, rfl, rfl, rfl⟩ := e
        rcases srcT_ok h hs hq hv with ⟨e1, e2⟩ | ⟨A, cap, e1, e2, e3⟩
        · subst e2
          rcases hv with ⟨v1, _⟩ | ⟨_, A, cap, v2, _⟩
          · exact .inl ⟨v1, e1, rfl⟩
          · rw [e1] at v2; cases v2
        · rcases hv with ⟨_, v2, _⟩ | ⟨v1, A', cap', v2, v3, v4, v5, v6, v7⟩
          · rw [e1] at v2; cases v2
          · rw [e1] at v2
            injection v2 with v2 _ v2'
            injection v2 with v2
            subst v2; subst v2'
            obtain ⟨b, hb1, hb2⟩ := srcT_live hs v1
            refine .inr ⟨v1, A, cap, e1, e2.1, e2.2, fun j hj => hc _ _ (e3 j hj) fun t' pl' ht' hpl' he => ?_⟩
            simp only at hj
            obtain ⟨pl, g1, g2, g3⟩ := v6 (.inl (by omega))
            obtain ⟨b0, k1, k2⟩ := hO t' ht'
            rw [add_block, g2] at he
            refine h.inj t' t b0 b ?_ k1 hb1 k2 hb2 pl' pl hpl' g1 he
            rintro rfl
            exact apart_ok ha t' (by simp) ht'
      · cases e
  · cases e

theorem impRows_ok (h : R W w0 F ρ s a w) (hc : Cal st ρ w OW ρc) (hO : OwnIn s OW) {k : IntKind} : ∀ {l : List Seg} {q : Cd} {g : Nat → Row} {n : Nat} {rd : List Nat} {us : List Value}, impRows s st k l = some (q, g, n, rd) → q.holds → RelS ρ l us → apart OW rd = true →
    us.length = n ∧ ∀ j u, us[j]? = some u → RelRow ρc k (g j) u
  | [], q, g, n, rd, us, e, _, hr, _ => by
    simp only [impRows, Option.some.injEq, Prod.mk.injEq] at e
    obtain ⟨rfl, rfl, rfl, rfl⟩ := e
    simp only [RelS] at hr
    subst hr
    exact ⟨rfl, fun j u hj => by simp at hj⟩
  | [.one c], q, g, n, rd, us, e, hq, hr, ha => by
    obtain ⟨v, vs, rfl, h1, h2⟩ := hr
    simp only [RelS] at h2
    subst h2
    simp only [impRows] at e
    split at e
    · rename_i q0 nl f n0 rd0 hs
      simp only [Option.some.injEq, Prod.mk.injEq] at e
      obtain ⟨rfl, rfl, rfl, rfl⟩ := e
      refine ⟨rfl, fun j u hj => ?_⟩
      cases j with
      | zero => simp at hj; subst hj; exact impS_ok h hc hO hs hq h1 ha
      | succ j => simp at hj
    · cases e
  | .one c :: b :: r, q, g, n, rd, us, e, hq, hr, ha => by
    obtain ⟨v, vs, rfl, h1, h2⟩ := hr
    rw [impRows] at e
    split at e
    · rename_i q0 nl f n0 rd0 hs
      split at e
      · rename_i hh; cases hh
      · split at e
        · rename_i q' g' m rd' he
          simp only [Option.some.injEq, Prod.mk.injEq] at e
          obtain ⟨rfl, rfl, rfl, rfl⟩ := e
          obtain ⟨a1, a2⟩ := apart_append ha
          obtain ⟨k1, k2⟩ := impRows_ok h hc hO he hq.2 h2 a2
          refine ⟨by simp [k1]; omega, fun j u hj => ?_⟩
          unfold putR
          cases j with
          | zero => simp at hj; subst hj; exact impS_ok h hc hO hs hq.1 h1 a1
          | succ j => simp at hj; rw [if_neg (by omega)]; exact k2 j u hj
        · cases e
    · cases e
  | [.rows k' g0 n0], q, g, n, rd, us, e, hq, hr, ha => by
    obtain ⟨us0, vs, rfl, h0, h1, h2⟩ := hr
    simp only [RelS] at h2
    subst h2
    simp only [impRows] at e
    split at e
    · rename_i hk
      obtain rfl := kEq_spec hk
      simp only [Option.some.injEq, Prod.mk.injEq] at e
      obtain ⟨rfl, rfl, rfl, rfl⟩ := e
      exact ⟨by simpa using h0, fun j u hj => cal_row h hc hO (h1 j u (by simpa using hj))⟩
    · cases e
  | .rows k' g0 n0 :: b :: r, q, g, n, rd, us, e, hq, hr, ha => by
    obtain ⟨us0, vs, rfl, h0, h1, h2⟩ := hr
    rw [impRows] at e
    · split at e
      · rename_i hk
        obtain rfl := kEq_spec hk
        split at e
        · rename_i q' g' m rd' he
          simp only [Option.some.injEq, Prod.mk.injEq] at e
          obtain ⟨rfl, rfl, rfl, rfl⟩ := e
          obtain ⟨k1, k2⟩ := impRows_ok h hc hO he hq h2 ha
          refine ⟨by simp [k1, h0], fun j u hj => ?_⟩
          unfold putR
          by_cases hjn : j < n0
          · rw [if_pos hjn]
            rw [List.getElem?_append_left (by omega)] at hj
            exact cal_row h hc hO (h1 j u hj)
          · rw [if_neg hjn]
            rw [List.getElem?_append_right (by omega), h0] at hj
            exact k2 _ u hj
        · cases e
      · cases e
    · simp
  | .ints _ _ _ :: _, _, _, _, _, _, e, _, _, _ => by simp only [impRows, reduceCtorEq] at e

theorem impO_ok (h : R W w0 F ρ s a w) {e : TypeId} {k : IntKind} {c : SC} {q : Cd} {nl : Bool} {f : Nat → Int} {n : Nat} {t : Option Nat} {v : Value} (he : impO s e k c = some (q, nl, f, n, t)) (hq : q.holds) (hv : Rel1 ρ c v) :
    (∀ t', t = some t' → ∃ b0, getA s.heap t' = some b0 ∧ b0.isOwn = true) ∧ ∀ (ρc : Rho) (τ : Nat), ρc τ = plO ρ t → Rel1 ρc (ownA nl n τ) v ∧ Sat ρc w (ownB e k f n) τ := by
  unfold impO at he
  split at he
  · rename_i nl0 ex z t0 o i n0 c0
    split at he
    · rename_i q0 e' k' g M mo hb
      split at he
      · rename_i hek
        simp only [Bool.and_eq_true, Nat.beq_eq] at hek
        obtain ⟨rfl, hk⟩ := hek
        obtain rfl := kEq_spec hk
        simp only [Option.some.injEq, Prod.mk.injEq] at he
        obtain ⟨rfl, rfl, rfl, rfl, rfl⟩ := he
        refine ⟨(fun t' ht => by injection ht with ht; subst ht; exact hp_own hb), fun ρc τ hpl => ?_⟩
        obtain ⟨hq1, hq2⟩ := hq
        have hq1 : 0 < n0 → q0.holds ∧ n0 ≤ M := hq1
        have hpl : ρc τ = ρ t0 := hpl
        constructor
        · rcases hv with ⟨v1, v2, v3, v4⟩ | ⟨v1, A, cap, v2, v3, v4, v5, v6, v7⟩
          · exact .inl ⟨v1, v2, v3, v3⟩
          · refine .inr ⟨v1, A, cap, v2, Nat.le_refl _, by omega, v5, fun hc => ?_, fun _ hn => ?_⟩
            · obtain ⟨pl, g1, g2⟩ := v6 (.inl (hc.resolve_right (by simp)))
              exact ⟨pl, hpl.trans g1, g2⟩
            · cases z with
              | true => exact v7 rfl hn
              | false => have hq2 : nl0 = false → 0 < n0 := hq2; have := hq2 v1; omega
        · intro hg
          have hn : 0 < n0 := by simpa using hg
          obtain ⟨g1, g2⟩ := hq1 hn
          obtain ⟨pl, vs, post, u1, u2, u3, u4, ⟨vs', rfl, u5⟩, u6⟩ := hp_ok h hb g1
          simp only [RelS] at u5
          subst u5
          rw [List.append_nil] at u3 u4
          refine ⟨pl, intsV k g n0, (intsV k g M).drop n0 ++ post, hpl.trans u1, u2, ?_, ?_, ⟨[], by simp, rfl⟩, fun hh => by cases hh⟩
          · rw [← intsV_take k g n0 M g2, ← List.append_assoc, List.take_append_drop]; exact u3
          · rw [← intsV_take k g n0 M g2, ← List.append_assoc, List.take_append_drop]; exact u4
      · cases he
    · split at he
      · simp only [Option.some.injEq, Prod.mk.injEq] at he
        obtain ⟨rfl, rfl, rfl, rfl, rfl⟩ := he
        refine ⟨(fun t' ht => by cases ht), fun ρc τ hpl => ?_⟩
        rcases hv with ⟨v1, v2, v3, v4⟩ | ⟨v1, _⟩
        · subst v3
          exact ⟨.inl ⟨rfl, v2, rfl, rfl⟩, fun hg => by simp at hg⟩
        · cases v1
      · cases he
    · cases he
  · cases he

theorem noTag_ok {c : SC} {v : Value} (h : noTag c = true) (r : Rel1 ρ c v) : Rel1 ρc c v := by
  cases c <;> first | exact r | cases h
theorem noTagS_ok : ∀ {l : List Seg} {vs : List Value}, noTagS l = true → RelS ρ l vs → RelS ρc l vs
  | [], _, _, r => r
  | .one c :: l, _, h, ⟨v, vs, e, h1, h2⟩ => by
    simp only [noTagS, Bool.and_eq_true] at h
    exact ⟨v, vs, e, noTag_ok h.1 h1, noTagS_ok h.2 h2⟩
  | .ints _ _ _ :: l, _, h, ⟨vs, e, h2⟩ => ⟨vs, e, noTagS_ok (l := l) h h2⟩
  | .rows _ _ _ :: _, _, h, _ => by cases h

/-- Do the callee's places and values stand as the lists say? -/
structure Fits (ρ : Rho) (τ ο : Nat) (ow : List (Option Nat)) (ovs : List Value) (ρc : Rho) : Prop where
  pl : ∀ (i : Nat) (o : Option Nat), ow[i]? = some o → ρc (τ + i) = plO ρ o
  oq : ∀ (i : Nat) (v : Value), ovs[i]? = some v → ρc.oq (ο + i) = v
theorem Fits.left {τ ο : Nat} {ow ow' : List (Option Nat)} {ovs ovs' : List Value} (h : Fits ρ τ ο (ow ++ ow') (ovs ++ ovs') ρc) : Fits ρ τ ο ow ovs ρc :=
  ⟨fun i o hi => h.pl i o (by rw [List.getElem?_append_left (List.getElem?_eq_some_iff.1 hi).1]; exact hi), fun i v hi => h.oq i v (by rw [List.getElem?_append_left (List.getElem?_eq_some_iff.1 hi).1]; exact hi)⟩
theorem Fits.right {τ ο : Nat} {ow ow' : List (Option Nat)} {ovs ovs' : List Value} (h : Fits ρ τ ο (ow ++ ow') (ovs ++ ovs') ρc) : Fits ρ (τ + ow.length) (ο + ovs.length) ow' ovs' ρc :=
  ⟨fun i o hi => by rw [Nat.add_assoc]; exact h.pl _ o (by rw [List.getElem?_append_right (by omega), Nat.add_sub_cancel_left]; exact hi), fun i v hi => by rw [Nat.add_assoc]; exact h.oq _ v (by rw [List.getElem?_append_right (by omega), Nat.add_sub_cancel_left]; exact hi)⟩
/-- What is known of the values that are handed on. -/
def Ops (ρ : Rho) (os : List SC) (ovs : List Value) : Prop := ovs.length = os.length ∧ ∀ (i : Nat) (c : SC) (v : Value), os[i]? = some c → ovs[i]? = some v → Rel1 ρ c v
theorem Ops.append {os os' : List SC} {ovs ovs' : List Value} (h : Ops ρ os ovs) (h' : Ops ρ os' ovs') : Ops ρ (os ++ os') (ovs ++ ovs') := by
  refine ⟨by simp [h.1, h'.1], fun i c v hi hv => ?_⟩
  by_cases hlt : i < os.length
  · rw [List.getElem?_append_left hlt] at hi
    rw [List.getElem?_append_left (by rw [h.1]; exact hlt)] at hv
    exact h.2 i c v hi hv
  · rw [List.getElem?_append_right (by omega)] at hi
    rw [List.getElem?_append_right (by rw [h.1]; omega), h.1] at hv
    exact h'.2 _ c v hi hv
theorem Ops.nil : Ops ρ [] [] := ⟨rfl, fun i c v hi => by simp at hi⟩
theorem OwnIn.nil : OwnIn s [] := fun t h => by cases h
theorem OwnIn.append {o o' : List (Option Nat)} (h : OwnIn s o) (h' : OwnIn s o') : OwnIn s (o ++ o') := fun t ht => (List.mem_append.1 ht).elim (h t) (h' t)
/-- Blocks that stand, below the next tag. -/
structure Hok (ρc : Rho) (w : World) (τ m : Nat) (H : List (Nat × SB)) : Prop where
  sat : ∀ x ∈ H, Sat ρc w x.2 x.1
  key : ∀ x ∈ H, τ ≤ x.1 ∧ x.1 < τ + m

theorem impF_ok (h : R W w0 F ρ s a w) : ∀ {ms : List FM} {l : List Seg} {q : Cd} {fvs : List FV} {ow : List (Option Nat)} {os : List SC} {vs : List Value} {τ ο τ' ο' : Nat} {l' : List Seg} {H : List (Nat × SB)}, impF s ms l = some (q, fvs, ow, os) → q.holds → RelS ρ l vs → bldF ms fvs τ ο = some (l', H, τ', ο') →
    ∃ ovs, Ops ρ os ovs ∧ OwnIn s ow ∧ τ' = τ + ow.length ∧ ο' = ο + os.length ∧ ∀ ρc, Fits ρ τ ο ow ovs ρc → RelS ρc l' vs ∧ Hok ρc w τ ow.length H
  | [], l, q, fvs, ow, os, vs, τ, ο, τ', ο', l', H, e, hq, hr, hb => by
    cases l with
    | cons _ _ => cases e
    | nil =>
      simp only [impF, Option.some.injEq, Prod.mk.injEq] at e
      obtain ⟨rfl, rfl, rfl, rfl⟩ := e
      simp only [bldF, Option.some.injEq, Prod.mk.injEq] at hb
      obtain ⟨rfl, rfl, rfl, rfl⟩ := hb
      simp only [RelS] at hr
      subst hr
      exact ⟨[], Ops.nil, OwnIn.nil, rfl, rfl, fun ρc _ => ⟨rfl, ⟨(fun x hx => by cases hx), (fun x hx => by cases hx)⟩⟩⟩
  | .i k n :: ms, l, q, fvs, ow, os, vs, τ, ο, τ', ο', l', H, e, hq, hr, hb => by
    cases l with
    | nil => cases e
    | cons b r =>
      cases b with
      | one _ => cases e
      | rows _ _ _ => cases e
      | ints k' f n' =>
        simp only [impF] at e
        split at e
        · rename_i hk
          simp only [Bool.and_eq_true, Nat.beq_eq] at hk
          obtain ⟨hk, rfl⟩ := hk
          obtain rfl := kEq_spec hk
          split at e
          · rename_i q0 vs0 ow0 os0 he
            simp only [Option.some.injEq, Prod.mk.injEq] at e
            obtain ⟨rfl, rfl, rfl, rfl⟩ := e
            simp only [bldF] at hb
            split at hb
            · rename_i l0 H0 t0 o0 hb0
              simp only [Option.some.injEq, Prod.mk.injEq] at hb
              obtain ⟨rfl, rfl, rfl, rfl⟩ := hb
              obtain ⟨vs', rfl, h2⟩ := hr
              obtain ⟨ovs, g1, g2, g3, g4, g5⟩ := impF_ok h he hq h2 hb0
              exact ⟨ovs, g1, g2, g3, g4, fun ρc hc => ⟨⟨vs', rfl, (g5 ρc hc).1⟩, (g5 ρc hc).2⟩⟩
            · cases hb
          · cases e
        · cases e
  | .s :: ms, l, q, fvs, ow, os, vs, τ, ο, τ', ο', l', H, e, hq, hr, hb => by
    cases l with
    | nil => cases e
    | cons b r =>
      cases b with
      | ints _ _ _ => cases e
      | rows _ _ _ => cases e
      | one c =>
        simp only [impF] at e
        split at e
        · rename_i hn
          split at e
          · rename_i q0 vs0 ow0 os0 he
            simp only [Option.some.injEq, Prod.mk.injEq] at e
            obtain ⟨rfl, rfl, rfl, rfl⟩ := e
            simp only [bldF] at hb
            split at hb
            · rename_i l0 H0 t0 o0 hb0
              simp only [Option.some.injEq, Prod.mk.injEq] at hb
              obtain ⟨rfl, rfl, rfl, rfl⟩ := hb
              obtain ⟨v, vs', rfl, h1, h2⟩ := hr
              obtain ⟨ovs, g1, g2, g3, g4, g5⟩ := impF_ok h he hq h2 hb0
              exact ⟨ovs, g1, g2, g3, g4, fun ρc hc => ⟨⟨v, vs', rfl, noTag_ok hn h1, (g5 ρc hc).1⟩, (g5 ρc hc).2⟩⟩
            · cases hb
          · cases e
        · cases e
  | .a e0 k :: ms, l, q, fvs, ow, os, vs, τ, ο, τ', ο', l', H, e, hq, hr, hb => by
    cases l with
    | nil => cases e
    | cons b r =>
      cases b with
      | ints _ _ _ => cases e
      | rows _ _ _ => cases e
      | one c =>
        simp only [impF] at e
        split at e
        · rename_i q1 nl f n t hO
          split at e
          · rename_i q0 vs0 ow0 os0 he
            simp only [Option.some.injEq, Prod.mk.injEq] at e
            obtain ⟨rfl, rfl, rfl, rfl⟩ := e
            simp only [bldF] at hb
            split at hb
            · rename_i l0 H0 t0 o0 hb0
              simp only [Option.some.injEq, Prod.mk.injEq] at hb
              obtain ⟨rfl, rfl, rfl, rfl⟩ := hb
              obtain ⟨v, vs', rfl, h1, h2⟩ := hr
              obtain ⟨ovs, g1, g2, g3, g4, g5⟩ := impF_ok h he hq.2 h2 hb0
              obtain ⟨k1, k2⟩ := impO_ok h hO hq.1 h1
              refine ⟨ovs, g1, fun t' ht' => ?_, by rw [g3]; simp; omega, g4, fun ρc hc => ?_⟩
              · rcases List.mem_cons.1 ht' with ht' | ht'
                · exact k1 t' ht'.symm
                · exact g2 t' ht'
              · have hc' : Fits ρ (τ + 1) ο ow0 ovs ρc := Fits.right (ow := [t]) (ovs := []) (by simpa using hc)
                obtain ⟨m1, m2⟩ := g5 ρc hc'
                obtain ⟨m3, m4⟩ := k2 ρc τ (by have := hc.pl 0 t (by simp); simpa using this)
                refine ⟨⟨v, vs', rfl, m3, m1⟩, ⟨fun x hx => ?_, fun x hx => ?_⟩⟩
                · rcases List.mem_cons.1 hx with rfl | hx
                  · exact m4
                  · exact m2.sat x hx
                · rcases List.mem_cons.1 hx with rfl | hx
                  · exact ⟨Nat.le_refl _, by simp⟩
                  · have := m2.key x hx; simp only [List.length_cons]; omega
            · cases hb
          · cases e
        · cases e
  | .o :: ms, l, q, fvs, ow, os, vs, τ, ο, τ', ο', l', H, e, hq, hr, hb => by
    cases l with
    | nil => cases e
    | cons b r =>
      cases b with
      | ints _ _ _ => cases e
      | rows _ _ _ => cases e
      | one c =>
        simp only [impF] at e
        split at e
        · rename_i q0 vs0 ow0 os0 he
          simp only [Option.some.injEq, Prod.mk.injEq] at e
          obtain ⟨rfl, rfl, rfl, rfl⟩ := e
          simp only [bldF] at hb
          split at hb
          · rename_i l0 H0 t0 o0 hb0
            simp only [Option.some.injEq, Prod.mk.injEq] at hb
            obtain ⟨rfl, rfl, rfl, rfl⟩ := hb
            obtain ⟨v, vs', rfl, h1, h2⟩ := hr
            obtain ⟨ovs, g1, g2, g3, g4, g5⟩ := impF_ok h he hq h2 hb0
            refine ⟨v :: ovs, ?_, g2, g3, by rw [g4]; simp; omega, fun ρc hc => ?_⟩
            · have : Ops ρ [c] [v] := ⟨rfl, fun i c' v' hi hv => by
                cases i with
                | zero => simp at hi hv; subst hi; subst hv; exact h1
                | succ i => simp at hi⟩
              exact this.append g1
            · have hc' : Fits ρ τ (ο + 1) _ ovs ρc := Fits.right (ow := []) (ovs := [v]) (by simpa using hc)
              obtain ⟨m1, m2⟩ := g5 ρc hc'
              refine ⟨⟨v, vs', rfl, ⟨?_, rel1_one h1⟩, m1⟩, m2⟩
              have := hc.oq 0 v (by simp)
              simpa using this.symm
          · cases hb
        · cases e

theorem imp1_ok (h : R W w0 F ρ s a w) {m : Md} {x : SA} {i : Im} {v : Value} {τ ο τ' ο' : Nat} {y : SA} {H : List (Nat × SB)} (e : imp1 s st m x = some i) (hq : i.c.holds) (hv : RelA ρ x v) (hb : bld1 m i.v τ ο = some (y, H, τ', ο')) :
    ∃ ovs, Ops ρ i.ops ovs ∧ OwnIn s i.own ∧ τ' = τ + i.own.length ∧ ο' = ο + i.ops.length ∧ ∀ (OW : List (Option Nat)) (ρc : Rho), OwnIn s OW → Cal st ρ w OW ρc → apart OW i.rd = true → Fits ρ τ ο i.own ovs ρc → RelA ρc y v ∧ Hok ρc w τ i.own.length H := by
  have hnil : ∀ ρc : Rho, Hok ρc w τ 0 [] := fun ρc => ⟨(fun x hx => by cases hx), (fun x hx => by cases hx)⟩
  unfold imp1 at e
  split at e
  · split at e
    · rename_i c hn
      injection e with e; subst e
      simp only [bld1, Option.some.injEq, Prod.mk.injEq] at hb
      obtain ⟨rfl, rfl, rfl, rfl⟩ := hb
      exact ⟨[], Ops.nil, OwnIn.nil, rfl, rfl, fun OW ρc _ _ _ _ => ⟨noTag_ok hn hv, hnil ρc⟩⟩
    · cases e
  · split at e
    · rename_i l hn
      injection e with e; subst e
      simp only [bld1, Option.some.injEq, Prod.mk.injEq] at hb
      obtain ⟨rfl, rfl, rfl, rfl⟩ := hb
      obtain ⟨vs, rfl, hv⟩ := hv
      exact ⟨[], Ops.nil, OwnIn.nil, rfl, rfl, fun OW ρc _ _ _ _ => ⟨⟨vs, rfl, noTagS_ok hn hv⟩, hnil ρc⟩⟩
    · cases e
  · split at e
    · rename_i q nl f n rd hs
      injection e with e; subst e
      simp only [bld1, Option.some.injEq, Prod.mk.injEq] at hb
      obtain ⟨rfl, rfl, rfl, rfl⟩ := hb
      exact ⟨[], Ops.nil, OwnIn.nil, rfl, rfl, fun OW ρc hO hc ha _ => ⟨impS_ok h hc hO hs hq hv ha, hnil ρc⟩⟩
    · cases e
  · split at e
    · rename_i nl k' g n hk
      obtain rfl := kEq_spec hk
      injection e with e; subst e
      simp only [bld1, Option.some.injEq, Prod.mk.injEq] at hb
      obtain ⟨rfl, rfl, rfl, rfl⟩ := hb
      refine ⟨[], Ops.nil, OwnIn.nil, rfl, rfl, fun OW ρc hO hc ha _ => ⟨?_, hnil ρc⟩⟩
      rcases hv with hv | ⟨v1, A, cap, v2, v3, v4, v5⟩
      · exact .inl hv
      · refine .inr ⟨v1, A, cap, v2, v3, v4, fun j hj => ?_⟩
        obtain ⟨u, g1, g2⟩ := v5 j hj
        refine ⟨u, ?_, cal_row h hc hO g2⟩
        cases st with
        | true => have hc : ρc.im = ρ.im := hc; rw [hc]; exact g1
        | false =>
          refine hc _ _ (h.imm _ _ g1) fun t pl ht hpl he => ?_
          obtain ⟨b0, k1, k2⟩ := hO t ht
          have := h.isep t b0 pl k1 k2 hpl _ he.symm
          rw [g1] at this; cases this
    · cases e
  · rename_i k nl ex z t o i0 n c0
    split at e
    · cases e
    · split at e
      · rename_i q bt l mo hb0
        split at e
        · rename_i q' g m0 rd hr
          injection e with e; subst e
          simp only [bld1, Option.some.injEq, Prod.mk.injEq] at hb
          obtain ⟨rfl, rfl, rfl, rfl⟩ := hb
          refine ⟨[], Ops.nil, OwnIn.nil, rfl, rfl, fun OW ρc hO hc ha _ => ⟨?_, hnil ρc⟩⟩
          obtain ⟨hq1, hq2, hq3⟩ := hq
          have hq1 : 0 < n → q.holds := hq1
          have hq2 : n = m0 := hq2
          simp only [apart, Bool.and_eq_true, Bool.not_eq_true'] at ha
          rcases hv with ⟨v1, v2, v3, v4⟩ | ⟨v1, A, cap, v2, v3, v4, v5, v6, v7⟩
          · exact .inl ⟨v1, v2, v3⟩
          · refine .inr ⟨v1, A, cap, v2, by omega, v5, fun j hj => ?_⟩
            obtain ⟨pl, g1, g2, g3⟩ := v6 (.inl (by omega))
            obtain ⟨pl', vs, post, u1, u2, u3, u4, u5, u6⟩ := hp_ok h hb0 (hq1 (by omega))
            rw [g1] at u1; injection u1 with u1; subst u1
            obtain ⟨k1, k2⟩ := impRows_ok h hc hO hr hq3 u5 ha.2
            have hjv : j < vs.length := by omega
            refine ⟨vs[j], ?_, k2 j _ (by simp [hjv])⟩
            refine hc _ _ ?_ fun t' pl' ht' hpl' he => ?_
            · rw [g2, u2, Nat.add_zero, Addr.add_mid, Nat.zero_add, cell_in u3, List.getElem?_append_left hjv]; simp [hjv]
            · obtain ⟨b0, y1, y2⟩ := hO t' ht'
              rw [add_block, g2] at he
              obtain ⟨b1, y3, y4⟩ := hp_own hb0
              refine h.inj t' t b0 b1 ?_ y1 y3 y2 (SB.live_of_own y4) pl' pl hpl' g1 he
              rintro rfl
              rw [memO_iff.2 ht'] at ha; exact absurd ha.1 (by simp)
        · cases e
      · split at e
        · injection e with e; subst e
          simp only [bld1, Option.some.injEq, Prod.mk.injEq] at hb
          obtain ⟨rfl, rfl, rfl, rfl⟩ := hb
          refine ⟨[], Ops.nil, OwnIn.nil, rfl, rfl, fun OW ρc hO hc ha _ => ⟨?_, hnil ρc⟩⟩
          rcases hv with ⟨v1, v2, v3, v4⟩ | ⟨v1, _⟩
          · exact .inl ⟨rfl, v2, v3⟩
          · cases v1
        · cases e
      · cases e
  · split at e
    · rename_i q nl f n t hO
      injection e with e; subst e
      simp only [bld1, Option.some.injEq, Prod.mk.injEq] at hb
      obtain ⟨rfl, rfl, rfl, rfl⟩ := hb
      obtain ⟨k1, k2⟩ := impO_ok h hO hq hv
      refine ⟨[], Ops.nil, fun t' ht' => k1 t' (by have ht' : some t' ∈ [t] := ht'; simp only [List.mem_singleton] at ht'; exact ht'.symm), rfl, rfl, fun OW ρc _ _ _ hf => ?_⟩
      obtain ⟨m3, m4⟩ := k2 ρc τ (by have := hf.pl 0 t (by simp); simpa using this)
      exact ⟨m3, ⟨fun x hx => by simp only [List.mem_singleton] at hx; subst hx; exact m4, fun x hx => by simp only [List.mem_singleton] at hx; subst hx; simp⟩⟩
    · cases e
  · rename_i ty fs t
    split at e
    · rename_i q ty' l hb0
      split at e
      · rename_i hty
        rw [Nat.beq_eq] at hty
        subst hty
        split at e
        · rename_i q' fvs ow os hf
          injection e with e; subst e
          simp only [bld1] at hb
          split at hb
          · rename_i l' H' t' o' hbf
            simp only [Option.some.injEq, Prod.mk.injEq] at hb
            obtain ⟨rfl, rfl, rfl, rfl⟩ := hb
            obtain ⟨pl0, vs, post, u1, u2, u3, u4, u5, u6⟩ := hp_ok h hb0 hq.1
            obtain ⟨ovs, g1, g2, g3, g4, g5⟩ := impF_ok h hf hq.2 u5 hbf
            refine ⟨ovs, g1, fun t'' ht'' => ?_, by rw [g3]; simp; omega, g4, fun OW ρc hO hc ha hfit => ?_⟩
            · rcases List.mem_cons.1 ht'' with ht'' | ht''
              · injection ht'' with ht''; subst ht''; exact hp_own hb0
              · exact g2 t'' ht''
            · have hfit' : Fits ρ (τ + 1) ο ow ovs ρc := Fits.right (ow := [some t]) (ovs := []) (by simpa using hfit)
              obtain ⟨m1, m2⟩ := g5 ρc hfit'
              have hpl : ρc τ = ρ t := by have := hfit.pl 0 (some t) (by simp); simpa [plO] using this
              refine ⟨?_, ⟨fun x hx => ?_, fun x hx => ?_⟩⟩
              · obtain ⟨pl, y1, y2⟩ := hv
                exact ⟨pl, hpl.trans y1, y2⟩
              · rcases List.mem_cons.1 hx with rfl | hx
                · exact ⟨pl0, vs, post, hpl.trans u1, u2, u3, u4, m1, u6⟩
                · exact m2.sat x hx
              · rcases List.mem_cons.1 hx with rfl | hx
                · exact ⟨Nat.le_refl _, by simp⟩
                · have := m2.key x hx; simp only [List.length_cons]; omega
          · cases hb
        · cases e
      · cases e
    · cases e
  · cases e

theorem impL_ok (h : R W w0 F ρ s a w) : ∀ {ms : List Md} {xs : List SA} {i : ImL} {vals : List Value} {τ ο τ' ο' : Nat} {A : List SA} {H : List (Nat × SB)}, impL s st ms xs = some i → i.c.holds → RelL ρ xs vals → bld ms i.v τ ο = some (A, H, τ', ο') →
    ∃ ovs, Ops ρ i.ops ovs ∧ OwnIn s i.own ∧ τ' = τ + i.own.length ∧ ο' = ο + i.ops.length ∧ ∀ (OW : List (Option Nat)) (ρc : Rho), OwnIn s OW → Cal st ρ w OW ρc → apart OW i.rd = true → Fits ρ τ ο i.own ovs ρc → RelL ρc A vals ∧ Hok ρc w τ i.own.length H
  | [], xs, i, vals, τ, ο, τ', ο', A, H, e, hq, hv, hb => by
    cases xs with
    | cons _ _ => cases e
    | nil =>
      simp only [impL, Option.some.injEq] at e
      subst e
      simp only [bld, Option.some.injEq, Prod.mk.injEq] at hb
      obtain ⟨rfl, rfl, rfl, rfl⟩ := hb
      simp only [RelL] at hv
      subst hv
      exact ⟨[], Ops.nil, OwnIn.nil, rfl, rfl, fun OW ρc _ _ _ _ => ⟨rfl, ⟨(fun x hx => by cases hx), (fun x hx => by cases hx)⟩⟩⟩
  | m :: ms, xs, i, vals, τ, ο, τ', ο', A, H, e, hq, hv, hb => by
    cases xs with
    | nil => cases e
    | cons x xs =>
      simp only [impL] at e
      split at e
      · rename_i c v ow rd os c' vs ow' rd' os' e1 e2
        injection e with e; subst e
        simp only [bld] at hb
        split at hb
        · rename_i y H1 t1 o1 hb1
          split at hb
          · rename_i A2 H2 t2 o2 hb2
            simp only [Option.some.injEq, Prod.mk.injEq] at hb
            obtain ⟨rfl, rfl, rfl, rfl⟩ := hb
            obtain ⟨u, us, rfl, hv1, hv2⟩ := hv
            obtain ⟨ovs, g1, g2, g3, g4, g5⟩ := imp1_ok h e1 hq.1 hv1 hb1
            obtain ⟨ovs', g1', g2', g3', g4', g5'⟩ := impL_ok h e2 hq.2 hv2 hb2
            simp only at g1 g2 g3 g4 g5 g1' g2' g3' g4' g5'
            subst g3; subst g4
            refine ⟨ovs ++ ovs', g1.append g1', g2.append g2', by simp only [List.length_append]; omega, by simp only [List.length_append]; omega, fun OW ρc hO hc ha hf => ?_⟩
            obtain ⟨a1, a2⟩ := apart_append ha
            obtain ⟨m1, m2⟩ := g5 OW ρc hO hc a1 hf.left
            obtain ⟨m3, m4⟩ := g5' OW ρc hO hc a2 (g1.1 ▸ hf.right)
            refine ⟨⟨u, us, rfl, m1, m3⟩, ⟨fun z hz => (List.mem_append.1 hz).elim (m2.sat z) (m4.sat z), fun z hz => ?_⟩⟩
            simp only [List.length_append]
            rcases List.mem_append.1 hz with hz | hz
            · have := m2.key z hz; omega
            · have := m4.key z hz; omega
          · cases hb
        · cases hb
      · cases e

/-- WHAT A FUNCTION SAYS, FOR ANY CALLER. -/
theorem sum_ok {f : FuncId} {ms : List Md} {spec : List Vw → Option Res} (hF : ∀ vs A H n o r, bld ms vs 0 0 = some (A, H, n, o) → spec vs = some r → FSound P f A H n r) : SumOk P f (mkS st ms spec) := by
  intro W w0 F ρ s a w l vs r h hl e hp
  unfold mkS at e
  cases s with
  | mk sz fr hp nx =>
  simp only at e
  split at e
  rotate_left
  · cases e
  rename_i c vws own rd ops hi
  split at e
  rotate_left
  · cases e
  rename_i hchk
  simp only [Bool.and_eq_true] at hchk
  split at e
  rotate_left
  · cases e
  rename_i A H n o hb
  split at e
  rotate_left
  · cases e
  rename_i rp rv rd rn hr
  have e' : (∀ sv, rv = some sv → okV st sv = true) ∧ r = ⟨.and c rp, rv.map (renV ⟨sigOf 0 own, st, ops, n, nx⟩), renD ⟨sigOf 0 own, st, ops, n, nx⟩ rd, nx + (rn - n)⟩ := by
    cases rv with
    | none => simp only at e; injection e with e; exact ⟨fun sv h => (by cases h), e.symm⟩
    | some v =>
      simp only at e
      split at e
      · rename_i hv
        rw [forceV_eq] at e
        injection e with e
        exact ⟨fun sv h => (by injection h with h; subst h; exact hv), e.symm⟩
      · cases e
  obtain ⟨hokv, e⟩ := e'
  subst e
  obtain ⟨hpp1, hp2⟩ := hp
  obtain ⟨ovs, g1, g2, g3, g4, g5⟩ := impL_ok h hi hpp1 hl hb
  simp only [Nat.zero_add] at g1 g2 g3 g4 g5
  classical
  let ρc : Rho := ⟨fun t => if t < n then match getA (sigOf 0 own) t with | some (some t') => ρ t' | _ => none else none,
    match st with | true => ρ.im | false => fun A => if (∃ t pl, some t ∈ own ∧ ρ t = some pl ∧ pl.b = A.block) then none else w.cell? A, fun i => ovs.getD i undef⟩
  have hsig : ∀ t, getA (sigOf 0 own) t = own[t]? := fun t => by rw [sig_get]; simp
  have hcal : Cal st ρ w own ρc := by
    cases st with
    | true => exact rfl
    | false =>
      intro A v hA hne
      show (if _ then none else w.cell? A) = some v
      rw [if_neg]
      · exact hA
      · rintro ⟨t, pl, h1, h2, h3⟩; exact hne t pl h1 h2 h3
  have hfit : Fits ρ 0 0 own ovs ρc := by
    refine ⟨fun i o hi => ?_, fun i v hi => ?_⟩
    · have hlt := (List.getElem?_eq_some_iff.1 hi).1
      show (if 0 + i < n then _ else none) = _
      rw [Nat.zero_add, if_pos (by omega), hsig, hi]
      cases o <;> rfl
    · show ovs.getD (0 + i) undef = v
      rw [Nat.zero_add, List.getD_eq_getElem?_getD, hi]; rfl
  obtain ⟨hrel, hH⟩ := g5 own ρc g2 hcal hchk.2 hfit
  have hrin : ∀ t pl, ρc t = some pl → t < n ∧ ∃ t', own[t]? = some (some t') ∧ ρ t' = some pl := by
    intro t pl ht
    have ht : (if t < n then match getA (sigOf 0 own) t with | some (some t') => ρ t' | _ => none else none) = some pl := ht
    split at ht
    · rename_i hlt
      rw [hsig] at ht
      split at ht
      · rename_i t' hs; exact ⟨hlt, t', hs, ht⟩
      · cases ht
    · cases ht
  have hG : Good ρc w H n := by
    refine ⟨fun t b hb => hH.sat _ (getA_mem hb), fun t pl ht => ?_, fun t t' b b' hne _ _ _ _ pl pl' hp hp' => ?_, fun t b hb => by have := hH.key _ (getA_mem hb); simp only at this; omega, fun A v hA => ?_, fun t b pl hb ho hp A hA => ?_⟩
    · obtain ⟨h1, t', _, h2⟩ := hrin t pl ht
      exact ⟨h1, (h.dom t' pl h2).2⟩
    · obtain ⟨_, u, h1, h2⟩ := hrin t pl hp
      obtain ⟨_, u', h1', h2'⟩ := hrin t' pl' hp'
      obtain ⟨b0, k1, k2⟩ := g2 u (List.mem_of_getElem? h1)
      obtain ⟨b0', k1', k2'⟩ := g2 u' (List.mem_of_getElem? h1')
      refine h.inj u u' b0 b0' ?_ k1 k1' k2 (SB.live_of_own k2') pl pl' h2 h2'
      rintro rfl
      exact hne (distO_ok hchk.1 t t' u h1 h1')
    · cases st with
      | true => exact h.imm A v hA
      | false =>
        have hA : (if _ then none else w.cell? A) = some v := hA
        split at hA
        · cases hA
        · exact hA
    · obtain ⟨_, u, h1, h2⟩ := hrin t pl hp
      cases st with
      | true =>
        obtain ⟨b0, k1, k2⟩ := g2 u (List.mem_of_getElem? h1)
        exact h.isep u b0 pl k1 k2 h2 A hA
      | false =>
        show (if _ then none else w.cell? A) = none
        rw [if_pos ⟨u, pl, List.mem_of_getElem? h1, h2, hA.symm⟩]
  have hdo := does_of_fsound (N := ⟨sigOf 0 own, st, ops, n, nx⟩) (ρc := ρc) (hF vws A H n o ⟨rp, rv, rd, rn⟩ hb hr) h rfl hG (fun t => rfl) hrel hp2 (fun hs => by cases st with | true => rfl | false => cases hs) (fun i c hi => ?_) hokv
    (fun t b hb ho t' ht' => by rw [hsig] at ht'; exact g2 t' (List.mem_of_getElem? ht')) (fun t t' b hb ho x hx hy => by rw [hsig] at hx hy; exact distO_ok hchk.1 t t' x hx hy)
  · intro o a' next Q hK
    refine hdo o a' next Q fun v w' ⟨ρ', h1, h2⟩ => hK v w' ⟨ρ', h1, fun sv hsv => ?_⟩
    simp only [Option.map_eq_some_iff] at hsv
    obtain ⟨sv0, hv, rfl⟩ := hsv
    exact h2 sv0 hv
  · have hlt := (List.getElem?_eq_some_iff.1 hi).1
    have hv : ovs[i]? = some (ovs[i]'(by rw [g1.1]; exact hlt)) := by simp
    have : ρc.oq i = ovs[i]'(by rw [g1.1]; exact hlt) := by
      show ovs.getD i undef = _
      rw [List.getD_eq_getElem?_getD, hv]; rfl
    rw [this]
    exact g1.2 i c _ hi hv
end
end Go.Sx
