/- Many texts in one: SxS, SxU, Lst, Sha, F1, Cha, LH, F30, Cdt, F40, F31, Pol, Pw, F33, F34, F35, F41. No condition. -/
import Derived.Test.YtogijkmflhjhkaaKA2
import Derived.Lib.Mul64
import Derived.Laws.Externs

/- The symbolic evaluator: a summary for a caller is what the function does. Plain lemmas, no condition. -/
namespace Go.Sx
open Go.RowKit
set_option linter.unusedSimpArgs false

set_option linter.unusedVariables false
section
variable {P : Program} {W : Env} {w0 w : World} {F : Nat → Prop} {ρ ρc : Rho} {s : St} {a : Act} {st : Bool} {OW : List (Option Nat)}

theorem memO_iff : ∀ {l : List (Option Nat)} {t : Nat}, distO.memO l t = true ↔ some t ∈ l
  | [], t => by simp [distO.memO]
  | none :: r, t => by simp [distO.memO, memO_iff (l := r)]
  | some u :: r, t => by simp [distO.memO, memO_iff (l := r)]; constructor <;> (rintro (h | h); exact .inl h.symm; exact .inr h)
theorem distO_ok : ∀ {l : List (Option Nat)}, distO l = true → ∀ (i j t : Nat), l[i]? = some (some t) → l[j]? = some (some t) → i = j
  | [], _, i, _, _, h, _ => by simp at h
  | none :: r, hd, i, j, t, hi, hj => by
    simp only [distO] at hd
    cases i with
    | zero => simp at hi
    | succ i => cases j with
      | zero => simp at hj
      | succ j => simp at hi hj; rw [distO_ok hd i j t hi hj]
  | some u :: r, hd, i, j, t, hi, hj => by
    simp only [distO, Bool.and_eq_true, Bool.not_eq_true'] at hd
    have hn : ∀ k, r[k]? ≠ some (some u) := fun k hk => by
      have := memO_iff.2 (List.mem_of_getElem? hk)
      rw [hd.1] at this; cases this
    cases i with
    | zero => cases j with
      | zero => rfl
      | succ j => simp at hi hj; subst hi; exact absurd hj (hn j)
    | succ i => cases j with
      | zero => simp at hi hj; subst hj; exact absurd hi (hn i)
      | succ j => simp at hi hj; rw [distO_ok hd.2 i j t hi hj]
theorem apart_ok : ∀ {l : List Nat}, apart OW l = true → ∀ t ∈ l, some t ∉ OW
  | [], _, t, h => by cases h
  | u :: r, h, t, ht => by
    simp only [apart, Bool.and_eq_true, Bool.not_eq_true'] at h
    rcases List.mem_cons.1 ht with rfl | ht
    · intro hc; rw [memO_iff.2 hc] at h; exact absurd h.1 (by simp)
    · exact apart_ok h.2 t ht
theorem apart_append {l l' : List Nat} (h : apart OW (l ++ l') = true) : apart OW l = true ∧ apart OW l' = true := by
  induction l with
  | nil => exact ⟨rfl, h⟩
  | cons u r ih =>
    simp only [List.cons_append, apart, Bool.and_eq_true] at h ⊢
    exact ⟨⟨h.1, (ih h.2).1⟩, (ih h.2).2⟩
theorem sig_get : ∀ {l : List (Option Nat)} {i t : Nat}, getA (sigOf i l) t = if i ≤ t then l[t - i]? else none
  | [], i, t => by simp [sigOf, getA]
  | o :: r, i, t => by
    simp only [sigOf]
    rw [getA_cons, sig_get]
    by_cases h : i = t
    · subst h; simp
    · rw [if_neg h]
      by_cases h2 : i ≤ t
      · rw [if_pos h2, if_pos (by omega), show t - i = (t - (i + 1)) + 1 by omega]; simp
      · rw [if_neg h2, if_neg (by omega)]

/-- What the callee's places must be. -/
def plO (ρ : Rho) : Option Nat → Option Pl
  | some t => ρ t
  | none => none
def Cal (st : Bool) (ρ : Rho) (w : World) (OW : List (Option Nat)) (ρc : Rho) : Prop :=
  match st with
  | true => ρc.im = ρ.im
  | false => ∀ A v, w.cell? A = some v → (∀ t pl, some t ∈ OW → ρ t = some pl → pl.b ≠ A.block) → ρc.im A = some v
def OwnIn (s : St) (ow : List (Option Nat)) : Prop := ∀ t, some t ∈ ow → ∃ b0, getA s.heap t = some b0 ∧ b0.isOwn = true

theorem cal_row (h : R W w0 F ρ s a w) (hc : Cal st ρ w OW ρc) (hO : OwnIn s OW) {k : IntKind} {r : Row} {v : Value} (hr : RelRow ρ k r v) : RelRow ρc k r v := by
  cases st with
  | true => exact relRow_im hc hr
  | false =>
    rcases hr with hr | ⟨h1, A, cap, h2, h3, h4, h5⟩
    · exact .inl hr
    · refine .inr ⟨h1, A, cap, h2, h3, h4, fun j hj => hc _ _ (h.imm _ _ (h5 j hj)) fun t pl ht hpl he => ?_⟩
      obtain ⟨b0, g1, g2⟩ := hO t ht
      have := h.isep t b0 pl g1 g2 hpl _ he.symm
      rw [h5 j hj] at this; cases this

theorem add_block (A : Addr) (j : Nat) : (A.add j).block = A.block := by unfold Addr.add; split <;> rfl
theorem srcT_live {k : IntKind} {nl : Bool} {t o f n : Nat} {q : Cd} {g : Nat → Int} (e : s.srcT k nl t o f n = some (q, g)) (hnl : nl = false) : ∃ b, getA s.heap t = some b ∧ b.live = true := by
  have hl : ∀ q' b, s.hp t = some (q', b) → b.live = true → ∃ b, getA s.heap t = some b ∧ b.live = true := by
    intro q' b e hb
    unfold St.hp at e
    split at e
    · rename_i g g' b' hq; injection e with e; injection e with e1 e2; subst e2; exact ⟨_, hq, hb⟩
    · rename_i g b' _ hq; injection e with e; injection e with e1 e2; subst e2; exact ⟨_, hq, hb⟩
    · rename_i b' _ _ hq; injection e with e; injection e with e1 e2; subst e2; exact ⟨_, hq, hb⟩
    · cases e
  unfold St.srcT at e
  split at e
  · rename_i hq; exact hl _ _ hq rfl
  · rename_i hq; exact hl _ _ hq rfl
  · subst hnl; cases e

theorem impS_ok (h : R W w0 F ρ s a w) (hc : Cal st ρ w OW ρc) (hO : OwnIn s OW) {k : IntKind} {c : SC} {q : Cd} {nl : Bool} {f : Nat → Int} {n : Nat} {rd : List Nat} {v : Value} (e : impS s st k c = some (q, nl, f, n, rd)) (hq : q.holds) (hv : Rel1 ρ c v) (ha : apart OW rd = true) :
    RelRow ρc k ⟨nl, f, n⟩ v := by
  unfold impS at e
  split at e
  · split at e
    · rename_i hk
      obtain rfl := kEq_spec hk
      simp only [Option.some.injEq, Prod.mk.injEq] at e
      obtain ⟨rfl, rfl, rfl, rfl, rfl⟩ := e
      exact cal_row h hc hO hv
    · cases e
  · split at e
    · cases e
    · rename_i nl0 ex z t o i n0 c0 _
      split at e
      · rename_i q0 g0 hs
        simp only [Option.some.injEq, Prod.mk.injEq] at e
        obtain ⟨rfl, rfl, rfl, rfl, rfl⟩ := e
        rcases srcT_ok h hs hq hv with ⟨e1, e2⟩ | ⟨A, cap, e1, e2, e3⟩
        · subst e2
          rcases hv with ⟨v1, _⟩ | ⟨_, A, cap, v2, _⟩
          · exact .inl ⟨v1, e1, rfl⟩
          · rw [e1] at v2; cases v2
        · rcases hv with ⟨_, v2, _⟩ | ⟨v1, A', cap', v2, v3, v4, v5, v6, v7⟩
          · rw [e1] at v2; cases v2
          · rw [e1] at v2
            injection v2 with v2 _ v2'
            injection v2 with v2
            subst v2; subst v2'
            obtain ⟨b, hb1, hb2⟩ := srcT_live hs v1
            refine .inr ⟨v1, A, cap, e1, e2.1, e2.2, fun j hj => hc _ _ (e3 j hj) fun t' pl' ht' hpl' he => ?_⟩
            simp only at hj
            obtain ⟨pl, g1, g2, g3⟩ := v6 (.inl (by omega))
            obtain ⟨b0, k1, k2⟩ := hO t' ht'
            rw [add_block, g2] at he
            refine h.inj t' t b0 b ?_ k1 hb1 k2 hb2 pl' pl hpl' g1 he
            rintro rfl
            exact apart_ok ha t' (by simp) ht'
      · cases e
  · cases e

theorem impRows_ok (h : R W w0 F ρ s a w) (hc : Cal st ρ w OW ρc) (hO : OwnIn s OW) {k : IntKind} : ∀ {l : List Seg} {q : Cd} {g : Nat → Row} {n : Nat} {rd : List Nat} {us : List Value}, impRows s st k l = some (q, g, n, rd) → q.holds → RelS ρ l us → apart OW rd = true →
    us.length = n ∧ ∀ j u, us[j]? = some u → RelRow ρc k (g j) u
  | [], q, g, n, rd, us, e, _, hr, _ => by
    simp only [impRows, Option.some.injEq, Prod.mk.injEq] at e
    obtain ⟨rfl, rfl, rfl, rfl⟩ := e
    simp only [RelS] at hr
    subst hr
    exact ⟨rfl, fun j u hj => by simp at hj⟩
  | [.one c], q, g, n, rd, us, e, hq, hr, ha => by
    obtain ⟨v, vs, rfl, h1, h2⟩ := hr
    simp only [RelS] at h2
    subst h2
    simp only [impRows] at e
    split at e
    · rename_i q0 nl f n0 rd0 hs
      simp only [Option.some.injEq, Prod.mk.injEq] at e
      obtain ⟨rfl, rfl, rfl, rfl⟩ := e
      refine ⟨rfl, fun j u hj => ?_⟩
      cases j with
      | zero => simp at hj; subst hj; exact impS_ok h hc hO hs hq h1 ha
      | succ j => simp at hj
    · cases e
  | .one c :: b :: r, q, g, n, rd, us, e, hq, hr, ha => by
    obtain ⟨v, vs, rfl, h1, h2⟩ := hr
    rw [impRows] at e
    split at e
    · rename_i q0 nl f n0 rd0 hs
      split at e
      · rename_i hh; cases hh
      · split at e
        · rename_i q' g' m rd' he
          simp only [Option.some.injEq, Prod.mk.injEq] at e
          obtain ⟨rfl, rfl, rfl, rfl⟩ := e
          obtain ⟨a1, a2⟩ := apart_append ha
          obtain ⟨k1, k2⟩ := impRows_ok h hc hO he hq.2 h2 a2
          refine ⟨by simp [k1]; omega, fun j u hj => ?_⟩
          unfold putR
          cases j with
          | zero => simp at hj; subst hj; exact impS_ok h hc hO hs hq.1 h1 a1
          | succ j => simp at hj; rw [if_neg (by omega)]; exact k2 j u hj
        · cases e
    · cases e
  | [.rows k' g0 n0], q, g, n, rd, us, e, hq, hr, ha => by
    obtain ⟨us0, vs, rfl, h0, h1, h2⟩ := hr
    simp only [RelS] at h2
    subst h2
    simp only [impRows] at e
    split at e
    · rename_i hk
      obtain rfl := kEq_spec hk
      simp only [Option.some.injEq, Prod.mk.injEq] at e
      obtain ⟨rfl, rfl, rfl, rfl⟩ := e
      exact ⟨by simpa using h0, fun j u hj => cal_row h hc hO (h1 j u (by simpa using hj))⟩
    · cases e
  | .rows k' g0 n0 :: b :: r, q, g, n, rd, us, e, hq, hr, ha => by
    obtain ⟨us0, vs, rfl, h0, h1, h2⟩ := hr
    rw [impRows] at e
    · split at e
      · rename_i hk
        obtain rfl := kEq_spec hk
        split at e
        · rename_i q' g' m rd' he
          simp only [Option.some.injEq, Prod.mk.injEq] at e
          obtain ⟨rfl, rfl, rfl, rfl⟩ := e
          obtain ⟨k1, k2⟩ := impRows_ok h hc hO he hq h2 ha
          refine ⟨by simp [k1, h0], fun j u hj => ?_⟩
          unfold putR
          by_cases hjn : j < n0
          · rw [if_pos hjn]
            rw [List.getElem?_append_left (by omega)] at hj
            exact cal_row h hc hO (h1 j u hj)
          · rw [if_neg hjn]
            rw [List.getElem?_append_right (by omega), h0] at hj
            exact k2 _ u hj
        · cases e
      · cases e
    · simp
  | .ints _ _ _ :: _, _, _, _, _, _, e, _, _, _ => by simp only [impRows, reduceCtorEq] at e

theorem impO_ok (h : R W w0 F ρ s a w) {e : TypeId} {k : IntKind} {c : SC} {q : Cd} {nl : Bool} {f : Nat → Int} {n : Nat} {t : Option Nat} {v : Value} (he : impO s e k c = some (q, nl, f, n, t)) (hq : q.holds) (hv : Rel1 ρ c v) :
    (∀ t', t = some t' → ∃ b0, getA s.heap t' = some b0 ∧ b0.isOwn = true) ∧ ∀ (ρc : Rho) (τ : Nat), ρc τ = plO ρ t → Rel1 ρc (ownA nl n τ) v ∧ Sat ρc w (ownB e k f n) τ := by
  unfold impO at he
  split at he
  · rename_i nl0 ex z t0 o i n0 c0
    split at he
    · rename_i q0 e' k' g M mo hb
      split at he
      · rename_i hek
        simp only [Bool.and_eq_true, Nat.beq_eq] at hek
        obtain ⟨rfl, hk⟩ := hek
        obtain rfl := kEq_spec hk
        simp only [Option.some.injEq, Prod.mk.injEq] at he
        obtain ⟨rfl, rfl, rfl, rfl, rfl⟩ := he
        refine ⟨(fun t' ht => by injection ht with ht; subst ht; exact hp_own hb), fun ρc τ hpl => ?_⟩
        obtain ⟨hq1, hq2⟩ := hq
        have hq1 : 0 < n0 → q0.holds ∧ n0 ≤ M := hq1
        have hpl : ρc τ = ρ t0 := hpl
        constructor
        · rcases hv with ⟨v1, v2, v3, v4⟩ | ⟨v1, A, cap, v2, v3, v4, v5, v6, v7⟩
          · exact .inl ⟨v1, v2, v3, v3⟩
          · refine .inr ⟨v1, A, cap, v2, Nat.le_refl _, by omega, v5, fun hc => ?_, fun _ hn => ?_⟩
            · obtain ⟨pl, g1, g2⟩ := v6 (.inl (hc.resolve_right (by simp)))
              exact ⟨pl, hpl.trans g1, g2⟩
            · cases z with
              | true => exact v7 rfl hn
              | false => have hq2 : nl0 = false → 0 < n0 := hq2; have := hq2 v1; omega
        · intro hg
          have hn : 0 < n0 := by simpa using hg
          obtain ⟨g1, g2⟩ := hq1 hn
          obtain ⟨pl, vs, post, u1, u2, u3, u4, ⟨vs', rfl, u5⟩, u6⟩ := hp_ok h hb g1
          simp only [RelS] at u5
          subst u5
          rw [List.append_nil] at u3 u4
          refine ⟨pl, intsV k g n0, (intsV k g M).drop n0 ++ post, hpl.trans u1, u2, ?_, ?_, ⟨[], by simp, rfl⟩, fun hh => by cases hh⟩
          · rw [← intsV_take k g n0 M g2, ← List.append_assoc, List.take_append_drop]; exact u3
          · rw [← intsV_take k g n0 M g2, ← List.append_assoc, List.take_append_drop]; exact u4
      · cases he
    · split at he
      · simp only [Option.some.injEq, Prod.mk.injEq] at he
        obtain ⟨rfl, rfl, rfl, rfl, rfl⟩ := he
        refine ⟨(fun t' ht => by cases ht), fun ρc τ hpl => ?_⟩
        rcases hv with ⟨v1, v2, v3, v4⟩ | ⟨v1, _⟩
        · subst v3
          exact ⟨.inl ⟨rfl, v2, rfl, rfl⟩, fun hg => by simp at hg⟩
        · cases v1
      · cases he
    · cases he
  · cases he

theorem noTag_ok {c : SC} {v : Value} (h : noTag c = true) (r : Rel1 ρ c v) : Rel1 ρc c v := by
  cases c <;> first | exact r | cases h
theorem noTagS_ok : ∀ {l : List Seg} {vs : List Value}, noTagS l = true → RelS ρ l vs → RelS ρc l vs
  | [], _, _, r => r
  | .one c :: l, _, h, ⟨v, vs, e, h1, h2⟩ => by
    simp only [noTagS, Bool.and_eq_true] at h
    exact ⟨v, vs, e, noTag_ok h.1 h1, noTagS_ok h.2 h2⟩
  | .ints _ _ _ :: l, _, h, ⟨vs, e, h2⟩ => ⟨vs, e, noTagS_ok (l := l) h h2⟩
  | .rows _ _ _ :: _, _, h, _ => by cases h

/-- Do the callee's places and values stand as the lists say? -/
structure Fits (ρ : Rho) (τ ο : Nat) (ow : List (Option Nat)) (ovs : List Value) (ρc : Rho) : Prop where
  pl : ∀ (i : Nat) (o : Option Nat), ow[i]? = some o → ρc (τ + i) = plO ρ o
  oq : ∀ (i : Nat) (v : Value), ovs[i]? = some v → ρc.oq (ο + i) = v
theorem Fits.left {τ ο : Nat} {ow ow' : List (Option Nat)} {ovs ovs' : List Value} (h : Fits ρ τ ο (ow ++ ow') (ovs ++ ovs') ρc) : Fits ρ τ ο ow ovs ρc :=
  ⟨fun i o hi => h.pl i o (by rw [List.getElem?_append_left (List.getElem?_eq_some_iff.1 hi).1]; exact hi), fun i v hi => h.oq i v (by rw [List.getElem?_append_left (List.getElem?_eq_some_iff.1 hi).1]; exact hi)⟩
theorem Fits.right {τ ο : Nat} {ow ow' : List (Option Nat)} {ovs ovs' : List Value} (h : Fits ρ τ ο (ow ++ ow') (ovs ++ ovs') ρc) : Fits ρ (τ + ow.length) (ο + ovs.length) ow' ovs' ρc :=
  ⟨fun i o hi => by rw [Nat.add_assoc]; exact h.pl _ o (by rw [List.getElem?_append_right (by omega), Nat.add_sub_cancel_left]; exact hi), fun i v hi => by rw [Nat.add_assoc]; exact h.oq _ v (by rw [List.getElem?_append_right (by omega), Nat.add_sub_cancel_left]; exact hi)⟩
/-- What is known of the values that are handed on. -/
def Ops (ρ : Rho) (os : List SC) (ovs : List Value) : Prop := ovs.length = os.length ∧ ∀ (i : Nat) (c : SC) (v : Value), os[i]? = some c → ovs[i]? = some v → Rel1 ρ c v
theorem Ops.append {os os' : List SC} {ovs ovs' : List Value} (h : Ops ρ os ovs) (h' : Ops ρ os' ovs') : Ops ρ (os ++ os') (ovs ++ ovs') := by
  refine ⟨by simp [h.1, h'.1], fun i c v hi hv => ?_⟩
  by_cases hlt : i < os.length
  · rw [List.getElem?_append_left hlt] at hi
    rw [List.getElem?_append_left (by rw [h.1]; exact hlt)] at hv
    exact h.2 i c v hi hv
  · rw [List.getElem?_append_right (by omega)] at hi
    rw [List.getElem?_append_right (by rw [h.1]; omega), h.1] at hv
    exact h'.2 _ c v hi hv
theorem Ops.nil : Ops ρ [] [] := ⟨rfl, fun i c v hi => by simp at hi⟩
theorem OwnIn.nil : OwnIn s [] := fun t h => by cases h
theorem OwnIn.append {o o' : List (Option Nat)} (h : OwnIn s o) (h' : OwnIn s o') : OwnIn s (o ++ o') := fun t ht => (List.mem_append.1 ht).elim (h t) (h' t)
/-- Blocks that stand, below the next tag. -/
structure Hok (ρc : Rho) (w : World) (τ m : Nat) (H : List (Nat × SB)) : Prop where
  sat : ∀ x ∈ H, Sat ρc w x.2 x.1
  key : ∀ x ∈ H, τ ≤ x.1 ∧ x.1 < τ + m

theorem impF_ok (h : R W w0 F ρ s a w) : ∀ {ms : List FM} {l : List Seg} {q : Cd} {fvs : List FV} {ow : List (Option Nat)} {os : List SC} {vs : List Value} {τ ο τ' ο' : Nat} {l' : List Seg} {H : List (Nat × SB)}, impF s ms l = some (q, fvs, ow, os) → q.holds → RelS ρ l vs → bldF ms fvs τ ο = some (l', H, τ', ο') →
    ∃ ovs, Ops ρ os ovs ∧ OwnIn s ow ∧ τ' = τ + ow.length ∧ ο' = ο + os.length ∧ ∀ ρc, Fits ρ τ ο ow ovs ρc → RelS ρc l' vs ∧ Hok ρc w τ ow.length H
  | [], l, q, fvs, ow, os, vs, τ, ο, τ', ο', l', H, e, hq, hr, hb => by
    cases l with
    | cons _ _ => cases e
    | nil =>
      simp only [impF, Option.some.injEq, Prod.mk.injEq] at e
      obtain ⟨rfl, rfl, rfl, rfl⟩ := e
      simp only [bldF, Option.some.injEq, Prod.mk.injEq] at hb
      obtain ⟨rfl, rfl, rfl, rfl⟩ := hb
      simp only [RelS] at hr
      subst hr
      exact ⟨[], Ops.nil, OwnIn.nil, rfl, rfl, fun ρc _ => ⟨rfl, ⟨(fun x hx => by cases hx), (fun x hx => by cases hx)⟩⟩⟩
  | .i k n :: ms, l, q, fvs, ow, os, vs, τ, ο, τ', ο', l', H, e, hq, hr, hb => by
    cases l with
    | nil => cases e
    | cons b r =>
      cases b with
      | one _ => cases e
      | rows _ _ _ => cases e
      | ints k' f n' =>
        simp only [impF] at e
        split at e
        · rename_i hk
          simp only [Bool.and_eq_true, Nat.beq_eq] at hk
          obtain ⟨hk, rfl⟩ := hk
          obtain rfl := kEq_spec hk
          split at e
          · rename_i q0 vs0 ow0 os0 he
            simp only [Option.some.injEq, Prod.mk.injEq] at e
            obtain ⟨rfl, rfl, rfl, rfl⟩ := e
            simp only [bldF] at hb
            split at hb
            · rename_i l0 H0 t0 o0 hb0
              simp only [Option.some.injEq, Prod.mk.injEq] at hb
              obtain ⟨rfl, rfl, rfl, rfl⟩ := hb
              obtain ⟨vs', rfl, h2⟩ := hr
              obtain ⟨ovs, g1, g2, g3, g4, g5⟩ := impF_ok h he hq h2 hb0
              exact ⟨ovs, g1, g2, g3, g4, fun ρc hc => ⟨⟨vs', rfl, (g5 ρc hc).1⟩, (g5 ρc hc).2⟩⟩
            · cases hb
          · cases e
        · cases e
  | .s :: ms, l, q, fvs, ow, os, vs, τ, ο, τ', ο', l', H, e, hq, hr, hb => by
    cases l with
    | nil => cases e
    | cons b r =>
      cases b with
      | ints _ _ _ => cases e
      | rows _ _ _ => cases e
      | one c =>
        simp only [impF] at e
        split at e
        · rename_i hn
          split at e
          · rename_i q0 vs0 ow0 os0 he
            simp only [Option.some.injEq, Prod.mk.injEq] at e
            obtain ⟨rfl, rfl, rfl, rfl⟩ := e
            simp only [bldF] at hb
            split at hb
            · rename_i l0 H0 t0 o0 hb0
              simp only [Option.some.injEq, Prod.mk.injEq] at hb
              obtain ⟨rfl, rfl, rfl, rfl⟩ := hb
              obtain ⟨v, vs', rfl, h1, h2⟩ := hr
              obtain ⟨ovs, g1, g2, g3, g4, g5⟩ := impF_ok h he hq h2 hb0
              exact ⟨ovs, g1, g2, g3, g4, fun ρc hc => ⟨⟨v, vs', rfl, noTag_ok hn h1, (g5 ρc hc).1⟩, (g5 ρc hc).2⟩⟩
            · cases hb
          · cases e
        · cases e
  | .a e0 k :: ms, l, q, fvs, ow, os, vs, τ, ο, τ', ο', l', H, e, hq, hr, hb => by
    cases l with
    | nil => cases e
    | cons b r =>
      cases b with
      | ints _ _ _ => cases e
      | rows _ _ _ => cases e
      | one c =>
        simp only [impF] at e
        split at e
        · rename_i q1 nl f n t hO
          split at e
          · rename_i q0 vs0 ow0 os0 he
            simp only [Option.some.injEq, Prod.mk.injEq] at e
            obtain ⟨rfl, rfl, rfl, rfl⟩ := e
            simp only [bldF] at hb
            split at hb
            · rename_i l0 H0 t0 o0 hb0
              simp only [Option.some.injEq, Prod.mk.injEq] at hb
              obtain ⟨rfl, rfl, rfl, rfl⟩ := hb
              obtain ⟨v, vs', rfl, h1, h2⟩ := hr
              obtain ⟨ovs, g1, g2, g3, g4, g5⟩ := impF_ok h he hq.2 h2 hb0
              obtain ⟨k1, k2⟩ := impO_ok h hO hq.1 h1
              refine ⟨ovs, g1, fun t' ht' => ?_, by rw [g3]; simp; omega, g4, fun ρc hc => ?_⟩
              · rcases List.mem_cons.1 ht' with ht' | ht'
                · exact k1 t' ht'.symm
                · exact g2 t' ht'
              · have hc' : Fits ρ (τ + 1) ο ow0 ovs ρc := Fits.right (ow := [t]) (ovs := []) (by simpa using hc)
                obtain ⟨m1, m2⟩ := g5 ρc hc'
                obtain ⟨m3, m4⟩ := k2 ρc τ (by have := hc.pl 0 t (by simp); simpa using this)
                refine ⟨⟨v, vs', rfl, m3, m1⟩, ⟨fun x hx => ?_, fun x hx => ?_⟩⟩
                · rcases List.mem_cons.1 hx with rfl | hx
                  · exact m4
                  · exact m2.sat x hx
                · rcases List.mem_cons.1 hx with rfl | hx
                  · exact ⟨Nat.le_refl _, by simp⟩
                  · have := m2.key x hx; simp only [List.length_cons]; omega
            · cases hb
          · cases e
        · cases e
  | .o :: ms, l, q, fvs, ow, os, vs, τ, ο, τ', ο', l', H, e, hq, hr, hb => by
    cases l with
    | nil => cases e
    | cons b r =>
      cases b with
      | ints _ _ _ => cases e
      | rows _ _ _ => cases e
      | one c =>
        simp only [impF] at e
        split at e
        · rename_i q0 vs0 ow0 os0 he
          simp only [Option.some.injEq, Prod.mk.injEq] at e
          obtain ⟨rfl, rfl, rfl, rfl⟩ := e
          simp only [bldF] at hb
          split at hb
          · rename_i l0 H0 t0 o0 hb0
            simp only [Option.some.injEq, Prod.mk.injEq] at hb
            obtain ⟨rfl, rfl, rfl, rfl⟩ := hb
            obtain ⟨v, vs', rfl, h1, h2⟩ := hr
            obtain ⟨ovs, g1, g2, g3, g4, g5⟩ := impF_ok h he hq h2 hb0
            refine ⟨v :: ovs, ?_, g2, g3, by rw [g4]; simp; omega, fun ρc hc => ?_⟩
            · have : Ops ρ [c] [v] := ⟨rfl, fun i c' v' hi hv => by
                cases i with
                | zero => simp at hi hv; subst hi; subst hv; exact h1
                | succ i => simp at hi⟩
              exact this.append g1
            · have hc' : Fits ρ τ (ο + 1) _ ovs ρc := Fits.right (ow := []) (ovs := [v]) (by simpa using hc)
              obtain ⟨m1, m2⟩ := g5 ρc hc'
              refine ⟨⟨v, vs', rfl, ⟨?_, rel1_one h1⟩, m1⟩, m2⟩
              have := hc.oq 0 v (by simp)
              simpa using this.symm
          · cases hb
        · cases e

theorem imp1_ok (h : R W w0 F ρ s a w) {m : Md} {x : SA} {i : Im} {v : Value} {τ ο τ' ο' : Nat} {y : SA} {H : List (Nat × SB)} (e : imp1 s st m x = some i) (hq : i.c.holds) (hv : RelA ρ x v) (hb : bld1 m i.v τ ο = some (y, H, τ', ο')) :
    ∃ ovs, Ops ρ i.ops ovs ∧ OwnIn s i.own ∧ τ' = τ + i.own.length ∧ ο' = ο + i.ops.length ∧ ∀ (OW : List (Option Nat)) (ρc : Rho), OwnIn s OW → Cal st ρ w OW ρc → apart OW i.rd = true → Fits ρ τ ο i.own ovs ρc → RelA ρc y v ∧ Hok ρc w τ i.own.length H := by
  have hnil : ∀ ρc : Rho, Hok ρc w τ 0 [] := fun ρc => ⟨(fun x hx => by cases hx), (fun x hx => by cases hx)⟩
  unfold imp1 at e
  split at e
  · split at e
    · rename_i c hn
      injection e with e; subst e
      simp only [bld1, Option.some.injEq, Prod.mk.injEq] at hb
      obtain ⟨rfl, rfl, rfl, rfl⟩ := hb
      exact ⟨[], Ops.nil, OwnIn.nil, rfl, rfl, fun OW ρc _ _ _ _ => ⟨noTag_ok hn hv, hnil ρc⟩⟩
    · cases e
  · split at e
    · rename_i l hn
      injection e with e; subst e
      simp only [bld1, Option.some.injEq, Prod.mk.injEq] at hb
      obtain ⟨rfl, rfl, rfl, rfl⟩ := hb
      obtain ⟨vs, rfl, hv⟩ := hv
      exact ⟨[], Ops.nil, OwnIn.nil, rfl, rfl, fun OW ρc _ _ _ _ => ⟨⟨vs, rfl, noTagS_ok hn hv⟩, hnil ρc⟩⟩
    · cases e
  · split at e
    · rename_i q nl f n rd hs
      injection e with e; subst e
      simp only [bld1, Option.some.injEq, Prod.mk.injEq] at hb
      obtain ⟨rfl, rfl, rfl, rfl⟩ := hb
      exact ⟨[], Ops.nil, OwnIn.nil, rfl, rfl, fun OW ρc hO hc ha _ => ⟨impS_ok h hc hO hs hq hv ha, hnil ρc⟩⟩
    · cases e
  · split at e
    · rename_i nl k' g n hk
      obtain rfl := kEq_spec hk
      injection e with e; subst e
      simp only [bld1, Option.some.injEq, Prod.mk.injEq] at hb
      obtain ⟨rfl, rfl, rfl, rfl⟩ := hb
      refine ⟨[], Ops.nil, OwnIn.nil, rfl, rfl, fun OW ρc hO hc ha _ => ⟨?_, hnil ρc⟩⟩
      rcases hv with hv | ⟨v1, A, cap, v2, v3, v4, v5⟩
      · exact .inl hv
      · refine .inr ⟨v1, A, cap, v2, v3, v4, fun j hj => ?_⟩
        obtain ⟨u, g1, g2⟩ := v5 j hj
        refine ⟨u, ?_, cal_row h hc hO g2⟩
        cases st with
        | true => have hc : ρc.im = ρ.im := hc; rw [hc]; exact g1
        | false =>
          refine hc _ _ (h.imm _ _ g1) fun t pl ht hpl he => ?_
          obtain ⟨b0, k1, k2⟩ := hO t ht
          have := h.isep t b0 pl k1 k2 hpl _ he.symm
          rw [g1] at this; cases this
    · cases e
  · rename_i k nl ex z t o i0 n c0
    split at e
    · cases e
    · split at e
      · rename_i q bt l mo hb0
        split at e
        · rename_i q' g m0 rd hr
          injection e with e; subst e
          simp only [bld1, Option.some.injEq, Prod.mk.injEq] at hb
          obtain ⟨rfl, rfl, rfl, rfl⟩ := hb
          refine ⟨[], Ops.nil, OwnIn.nil, rfl, rfl, fun OW ρc hO hc ha _ => ⟨?_, hnil ρc⟩⟩
          obtain ⟨hq1, hq2, hq3⟩ := hq
          have hq1 : 0 < n → q.holds := hq1
          have hq2 : n = m0 := hq2
          simp only [apart, Bool.and_eq_true, Bool.not_eq_true'] at ha
          rcases hv with ⟨v1, v2, v3, v4⟩ | ⟨v1, A, cap, v2, v3, v4, v5, v6, v7⟩
          · exact .inl ⟨v1, v2, v3⟩
          · refine .inr ⟨v1, A, cap, v2, by omega, v5, fun j hj => ?_⟩
            obtain ⟨pl, g1, g2, g3⟩ := v6 (.inl (by omega))
            obtain ⟨pl', vs, post, u1, u2, u3, u4, u5, u6⟩ := hp_ok h hb0 (hq1 (by omega))
            rw [g1] at u1; injection u1 with u1; subst u1
            obtain ⟨k1, k2⟩ := impRows_ok h hc hO hr hq3 u5 ha.2
            have hjv : j < vs.length := by omega
            refine ⟨vs[j], ?_, k2 j _ (by simp [hjv])⟩
            refine hc _ _ ?_ fun t' pl' ht' hpl' he => ?_
            · rw [g2, u2, Nat.add_zero, Addr.add_mid, Nat.zero_add, cell_in u3, List.getElem?_append_left hjv]; simp [hjv]
            · obtain ⟨b0, y1, y2⟩ := hO t' ht'
              rw [add_block, g2] at he
              obtain ⟨b1, y3, y4⟩ := hp_own hb0
              refine h.inj t' t b0 b1 ?_ y1 y3 y2 (SB.live_of_own y4) pl' pl hpl' g1 he
              rintro rfl
              rw [memO_iff.2 ht'] at ha; exact absurd ha.1 (by simp)
        · cases e
      · split at e
        · injection e with e; subst e
          simp only [bld1, Option.some.injEq, Prod.mk.injEq] at hb
          obtain ⟨rfl, rfl, rfl, rfl⟩ := hb
          refine ⟨[], Ops.nil, OwnIn.nil, rfl, rfl, fun OW ρc hO hc ha _ => ⟨?_, hnil ρc⟩⟩
          rcases hv with ⟨v1, v2, v3, v4⟩ | ⟨v1, _⟩
          · exact .inl ⟨rfl, v2, v3⟩
          · cases v1
        · cases e
      · cases e
  · split at e
    · rename_i q nl f n t hO
      injection e with e; subst e
      simp only [bld1, Option.some.injEq, Prod.mk.injEq] at hb
      obtain ⟨rfl, rfl, rfl, rfl⟩ := hb
      obtain ⟨k1, k2⟩ := impO_ok h hO hq hv
      refine ⟨[], Ops.nil, fun t' ht' => k1 t' (by have ht' : some t' ∈ [t] := ht'; simp only [List.mem_singleton] at ht'; exact ht'.symm), rfl, rfl, fun OW ρc _ _ _ hf => ?_⟩
      obtain ⟨m3, m4⟩ := k2 ρc τ (by have := hf.pl 0 t (by simp); simpa using this)
      exact ⟨m3, ⟨fun x hx => by simp only [List.mem_singleton] at hx; subst hx; exact m4, fun x hx => by simp only [List.mem_singleton] at hx; subst hx; simp⟩⟩
    · cases e
  · rename_i ty fs t
    split at e
    · rename_i q ty' l hb0
      split at e
      · rename_i hty
        rw [Nat.beq_eq] at hty
        subst hty
        split at e
        · rename_i q' fvs ow os hf
          injection e with e; subst e
          simp only [bld1] at hb
          split at hb
          · rename_i l' H' t' o' hbf
            simp only [Option.some.injEq, Prod.mk.injEq] at hb
            obtain ⟨rfl, rfl, rfl, rfl⟩ := hb
            obtain ⟨pl0, vs, post, u1, u2, u3, u4, u5, u6⟩ := hp_ok h hb0 hq.1
            obtain ⟨ovs, g1, g2, g3, g4, g5⟩ := impF_ok h hf hq.2 u5 hbf
            refine ⟨ovs, g1, fun t'' ht'' => ?_, by rw [g3]; simp; omega, g4, fun OW ρc hO hc ha hfit => ?_⟩
            · rcases List.mem_cons.1 ht'' with ht'' | ht''
              · injection ht'' with ht''; subst ht''; exact hp_own hb0
              · exact g2 t'' ht''
            · have hfit' : Fits ρ (τ + 1) ο ow ovs ρc := Fits.right (ow := [some t]) (ovs := []) (by simpa using hfit)
              obtain ⟨m1, m2⟩ := g5 ρc hfit'
              have hpl : ρc τ = ρ t := by have := hfit.pl 0 (some t) (by simp); simpa [plO] using this
              refine ⟨?_, ⟨fun x hx => ?_, fun x hx => ?_⟩⟩
              · obtain ⟨pl, y1, y2⟩ := hv
                exact ⟨pl, hpl.trans y1, y2⟩
              · rcases List.mem_cons.1 hx with rfl | hx
                · exact ⟨pl0, vs, post, hpl.trans u1, u2, u3, u4, m1, u6⟩
                · exact m2.sat x hx
              · rcases List.mem_cons.1 hx with rfl | hx
                · exact ⟨Nat.le_refl _, by simp⟩
                · have := m2.key x hx; simp only [List.length_cons]; omega
          · cases hb
        · cases e
      · cases e
    · cases e
  · cases e

theorem impL_ok (h : R W w0 F ρ s a w) : ∀ {ms : List Md} {xs : List SA} {i : ImL} {vals : List Value} {τ ο τ' ο' : Nat} {A : List SA} {H : List (Nat × SB)}, impL s st ms xs = some i → i.c.holds → RelL ρ xs vals → bld ms i.v τ ο = some (A, H, τ', ο') →
    ∃ ovs, Ops ρ i.ops ovs ∧ OwnIn s i.own ∧ τ' = τ + i.own.length ∧ ο' = ο + i.ops.length ∧ ∀ (OW : List (Option Nat)) (ρc : Rho), OwnIn s OW → Cal st ρ w OW ρc → apart OW i.rd = true → Fits ρ τ ο i.own ovs ρc → RelL ρc A vals ∧ Hok ρc w τ i.own.length H
  | [], xs, i, vals, τ, ο, τ', ο', A, H, e, hq, hv, hb => by
    cases xs with
    | cons _ _ => cases e
    | nil =>
      simp only [impL, Option.some.injEq] at e
      subst e
      simp only [bld, Option.some.injEq, Prod.mk.injEq] at hb
      obtain ⟨rfl, rfl, rfl, rfl⟩ := hb
      simp only [RelL] at hv
      subst hv
      exact ⟨[], Ops.nil, OwnIn.nil, rfl, rfl, fun OW ρc _ _ _ _ => ⟨rfl, ⟨(fun x hx => by cases hx), (fun x hx => by cases hx)⟩⟩⟩
  | m :: ms, xs, i, vals, τ, ο, τ', ο', A, H, e, hq, hv, hb => by
    cases xs with
    | nil => cases e
    | cons x xs =>
      simp only [impL] at e
      split at e
      · rename_i c v ow rd os c' vs ow' rd' os' e1 e2
        injection e with e; subst e
        simp only [bld] at hb
        split at hb
        · rename_i y H1 t1 o1 hb1
          split at hb
          · rename_i A2 H2 t2 o2 hb2
            simp only [Option.some.injEq, Prod.mk.injEq] at hb
            obtain ⟨rfl, rfl, rfl, rfl⟩ := hb
            obtain ⟨u, us, rfl, hv1, hv2⟩ := hv
            obtain ⟨ovs, g1, g2, g3, g4, g5⟩ := imp1_ok h e1 hq.1 hv1 hb1
            obtain ⟨ovs', g1', g2', g3', g4', g5'⟩ := impL_ok h e2 hq.2 hv2 hb2
            simp only at g1 g2 g3 g4 g5 g1' g2' g3' g4' g5'
            subst g3; subst g4
            refine ⟨ovs ++ ovs', g1.append g1', g2.append g2', by simp only [List.length_append]; omega, by simp only [List.length_append]; omega, fun OW ρc hO hc ha hf => ?_⟩
            obtain ⟨a1, a2⟩ := apart_append ha
            obtain ⟨m1, m2⟩ := g5 OW ρc hO hc a1 hf.left
            obtain ⟨m3, m4⟩ := g5' OW ρc hO hc a2 (g1.1 ▸ hf.right)
            refine ⟨⟨u, us, rfl, m1, m3⟩, ⟨fun z hz => (List.mem_append.1 hz).elim (m2.sat z) (m4.sat z), fun z hz => ?_⟩⟩
            simp only [List.length_append]
            rcases List.mem_append.1 hz with hz | hz
            · have := m2.key z hz; omega
            · have := m4.key z hz; omega
          · cases hb
        · cases hb
      · cases e

/-- WHAT A FUNCTION SAYS, FOR ANY CALLER. -/
theorem sum_ok {f : FuncId} {ms : List Md} {spec : List Vw → Option Res} (hF : ∀ vs A H n o r, bld ms vs 0 0 = some (A, H, n, o) → spec vs = some r → FSound P f A H n r) : SumOk P f (mkS st ms spec) := by
  intro W w0 F ρ s a w l vs r h hl e hp
  unfold mkS at e
  cases s with
  | mk sz fr hp nx =>
  simp only at e
  split at e
  rotate_left
  · cases e
  rename_i c vws own rd ops hi
  split at e
  rotate_left
  · cases e
  rename_i hchk
  simp only [Bool.and_eq_true] at hchk
  split at e
  rotate_left
  · cases e
  rename_i A H n o hb
  split at e
  rotate_left
  · cases e
  rename_i rp rv rd rn hr
  have e' : (∀ sv, rv = some sv → okV st sv = true) ∧ r = ⟨.and c rp, rv.map (renV ⟨sigOf 0 own, st, ops, n, nx⟩), renD ⟨sigOf 0 own, st, ops, n, nx⟩ rd, nx + (rn - n)⟩ := by
    cases rv with
    | none => simp only at e; injection e with e; exact ⟨fun sv h => (by cases h), e.symm⟩
    | some v =>
      simp only at e
      split at e
      · rename_i hv
        rw [forceV_eq] at e
        injection e with e
        exact ⟨fun sv h => (by injection h with h; subst h; exact hv), e.symm⟩
      · cases e
  obtain ⟨hokv, e⟩ := e'
  subst e
  obtain ⟨hpp1, hp2⟩ := hp
  obtain ⟨ovs, g1, g2, g3, g4, g5⟩ := impL_ok h hi hpp1 hl hb
  simp only [Nat.zero_add] at g1 g2 g3 g4 g5
  classical
  let ρc : Rho := ⟨fun t => if t < n then match getA (sigOf 0 own) t with | some (some t') => ρ t' | _ => none else none,
    match st with | true => ρ.im | false => fun A => if (∃ t pl, some t ∈ own ∧ ρ t = some pl ∧ pl.b = A.block) then none else w.cell? A, fun i => ovs.getD i undef⟩
  have hsig : ∀ t, getA (sigOf 0 own) t = own[t]? := fun t => by rw [sig_get]; simp
  have hcal : Cal st ρ w own ρc := by
    cases st with
    | true => exact rfl
    | false =>
      intro A v hA hne
      show (if _ then none else w.cell? A) = some v
      rw [if_neg]
      · exact hA
      · rintro ⟨t, pl, h1, h2, h3⟩; exact hne t pl h1 h2 h3
  have hfit : Fits ρ 0 0 own ovs ρc := by
    refine ⟨fun i o hi => ?_, fun i v hi => ?_⟩
    · have hlt := (List.getElem?_eq_some_iff.1 hi).1
      show (if 0 + i < n then _ else none) = _
      rw [Nat.zero_add, if_pos (by omega), hsig, hi]
      cases o <;> rfl
    · show ovs.getD (0 + i) undef = v
      rw [Nat.zero_add, List.getD_eq_getElem?_getD, hi]; rfl
  obtain ⟨hrel, hH⟩ := g5 own ρc g2 hcal hchk.2 hfit
  have hrin : ∀ t pl, ρc t = some pl → t < n ∧ ∃ t', own[t]? = some (some t') ∧ ρ t' = some pl := by
    intro t pl ht
    have ht : (if t < n then match getA (sigOf 0 own) t with | some (some t') => ρ t' | _ => none else none) = some pl := ht
    split at ht
    · rename_i hlt
      rw [hsig] at ht
      split at ht
      · rename_i t' hs; exact ⟨hlt, t', hs, ht⟩
      · cases ht
    · cases ht
  have hG : Good ρc w H n := by
    refine ⟨fun t b hb => hH.sat _ (getA_mem hb), fun t pl ht => ?_, fun t t' b b' hne _ _ _ _ pl pl' hp hp' => ?_, fun t b hb => by have := hH.key _ (getA_mem hb); simp only at this; omega, fun A v hA => ?_, fun t b pl hb ho hp A hA => ?_⟩
    · obtain ⟨h1, t', _, h2⟩ := hrin t pl ht
      exact ⟨h1, (h.dom t' pl h2).2⟩
    · obtain ⟨_, u, h1, h2⟩ := hrin t pl hp
      obtain ⟨_, u', h1', h2'⟩ := hrin t' pl' hp'
      obtain ⟨b0, k1, k2⟩ := g2 u (List.mem_of_getElem? h1)
      obtain ⟨b0', k1', k2'⟩ := g2 u' (List.mem_of_getElem? h1')
      refine h.inj u u' b0 b0' ?_ k1 k1' k2 (SB.live_of_own k2') pl pl' h2 h2'
      rintro rfl
      exact hne (distO_ok hchk.1 t t' u h1 h1')
    · cases st with
      | true => exact h.imm A v hA
      | false =>
        have hA : (if _ then none else w.cell? A) = some v := hA
        split at hA
        · cases hA
        · exact hA
    · obtain ⟨_, u, h1, h2⟩ := hrin t pl hp
      cases st with
      | true =>
        obtain ⟨b0, k1, k2⟩ := g2 u (List.mem_of_getElem? h1)
        exact h.isep u b0 pl k1 k2 h2 A hA
      | false =>
        show (if _ then none else w.cell? A) = none
        rw [if_pos ⟨u, pl, List.mem_of_getElem? h1, h2, hA.symm⟩]
  have hdo := does_of_fsound (N := ⟨sigOf 0 own, st, ops, n, nx⟩) (ρc := ρc) (hF vws A H n o ⟨rp, rv, rd, rn⟩ hb hr) h rfl hG (fun t => rfl) hrel hp2 (fun hs => by cases st with | true => rfl | false => cases hs) (fun i c hi => ?_) hokv
    (fun t b hb ho t' ht' => by rw [hsig] at ht'; exact g2 t' (List.mem_of_getElem? ht')) (fun t t' b hb ho x hx hy => by rw [hsig] at hx hy; exact distO_ok hchk.1 t t' x hx hy)
  · intro o a' next Q hK
    refine hdo o a' next Q fun v w' ⟨ρ', h1, h2⟩ => hK v w' ⟨ρ', h1, fun sv hsv => ?_⟩
    simp only [Option.map_eq_some_iff] at hsv
    obtain ⟨sv0, hv, rfl⟩ := hsv
    exact h2 sv0 hv
  · have hlt := (List.getElem?_eq_some_iff.1 hi).1
    have hv : ovs[i]? = some (ovs[i]'(by rw [g1.1]; exact hlt)) := by simp
    have : ρc.oq i = ovs[i]'(by rw [g1.1]; exact hlt) := by
      show ovs.getD i undef = _
      rw [List.getD_eq_getElem?_getD, hv]; rfl
    rw [this]
    exact g1.2 i c _ hi hv
end
end Go.Sx

/- The table of what called functions do. Plain lemmas, no condition. -/
namespace Go.Sx
open Go.RowKit
set_option linter.unusedSimpArgs false
set_option linter.unusedVariables false
def tab (l : List (FuncId × Summary)) (f : FuncId) : Option Summary := getA l f
theorem cok_nil {P : Program} : COk P (tab []) := fun _ _ h => by cases h
theorem cok_cons {P : Program} {f : FuncId} {S : Summary} {l : List (FuncId × Summary)} (hS : SumOk P f S) (h : COk P (tab l)) : COk P (tab ((f, S) :: l)) := by
  intro g S' e
  unfold tab at e
  rw [getA_cons] at e
  split at e
  · rename_i hg; subst hg; injection e with e; subst e; exact hS
  · exact h g S' e
/-- One of two. -/
def orS (S S' : Summary) : Summary := fun l s => match S l s with | some r => some r | none => S' l s
theorem orS_ok {P : Program} {f : FuncId} {S S' : Summary} (h : SumOk P f S) (h' : SumOk P f S') : SumOk P f (orS S S') := by
  intro W w0 F ρ s a w l vs r hR hl e hp
  unfold orS at e
  split at e
  · rename_i r' e'; injection e with e; subst e; exact h W w0 F ρ s a w l vs _ hR hl e' hp
  · exact h' W w0 F ρ s a w l vs _ hR hl e hp
/-- A function's condition, at hand. -/
theorem FSound.imp {P : Program} {f : FuncId} {A : List SA} {H : List (Nat × SB)} {n : Nat} {p : Cd} {v : Option SV} {d : List (Nat × SB)} {m : Nat} (h : p.holds → FSound P f A H n ⟨.tt, v, d, m⟩) : FSound P f A H n ⟨p, v, d, m⟩ :=
  fun ρ w vs hg hv hp => h hp ρ w vs hg hv trivial
theorem w_i64 (x : Int) : IntKind.i64.wrap x = (x + 9223372036854775808) % 18446744073709551616 - 9223372036854775808 := by
  have e1 : (2 : Int) ^ 64 = 18446744073709551616 := by decide
  have e2 : (2 : Int) ^ (64 - 1) = 9223372036854775808 := by decide
  simp only [IntKind.wrap, IntKind.signed, IntKind.bits, Bool.true_and, decide_eq_true_eq, e1, e2]
  split <;> omega
theorem w_u64 (x : Int) : IntKind.u64.wrap x = x % 18446744073709551616 := by
  have e1 : (2 : Int) ^ 64 = 18446744073709551616 := by decide
  simp only [IntKind.wrap, IntKind.signed, IntKind.bits, Bool.false_and, Bool.false_eq_true, if_false, e1]
theorem w_u32 (x : Int) : IntKind.u32.wrap x = x % 4294967296 := by
  have e1 : (2 : Int) ^ 32 = 4294967296 := by decide
  simp only [IntKind.wrap, IntKind.signed, IntKind.bits, Bool.false_and, Bool.false_eq_true, if_false, e1]
theorem w_u8 (x : Int) : IntKind.u8.wrap x = x % 256 := by
  have e1 : (2 : Int) ^ 8 = 256 := by decide
  simp only [IntKind.wrap, IntKind.signed, IntKind.bits, Bool.false_and, Bool.false_eq_true, if_false, e1]
end Go.Sx

/- Lists of bit vectors as the evaluator's functions, and back. Plain lemmas, no condition. -/
namespace Go.Proofs.Ytogijkmflhjhkaa
open Go.Sx Go.RowKit
set_option linter.unusedSimpArgs false
set_option linter.unusedVariables false

/-- A list's numbers. -/
def UL {n : Nat} (l : List (BitVec n)) (j : Nat) : Int := U (l.getD j 0)
/-- n bytes. -/
def L8 (f : Nat → Int) (n : Nat) : List (BitVec 8) := (List.range n).map fun j => BitVec.ofInt 8 (f j)
/-- They are bytes. -/
def R8 (f : Nat → Int) (n : Nat) : Prop := ∀ j, j < n → 0 ≤ f j ∧ f j < 256

theorem U_nonneg {n : Nat} (x : BitVec n) : 0 ≤ U x := by unfold U; omega
theorem U_lt8 (x : BitVec 8) : U x < 256 := by unfold U; have := x.isLt; omega
theorem U_lt32 (x : BitVec 32) : U x < 4294967296 := by unfold U; have := x.isLt; omega
theorem U_lt64 (x : BitVec 64) : U x < 18446744073709551616 := by unfold U; have := x.isLt; omega
theorem U_inj {n : Nat} {x y : BitVec n} (h : U x = U y) : x = y := by unfold U at h; exact BitVec.eq_of_toNat_eq (by omega)
theorem ofInt_U {n : Nat} (x : BitVec n) : BitVec.ofInt n (U x) = x := ofInt_toNat x
theorem U_ofInt8 {x : Int} (h0 : 0 ≤ x) (h1 : x < 256) : U (BitVec.ofInt 8 x) = x := by
  unfold U; rw [BitVec.toNat_ofInt]; simp; omega

theorem L8_length (f : Nat → Int) (n : Nat) : (L8 f n).length = n := by simp [L8]
theorem L8_get (f : Nat → Int) (n j : Nat) (h : j < n) : (L8 f n).getD j 0 = BitVec.ofInt 8 (f j) := by
  simp [L8, h]
theorem UL_L8 {f : Nat → Int} {n : Nat} (h : R8 f n) (j : Nat) (hj : j < n) : UL (L8 f n) j = f j := by
  unfold UL; rw [L8_get f n j hj, U_ofInt8 (h j hj).1 (h j hj).2]
theorem R8_UL (l : List (BitVec 8)) (n : Nat) : R8 (UL l) n := fun j _ => ⟨U_nonneg _, U_lt8 _⟩
theorem R8_put {f g : Nat → Int} {n m : Nat} (h : R8 f n) (h' : R8 g m) : R8 (put_ f n m g) (n + m) := by
  intro j hj
  unfold put_
  split
  · exact h' _ (by omega)
  · exact h _ (by omega)
theorem R8_shift {f : Nat → Int} {n a m : Nat} (h : R8 f n) (ha : a + m ≤ n) : R8 (fun j => f (a + j)) m := fun j hj => h _ (by omega)
theorem R8_le {f : Nat → Int} {n m : Nat} (h : R8 f n) (hm : m ≤ n) : R8 f m := fun j hj => h j (by omega)
theorem L8_UL (l : List (BitVec 8)) : L8 (UL l) l.length = l := by
  apply List.ext_getElem?
  intro j
  by_cases h : j < l.length
  · simp [L8, UL, h, ofInt_U]
  · rw [List.getElem?_eq_none (by rw [L8_length]; omega), List.getElem?_eq_none (by omega)]
theorem L8_UL' {l : List (BitVec 8)} {n : Nat} (h : n = l.length) : L8 (UL l) n = l := by subst h; exact L8_UL l
theorem L8_put (f g : Nat → Int) (n m : Nat) : L8 (put_ f n m g) (n + m) = L8 f n ++ L8 g m := by
  apply List.ext_getElem?
  intro j
  by_cases h : j < n
  · rw [List.getElem?_append_left (by rw [L8_length]; exact h)]
    have h2 : j < n + m := by omega
    simp only [L8, List.getElem?_map, List.getElem?_range h, List.getElem?_range h2, Option.map_some, put_]
    rw [if_neg (by omega)]
  · rw [List.getElem?_append_right (by rw [L8_length]; omega), L8_length]
    by_cases h2 : j < n + m
    · have h3 : j - n < m := by omega
      simp only [L8, List.getElem?_map, List.getElem?_range h2, List.getElem?_range h3, Option.map_some, put_]
      rw [if_pos (by omega)]
    · rw [List.getElem?_eq_none (by rw [L8_length]; omega), List.getElem?_eq_none (by rw [L8_length]; omega)]
theorem L8_take (f : Nat → Int) (n m : Nat) (h : m ≤ n) : L8 f m = (L8 f n).take m := by
  apply List.ext_getElem?
  intro j
  by_cases hj : j < m
  · have : j < n := by omega
    rw [List.getElem?_take_of_lt hj]
    simp [L8, hj, this]
  · rw [List.getElem?_eq_none (by rw [L8_length]; omega), List.getElem?_eq_none (by rw [List.length_take]; omega)]
theorem L8_drop (f : Nat → Int) (n a : Nat) : L8 (fun j => f (a + j)) (n - a) = (L8 f n).drop a := by
  apply List.ext_getElem?
  intro j
  rw [List.getElem?_drop]
  by_cases hj : j < n - a
  · have : a + j < n := by omega
    simp [L8, hj, this]
  · rw [List.getElem?_eq_none (by rw [L8_length]; omega), List.getElem?_eq_none (by rw [L8_length]; omega)]
theorem L8_congr {f g : Nat → Int} {n : Nat} (h : ∀ j, j < n → f j = g j) : L8 f n = L8 g n := by
  unfold L8; exact List.map_congr_left fun j hj => by rw [h j (by simpa using hj)]

theorem UL_snoc {n : Nat} (l : List (BitVec n)) (x : BitVec n) : upd (UL l) l.length (U x) = UL (l ++ [x]) := by
  funext j
  simp only [upd, UL]
  by_cases h : j = l.length
  · subst h; simp
  · rw [if_neg h]
    by_cases h2 : j < l.length
    · simp [List.getD_eq_getElem?_getD, List.getElem?_append_left h2]
    · rw [List.getD_eq_getElem?_getD, List.getD_eq_getElem?_getD, List.getElem?_eq_none (by omega), List.getElem?_eq_none (by simp; omega)]
theorem UL_nil {n : Nat} (j : Nat) : UL ([] : List (BitVec n)) j = 0 := by simp [UL, U]
theorem UL_getD {n : Nat} (l : List (BitVec n)) (j : Nat) : UL l j = U (l.getD j 0) := rfl
theorem UL_app {n : Nat} (a b : List (BitVec n)) (j : Nat) (h : j < a.length + b.length) : put_ (UL a) a.length b.length (UL b) j = UL (a ++ b) j := by
  simp only [put_, UL]
  by_cases h1 : j < a.length
  · rw [if_neg (by omega), List.getD_eq_getElem?_getD, List.getD_eq_getElem?_getD, List.getElem?_append_left h1]
  · rw [if_pos (by omega), List.getD_eq_getElem?_getD, List.getD_eq_getElem?_getD, List.getElem?_append_right (by omega)]
theorem put_0 {f g : Nat → Int} {n j : Nat} (h : j < n) : put_ f 0 n g j = g j := by
  simp only [put_]; rw [if_pos (by omega), Nat.sub_zero]
theorem L8_sub (f : Nat → Int) (n a b : Nat) (h : a + b ≤ n) : L8 (fun j => f (a + j)) b = ((L8 f n).drop a).take b := by
  rw [← L8_drop, ← L8_take _ _ _ (show b ≤ n - a by omega)]
/-- n words. -/
def L32 (f : Nat → Int) (n : Nat) : List (BitVec 32) := (List.range n).map fun j => BitVec.ofInt 32 (f j)
def R32 (f : Nat → Int) (n : Nat) : Prop := ∀ j, j < n → 0 ≤ f j ∧ f j < 4294967296
theorem U_ofInt32 {x : Int} (h0 : 0 ≤ x) (h1 : x < 4294967296) : U (BitVec.ofInt 32 x) = x := by
  unfold U; rw [BitVec.toNat_ofInt]; simp; omega
theorem L32_length (f : Nat → Int) (n : Nat) : (L32 f n).length = n := by simp [L32]
theorem UL_L32 {f : Nat → Int} {n : Nat} (h : R32 f n) (j : Nat) (hj : j < n) : UL (L32 f n) j = f j := by
  have : (L32 f n).getD j 0 = BitVec.ofInt 32 (f j) := by simp [L32, hj]
  unfold UL; rw [this, U_ofInt32 (h j hj).1 (h j hj).2]
theorem R32_UL (l : List (BitVec 32)) (n : Nat) : R32 (UL l) n := fun j _ => ⟨U_nonneg _, U_lt32 _⟩
theorem L32_UL' {l : List (BitVec 32)} {n : Nat} (h : n = l.length) : L32 (UL l) n = l := by
  subst h
  apply List.ext_getElem?
  intro j
  by_cases h : j < l.length
  · simp [L32, UL, h, ofInt_U]
  · rw [List.getElem?_eq_none (by rw [L32_length]; omega), List.getElem?_eq_none (by omega)]
theorem listI_map {n : Nat} (l : List (BitVec n)) (j : Nat) : listI (l.map U) j = UL l j := by
  unfold listI UL
  by_cases h : j < l.length
  · simp [List.getD_eq_getElem?_getD, h]
  · rw [List.getD_eq_getElem?_getD, List.getD_eq_getElem?_getD, List.getElem?_eq_none (by simp; omega), List.getElem?_eq_none (by omega)]
    simp [U]
end Go.Proofs.Ytogijkmflhjhkaa

/- SHA-256 on lists of bit vectors, as FIPS 180-4 says it: the schedule, the rounds, the padding. Plain definitions and lemmas: no program, no condition. -/
namespace Go.Proofs.Ytogijkmflhjhkaa
set_option linter.unusedSimpArgs false
set_option linter.unusedVariables false

abbrev B8 := BitVec 8
abbrev W32 := BitVec 32

def be (l : List B8) (k : Nat) : W32 :=
  (l.getD (4 * k) 0).setWidth 32 <<< 24 ||| (l.getD (4 * k + 1) 0).setWidth 32 <<< 16 ||| (l.getD (4 * k + 2) 0).setWidth 32 <<< 8 ||| (l.getD (4 * k + 3) 0).setWidth 32
def sig0 (x : W32) : W32 := rotl x 25 ^^^ rotl x 14 ^^^ x >>> 3
def sig1 (x : W32) : W32 := rotl x 15 ^^^ rotl x 13 ^^^ x >>> 10
def next (s : List W32) (k : Nat) : W32 := s.getD (k - 16) 0 + sig0 (s.getD (k - 15) 0) + s.getD (k - 7) 0 + sig1 (s.getD (k - 2) 0)
def sched (l : List B8) : Nat → List W32
  | 0 => []
  | k + 1 => sched l k ++ [if k < 16 then be l k else next (sched l k) k]
theorem sched_length (l : List B8) (k : Nat) : (sched l k).length = k := by
  induction k with
  | zero => rfl
  | succ k ih => simp [sched, ih]

/-- The whole schedule; nothing looks into it but by its equation. -/
@[irreducible] def wsched (l : List B8) : List W32 := sched l 64
theorem wsched_eq (l : List B8) : wsched l = sched l 64 := by unfold wsched; rfl
theorem wsched_length (l : List B8) : (wsched l).length = 64 := by rw [wsched_eq, sched_length]

def K256 : List W32 := [
  0x428a2f98, 0x71374491, 0xb5c0fbcf, 0xe9b5dba5, 0x3956c25b, 0x59f111f1, 0x923f82a4, 0xab1c5ed5,
  0xd807aa98, 0x12835b01, 0x243185be, 0x550c7dc3, 0x72be5d74, 0x80deb1fe, 0x9bdc06a7, 0xc19bf174,
  0xe49b69c1, 0xefbe4786, 0x0fc19dc6, 0x240ca1cc, 0x2de92c6f, 0x4a7484aa, 0x5cb0a9dc, 0x76f988da,
  0x983e5152, 0xa831c66d, 0xb00327c8, 0xbf597fc7, 0xc6e00bf3, 0xd5a79147, 0x06ca6351, 0x14292967,
  0x27b70a85, 0x2e1b2138, 0x4d2c6dfc, 0x53380d13, 0x650a7354, 0x766a0abb, 0x81c2c92e, 0x92722c85,
  0xa2bfe8a1, 0xa81a664b, 0xc24b8b70, 0xc76c51a3, 0xd192e819, 0xd6990624, 0xf40e3585, 0x106aa070,
  0x19a4c116, 0x1e376c08, 0x2748774c, 0x34b0bcb5, 0x391c0cb3, 0x4ed8aa4a, 0x5b9cca4f, 0x682e6ff3,
  0x748f82ee, 0x78a5636f, 0x84c87814, 0x8cc70208, 0x90befffa, 0xa4506ceb, 0xbef9a3f7, 0xc67178f2]
theorem K256_length : K256.length = 64 := rfl

def S1 (e : W32) : W32 := rotl e 26 ^^^ rotl e 21 ^^^ rotl e 7
def S0 (a : W32) : W32 := rotl a 30 ^^^ rotl a 19 ^^^ rotl a 10
def Ch (e f g : W32) : W32 := e &&& f ^^^ ~~~e &&& g
def Maj (a b c : W32) : W32 := a &&& b ^^^ a &&& c ^^^ b &&& c
def T1 (v : List W32) (k w : W32) : W32 := v.getD 7 0 + S1 (v.getD 4 0) + Ch (v.getD 4 0) (v.getD 5 0) (v.getD 6 0) + k + w
def T2 (v : List W32) : W32 := S0 (v.getD 0 0) + Maj (v.getD 0 0) (v.getD 1 0) (v.getD 2 0)
def rnd (v : List W32) (k w : W32) : List W32 :=
  [T1 v k w + T2 v, v.getD 0 0, v.getD 1 0, v.getD 2 0, v.getD 3 0 + T1 v k w, v.getD 4 0, v.getD 5 0, v.getD 6 0]
def rnds (w : List W32) : Nat → List W32 → List W32
  | 0, v => v
  | i + 1, v => rnd (rnds w i v) (K256.getD i 0) (w.getD i 0)
theorem rnds_length (w : List W32) (i : Nat) (v : List W32) (h : v.length = 8) : (rnds w i v).length = 8 := by
  cases i with
  | zero => exact h
  | succ i => rfl
def addv (a b : List W32) : List W32 := List.zipWith (· + ·) a b
def mix (h : List W32) (b : List B8) : List W32 := addv h (rnds (wsched b) 64 h)
theorem mix_length (h : List W32) (b : List B8) (hh : h.length = 8) : (mix h b).length = 8 := by
  simp [mix, addv, rnds_length _ _ _ hh, hh]

/-- n blocks off the head of l. -/
def absorbN : Nat → List W32 → List B8 → List W32
  | 0, h, _ => h
  | n + 1, h, l => absorbN n (mix h (l.take 64)) (l.drop 64)
def absorb (h : List W32) (l : List B8) : List W32 := absorbN (l.length / 64) h l
def rest (l : List B8) : List B8 := l.drop (64 * (l.length / 64))
theorem absorbN_length (n : Nat) : ∀ (h : List W32) (l : List B8), h.length = 8 → (absorbN n h l).length = 8 := by
  induction n with
  | zero => intro h l hh; exact hh
  | succ n ih => intro h l hh; exact ih _ _ (mix_length h _ hh)
theorem absorb_length (h : List W32) (l : List B8) (hh : h.length = 8) : (absorb h l).length = 8 := absorbN_length _ _ _ hh
theorem rest_length (l : List B8) : (rest l).length = l.length % 64 := by
  rw [rest, List.length_drop]; omega
theorem absorbN_append (n : Nat) : ∀ (h : List W32) (a b : List B8), 64 * n ≤ a.length → absorbN n h (a ++ b) = absorbN n h a := by
  induction n with
  | zero => intro h a b _; rfl
  | succ n ih =>
    intro h a b hl
    simp only [absorbN]
    rw [List.take_append_of_le_length (by omega), List.drop_append_of_le_length (by omega)]
    exact ih _ _ _ (by rw [List.length_drop]; omega)
theorem absorbN_add (n m : Nat) : ∀ (h : List W32) (l : List B8), absorbN (n + m) h l = absorbN m (absorbN n h l) (l.drop (64 * n)) := by
  induction n with
  | zero => intro h l; simp [absorbN]
  | succ n ih =>
    intro h l
    rw [show n + 1 + m = (n + m) + 1 by omega]
    simp only [absorbN]
    rw [ih, List.drop_drop, show 64 + 64 * n = 64 * (n + 1) by omega]
theorem absorbN_succ (k : Nat) (h : List W32) (l : List B8) : absorbN (k + 1) h l = mix (absorbN k h l) ((l.drop (64 * k)).take 64) := by
  rw [absorbN_add]; rfl
/-- More bytes behind: they go in behind what was left. -/
theorem absorb_append (h : List W32) (a b : List B8) : absorb h (a ++ b) = absorb (absorb h a) (rest a ++ b) := by
  unfold absorb
  have hq : (a ++ b).length / 64 = a.length / 64 + (rest a ++ b).length / 64 := by
    rw [List.length_append, List.length_append, rest_length]; omega
  rw [hq, absorbN_add, absorbN_append _ _ a b (by omega), List.drop_append_of_le_length (by omega)]
  rfl
theorem rest_append (a b : List B8) : rest (a ++ b) = rest (rest a ++ b) := by
  unfold rest
  have e : a.drop (64 * (a.length / 64)) ++ b = (a ++ b).drop (64 * (a.length / 64)) := (List.drop_append_of_le_length (by omega)).symm
  rw [e, List.drop_drop, List.length_drop]
  congr 1
  rw [List.length_append]; omega
theorem absorb_small (h : List W32) (l : List B8) (hl : l.length < 64) : absorb h l = h := by
  rw [absorb, Nat.div_eq_of_lt hl]; rfl
theorem rest_small (l : List B8) (hl : l.length < 64) : rest l = l := by
  rw [rest, Nat.div_eq_of_lt hl]; rfl
theorem absorb_block (h : List W32) (l : List B8) (hl : 64 ≤ l.length) : absorb h l = absorb (mix h (l.take 64)) (l.drop 64) := by
  unfold absorb
  rw [List.length_drop, show l.length / 64 = (l.length - 64) / 64 + 1 by omega]
  rfl
theorem rest_block (l : List B8) (hl : 64 ≤ l.length) : rest l = rest (l.drop 64) := by
  unfold rest
  rw [List.length_drop, List.drop_drop]
  congr 1
  omega

def H256 : List W32 := [0x6a09e667, 0xbb67ae85, 0x3c6ef372, 0xa54ff53a, 0x510e527f, 0x9b05688c, 0x1f83d9ab, 0x5be0cd19]
/-- The eight bytes of a number, the highest first. -/
def be8 (n : BitVec 64) : List B8 := (List.range 8).map fun i => (n >>> (56 - 8 * i)).setWidth 8
theorem be8_length (n : BitVec 64) : (be8 n).length = 8 := by simp [be8]
def zeros (n : Nat) : Nat := (119 - n % 64) % 64
def tail (n : Nat) : List B8 := 0x80 :: (List.replicate (zeros n) 0 ++ be8 (BitVec.ofNat 64 n * 8))
theorem tail_length (n : Nat) : (tail n).length = 9 + zeros n := by simp [tail, be8_length]; omega
theorem tail_whole (n : Nat) : (n + (tail n).length) % 64 = 0 := by rw [tail_length, zeros]; omega
def w4 (x : W32) : List B8 := [(x >>> 24).setWidth 8, (x >>> 16).setWidth 8, (x >>> 8).setWidth 8, x.setWidth 8]
def digest (h : List W32) : List B8 := h.flatMap w4
/-- SHA-256. -/
def sha (l : List B8) : List B8 := digest (absorb H256 (l ++ tail l.length))
theorem H256_length : H256.length = 8 := rfl
theorem digest_length (h : List W32) : (digest h).length = 4 * h.length := by
  induction h with
  | nil => rfl
  | cons x h ih => simp only [digest, List.flatMap_cons, List.length_append] at ih ⊢; simp only [w4, List.length_cons, List.length_nil]; omega
theorem sha_length (l : List B8) : (sha l).length = 32 := by
  rw [sha, digest_length, absorb_length _ _ H256_length]

/-- What is filled up behind r bytes left of a message of N bytes. -/
def tail2 (r : Nat) (N : BitVec 64) : List B8 := 0x80 :: (List.replicate (zeros r) 0 ++ be8 (N * 8))
theorem tail2_length (r : Nat) (N : BitVec 64) : (tail2 r N).length = 9 + zeros r := by simp [tail2, be8_length]; omega
theorem tail2_eq (n : Nat) : tail2 (n % 64) (BitVec.ofNat 64 n) = tail n := by
  unfold tail2 tail zeros; rw [Nat.mod_mod]
theorem digest_get (h : List W32) : ∀ (i r : Nat), i < h.length → r < 4 → (digest h).getD (4 * i + r) 0 = (w4 (h.getD i 0)).getD r 0 := by
  induction h with
  | nil => intro i r hi; simp at hi
  | cons x h ih =>
    intro i r hi hr
    have hd : digest (x :: h) = w4 x ++ digest h := rfl
    rw [hd, List.getD_eq_getElem?_getD]
    cases i with
    | zero => rw [List.getElem?_append_left (by simp [w4]; omega), Nat.mul_zero, Nat.zero_add, List.getD_eq_getElem?_getD]; rfl
    | succ i =>
      rw [List.getElem?_append_right (by simp [w4]; omega), show 4 * (i + 1) + r - (w4 x).length = 4 * i + r by simp [w4]; omega, ← List.getD_eq_getElem?_getD, ih i r (by simpa using hi) hr]
      rfl

theorem list_ext {α : Type} {a b : List α} (d : α) (hl : a.length = b.length) (h : ∀ i, i < a.length → a.getD i d = b.getD i d) : a = b := by
  apply List.ext_getElem hl
  intro i h1 h2
  have := h i h1
  simpa [List.getD_eq_getElem?_getD, h1, h2] using this
theorem getD_take {α : Type} (l : List α) (d : α) (n i : Nat) (h : i < n) : (l.take n).getD i d = l.getD i d := by
  rw [List.getD_eq_getElem?_getD, List.getD_eq_getElem?_getD, List.getElem?_take_of_lt h]
theorem getD_drop {α : Type} (l : List α) (d : α) (n i : Nat) : (l.drop n).getD i d = l.getD (n + i) d := by
  rw [List.getD_eq_getElem?_getD, List.getD_eq_getElem?_getD, List.getElem?_drop]

set_option maxRecDepth 100000 in
theorem sha_abc : ((sha [0x61, 0x62, 0x63]).getD 0 0, (sha [0x61, 0x62, 0x63]).getD 1 0, (sha [0x61, 0x62, 0x63]).getD 31 0) = (0xba, 0x78, 0xad) := by decide +kernel

end Go.Proofs.Ytogijkmflhjhkaa

/- Functions through the evaluator: rotations, the schedule. No condition. -/
namespace Go.Proofs.Ytogijkmflhjhkaa
open Go.Sx Go.RowKit
set_option linter.unusedSimpArgs false
set_option maxRecDepth 100000
set_option linter.unusedVariables false

theorem rot_sx (x : BitVec 32) (k : Int) (s : Nat) (hs : s < 32) (hk : bits .and .u64 (IntKind.u64.wrap k) 31 = (s : Int)) :
    FSound Try.prog 73 [.sc (.int .u32 (U x)), .sc (.int .i64 k)] [] 0 ⟨.tt, some (sc (.int .u32 (U (rotl x s)))), [], 0⟩ := by
  have hw : IntKind.u64.wrap (32 - (s : Int)) = 32 - (s : Int) := by rw [w_u64]; omega
  refine fsound_of_run tt_ok cok_nil mixed_ok Try.call73 Try.func73 rfl (rs := _) Try.results73 (size := 17) Try.ntmps73 (Nat.le_of_ble_eq_true rfl) rfl fun hp hfa hfh => ?_
  conv => whnf
  refine ⟨by rw [hk]; omega, ?_⟩
  conv => whnf
  refine ⟨by rw [hk, hw]; omega, ?_⟩
  conv => whnf
  refine ⟨[], ?_⟩
  conv => whnf
  refine ⟨?_, trivial⟩
  rw [hk, hw, show min (s : Int).toNat IntKind.u32.bits = s by simp [IntKind.bits]; omega, show min (32 - (s : Int)).toNat IntKind.u32.bits = 32 - s by simp [IntKind.bits], shl32, shr32, or32]
  rfl

/-- What RotateLeft32 does: of a word, by -k or k. -/
def rotN (k : Int) : Nat := (k % 32).toNat
def rotS : Summary := mkS false [.v, .v] fun
  | [.v (.sc (.int .u32 x)), .v (.sc (.int .i64 k))] => some ⟨.p (0 ≤ x ∧ x < 4294967296), some (sc (.int .u32 (U (rotl (BitVec.ofInt 32 x) (rotN k))))), [], 0⟩
  | _ => none
theorem and31 (k : Int) : bits .and .u64 (IntKind.u64.wrap k) 31 = ((k % 32).toNat : Int) := by
  show IntKind.u64.wrap ((BitVec.ofInt 64 (IntKind.u64.wrap k) &&& BitVec.ofInt 64 31).toNat : Int) = _
  have h : (BitVec.ofInt 64 (IntKind.u64.wrap k) &&& BitVec.ofInt 64 31).toNat = (k % 32).toNat := by
    rw [BitVec.toNat_and, BitVec.toNat_ofInt, show (BitVec.ofInt 64 31).toNat = 2 ^ 5 - 1 by decide, Nat.and_two_pow_sub_one_eq_mod]
    rw [w_u64]
    simp
    omega
  rw [h, w_u64]
  omega
theorem rotS_ok : SumOk Try.prog 73 rotS := by
  unfold rotS
  apply sum_ok
  intro vs A H n o r hb h
  split at h
  · rename_i x k
    injection h with h
    subst h
    cases hb
    refine FSound.imp fun hp => ?_
    have hp : 0 ≤ x ∧ x < 4294967296 := hp
    have := rot_sx (BitVec.ofInt 32 x) k (rotN k) (by unfold rotN; omega) (and31 k)
    rw [U_ofInt32 hp.1 hp.2] at this
    exact this
  · cases h

theorem cok1 : COk Try.prog (tab [(73, rotS)]) := cok_cons rotS_ok cok_nil

theorem sh3 : min (Int.toNat 3) IntKind.u32.bits = 3 := rfl
theorem sh10 : min (Int.toNat 10) IntKind.u32.bits = 10 := rfl
theorem rot7 : rotN (-7) = 25 := rfl
theorem rot18 : rotN (-18) = 14 := rfl
theorem rot17 : rotN (-17) = 15 := rfl
theorem rot19 : rotN (-19) = 13 := rfl
theorem sh24 : min (Int.toNat 24) IntKind.u32.bits = 24 := rfl
theorem sh16 : min (Int.toNat 16) IntKind.u32.bits = 16 := rfl
theorem sh8 : min (Int.toNat 8) IntKind.u32.bits = 8 := rfl
/-- sha.words: the schedule of a block. -/
def wordsS : Summary := mkS false [.r .u8] fun
  | [.r nl g n] => some ⟨.and (.p (64 ≤ n)) (.p (R8 g n)), some (.sa (.agg [.ints .u32 (UL (wsched (L8 g n))) 64])), [], 0⟩
  | _ => none
theorem words_sx (nl : Bool) (g : Nat → Int) (n : Nat) :
    FSound Try.prog 88 [.sc (.im nl .u8 g n)] [] 0 ⟨.and (.p (64 ≤ n)) (.p (R8 g n)), some (.sa (.agg [.ints .u32 (UL (wsched (L8 g n))) 64])), [], 0⟩ := by
  refine fsound_of_run tt_ok cok1 mixed_ok Try.call88 Try.func88 rfl (rs := _) Try.results88 (size := 90) Try.ntmps88 (Nat.le_of_ble_eq_true rfl) rfl fun hp hfa hfh => ?_
  obtain ⟨hn, hg⟩ := hp
  have hn : 64 ≤ n := hn
  have hg : R8 g n := hg
  repeat ((conv => whnf); (with_reducible refine And.intro ?_ ?_); · omega)
  conv => whnf
  refine ⟨0, Nat, fun i => ⟨90, [(9, .sa (.sc (.int .i64 i))), (3, .sa (.sc (.ptr 1 0 0))), (2, .sa (.sc (.ptr 0 0 0))), (0, .sa (.sc (.im nl .u8 g n)))],
    [(1, .own 107 [.ints .u32 (UL (sched (L8 g n) i)) 64] false), (0, .own 107 [.ints .u32 (fun _ => 0) 64] false)], 2⟩, fun i => i ≤ 64, fun i => 64 - i, ⟨0, by omega, le_of [] ?_⟩, fun i hi => ?_⟩
  · repeat ((conv => whnf); (with_reducible refine And.intro ?_ ?_); · first | with_reducible rfl | (intro _ _; with_reducible rfl) | omega | exact fun j _ => UL_nil j)
    conv => whnf
    exact True.intro
  repeat ((conv => whnf); (with_reducible refine And.intro ?_ ?_); · omega)
  conv => whnf
  refine ⟨fun h => ?_, fun h => ?_⟩
  · have hi' : (i : Int) < 64 := of_decide_eq_true h
    repeat ((conv => whnf); (with_reducible refine And.intro ?_ ?_); · omega)
    conv => whnf
    refine ⟨fun h => ?_, fun h => ?_⟩
    · have h16 : (i : Int) < 16 := of_decide_eq_true h
      repeat ((conv => whnf); (with_reducible refine And.intro ?_ ?_); · omega)
      conv => whnf
      refine ⟨[(0, ⟨0, some 14, []⟩), (1, ⟨0, some 15, []⟩), (2, ⟨0, some 16, []⟩), (3, ⟨4, some 17, []⟩), (4, ⟨14, some 18, []⟩), (5, ⟨30, some 19, []⟩), (6, ⟨62, some 20, []⟩), (7, ⟨126, some 21, []⟩), (8, ⟨0, some 22, []⟩), (9, ⟨0, some 23, []⟩), (10, ⟨512, some 24, []⟩), (11, ⟨1536, some 25, []⟩), (12, ⟨3840, some 26, []⟩), (13, ⟨7936, some 27, []⟩), (14, ⟨16128, some 28, []⟩), (15, ⟨32512, some 29, []⟩), (16, ⟨65534, some 30, []⟩), (17, ⟨0, some 31, []⟩), (18, ⟨0, some 32, []⟩), (19, ⟨262144, some 33, []⟩), (20, ⟨786432, some 34, []⟩), (21, ⟨1966080, some 35, []⟩), (22, ⟨4063232, some 36, []⟩), (23, ⟨8257536, some 37, []⟩), (24, ⟨16646144, some 38, []⟩), (25, ⟨33554430, some 39, []⟩), (26, ⟨0, some 40, []⟩), (27, ⟨0, some 41, []⟩), (28, ⟨134217728, some 42, []⟩), (29, ⟨402653184, some 43, []⟩), (30, ⟨1006632960, some 44, []⟩), (31, ⟨2080374784, some 45, []⟩), (32, ⟨4227858432, some 46, []⟩), (33, ⟨8589934590, some 47, []⟩), (34, ⟨17179869183, some 48, []⟩), (35, ⟨34359738367, none, [1]⟩)], 578, ?_⟩
      repeat ((conv => whnf); (with_reducible refine And.intro ?_ ?_); · first | omega | (simp only [w_i64, w_u64, w_u32, w_u8]; omega))
      conv => whnf
      refine ⟨i + 1, ⟨by omega, by dsimp only; omega⟩, le_of [] ?_⟩
      repeat ((conv => whnf); (with_reducible refine And.intro ?_ ?_); · first | with_reducible rfl | (intro _ _; with_reducible rfl) | (simp only [w_i64, w_u64, w_u32, w_u8]; omega))
      conv => whnf
      refine ⟨fun j _ => ?_, ?_⟩
      rotate_left
      · repeat ((conv => whnf); (with_reducible refine And.intro ?_ ?_); · first | with_reducible rfl | (intro _ _; with_reducible rfl))
        conv => whnf
        exact True.intro
      have e0 : (IntKind.i64.wrap (4 * ↑i)).toNat = 4 * i := by rw [w_i64]; omega
      have e1 : (IntKind.i64.wrap (IntKind.i64.wrap (4 * ↑i) + 1)).toNat = 4 * i + 1 := by simp only [w_i64]; omega
      have e2 : (IntKind.i64.wrap (IntKind.i64.wrap (4 * ↑i) + 2)).toNat = 4 * i + 2 := by simp only [w_i64]; omega
      have e3 : (IntKind.i64.wrap (IntKind.i64.wrap (4 * ↑i) + 3)).toNat = 4 * i + 3 := by simp only [w_i64]; omega
      have g' : ∀ j, j < n → g j = U ((L8 g n).getD j 0) := fun j hj => (UL_L8 hg j hj).symm
      rw [e0, e1, e2, e3, g' _ (by omega), g' _ (by omega), g' _ (by omega), g' _ (by omega), Int.toNat_natCast]
      simp only [sh24, sh16, sh8, wide32, shl32, w32_self', or32]
      have hs : sched (L8 g n) (i + 1) = sched (L8 g n) i ++ [be (L8 g n) i] := by rw [sched, if_pos (by omega)]
      rw [hs, ← UL_snoc, sched_length]
      rfl
    · have h16 : ¬ (i : Int) < 16 := of_decide_eq_false h
      repeat ((conv => whnf); (with_reducible refine And.intro ?_ ?_); · omega)
      conv => whnf
      refine ⟨[(0, ⟨0, some 49, []⟩), (1, ⟨1, some 50, []⟩), (2, ⟨3, some 51, []⟩), (3, ⟨7, some 52, []⟩), (4, ⟨0, some 53, []⟩), (5, ⟨16, some 54, []⟩), (6, ⟨48, some 55, []⟩), (7, ⟨112, some 56, []⟩), (8, ⟨15, some 5, []⟩), (9, ⟨511, some 6, []⟩)], 162, ?_⟩
      repeat ((conv => whnf); (with_reducible refine And.intro ?_ ?_); · first | omega | (simp only [w_i64, w_u64, w_u32, w_u8]; omega) | exact ⟨U_nonneg _, U_lt32 _⟩)
      conv => whnf
      refine ⟨[(0, ⟨0, some 73, []⟩), (1, ⟨0, some 74, []⟩), (2, ⟨2, some 75, []⟩), (3, ⟨6, some 76, []⟩), (4, ⟨14, some 77, []⟩), (5, ⟨0, some 78, []⟩), (6, ⟨62, some 79, []⟩), (7, ⟨0, some 80, []⟩), (8, ⟨128, some 81, []⟩), (9, ⟨384, some 82, []⟩), (10, ⟨896, some 83, []⟩), (11, ⟨2046, some 84, []⟩), (12, ⟨0, some 85, []⟩), (13, ⟨8190, some 86, []⟩), (14, ⟨16383, some 87, []⟩), (15, ⟨32767, none, [1]⟩)], 418, ?_⟩
      repeat ((conv => whnf); (with_reducible refine And.intro ?_ ?_); · first | omega | (simp only [w_i64, w_u64, w_u32, w_u8]; omega))
      conv => whnf
      refine ⟨i + 1, ⟨by omega, by dsimp only; omega⟩, le_of [] ?_⟩
      repeat ((conv => whnf); (with_reducible refine And.intro ?_ ?_); · first | with_reducible rfl | (intro _ _; with_reducible rfl) | (simp only [w_i64, w_u64, w_u32, w_u8]; omega))
      conv => whnf
      refine ⟨fun j _ => ?_, ?_⟩
      rotate_left
      · repeat ((conv => whnf); (with_reducible refine And.intro ?_ ?_); · first | with_reducible rfl | (intro _ _; with_reducible rfl))
        conv => whnf
        exact True.intro
      have e0 : (IntKind.i64.wrap (↑i - 16)).toNat = i - 16 := by rw [w_i64]; omega
      have e1 : (IntKind.i64.wrap (↑i - 15)).toNat = i - 15 := by rw [w_i64]; omega
      have e2 : (IntKind.i64.wrap (↑i - 7)).toNat = i - 7 := by rw [w_i64]; omega
      have e3 : (IntKind.i64.wrap (↑i - 2)).toNat = i - 2 := by rw [w_i64]; omega
      rw [e0, e1, e2, e3, Int.toNat_natCast]
      simp only [UL_getD, ofInt_U, sh3, sh10, shr32, xor32, add32, rot7, rot18, rot17, rot19]
      have hs : sched (L8 g n) (i + 1) = sched (L8 g n) i ++ [next (sched (L8 g n) i) i] := by rw [sched, if_neg (by omega)]
      rw [hs, ← UL_getD, ← UL_snoc, sched_length]
      rfl
  · have hi' : ¬ (i : Int) < 64 := of_decide_eq_false h
    have hi64 : i = 64 := by omega
    subst hi64
    repeat ((conv => whnf); (with_reducible refine And.intro ?_ ?_); · omega)
    conv => whnf
    refine ⟨[], ?_⟩
    repeat ((conv => whnf); (with_reducible refine And.intro ?_ ?_); · first | with_reducible rfl | exact fun j _ => by rw [wsched_eq])
    conv => whnf
    exact True.intro
theorem wordsS_ok : SumOk Try.prog 88 wordsS := by
  unfold wordsS
  apply sum_ok
  intro vs A H n o r hb h
  split at h
  · injection h with h
    subst h
    cases hb
    exact words_sx _ _ _
  · cases h

/-- sha.constants. -/
def constS : Summary := mkS false [] fun
  | [] => some ⟨.tt, some (.sa (.agg [.ints .u32 (UL K256) 64])), [], 0⟩
  | _ => none
theorem constS_ok : SumOk Try.prog 89 constS := by
  unfold constS
  apply sum_ok
  intro vs A H n o r hb h
  split at h
  · injection h with h
    subst h
    cases hb
    refine fsound_of_run tt_ok cok_nil mixed_ok Try.call89 Try.func89 rfl (rs := _) Try.results89 (size := 2) Try.ntmps89 (Nat.le_of_ble_eq_true rfl) rfl fun hp hfa hfh => ?_
    repeat ((conv => whnf); (with_reducible refine And.intro ?_ ?_); · omega)
    conv => whnf
    refine ⟨[], ?_⟩
    repeat ((conv => whnf); (with_reducible refine And.intro ?_ ?_); · omega)
    conv => whnf
    refine ⟨by decide +kernel, ?_⟩
    repeat ((conv => whnf); (with_reducible refine And.intro ?_ ?_); · with_reducible rfl)
    conv => whnf
    exact True.intro
  · cases h

/-- sha.New: a state. -/
def newS : Summary := mkS false [] fun
  | [] => some ⟨.tt, some (.sa (.sc (.ptr 0 0 0))), [(0, .own 82 [.ints .u32 (UL H256) 8, .one (.sl true false true 999999 0 0 0 0), .one (.int .u64 0)] false)], 1⟩
  | _ => none
theorem newS_ok : SumOk Try.prog 32 newS := by
  unfold newS
  apply sum_ok
  intro vs A H n o r hb h
  split at h
  · injection h with h
    subst h
    cases hb
    refine fsound_of_run tt_ok cok_nil mixed_ok Try.call32 Try.func32 rfl (rs := _) Try.results32 (size := 4) Try.ntmps32 (Nat.le_of_ble_eq_true rfl) rfl fun hp hfa hfh => ?_
    repeat ((conv => whnf); (with_reducible refine And.intro ?_ ?_); · omega)
    conv => whnf
    refine ⟨[], ?_⟩
    repeat ((conv => whnf); (with_reducible refine And.intro ?_ ?_); · omega)
    conv => whnf
    refine ⟨by decide +kernel, ?_⟩
    repeat ((conv => whnf); (with_reducible refine And.intro ?_ ?_); · first | with_reducible rfl | (intro h; exact absurd h (by decide)) | omega)
    conv => whnf
    exact True.intro
  · cases h
end Go.Proofs.Ytogijkmflhjhkaa

/- ChaCha20 on lists of bit vectors, as RFC 8439 says it. Plain definitions and lemmas: no program, no condition. -/
namespace Go.Proofs.Ytogijkmflhjhkaa
open Go.Sx Go.RowKit
set_option linter.unusedSimpArgs false
set_option linter.unusedVariables false

/-- A quarter round. -/
def q1a (a b : W32) : W32 := a + b
def q1d (a b d : W32) : W32 := rotl (d ^^^ (a + b)) 16
def q1c (a b c d : W32) : W32 := c + q1d a b d
def q1b (a b c d : W32) : W32 := rotl (b ^^^ q1c a b c d) 12
def q2a (a b c d : W32) : W32 := a + b + q1b a b c d
def q2d (a b c d : W32) : W32 := rotl (q1d a b d ^^^ q2a a b c d) 8
def q2c (a b c d : W32) : W32 := q1c a b c d + q2d a b c d
def q2b (a b c d : W32) : W32 := rotl (q1b a b c d ^^^ q2c a b c d) 7

/-- A quarter round on four of the words. -/
def qs (s : List W32) (a b c d : Nat) : List W32 :=
  (((s.set a (q2a (s.getD a 0) (s.getD b 0) (s.getD c 0) (s.getD d 0))).set b (q2b (s.getD a 0) (s.getD b 0) (s.getD c 0) (s.getD d 0))).set c
    (q2c (s.getD a 0) (s.getD b 0) (s.getD c 0) (s.getD d 0))).set d (q2d (s.getD a 0) (s.getD b 0) (s.getD c 0) (s.getD d 0))
theorem qs_length (s : List W32) (a b c d : Nat) : (qs s a b c d).length = s.length := by simp [qs]
/-- Column k, or diagonal k. -/
def col (s : List W32) (j k : Nat) : List W32 := qs s k (4 + (k + j) % 4) (8 + (k + 2 * j) % 4) (12 + (k + 3 * j) % 4)
theorem col_length (s : List W32) (j k : Nat) : (col s j k).length = s.length := qs_length _ _ _ _ _
def single (s : List W32) (j : Nat) : Nat → List W32
  | 0 => s
  | k + 1 => col (single s j k) j k
theorem single_length (s : List W32) (j k : Nat) : (single s j k).length = s.length := by
  induction k with
  | zero => rfl
  | succ k ih => rw [single, col_length, ih]
def chN (s : List W32) : Nat → List W32
  | 0 => s
  | i + 1 => single (chN s i) (i % 2) 4
theorem chN_length (s : List W32) (i : Nat) : (chN s i).length = s.length := by
  induction i with
  | zero => rfl
  | succ i ih => rw [chN, single_length, ih]
theorem chN_even (s : List W32) (i : Nat) : chN s (2 * i + 1) = single (chN s (2 * i)) 0 4 := by rw [chN, show 2 * i % 2 = 0 by omega]
theorem chN_odd (s : List W32) (i : Nat) : chN s (2 * (i + 1)) = single (chN s (2 * i + 1)) 1 4 := by rw [show 2 * (i + 1) = 2 * i + 1 + 1 by omega, chN, show (2 * i + 1) % 2 = 1 by omega]

/-- A word, its lowest byte first. -/
def le4 (l : List B8) (k : Nat) : W32 :=
  (l.getD (4 * k) 0).setWidth 32 ||| (l.getD (4 * k + 1) 0).setWidth 32 <<< 8 ||| (l.getD (4 * k + 2) 0).setWidth 32 <<< 16 ||| (l.getD (4 * k + 3) 0).setWidth 32 <<< 24
def chC : List W32 := [0x61707865, 0x3320646e, 0x79622d32, 0x6b206574]
def chK (key : List B8) (i : Nat) : List W32 := (List.range i).map (le4 key)
theorem chK_length (key : List B8) (i : Nat) : (chK key i).length = i := by simp [chK]
theorem chK_succ (key : List B8) (i : Nat) : chK key (i + 1) = chK key i ++ [le4 key i] := by simp [chK, List.range_succ]
def chInit (key : List B8) (ctr : W32) (nonce : List B8) : List W32 := chC ++ chK key 8 ++ [ctr] ++ chK nonce 3
theorem chInit_length (key : List B8) (ctr : W32) (nonce : List B8) : (chInit key ctr nonce).length = 16 := by
  simp only [chInit, List.length_append, chK_length]; rfl
def w4l (x : W32) : List B8 := [x.setWidth 8, (x >>> 8).setWidth 8, (x >>> 16).setWidth 8, (x >>> 24).setWidth 8]
def leW (h : List W32) : List B8 := h.flatMap w4l
theorem leW_length (h : List W32) : (leW h).length = 4 * h.length := by
  induction h with
  | nil => rfl
  | cons x h ih => simp only [leW, List.flatMap_cons, List.length_append] at ih ⊢; simp only [w4l, List.length_cons, List.length_nil]; omega
theorem leW_get (h : List W32) : ∀ (i r : Nat), i < h.length → r < 4 → (leW h).getD (4 * i + r) 0 = (w4l (h.getD i 0)).getD r 0 := by
  induction h with
  | nil => intro i r hi; simp at hi
  | cons x h ih =>
    intro i r hi hr
    have hd : leW (x :: h) = w4l x ++ leW h := rfl
    rw [hd, List.getD_eq_getElem?_getD]
    cases i with
    | zero => rw [List.getElem?_append_left (by simp [w4l]; omega), Nat.mul_zero, Nat.zero_add, List.getD_eq_getElem?_getD]; rfl
    | succ i =>
      rw [List.getElem?_append_right (by simp [w4l]; omega), show 4 * (i + 1) + r - (w4l x).length = 4 * i + r by simp [w4l]; omega, ← List.getD_eq_getElem?_getD, ih i r (by simpa using hi) hr]
      rfl
/-- A value that nothing looks into but by its equation. -/
noncomputable def sealF {α : Type} (x : α) : α := Classical.choose (⟨x, rfl⟩ : ∃ y, y = x)
theorem sealF_eq {α : Type} (x : α) : sealF x = x := Classical.choose_spec (⟨x, rfl⟩ : ∃ y, y = x)
/-- The block of a key, a counter, a nonce. Nothing looks into it but by its equation. -/
noncomputable def chBlock (key : List B8) (ctr : W32) (nonce : List B8) : List B8 := sealF (leW (addv (chN (chInit key ctr nonce) 20) (chInit key ctr nonce)))
theorem chBlock_eq (key : List B8) (ctr : W32) (nonce : List B8) : chBlock key ctr nonce = leW (addv (chN (chInit key ctr nonce) 20) (chInit key ctr nonce)) := sealF_eq _
theorem chBlock_length (key : List B8) (ctr : W32) (nonce : List B8) : (chBlock key ctr nonce).length = 64 := by
  rw [chBlock_eq, leW_length, addv, List.length_zipWith, chN_length, chInit_length]; rfl
/-- Byte i of the stream. -/
noncomputable def chKs (key : List B8) (ctr : W32) (nonce : List B8) (i : Nat) : B8 := (chBlock key (ctr + BitVec.ofNat 32 (i / 64)) nonce).getD (i % 64) 0
noncomputable def chXor (key : List B8) (ctr : W32) (nonce b : List B8) : List B8 := (List.range b.length).map fun i => b.getD i 0 ^^^ chKs key ctr nonce i
theorem chXor_length (key : List B8) (ctr : W32) (nonce b : List B8) : (chXor key ctr nonce b).length = b.length := by simp [chXor]
theorem chXor_get (key : List B8) (ctr : W32) (nonce b : List B8) (i : Nat) (h : i < b.length) : (chXor key ctr nonce b).getD i 0 = b.getD i 0 ^^^ chKs key ctr nonce i := by
  simp [chXor, h]
theorem chXor_twice (key : List B8) (ctr : W32) (nonce b : List B8) : chXor key ctr nonce (chXor key ctr nonce b) = b := by
  refine list_ext 0 (by rw [chXor_length, chXor_length]) fun i h => ?_
  rw [chXor_length] at h
  rw [chXor_get _ _ _ _ _ h]
  rw [chXor_length] at h
  rw [chXor_get _ _ _ _ _ h, BitVec.xor_assoc, BitVec.xor_self, BitVec.xor_zero]
theorem chXor_take (key : List B8) (ctr : W32) (nonce b : List B8) (n : Nat) : chXor key ctr nonce (b.take n) = (chXor key ctr nonce b).take n := by
  refine list_ext 0 (by rw [chXor_length, List.length_take, List.length_take, chXor_length]) fun i h => ?_
  rw [chXor_length] at h
  have h' := h
  rw [List.length_take] at h'
  rw [chXor_get _ _ _ _ _ h, getD_take _ _ _ _ (by omega), getD_take _ _ _ _ (by omega), chXor_get _ _ _ _ _ (by omega)]
theorem chXor_drop (key : List B8) (ctr : W32) (nonce b : List B8) (q : Nat) : chXor key (ctr + BitVec.ofNat 32 q) nonce (b.drop (64 * q)) = (chXor key ctr nonce b).drop (64 * q) := by
  refine list_ext 0 (by rw [chXor_length, List.length_drop, List.length_drop, chXor_length]) fun i h => ?_
  rw [chXor_length] at h
  have h' := h
  rw [List.length_drop] at h'
  rw [chXor_get _ _ _ _ _ h, getD_drop, getD_drop, chXor_get _ _ _ _ _ (by omega)]
  unfold chKs
  rw [show (64 * q + i) / 64 = q + i / 64 by omega, show (64 * q + i) % 64 = i % 64 by omega, BitVec.ofNat_add, BitVec.add_assoc]

/-- A list's words, one of them set. -/
theorem UL_set {n : Nat} (l : List (BitVec n)) (i : Nat) (x : BitVec n) (h : i < l.length) (j : Nat) : UL (l.set i x) j = upd (UL l) i (U x) j := by
  unfold upd UL
  by_cases e : j = i
  · subst e; rw [if_pos rfl]; simp [List.getD_eq_getElem?_getD, h]
  · rw [if_neg e]; simp [List.getD_eq_getElem?_getD, List.getElem?_set_ne (Ne.symm e)]
set_option maxRecDepth 100000 in
theorem ch_zero : (chBlock (List.replicate 32 0) 0 (List.replicate 12 0)).take 4 = [0x76, 0xb8, 0xe0, 0xad] := by rw [chBlock_eq]; decide +kernel
end Go.Proofs.Ytogijkmflhjhkaa

/- What the laws' walks share: truths, arrays held against each other, pieces. Plain lemmas, no condition. -/
namespace Go.Proofs.Ytogijkmflhjhkaa
open Go.Sx Go.RowKit
set_option linter.unusedSimpArgs false
set_option linter.unusedVariables false

abbrev isTrue : Res := ⟨.tt, some (.sa (.sc (.bool true))), [], 0⟩
theorem eqI_self (n : Nat) (f : Nat → Int) : eqI n f f = true := by simp [eqI]
theorem eqI_of {n : Nat} {a b : List B8} (h : a = b) : eqI n (UL a) (UL b) = true := by subst h; exact eqI_self _ _
theorem eqI_dec {n : Nat} {a b : List B8} (ha : a.length = n) (hb : b.length = n) : eqI n (UL a) (UL b) = decide (a = b) := by
  by_cases h : a = b
  · rw [eqI_of h, decide_eq_true h]
  · rw [decide_eq_false h]
    cases hq : eqI n (UL a) (UL b) with
    | false => rfl
    | true =>
      exfalso
      apply h
      refine list_ext 0 (by omega) fun i hi => ?_
      unfold eqI at hq
      rw [List.all_eq_true] at hq
      have := hq i (by simp; omega)
      exact U_inj (by simpa [UL] using this)

theorem orF {a b : Bool} (h : cond a true b = false) : a = false ∧ b = false := by cases a <;> simp_all
theorem orT {a b : Bool} (h : cond a true b = true) : a = true ∨ b = true := by cases a <;> simp_all
theorem andT {a b : Bool} (h : cond a b false = true) : a = true ∧ b = true := by cases a <;> simp_all
theorem andF {a b : Bool} (h : cond a b false = false) : a = false ∨ b = false := by cases a <;> simp_all
theorem andI {a b : Bool} (ha : a = true) (hb : b = true) : cond a b false = true := by rw [ha, hb]; rfl
theorem cut_join (G : Nat → Int) {c n : Nat} (h : c ≤ n) : L8 (fun j => G (0 + Int.toNat 0 + j)) (c - Int.toNat 0) ++ (L8 (fun _ => 0) 0 ++ L8 (fun j => G (0 + c + j)) (n - c)) = L8 G n := by
  have e1 : L8 (fun j => G (0 + Int.toNat 0 + j)) (c - Int.toNat 0) = (L8 G n).take c := by
    rw [show (fun j => G (0 + Int.toNat 0 + j)) = G from funext fun j => by rw [show 0 + Int.toNat 0 + j = j by simp], show c - Int.toNat 0 = c from rfl, L8_take G n c h]
  have e2 : L8 (fun j => G (0 + c + j)) (n - c) = (L8 G n).drop c := by
    rw [show (fun j => G (0 + c + j)) = fun j => G (c + j) from funext fun j => by rw [Nat.zero_add], L8_drop]
  rw [e1, e2]
  exact List.take_append_drop _ _
theorem cut_R1 {G : Nat → Int} {c n : Nat} (hR : R8 G n) (h : c ≤ n) : R8 (fun j => G (0 + Int.toNat 0 + j)) (c - Int.toNat 0) := fun j hj => by
  show 0 ≤ G (0 + Int.toNat 0 + j) ∧ G (0 + Int.toNat 0 + j) < 256
  have hj : j < c := hj
  rw [show 0 + Int.toNat 0 + j = j by simp]; exact hR j (by omega)
theorem cut_R2 {G : Nat → Int} {c n : Nat} (hR : R8 G n) (h : c ≤ n) : R8 (fun j => G (0 + c + j)) (n - c) := fun j hj => by
  show 0 ≤ G (0 + c + j) ∧ G (0 + c + j) < 256
  exact hR _ (by omega)
theorem cut_R0 {G : Nat → Int} {n : Nat} (hR : R8 G n) : R8 (fun j => G (0 + j)) n := fun j hj => by
  show 0 ≤ G (0 + j) ∧ G (0 + j) < 256
  exact hR _ (by omega)
end Go.Proofs.Ytogijkmflhjhkaa

/- Functions through the evaluator: ChaCha20. No condition. -/
namespace Go.Proofs.Ytogijkmflhjhkaa
open Go.Sx Go.RowKit
set_option maxRecDepth 100000
set_option maxHeartbeats 1000000
set_option linter.unusedVariables false
set_option linter.unusedSimpArgs false

theorem bits32 (x y : Int) : 0 ≤ bits .xor .u32 x y ∧ bits .xor .u32 x y < 4294967296 := by
  show 0 ≤ IntKind.u32.wrap _ ∧ IntKind.u32.wrap _ < 4294967296
  rw [w_u32]; omega
theorem ro16 : rotN 16 = 16 := rfl
theorem ro12 : rotN 12 = 12 := rfl
theorem ro8 : rotN 8 = 8 := rfl
theorem ro7 : rotN 7 = 7 := rfl
def u32R (x : Int) : Prop := 0 ≤ x ∧ x < 4294967296
/-- chacha.Quarter. -/
def quarterS : Summary := mkS false [.v, .v, .v, .v] fun
  | [.v (.sc (.int .u32 a)), .v (.sc (.int .u32 b)), .v (.sc (.int .u32 c)), .v (.sc (.int .u32 d))] => some ⟨.and (.p (u32R a)) (.and (.p (u32R b)) (.and (.p (u32R c)) (.p (u32R d)))),
      some (.tup [.sc (.int .u32 (U (q2a (BitVec.ofInt 32 a) (BitVec.ofInt 32 b) (BitVec.ofInt 32 c) (BitVec.ofInt 32 d)))), .sc (.int .u32 (U (q2b (BitVec.ofInt 32 a) (BitVec.ofInt 32 b) (BitVec.ofInt 32 c) (BitVec.ofInt 32 d)))),
        .sc (.int .u32 (U (q2c (BitVec.ofInt 32 a) (BitVec.ofInt 32 b) (BitVec.ofInt 32 c) (BitVec.ofInt 32 d)))), .sc (.int .u32 (U (q2d (BitVec.ofInt 32 a) (BitVec.ofInt 32 b) (BitVec.ofInt 32 c) (BitVec.ofInt 32 d))))]), [], 0⟩
  | _ => none
theorem cok30 : COk Try.prog (tab [(73, rotS)]) := cok_cons rotS_ok cok_nil
theorem u32_ex {x : Int} (h : u32R x) : ∃ X : BitVec 32, x = U X := ⟨BitVec.ofInt 32 x, (U_ofInt32 h.1 h.2).symm⟩
theorem quarterS_ok : SumOk Try.prog 51 quarterS := by
  unfold quarterS
  apply sum_ok
  intro vs A H n o r hb h
  split at h
  rotate_left
  · cases h
  rename_i a b c d
  injection h with h
  subst h
  cases hb
  refine fsound_of_run tt_ok cok30 mixed_ok Try.call51 Try.func51 rfl (rs := _) Try.results51 (size := 44) Try.ntmps51 (Nat.le_of_ble_eq_true rfl) rfl fun hp hfa hfh => ?_
  obtain ⟨ha, hb, hc, hd⟩ := hp
  obtain ⟨A, rfl⟩ := u32_ex ha
  obtain ⟨B, rfl⟩ := u32_ex hb
  obtain ⟨C, rfl⟩ := u32_ex hc
  obtain ⟨D, rfl⟩ := u32_ex hd
  repeat ((conv => whnf); (with_reducible refine And.intro ?_ ?_); · exact bits32 _ _)
  conv => whnf
  refine ⟨[], ?_⟩
  simp only [add32, xor32, ofInt_U, ro16, ro12, ro8, ro7]
  repeat ((conv => whnf); (with_reducible refine And.intro ?_ ?_); · rfl)
  conv => whnf
  exact True.intro

/-- chacha.word. -/
def wordLS : Summary := mkS false [.r .u8] fun
  | [.r nl g n] => some ⟨.and (.p (R8 g n)) (.p (4 ≤ n)), some (.sa (.sc (.int .u32 (U (le4 (L8 g n) 0))))), [], 0⟩
  | _ => none
theorem wordLS_ok : SumOk Try.prog 95 wordLS := by
  unfold wordLS
  apply sum_ok
  intro vs A H n o r hb h
  split at h
  rotate_left
  · cases h
  rename_i nl g n0
  injection h with h
  subst h
  cases hb
  refine fsound_of_run tt_ok cok_nil mixed_ok Try.call95 Try.func95 rfl (rs := _) Try.results95 (size := 25) Try.ntmps95 (Nat.le_of_ble_eq_true rfl) rfl fun hp hfa hfh => ?_
  obtain ⟨hg, hn⟩ := hp
  have hg : R8 g n0 := hg
  have hn : 4 ≤ n0 := hn
  refine ⟨[(0, ⟨0, some 3, []⟩), (1, ⟨1, some 4, []⟩), (2, ⟨3, some 5, []⟩), (3, ⟨7, some 6, []⟩), (4, ⟨0, some 7, []⟩), (5, ⟨16, some 8, []⟩), (6, ⟨48, some 9, []⟩), (7, ⟨112, some 10, []⟩), (8, ⟨240, some 11, []⟩), (9, ⟨511, some 12, []⟩), (10, ⟨0, some 13, []⟩), (11, ⟨1024, some 14, []⟩), (12, ⟨3072, some 15, []⟩), (13, ⟨7168, some 16, []⟩), (14, ⟨15360, some 17, []⟩), (15, ⟨32767, some 18, []⟩), (16, ⟨0, some 19, []⟩), (17, ⟨65536, some 20, []⟩), (18, ⟨196608, some 21, []⟩), (19, ⟨458752, some 22, []⟩), (20, ⟨983040, some 23, []⟩), (21, ⟨2097151, some 24, []⟩), (22, ⟨4194303, some 2, []⟩)], 368, ?_⟩
  repeat ((conv => whnf); (with_reducible refine And.intro ?_ ?_); · omega)
  conv => whnf
  refine ⟨[], ?_⟩
  have g' : ∀ j, j < n0 → g j = U ((L8 g n0).getD j 0) := fun j hj => (UL_L8 hg j hj).symm
  have g0 : g (Int.toNat 0) = U ((L8 g n0).getD 0 0) := g' 0 (by omega)
  have g1 : g (Int.toNat 1) = U ((L8 g n0).getD 1 0) := g' 1 (by omega)
  have g2 : g (Int.toNat 2) = U ((L8 g n0).getD 2 0) := g' 2 (by omega)
  have g3 : g (Int.toNat 3) = U ((L8 g n0).getD 3 0) := g' 3 (by omega)
  simp only [g0, g1, g2, g3, sh24, sh16, sh8, wide32, shl32, w32_self', or32]
  repeat ((conv => whnf); (with_reducible refine And.intro ?_ ?_); · rfl)
  conv => whnf
  exact True.intro

theorem cok31 : COk Try.prog (tab [(95, wordLS)]) := cok_cons wordLS_ok cok_nil
theorem le_blk {f : Nat → Int} {a n i N : Nat} (ha : a = 4 * i) (hn : 4 ≤ n) (hN : 4 * i + 4 ≤ N) : le4 (L8 (fun j => f (a + j)) n) 0 = le4 (L8 f N) i := by
  have q : ∀ r, r < 4 → (L8 (fun j => f (a + j)) n).getD (4 * 0 + r) 0 = (L8 f N).getD (4 * i + r) 0 := fun r hr => by
    rw [L8_get _ _ _ (by omega), L8_get _ _ _ (by omega), ha]
    congr 2
    omega
  unfold le4
  rw [q 1 (by omega), q 2 (by omega), q 3 (by omega)]
  have q0 := q 0 (by omega)
  rw [Nat.add_zero, Nat.add_zero] at q0
  rw [q0]
/-- chacha.begin. -/
def beginS : Summary := mkS false [.v, .v, .v] fun
  | [.v (.agg [.ints .u8 k 32]), .v (.sc (.int .u32 c)), .v (.agg [.ints .u8 n 12])] => some ⟨.and (.p (R8 k 32)) (.and (.p (u32R c)) (.p (R8 n 12))),
      some (.sa (.agg [.ints .u32 (UL (chInit (L8 k 32) (BitVec.ofInt 32 c) (L8 n 12))) 16])), [], 0⟩
  | _ => none
theorem beginS_ok : SumOk Try.prog 75 beginS := by
  unfold beginS
  apply sum_ok
  intro vs A H n o r hb h
  split at h
  rotate_left
  · cases h
  rename_i k c n
  injection h with h
  subst h
  cases hb
  refine fsound_of_run tt_ok cok31 mixed_ok Try.call75 Try.func75 rfl (rs := _) Try.results75 (size := 36) Try.ntmps75 (Nat.le_of_ble_eq_true rfl) rfl fun hp hfa hfh => ?_
  obtain ⟨hk, hc, hn⟩ := hp
  have hk : R8 k 32 := hk
  have hn : R8 n 12 := hn
  obtain ⟨C, rfl⟩ := u32_ex hc
  repeat ((conv => whnf); (with_reducible refine And.intro ?_ ?_); · omega)
  conv => whnf
  refine ⟨0, Nat, fun i => ⟨36, [(1, .sa (.sc (.int .u32 (U C)))), (3, .sa (.sc (.ptr 0 0 0))), (5, .sa (.sc (.ptr 1 0 0))), (6, .sa (.sc (.ptr 2 0 0))), (7, .sa (.sc (.ptr 3 0 0))), (11, .sa (.sc (.int .i64 i)))],
    [(0, .own 29 [.ints .u8 k 32] false), (1, .own 61 [.ints .u8 n 12] false), (2, .own 93 [.ints .u32 (fun _ => 0) 16] false), (3, .own 93 [.ints .u32 (UL (chC ++ chK (L8 k 32) i)) 16] false)], 4⟩, fun i => i ≤ 8, fun i => 8 - i, ⟨0, by omega, le_of [] ?_⟩, fun i hi => ?_⟩
  · simp only [show chC ++ chK (L8 k 32) 0 = chC from List.append_nil _]
    repeat ((conv => whnf); (with_reducible refine And.intro ?_ ?_); · first | with_reducible rfl | (intro _ _; with_reducible rfl) | omega)
    conv => whnf
    refine ⟨by decide +kernel, ?_⟩
    repeat ((conv => whnf); (with_reducible refine And.intro ?_ ?_); · with_reducible rfl)
    conv => whnf
    exact True.intro
  have hi : i ≤ 8 := hi
  repeat ((conv => whnf); (with_reducible refine And.intro ?_ ?_); · omega)
  conv => whnf
  refine ⟨fun h1 => ?_, fun h1 => ?_⟩
  · replace h1 := of_decide_eq_true h1
    have w0 : IntKind.i64.wrap (4 * (i : Int)) = ((4 * i : Nat) : Int) := by rw [w_i64]; omega
    have w1 : IntKind.i64.wrap (4 + (i : Int)) = ((4 + i : Nat) : Int) := by rw [w_i64]; omega
    have hr : R8 (fun j => k (4 * i + j)) (32 - 4 * i) := fun j hj => hk _ (by omega)
    repeat ((conv => whnf); (with_reducible refine And.intro ?_ ?_); · first | omega | (intro _; refine ⟨True.intro, ?_⟩; omega) | (simp only [w0, w1, Int.toNat_natCast]; omega))
    conv => whnf
    refine ⟨i + 1, ⟨by show i + 1 ≤ 8; omega, by show 8 - (i + 1) < 8 - i; omega⟩, le_of [] ?_⟩
    have hb := le_blk (f := k) (a := 4 * i) (n := 32 - 4 * i) (i := i) (N := 32) rfl (by omega) (by omega)
    have hl : (chC ++ chK (L8 k 32) i).length = 4 + i := by rw [List.length_append, chK_length]; rfl
    have hs : UL (chC ++ chK (L8 k 32) (i + 1)) = upd (UL (chC ++ chK (L8 k 32) i)) (4 + i) (U (le4 (L8 k 32) i)) := by
      rw [chK_succ, ← List.append_assoc, ← UL_snoc, hl]
    simp only [w0, w1, Int.toNat_natCast, Nat.zero_add, hb, hs]
    repeat ((conv => whnf); (with_reducible refine And.intro ?_ ?_); · first | with_reducible rfl | (intro _ _; with_reducible rfl) | (simp only [w_i64, w_u64, w_u32, w_u8]; omega))
    conv => whnf
    exact True.intro
  · replace h1 := of_decide_eq_false h1
    have hi8 : i = 8 := by omega
    subst hi8
    repeat ((conv => whnf); (with_reducible refine And.intro ?_ ?_); · omega)
    conv => whnf
    have hl : (chC ++ chK (L8 k 32) 8).length = 12 := by rw [List.length_append, chK_length]; rfl
    have hs : UL (chC ++ chK (L8 k 32) 8 ++ [C]) = upd (UL (chC ++ chK (L8 k 32) 8)) 12 (U C) := by rw [← UL_snoc, hl]
    refine ⟨0, Nat, fun i => ⟨36, [(3, .sa (.sc (.ptr 0 0 0))), (5, .sa (.sc (.ptr 1 0 0))), (6, .sa (.sc (.ptr 2 0 0))), (7, .sa (.sc (.ptr 3 0 0))), (24, .sa (.sc (.int .i64 i)))],
      [(1, .own 61 [.ints .u8 n 12] false), (2, .own 93 [.ints .u32 (fun _ => 0) 16] false), (3, .own 93 [.ints .u32 (UL (chC ++ chK (L8 k 32) 8 ++ [C] ++ chK (L8 n 12) i)) 16] false)], 4⟩, fun i => i ≤ 3, fun i => 3 - i, ⟨0, by omega, le_of [] ?_⟩, fun i hi => ?_⟩
    · simp only [show chC ++ chK (L8 k 32) 8 ++ [C] ++ chK (L8 n 12) 0 = chC ++ chK (L8 k 32) 8 ++ [C] from List.append_nil _, hs]
      repeat ((conv => whnf); (with_reducible refine And.intro ?_ ?_); · first | with_reducible rfl | (intro _ _; with_reducible rfl) | omega | (simp [appG]; done))
      conv => whnf
      exact True.intro
    have hi : i ≤ 3 := hi
    repeat ((conv => whnf); (with_reducible refine And.intro ?_ ?_); · omega)
    conv => whnf
    refine ⟨fun h1 => ?_, fun h1 => ?_⟩
    · replace h1 := of_decide_eq_true h1
      have w0 : IntKind.i64.wrap (4 * (i : Int)) = ((4 * i : Nat) : Int) := by rw [w_i64]; omega
      have w1 : IntKind.i64.wrap (13 + (i : Int)) = ((13 + i : Nat) : Int) := by rw [w_i64]; omega
      have hr : R8 (fun j => n (4 * i + j)) (12 - 4 * i) := fun j hj => hn _ (by omega)
      repeat ((conv => whnf); (with_reducible refine And.intro ?_ ?_); · first | omega | (intro _; refine ⟨True.intro, ?_⟩; omega) | (simp only [w0, w1, Int.toNat_natCast]; omega))
      conv => whnf
      refine ⟨i + 1, ⟨by show i + 1 ≤ 3; omega, by show 3 - (i + 1) < 3 - i; omega⟩, le_of [] ?_⟩
      have hb := le_blk (f := n) (a := 4 * i) (n := 12 - 4 * i) (i := i) (N := 12) rfl (by omega) (by omega)
      have hl2 : (chC ++ chK (L8 k 32) 8 ++ [C] ++ chK (L8 n 12) i).length = 13 + i := by rw [List.length_append, List.length_append, hl, chK_length]; rfl
      have hs2 : UL (chC ++ chK (L8 k 32) 8 ++ [C] ++ chK (L8 n 12) (i + 1)) = upd (UL (chC ++ chK (L8 k 32) 8 ++ [C] ++ chK (L8 n 12) i)) (13 + i) (U (le4 (L8 n 12) i)) := by
        rw [chK_succ (L8 n 12) i, ← List.append_assoc, ← UL_snoc, hl2]
      simp only [w0, w1, Int.toNat_natCast, Nat.zero_add, hb, hs2]
      repeat ((conv => whnf); (with_reducible refine And.intro ?_ ?_); · first | with_reducible rfl | (intro _ _; with_reducible rfl) | (simp only [w_i64, w_u64, w_u32, w_u8]; omega))
      conv => whnf
      exact True.intro
    · replace h1 := of_decide_eq_false h1
      have hi3 : i = 3 := by omega
      subst hi3
      repeat ((conv => whnf); (with_reducible refine And.intro ?_ ?_); · omega)
      conv => whnf
      refine ⟨[], ?_⟩
      simp only [ofInt_U]
      repeat ((conv => whnf); (with_reducible refine And.intro ?_ ?_); · first | with_reducible rfl | exact fun j _ => rfl)
      conv => whnf
      exact True.intro

/-- A quarter round of the block's own words. -/
def qblkS : Summary := mkS false [.v, .v, .v, .v, .p 93 [.i .u32 16]] fun
  | [.v (.sc (.int .i64 a)), .v (.sc (.int .i64 b)), .v (.sc (.int .i64 c)), .v (.sc (.int .i64 d)), .p [.i f]] => some ⟨.and (.p (R32 f 16)) (.p (0 ≤ a ∧ a < 16 ∧ 0 ≤ b ∧ b < 16 ∧ 0 ≤ c ∧ c < 16 ∧ 0 ≤ d ∧ d < 16)),
      some (.tup []), [(0, .own 93 [.ints .u32 (UL (qs (L32 f 16) a.toNat b.toNat c.toNat d.toNat)) 16] false)], 1⟩
  | _ => none
theorem cok32 : COk Try.prog (tab [(51, quarterS)]) := cok_cons quarterS_ok cok_nil
theorem qs_upd {l : List W32} {a b c d : Nat} (hl : l.length = 16) (ha : a < 16) (hb : b < 16) (hc : c < 16) (hd : d < 16) (j : Nat) :
    UL (qs l a b c d) j = upd (upd (upd (upd (UL l) a (U (q2a (l.getD a 0) (l.getD b 0) (l.getD c 0) (l.getD d 0)))) b (U (q2b (l.getD a 0) (l.getD b 0) (l.getD c 0) (l.getD d 0)))) c (U (q2c (l.getD a 0) (l.getD b 0) (l.getD c 0) (l.getD d 0)))) d (U (q2d (l.getD a 0) (l.getD b 0) (l.getD c 0) (l.getD d 0))) j := by
  unfold qs
  have e1 := UL_set l a (q2a (l.getD a 0) (l.getD b 0) (l.getD c 0) (l.getD d 0)) (by omega)
  rw [UL_set _ d _ (by simp; omega)]
  congr 1
  funext j
  rw [UL_set _ c _ (by simp; omega)]
  congr 1
  funext j
  rw [UL_set _ b _ (by simp; omega)]
  congr 1
  funext j
  exact e1 j
theorem qblkS_ok : SumOk Try.prog 76 qblkS := by
  unfold qblkS
  apply sum_ok
  intro vs A H n o r hb h
  split at h
  rotate_left
  · cases h
  rename_i a b c d f
  injection h with h
  subst h
  cases hb
  refine fsound_of_run tt_ok cok32 mixed_ok Try.call76 Try.func76 rfl (rs := _) Try.results76 (size := 35) Try.ntmps76 (Nat.le_of_ble_eq_true rfl) rfl fun hp hfa hfh => ?_
  obtain ⟨hf, ha1, ha2, hb1, hb2, hc1, hc2, hd1, hd2⟩ := hp
  have hf : R32 f 16 := hf
  have hl : (L32 f 16).length = 16 := L32_length _ _
  have hg : ∀ j, j < 16 → f j = U ((L32 f 16).getD j 0) := fun j hj => (UL_L32 hf j hj).symm
  have hu : ∀ x : Int, 0 ≤ x → x < 16 → u32R (f x.toNat) := fun x h0 h1 => hf _ (by omega)
  refine ⟨[(0, ⟨0, some 10, []⟩), (1, ⟨0, some 11, []⟩), (2, ⟨0, some 12, []⟩), (3, ⟨0, some 13, []⟩), (4, ⟨0, some 14, []⟩), (5, ⟨16, some 15, []⟩), (6, ⟨48, some 16, []⟩), (7, ⟨0, some 17, []⟩), (8, ⟨128, some 18, []⟩), (9, ⟨384, some 19, []⟩), (10, ⟨0, some 20, []⟩), (11, ⟨1024, some 21, []⟩), (12, ⟨3072, some 22, []⟩), (13, ⟨0, some 23, []⟩), (14, ⟨8192, some 24, []⟩), (15, ⟨24576, some 25, []⟩), (16, ⟨65520, some 26, []⟩), (17, ⟨131056, some 9, []⟩), (18, ⟨262128, some 27, []⟩), (19, ⟨262128, some 28, []⟩), (20, ⟨262128, some 29, []⟩), (21, ⟨262128, some 30, []⟩), (22, ⟨524273, some 31, []⟩), (23, ⟨4718577, none, [0]⟩), (24, ⟨13631475, some 32, []⟩), (25, ⟨30408691, none, [0]⟩), (26, ⟨65011703, some 33, []⟩), (27, ⟨132120567, none, [0]⟩), (28, ⟨268435455, some 34, []⟩), (29, ⟨536870911, none, [0]⟩)], 481, ?_⟩
  have ua := hu a ha1 ha2
  have ub := hu b hb1 hb2
  have uc := hu c hc1 hc2
  have ud := hu d hd1 hd2
  have gk : ∀ x : Int, 0 ≤ x → x < 16 → (L32 f 16).getD x.toNat 0 = BitVec.ofInt 32 (f x.toNat) := fun x h0 h1 => by
    have h := hg x.toNat (by omega)
    rw [h, ofInt_U]
  have hfin : ∀ j, j < 16 → UL (qs (L32 f 16) a.toNat b.toNat c.toNat d.toNat) j = upd (upd (upd (upd f a.toNat (U (q2a (BitVec.ofInt 32 (f a.toNat)) (BitVec.ofInt 32 (f b.toNat)) (BitVec.ofInt 32 (f c.toNat)) (BitVec.ofInt 32 (f d.toNat)))))
      b.toNat (U (q2b (BitVec.ofInt 32 (f a.toNat)) (BitVec.ofInt 32 (f b.toNat)) (BitVec.ofInt 32 (f c.toNat)) (BitVec.ofInt 32 (f d.toNat)))))
      c.toNat (U (q2c (BitVec.ofInt 32 (f a.toNat)) (BitVec.ofInt 32 (f b.toNat)) (BitVec.ofInt 32 (f c.toNat)) (BitVec.ofInt 32 (f d.toNat)))))
      d.toNat (U (q2d (BitVec.ofInt 32 (f a.toNat)) (BitVec.ofInt 32 (f b.toNat)) (BitVec.ofInt 32 (f c.toNat)) (BitVec.ofInt 32 (f d.toNat)))) j := fun j hj => by
    rw [qs_upd hl (by omega) (by omega) (by omega) (by omega), gk a ha1 ha2, gk b hb1 hb2, gk c hc1 hc2, gk d hd1 hd2]
    unfold upd
    rw [UL_L32 hf j hj]
  repeat ((conv => whnf); (with_reducible refine And.intro ?_ ?_); · first | with_reducible assumption | omega)
  conv => whnf
  refine ⟨[], ?_⟩
  repeat ((conv => whnf); (with_reducible refine And.intro ?_ ?_); · first | with_reducible rfl | assumption)
  conv => whnf
  exact True.intro
end Go.Proofs.Ytogijkmflhjhkaa

/- The symbolic evaluator: a condition, part by part. Plain lemmas, no condition. -/
namespace Go.Sx
theorem Cd.holds_tt : Cd.tt.holds := True.intro
theorem Cd.holds_p {P : Prop} (h : P) : (Cd.p P).holds := h
theorem Cd.holds_and {a b : Cd} (h : a.holds) (k : b.holds) : (Cd.and a b).holds := ⟨h, k⟩
theorem Cd.holds_imp {g : Bool} {c : Cd} (h : g = true → c.holds) : (Cd.imp g c).holds := h
end Go.Sx

/- Functions through the evaluator: the document's ChaCha20. No condition. -/
namespace Go.Proofs.Ytogijkmflhjhkaa
open Go.Sx Go.RowKit
set_option maxRecDepth 100000
set_option maxHeartbeats 1000000
set_option linter.unusedVariables false
set_option linter.unusedSimpArgs false

/-- One of four, and another one: the first has more, the third is turned. -/
def trn (l : List W32) (i j k s : Nat) : List W32 := (l.set i (l.getD i 0 + l.getD j 0)).set k (rotl (l.getD k 0 ^^^ (l.getD i 0 + l.getD j 0)) s)
theorem trn_length (l : List W32) (i j k s : Nat) : (trn l i j k s).length = l.length := by simp [trn]
/-- indentureref4.turn. -/
def turn4S : Summary := mkS false [.a 57 .u32, .v, .v, .v, .v] fun
  | [.a nl f n, .v (.sc (.int .i64 i)), .v (.sc (.int .i64 j)), .v (.sc (.int .i64 k)), .v (.sc (.int .u64 s))] =>
    some ⟨.and (.p (R32 f n)) (.and (.p (n = 4 ∧ nl = false)) (.p (0 ≤ i ∧ i < 4 ∧ 0 ≤ j ∧ j < 4 ∧ 0 ≤ k ∧ k < 4 ∧ i ≠ k ∧ 0 < s ∧ s < 32))), some (.tup []),
      [(0, ownB 57 .u32 (UL (trn (L32 f 4) i.toNat j.toNat k.toNat s.toNat)) n)], 1⟩
  | _ => none
theorem turn4S_ok : SumOk Try.prog 74 turn4S := by
  unfold turn4S
  apply sum_ok
  intro vs A H n o r hb h
  split at h
  rotate_left
  · cases h
  rename_i nl f n i j k s
  injection h with h
  subst h
  cases hb
  refine fsound_of_run tt_ok cok_nil mixed_ok Try.call74 Try.func74 rfl (rs := _) Try.results74 (size := 41) Try.ntmps74 (Nat.le_of_ble_eq_true rfl) rfl fun hp hfa hfh => ?_
  obtain ⟨hf, ⟨hn, hnl⟩, hi0, hi1, hj0, hj1, hk0, hk1, hik, hs0, hs1⟩ := hp
  have hf : R32 f n := hf
  have hn : n = 4 := hn
  subst hn
  have hnl : nl = false := hnl
  subst hnl
  obtain ⟨I, rfl⟩ := Int.eq_ofNat_of_zero_le hi0
  obtain ⟨J, rfl⟩ := Int.eq_ofNat_of_zero_le hj0
  obtain ⟨K, rfl⟩ := Int.eq_ofNat_of_zero_le hk0
  obtain ⟨S, rfl⟩ := Int.eq_ofNat_of_zero_le (Int.le_of_lt hs0)
  obtain ⟨F, hF⟩ : ∃ F, F = L32 f 4 := ⟨_, rfl⟩
  have hFl : F.length = 4 := by rw [hF, L32_length]
  have hFj : ∀ j, j < 4 → f j = U (F.getD j 0) := fun j hj => by rw [hF]; exact (UL_L32 hf j hj).symm
  have hI : I < 4 := by omega
  have hJ : J < 4 := by omega
  have hK : K < 4 := by omega
  have hIK : I ≠ K := fun h => hik (by rw [h])
  rw [← hF]
  refine ⟨[(0, ⟨0, some 11, []⟩), (1, ⟨0, some 12, []⟩), (2, ⟨3, some 13, []⟩), (3, ⟨7, some 14, []⟩), (4, ⟨0, some 15, []⟩), (5, ⟨0, some 16, []⟩), (6, ⟨48, some 17, []⟩), (7, ⟨112, some 18, []⟩), (8, ⟨255, some 19, []⟩), (9, ⟨511, some 20, []⟩), (10, ⟨1023, none, [0]⟩)], 177, ?_⟩
  repeat ((conv => whnf); (with_reducible refine And.intro ?_ ?_); · first | omega | (refine decide_eq_true ?_; omega))
  conv => whnf
  have fI : f (0 + (I : Int).toNat) = U (F.getD I 0) := by rw [Nat.zero_add]; exact hFj I hI
  have fJ : f (0 + (J : Int).toNat) = U (F.getD J 0) := by rw [Nat.zero_add]; exact hFj J hJ
  simp only [fI, fJ, add32]
  have fK : upd f (0 + (I : Int).toNat) (U (F.getD I 0 + F.getD J 0)) (0 + (K : Int).toNat) = U (F.getD K 0) := by
    unfold upd
    rw [if_neg (by simp only [Int.toNat_natCast, Nat.zero_add]; exact Ne.symm hIK), Nat.zero_add]
    exact hFj K hK
  have fI2 : upd f (0 + (I : Int).toNat) (U (F.getD I 0 + F.getD J 0)) (0 + (I : Int).toNat) = U (F.getD I 0 + F.getD J 0) := if_pos rfl
  refine ⟨[(0, ⟨0, some 21, []⟩), (1, ⟨0, some 22, []⟩), (2, ⟨3, some 23, []⟩), (3, ⟨7, some 24, []⟩), (4, ⟨0, some 25, []⟩), (5, ⟨0, some 26, []⟩), (6, ⟨48, some 27, []⟩), (7, ⟨112, some 28, []⟩), (8, ⟨255, some 29, []⟩), (9, ⟨511, some 10, []⟩)], 337, ?_⟩
  repeat ((conv => whnf); (with_reducible refine And.intro ?_ ?_); · first | omega | (simp only [w_i64, w_u64, w_u32, w_u8]; omega))
  conv => whnf
  simp only [fK, fI2, xor32]
  have q1 : IntKind.u64.wrap (32 - (S : Int)) = ((32 - S : Nat) : Int) := by rw [w_u64]; omega
  have q2 : min S IntKind.u32.bits = S := Nat.min_eq_left (by show S ≤ 32; omega)
  have q3 : min (32 - S) IntKind.u32.bits = 32 - S := Nat.min_eq_left (by show 32 - S ≤ 32; omega)
  repeat ((conv => whnf); (with_reducible refine And.intro ?_ ?_); · omega)
  conv => whnf
  simp only [q1, Int.toNat_natCast, q2, q3, shl32, shr32, or32]
  have hfin : ∀ j, j < 4 → UL (trn F I J K S) j = upd (upd f (0 + I) (U (F.getD I 0 + F.getD J 0))) (0 + K) (U ((F.getD K 0 ^^^ (F.getD I 0 + F.getD J 0)) <<< S ||| (F.getD K 0 ^^^ (F.getD I 0 + F.getD J 0)) >>> (32 - S))) j := fun j hj => by
    unfold trn
    rw [UL_set _ _ _ (by rw [List.length_set]; omega), Nat.zero_add, Nat.zero_add]
    unfold upd
    split
    · rfl
    · rw [UL_set _ _ _ (by omega)]
      unfold upd
      split
      · rfl
      · exact (hFj j hj).symm
  refine ⟨[], ?_⟩
  repeat ((conv => whnf); (with_reducible refine And.intro ?_ ?_); · (intro hgd; (try replace hgd := of_decide_eq_true hgd); (repeat ((conv => whnf); (with_reducible refine And.intro ?_ ?_); · first | assumption | omega)); (conv => whnf); exact True.intro))
  conv => whnf
  exact True.intro

/-- indentureref4.low. -/
def low4S : Summary := mkS false [.r .u8] fun
  | [.r nl g n] => some ⟨.and (.p (R8 g n)) (.p (4 ≤ n)), some (.sa (.sc (.int .u32 (U (le4 (L8 g n) 0))))), [], 0⟩
  | _ => none
theorem low4S_ok : SumOk Try.prog 77 low4S := by
  unfold low4S
  apply sum_ok
  intro vs A H n o r hb h
  split at h
  rotate_left
  · cases h
  rename_i nl g n0
  injection h with h
  subst h
  cases hb
  refine fsound_of_run tt_ok cok_nil mixed_ok Try.call77 Try.func77 rfl (rs := _) Try.results77 (size := 25) Try.ntmps77 (Nat.le_of_ble_eq_true rfl) rfl fun hp hfa hfh => ?_
  obtain ⟨hg, hn⟩ := hp
  have hg : R8 g n0 := hg
  have hn : 4 ≤ n0 := hn
  refine ⟨[(0, ⟨0, some 3, []⟩), (1, ⟨1, some 4, []⟩), (2, ⟨3, some 5, []⟩), (3, ⟨7, some 6, []⟩), (4, ⟨0, some 7, []⟩), (5, ⟨16, some 8, []⟩), (6, ⟨48, some 9, []⟩), (7, ⟨112, some 10, []⟩), (8, ⟨240, some 11, []⟩), (9, ⟨511, some 12, []⟩), (10, ⟨0, some 13, []⟩), (11, ⟨1024, some 14, []⟩), (12, ⟨3072, some 15, []⟩), (13, ⟨7168, some 16, []⟩), (14, ⟨15360, some 17, []⟩), (15, ⟨32767, some 18, []⟩), (16, ⟨0, some 19, []⟩), (17, ⟨65536, some 20, []⟩), (18, ⟨196608, some 21, []⟩), (19, ⟨458752, some 22, []⟩), (20, ⟨983040, some 23, []⟩), (21, ⟨2097151, some 24, []⟩), (22, ⟨4194303, some 2, []⟩)], 368, ?_⟩
  repeat ((conv => whnf); (with_reducible refine And.intro ?_ ?_); · omega)
  conv => whnf
  refine ⟨[], ?_⟩
  have g' : ∀ j, j < n0 → g j = U ((L8 g n0).getD j 0) := fun j hj => (UL_L8 hg j hj).symm
  have g0 : g (Int.toNat 0) = U ((L8 g n0).getD 0 0) := g' 0 (by omega)
  have g1 : g (Int.toNat 1) = U ((L8 g n0).getD 1 0) := g' 1 (by omega)
  have g2 : g (Int.toNat 2) = U ((L8 g n0).getD 2 0) := g' 2 (by omega)
  have g3 : g (Int.toNat 3) = U ((L8 g n0).getD 3 0) := g' 3 (by omega)
  simp only [g0, g1, g2, g3, sh24, sh16, sh8, wide32, shl32, w32_self', or32]
  repeat ((conv => whnf); (with_reducible refine And.intro ?_ ?_); · rfl)
  conv => whnf
  exact True.intro

/-- indentureref4.Quarter. -/
def rquarterS : Summary := mkS false [.v, .v, .v, .v] fun
  | [.v (.sc (.int .u32 a)), .v (.sc (.int .u32 b)), .v (.sc (.int .u32 c)), .v (.sc (.int .u32 d))] => some ⟨.and (.p (u32R a)) (.and (.p (u32R b)) (.and (.p (u32R c)) (.p (u32R d)))),
      some (.tup [.sc (.int .u32 (U (q2a (BitVec.ofInt 32 a) (BitVec.ofInt 32 b) (BitVec.ofInt 32 c) (BitVec.ofInt 32 d)))), .sc (.int .u32 (U (q2b (BitVec.ofInt 32 a) (BitVec.ofInt 32 b) (BitVec.ofInt 32 c) (BitVec.ofInt 32 d)))),
        .sc (.int .u32 (U (q2c (BitVec.ofInt 32 a) (BitVec.ofInt 32 b) (BitVec.ofInt 32 c) (BitVec.ofInt 32 d)))), .sc (.int .u32 (U (q2d (BitVec.ofInt 32 a) (BitVec.ofInt 32 b) (BitVec.ofInt 32 c) (BitVec.ofInt 32 d))))]), [], 0⟩
  | _ => none
theorem cok42 : COk Try.prog (tab [(74, turn4S)]) := cok_cons turn4S_ok cok_nil
theorem four {j : Nat} (h : j < 4) : j = 0 ∨ j = 1 ∨ j = 2 ∨ j = 3 := by omega
theorem rquarterS_ok : SumOk Try.prog 52 rquarterS := by
  unfold rquarterS
  apply sum_ok
  intro vs A H n o r hb h
  split at h
  rotate_left
  · cases h
  rename_i a b c d
  injection h with h
  subst h
  cases hb
  refine fsound_of_run tt_ok cok42 mixed_ok Try.call52 Try.func52 rfl (rs := _) Try.results52 (size := 38) Try.ntmps52 (Nat.le_of_ble_eq_true rfl) rfl fun hp hfa hfh => ?_
  obtain ⟨ha, hb, hc, hd⟩ := hp
  obtain ⟨A, rfl⟩ := u32_ex ha
  obtain ⟨B, rfl⟩ := u32_ex hb
  obtain ⟨C, rfl⟩ := u32_ex hc
  obtain ⟨D, rfl⟩ := u32_ex hd
  simp only [ofInt_U]
  have r0 : R32 (listI [U D, U C, U B, U A].reverse) 4 := fun j hj => by
    rcases four hj with rfl | rfl | rfl | rfl <;> exact ⟨U_nonneg _, U_lt32 _⟩
  have e0 : L32 (listI [U D, U C, U B, U A].reverse) 4 = [A, B, C, D] := by
    refine list_ext 0 (L32_length _ _) fun j hj => ?_
    rw [L32_length] at hj
    rcases four hj with rfl | rfl | rfl | rfl <;> exact ofInt_U _
  repeat (first | ((with_reducible refine (Cd.then_iff _ _).2 (And.intro ?_ ?_)); · repeat' ((conv => arg 1; whnf); first | exact Cd.holds_tt | (refine Cd.holds_p ?_; first | exact r0 | exact R32_UL _ _ | exact ⟨rfl, rfl⟩ | (refine ⟨?_, ?_, ?_, ?_, ?_, ?_, ?_, ?_, ?_⟩ <;> decide)) | refine Cd.holds_and ?_ ?_)) | ((conv => whnf); (with_reducible refine And.intro ?_ ?_); · first | (intro _; refine ⟨True.intro, ?_⟩; omega) | (intro _; refine ⟨decide_eq_true ?_, ?_⟩ <;> omega)))
  conv => whnf
  have eL : ∀ p q r s : W32, L32 (UL [p, q, r, s]) 4 = [p, q, r, s] := fun _ _ _ _ => L32_UL' rfl
  have e1 : trn [A, B, C, D] (Int.toNat 0) (Int.toNat 1) (Int.toNat 3) (Int.toNat 16) = [A + B, B, C, q1d A B D] := rfl
  have e2 : trn [A + B, B, C, q1d A B D] (Int.toNat 2) (Int.toNat 3) (Int.toNat 1) (Int.toNat 12) = [A + B, q1b A B C D, q1c A B C D, q1d A B D] := rfl
  have e3 : trn [A + B, q1b A B C D, q1c A B C D, q1d A B D] (Int.toNat 0) (Int.toNat 1) (Int.toNat 3) (Int.toNat 8) = [q2a A B C D, q1b A B C D, q1c A B C D, q2d A B C D] := rfl
  have e4 : trn [q2a A B C D, q1b A B C D, q1c A B C D, q2d A B C D] (Int.toNat 2) (Int.toNat 3) (Int.toNat 1) (Int.toNat 7) = [q2a A B C D, q2b A B C D, q2c A B C D, q2d A B C D] := rfl
  simp only [e0, e1, eL, e2, e3, e4]
  refine ⟨[(0, ⟨0, some 26, []⟩), (1, ⟨1, some 27, []⟩), (2, ⟨3, some 28, []⟩), (3, ⟨0, some 29, []⟩), (4, ⟨8, some 30, []⟩), (5, ⟨24, some 31, []⟩), (6, ⟨0, some 32, []⟩), (7, ⟨64, some 33, []⟩), (8, ⟨192, some 34, []⟩), (9, ⟨0, some 35, []⟩), (10, ⟨512, some 36, []⟩), (11, ⟨1536, some 37, []⟩), (12, ⟨7, some 8, []⟩), (13, ⟨4159, some 9, []⟩), (14, ⟨12799, some 10, []⟩), (15, ⟨32767, some 11, []⟩)], 257, ?_⟩
  repeat (first | ((with_reducible refine (Cd.then_iff _ _).2 (And.intro ?_ ?_)); · repeat' ((conv => arg 1; whnf); (refine Cd.holds_p ?_; omega))) | ((conv => whnf); (with_reducible refine And.intro ?_ ?_); · first | omega | (refine decide_eq_true ?_; omega)))
  conv => whnf
  refine ⟨[], ?_⟩
  repeat ((conv => whnf); (with_reducible refine And.intro ?_ ?_); · rfl)
  conv => whnf
  exact True.intro
end Go.Proofs.Ytogijkmflhjhkaa

/- Functions through the evaluator: ChaCha20's blocks, bytes by them. No condition. -/
namespace Go.Proofs.Ytogijkmflhjhkaa
open Go.Sx Go.RowKit
set_option maxRecDepth 100000
set_option maxHeartbeats 2000000
set_option linter.unusedVariables false
set_option linter.unusedSimpArgs false

theorem cok33 : COk Try.prog (tab [(75, beginS), (76, qblkS)]) := cok_cons beginS_ok (cok_cons qblkS_ok cok_nil)
/-- The first i words are out. -/
def outW (D : List B8) (i j : Nat) : Int := if j < 4 * i then UL D j else 0
theorem outW_step {A : List W32} {i : Nat} (hi : i < A.length) (j : Nat) :
    outW (leW A) (i + 1) j = upd (upd (upd (upd (outW (leW A) i) (4 * i) (IntKind.u8.wrap (U (A.getD i 0)))) (4 * i + 1) (IntKind.u8.wrap (U (A.getD i 0) / 2 ^ min (Int.toNat 8) IntKind.u32.bits))) (4 * i + 2) (IntKind.u8.wrap (U (A.getD i 0) / 2 ^ min (Int.toNat 16) IntKind.u32.bits)))
      (4 * i + 3) (IntKind.u8.wrap (U (A.getD i 0) / 2 ^ min (Int.toNat 24) IntKind.u32.bits)) j := by
  have hd : ∀ r, r < 4 → (leW A).getD (4 * i + r) 0 = (w4l (A.getD i 0)).getD r 0 := fun r hr => leW_get A i r hi hr
  simp only [sh24, sh16, sh8, shr32, byte32]
  unfold upd outW
  by_cases h3 : j = 4 * i + 3
  · subst h3; rw [if_pos (by omega), if_pos rfl, UL_getD, hd 3 (by omega)]; rfl
  rw [if_neg h3]
  by_cases h2 : j = 4 * i + 2
  · subst h2; rw [if_pos (by omega), if_pos rfl, UL_getD, hd 2 (by omega)]; rfl
  rw [if_neg h2]
  by_cases h1 : j = 4 * i + 1
  · subst h1; rw [if_pos (by omega), if_pos rfl, UL_getD, hd 1 (by omega)]; rfl
  rw [if_neg h1]
  by_cases h0 : j = 4 * i
  · subst h0; rw [if_pos (by omega), if_pos rfl, UL_getD]; have := hd 0 (by omega); rw [Nat.add_zero] at this; rw [this]; rfl
  rw [if_neg h0]
  by_cases hq : j < 4 * i
  · rw [if_pos (by omega), if_pos hq]
  · rw [if_neg (by omega), if_neg hq]
theorem addv_get {T S : List W32} {i : Nat} (hT : T.length = 16) (hS : S.length = 16) (hi : i < 16) : IntKind.u32.wrap (UL T i + UL S i) = U ((addv T S).getD i 0) := by
  rw [UL_getD, UL_getD, add32]
  congr 1
  simp [addv, List.getD_eq_getElem?_getD, hT, hS, hi]
theorem single0 (X : List W32) {k : Nat} (h : k < 4) : single X 0 (k + 1) = qs (single X 0 k) k (4 + k) (8 + k) (12 + k) := by
  show col (single X 0 k) 0 k = _
  unfold col
  rw [show (k + 0) % 4 = k by omega]
/-- chacha.Block. -/
noncomputable def blockS : Summary := mkS false [.v, .v, .v] fun
  | [.v (.agg [.ints .u8 k 32]), .v (.sc (.int .u32 c)), .v (.agg [.ints .u8 n 12])] => some ⟨.and (.p (R8 k 32)) (.and (.p (u32R c)) (.p (R8 n 12))),
      some (.sa (.agg [.ints .u8 (UL (chBlock (L8 k 32) (BitVec.ofInt 32 c) (L8 n 12))) 64])), [], 0⟩
  | _ => none
theorem blockS_ok : SumOk Try.prog 55 blockS := by
  unfold blockS
  apply sum_ok
  intro vs A H n o r hb h
  split at h
  rotate_left
  · cases h
  rename_i k c n
  injection h with h
  subst h
  cases hb
  refine fsound_of_run tt_ok cok33 mixed_ok Try.call55 Try.func55 rfl (rs := _) Try.results55 (size := 94) Try.ntmps55 (Nat.le_of_ble_eq_true rfl) rfl fun hp hfa hfh => ?_
  obtain ⟨hk, hc, hn⟩ := hp
  have hk : R8 k 32 := hk
  have hn : R8 n 12 := hn
  have hc : u32R c := hc
  repeat ((conv => whnf); (with_reducible refine And.intro ?_ ?_); · assumption)
  conv => whnf
  have hSl : (chInit (L8 k 32) (BitVec.ofInt 32 c) (L8 n 12)).length = 16 := chInit_length _ _ _
  have hbe := chBlock_eq (L8 k 32) (BitVec.ofInt 32 c) (L8 n 12)
  generalize chInit (L8 k 32) (BitVec.ofInt 32 c) (L8 n 12) = S at *
  rw [hbe]
  clear hbe
  refine ⟨0, Nat, fun i => ⟨94, [(6, .sa (.sc (.ptr 2 0 0))), (7, .sa (.sc (.ptr 3 0 0))), (8, .sa (.sc (.ptr 4 0 0))), (9, .sa (.sc (.fn 76 4))), (21, .sa (.sc (.int .i64 i)))],
    [(2, .own 63 [.ints .u8 (fun _ => 0) 64] false), (3, .own 93 [.ints .u32 (UL S) 16] false), (4, .own 93 [.ints .u32 (UL (chN S (2 * i))) 16] false)], 5⟩, fun i => i ≤ 10, fun i => 10 - i, ⟨0, by omega, le_of [] ?_⟩, fun i hi => ?_⟩
  · repeat ((conv => whnf); (with_reducible refine And.intro ?_ ?_); · first | with_reducible rfl | (intro _ _; with_reducible rfl) | omega | exact fun j _ => rfl)
    conv => whnf
    exact True.intro
  have hi : i ≤ 10 := hi
  repeat ((conv => whnf); (with_reducible refine And.intro ?_ ?_); · omega)
  conv => whnf
  refine ⟨fun h1 => ?_, fun h1 => ?_⟩
  · replace h1 := of_decide_eq_true h1
    obtain ⟨X, hX⟩ : ∃ X, X = chN S (2 * i) := ⟨_, rfl⟩
    have hXl : X.length = 16 := by rw [hX, chN_length, hSl]
    rw [← hX]
    repeat ((conv => whnf); (with_reducible refine And.intro ?_ ?_); · omega)
    conv => whnf
    refine ⟨0, Nat, fun k => ⟨94, [(6, .sa (.sc (.ptr 2 0 0))), (7, .sa (.sc (.ptr 3 0 0))), (8, .sa (.sc (.ptr 4 0 0))), (9, .sa (.sc (.fn 76 4))), (21, .sa (.sc (.int .i64 i))), (23, .sa (.sc (.int .i64 k)))],
      [(2, .own 63 [.ints .u8 (fun _ => 0) 64] false), (3, .own 93 [.ints .u32 (UL S) 16] false), (4, .own 93 [.ints .u32 (UL (single X 0 k)) 16] false)], 5⟩, fun k => k ≤ 4, fun k => 4 - k, ⟨0, by omega, le_of [] ?_⟩, fun k hk4 => ?_⟩
    · repeat ((conv => whnf); (with_reducible refine And.intro ?_ ?_); · first | with_reducible rfl | (intro _ _; with_reducible rfl) | omega | exact fun j _ => rfl)
      conv => whnf
      exact True.intro
    have hk4 : k ≤ 4 := hk4
    repeat ((conv => whnf); (with_reducible refine And.intro ?_ ?_); · omega)
    conv => whnf
    refine ⟨fun h2 => ?_, fun h2 => ?_⟩
    · replace h2 := of_decide_eq_true h2
      have wa : IntKind.i64.wrap (4 + (k : Int)) = ((4 + k : Nat) : Int) := by rw [w_i64]; omega
      have wb : IntKind.i64.wrap (8 + (k : Int)) = ((8 + k : Nat) : Int) := by rw [w_i64]; omega
      have wc : IntKind.i64.wrap (12 + (k : Int)) = ((12 + k : Nat) : Int) := by rw [w_i64]; omega
      repeat ((conv => whnf); (with_reducible refine And.intro ?_ ?_); · first | omega | exact R32_UL _ _)
      conv => whnf
      refine ⟨k + 1, ⟨by show k + 1 ≤ 4; omega, by show 4 - (k + 1) < 4 - k; omega⟩, le_of [] ?_⟩
      have hL : L32 (UL (single X 0 k)) 16 = single X 0 k := L32_UL' (by rw [single_length, hXl])
      have hcol : single X 0 (k + 1) = qs (single X 0 k) k (4 + k) (8 + k) (12 + k) := single0 X (by omega)
      simp only [wa, wb, wc, Int.toNat_natCast, hL, hcol]
      repeat ((conv => whnf); (with_reducible refine And.intro ?_ ?_); · first | with_reducible rfl | (intro _ _; with_reducible rfl) | (simp only [w_i64, w_u64, w_u32, w_u8]; omega))
      conv => whnf
      exact True.intro
    · replace h2 := of_decide_eq_false h2
      have hk44 : k = 4 := by omega
      subst hk44
      obtain ⟨Y, hY⟩ : ∃ Y, Y = single X 0 4 := ⟨_, rfl⟩
      have hYl : Y.length = 16 := by rw [hY, single_length, hXl]
      rw [← hY]
      repeat ((conv => whnf); (with_reducible refine And.intro ?_ ?_); · omega)
      conv => whnf
      refine ⟨0, Nat, fun k => ⟨94, [(6, .sa (.sc (.ptr 2 0 0))), (7, .sa (.sc (.ptr 3 0 0))), (8, .sa (.sc (.ptr 4 0 0))), (9, .sa (.sc (.fn 76 4))), (21, .sa (.sc (.int .i64 i))), (36, .sa (.sc (.int .i64 k)))],
        [(2, .own 63 [.ints .u8 (fun _ => 0) 64] false), (3, .own 93 [.ints .u32 (UL S) 16] false), (4, .own 93 [.ints .u32 (UL (single Y 1 k)) 16] false)], 5⟩, fun k => k ≤ 4, fun k => 4 - k, ⟨0, by omega, le_of [] ?_⟩, fun k hk4 => ?_⟩
      · repeat ((conv => whnf); (with_reducible refine And.intro ?_ ?_); · first | with_reducible rfl | (intro _ _; with_reducible rfl) | omega | exact fun j _ => rfl)
        conv => whnf
        exact True.intro
      have hk4 : k ≤ 4 := hk4
      repeat ((conv => whnf); (with_reducible refine And.intro ?_ ?_); · omega)
      conv => whnf
      refine ⟨fun h3 => ?_, fun h3 => ?_⟩
      · replace h3 := of_decide_eq_true h3
        have m1 : (IntKind.i64.wrap ((k : Int) + 1)).tmod 4 = (((k + 1) % 4 : Nat) : Int) := by rw [show IntKind.i64.wrap ((k : Int) + 1) = ((k + 1 : Nat) : Int) by rw [w_i64]; omega]; rfl
        have m2 : (IntKind.i64.wrap ((k : Int) + 2)).tmod 4 = (((k + 2) % 4 : Nat) : Int) := by rw [show IntKind.i64.wrap ((k : Int) + 2) = ((k + 2 : Nat) : Int) by rw [w_i64]; omega]; rfl
        have m3 : (IntKind.i64.wrap ((k : Int) + 3)).tmod 4 = (((k + 3) % 4 : Nat) : Int) := by rw [show IntKind.i64.wrap ((k : Int) + 3) = ((k + 3 : Nat) : Int) by rw [w_i64]; omega]; rfl
        have wa : IntKind.i64.wrap (4 + (((k + 1) % 4 : Nat) : Int)) = ((4 + (k + 1) % 4 : Nat) : Int) := by rw [w_i64]; omega
        have wb : IntKind.i64.wrap (8 + (((k + 2) % 4 : Nat) : Int)) = ((8 + (k + 2) % 4 : Nat) : Int) := by rw [w_i64]; omega
        have wc : IntKind.i64.wrap (12 + (((k + 3) % 4 : Nat) : Int)) = ((12 + (k + 3) % 4 : Nat) : Int) := by rw [w_i64]; omega
        repeat ((conv => whnf); (with_reducible refine And.intro ?_ ?_); · first | omega | (simp only [m1, m2, m3, wa, wb, wc]; omega) | exact R32_UL _ _)
        conv => whnf
        refine ⟨k + 1, ⟨by show k + 1 ≤ 4; omega, by show 4 - (k + 1) < 4 - k; omega⟩, le_of [] ?_⟩
        have hL : L32 (UL (single Y 1 k)) 16 = single Y 1 k := L32_UL' (by rw [single_length, hYl])
        have hcol : single Y 1 (k + 1) = qs (single Y 1 k) k (4 + (k + 1) % 4) (8 + (k + 2) % 4) (12 + (k + 3) % 4) := rfl
        simp only [m1, m2, m3, wa, wb, wc, Int.toNat_natCast, hL, hcol]
        repeat ((conv => whnf); (with_reducible refine And.intro ?_ ?_); · first | with_reducible rfl | (intro _ _; with_reducible rfl) | (simp only [w_i64, w_u64, w_u32, w_u8]; omega))
        conv => whnf
        exact True.intro
      · replace h3 := of_decide_eq_false h3
        have hk45 : k = 4 := by omega
        subst hk45
        repeat ((conv => whnf); (with_reducible refine And.intro ?_ ?_); · omega)
        conv => whnf
        refine ⟨i + 1, ⟨by show i + 1 ≤ 10; omega, by show 10 - (i + 1) < 10 - i; omega⟩, le_of [] ?_⟩
        have he : chN S (2 * (i + 1)) = single Y 1 4 := by rw [chN_odd, chN_even, ← hX, ← hY]
        simp only [he]
        repeat ((conv => whnf); (with_reducible refine And.intro ?_ ?_); · first | with_reducible rfl | (intro _ _; with_reducible rfl) | (simp only [w_i64, w_u64, w_u32, w_u8]; omega))
        conv => whnf
        exact True.intro
  · replace h1 := of_decide_eq_false h1
    have hi10 : i = 10 := by omega
    subst hi10
    obtain ⟨T, hT⟩ : ∃ T, T = chN S 20 := ⟨_, rfl⟩
    have hTl : T.length = 16 := by rw [hT, chN_length, hSl]
    rw [show 2 * 10 = 20 from rfl, ← hT]
    repeat ((conv => whnf); (with_reducible refine And.intro ?_ ?_); · omega)
    conv => whnf
    obtain ⟨A, hA⟩ : ∃ A, A = addv T S := ⟨_, rfl⟩
    have hAl : A.length = 16 := by rw [hA, addv, List.length_zipWith, hTl, hSl]; rfl
    rw [← hA]
    refine ⟨0, Nat, fun i => ⟨94, [(6, .sa (.sc (.ptr 2 0 0))), (7, .sa (.sc (.ptr 3 0 0))), (8, .sa (.sc (.ptr 4 0 0))), (12, .sa (.sc (.ptr 5 0 0))), (56, .sa (.sc (.int .i64 i)))],
      [(2, .own 63 [.ints .u8 (fun _ => 0) 64] false), (3, .own 93 [.ints .u32 (UL S) 16] false), (4, .own 93 [.ints .u32 (UL T) 16] false), (5, .own 63 [.ints .u8 (outW (leW A) i) 64] false)], 6⟩, fun i => i ≤ 16, fun i => 16 - i, ⟨0, by omega, le_of [] ?_⟩, fun i hi => ?_⟩
    · repeat ((conv => whnf); (with_reducible refine And.intro ?_ ?_); · first | with_reducible rfl | (intro _ _; with_reducible rfl) | omega | exact fun j _ => if_neg (by omega))
      conv => whnf
      exact True.intro
    have hi : i ≤ 16 := hi
    repeat ((conv => whnf); (with_reducible refine And.intro ?_ ?_); · omega)
    conv => whnf
    refine ⟨fun h4 => ?_, fun h4 => ?_⟩
    · replace h4 := of_decide_eq_true h4
      have w0 : IntKind.i64.wrap (4 * (i : Int)) = ((4 * i : Nat) : Int) := by rw [w_i64]; omega
      have w1 : IntKind.i64.wrap (((4 * i : Nat) : Int) + 1) = ((4 * i + 1 : Nat) : Int) := by rw [w_i64]; omega
      have w2 : IntKind.i64.wrap (((4 * i : Nat) : Int) + 2) = ((4 * i + 2 : Nat) : Int) := by rw [w_i64]; omega
      have w3 : IntKind.i64.wrap (((4 * i : Nat) : Int) + 3) = ((4 * i + 3 : Nat) : Int) := by rw [w_i64]; omega
      repeat ((conv => whnf); (with_reducible refine And.intro ?_ ?_); · omega)
      conv => whnf
      refine ⟨[(0, ⟨0, some 59, []⟩), (1, ⟨1, some 60, []⟩), (2, ⟨3, some 61, []⟩), (3, ⟨0, some 62, []⟩), (4, ⟨8, some 63, []⟩), (5, ⟨24, some 64, []⟩), (6, ⟨63, some 65, []⟩), (7, ⟨127, some 14, []⟩)], 134, ?_⟩
      repeat ((conv => whnf); (with_reducible refine And.intro ?_ ?_); · first | omega | (simp only [w0, w1, w2, w3, Int.toNat_natCast]; omega))
      conv => whnf
      refine ⟨i + 1, ⟨by show i + 1 ≤ 16; omega, by show 16 - (i + 1) < 16 - i; omega⟩, le_of [] ?_⟩
      have hx := addv_get hTl hSl (show i < 16 by omega)
      rw [← hA] at hx
      have hst := outW_step (A := A) (i := i) (by omega)
      simp only [w0, w1, w2, w3, Int.toNat_natCast, Nat.zero_add, hx]
      repeat ((conv => whnf); (with_reducible refine And.intro ?_ ?_); · first | with_reducible rfl | (intro _ _; with_reducible rfl) | exact fun j _ => hst j | (simp only [w_i64, w_u64, w_u32, w_u8]; omega))
      conv => whnf
      exact True.intro
    · replace h4 := of_decide_eq_false h4
      have hi16 : i = 16 := by omega
      subst hi16
      repeat ((conv => whnf); (with_reducible refine And.intro ?_ ?_); · omega)
      conv => whnf
      refine ⟨[], ?_⟩
      repeat ((conv => whnf); (with_reducible refine And.intro ?_ ?_); · first | with_reducible rfl | (intro j hj; unfold outW; rw [if_pos (by omega)]))
      conv => whnf
      exact True.intro
end Go.Proofs.Ytogijkmflhjhkaa

/- Numbers by digits; Poly1305 as RFC 8439 says it. Plain definitions and lemmas: no program, no condition. -/
namespace Go.Proofs.Ytogijkmflhjhkaa
open Go.Sx Go.RowKit
set_option linter.unusedSimpArgs false
set_option linter.unusedVariables false

/-- What n digits of base B stand for; the digits of a number. -/
def vN (B : Nat) (g : Nat → Nat) : Nat → Nat
  | 0 => 0
  | n + 1 => vN B g n + g n * B ^ n
def dg (B v j : Nat) : Nat := v / B ^ j % B
def updN (g : Nat → Nat) (i x j : Nat) : Nat := if j = i then x else g j
def NI (g : Nat → Nat) (j : Nat) : Int := (g j : Int)
def toN (f : Nat → Int) (j : Nat) : Nat := (f j).toNat
theorem toN_NI (g : Nat → Nat) : toN (NI g) = g := rfl
theorem vN_congr {B : Nat} {g h : Nat → Nat} : ∀ {n : Nat}, (∀ j, j < n → g j = h j) → vN B g n = vN B h n
  | 0, _ => rfl
  | n + 1, e => by rw [vN, vN, vN_congr (fun j hj => e j (by omega)), e n (by omega)]
theorem vN_upd (B : Nat) (g : Nat → Nat) (i x : Nat) : ∀ n, i < n → vN B (updN g i x) n + g i * B ^ i = vN B g n + x * B ^ i
  | 0, h => by omega
  | n + 1, h => by
    rw [vN, vN]
    by_cases e : i = n
    · subst e
      rw [vN_congr (n := i) (g := updN g i x) (h := g) (fun j hj => if_neg (by omega)), show updN g i x i = x from if_pos rfl]
      omega
    · have := vN_upd B g i x n (by omega)
      rw [show updN g i x n = g n from if_neg (by omega)]
      omega
theorem vN_lt {B : Nat} {g : Nat → Nat} : ∀ {n : Nat}, (∀ j, j < n → g j < B) → vN B g n < B ^ n
  | 0, _ => by simp [vN]
  | n + 1, h => by
    have h1 := vN_lt (n := n) fun j hj => h j (by omega)
    have h2 : (g n + 1) * B ^ n ≤ B * B ^ n := Nat.mul_le_mul_right _ (h n (by omega))
    rw [Nat.succ_mul] at h2
    rw [vN, Nat.pow_succ, Nat.mul_comm (B ^ n) B]
    omega
theorem vN_le {B : Nat} {g : Nat → Nat} {m : Nat} : ∀ {n : Nat}, m ≤ n → vN B g m ≤ vN B g n
  | 0, h => by rw [Nat.le_zero.1 h]; exact Nat.le_refl _
  | n + 1, h => by
    by_cases e : m = n + 1
    · rw [e]; exact Nat.le_refl _
    · have := vN_le (B := B) (g := g) (show m ≤ n by omega)
      rw [vN]; omega
theorem vN_mod {B : Nat} {g : Nat → Nat} {j : Nat} : ∀ {n : Nat}, (∀ i, i < n → g i < B) → j ≤ n → vN B g n % B ^ j = vN B g j
  | 0, _, hj => by rw [Nat.le_zero.1 hj]; simp [vN, Nat.mod_one]
  | n + 1, h, hj => by
    by_cases e : j = n + 1
    · rw [e]; exact Nat.mod_eq_of_lt (vN_lt h)
    · rw [vN, show B ^ n = B ^ j * B ^ (n - j) by rw [← Nat.pow_add]; congr 1; omega, Nat.mul_comm (B ^ j), ← Nat.mul_assoc, Nat.add_mul_mod_self_right]
      exact vN_mod (fun i hi => h i (by omega)) (by omega)
theorem dg_val {B : Nat} (hB : 0 < B) {g : Nat → Nat} {n j : Nat} (h : ∀ i, i < n → g i < B) (hj : j < n) : dg B (vN B g n) j = g j := by
  have h1 : vN B g n % B ^ (j + 1) = _ := Nat.mod_pow_succ
  rw [vN_mod h (by omega), vN_mod h (by omega), vN] at h1
  have h2 : B ^ j * g j = B ^ j * (vN B g n / B ^ j % B) := by rw [Nat.mul_comm]; omega
  exact (Nat.eq_of_mul_eq_mul_left (Nat.pow_pos hB) h2).symm
theorem vN_dg (B v : Nat) : ∀ n, vN B (dg B v) n = v % B ^ n
  | 0 => by simp [vN, Nat.mod_one]
  | n + 1 => by rw [vN, vN_dg B v n, Nat.mod_pow_succ, dg, Nat.mul_comm]
theorem dg_lt {B : Nat} (hB : 0 < B) (v j : Nat) : dg B v j < B := Nat.mod_lt _ hB
theorem dg_big {B v j : Nat} (h : v < B ^ j) : dg B v j = 0 := by rw [dg, Nat.div_eq_of_lt h, Nat.zero_mod]
theorem vN_pos {B : Nat} (hB : 0 < B) {g : Nat → Nat} : ∀ {n : Nat}, vN B g n = 0 → ∀ j, j < n → g j = 0
  | n + 1, h, j, hj => by
    rw [vN] at h
    by_cases e : j = n
    · subst e
      have h0 : g j * B ^ j = 0 := by omega
      rcases Nat.mul_eq_zero.1 h0 with h | h
      · exact h
      · exact absurd h (Nat.ne_of_gt (Nat.pow_pos hB))
    · exact vN_pos hB (n := n) (by omega) j (by omega)
theorem vN_zero {B : Nat} {g : Nat → Nat} : ∀ {n : Nat}, (∀ j, j < n → g j = 0) → vN B g n = 0
  | 0, _ => rfl
  | n + 1, h => by rw [vN, vN_zero fun j hj => h j (by omega), h n (by omega), Nat.zero_mul]
theorem vN_add (B : Nat) (g h : Nat → Nat) : ∀ n, vN B (fun j => g j + h j) n = vN B g n + vN B h n
  | 0 => rfl
  | n + 1 => by rw [vN, vN, vN, vN_add B g h n, Nat.add_mul]; omega
/-- Digits that end. -/
def cutN (g : Nat → Nat) (m j : Nat) : Nat := if j < m then g j else 0
theorem vN_cut (B : Nat) (g : Nat → Nat) (m : Nat) : ∀ n, m ≤ n → vN B (cutN g m) n = vN B g m
  | 0, h => by rw [Nat.le_zero.1 h]; rfl
  | n + 1, h => by
    by_cases e : m = n + 1
    · subst e; exact vN_congr fun j hj => if_pos hj
    · rw [vN, vN_cut B g m n (by omega), show cutN g m n = 0 from if_neg (by omega), Nat.zero_mul, Nat.add_zero]

/-- Bytes as a number, the lowest first; back. -/
def leN : List B8 → Nat
  | [] => 0
  | b :: l => b.toNat + 256 * leN l
def leB (n v : Nat) : List B8 := (List.range n).map fun i => BitVec.ofNat 8 (v / 256 ^ i)
theorem leB_length (n v : Nat) : (leB n v).length = n := by simp [leB]
theorem leN_append (a b : List B8) : leN (a ++ b) = leN a + 256 ^ a.length * leN b := by
  induction a with
  | nil => simp [leN]
  | cons x a ih => rw [List.cons_append, leN, ih, leN, List.length_cons, Nat.pow_succ, Nat.mul_add, ← Nat.mul_assoc, Nat.mul_comm 256 (256 ^ a.length)]; omega
theorem leN_lt (l : List B8) : leN l < 256 ^ l.length := by
  induction l with
  | nil => simp [leN]
  | cons x l ih =>
    rw [leN, List.length_cons, Nat.pow_succ]
    have := x.isLt
    omega
theorem leN_take_succ (l : List B8) (i : Nat) (h : i < l.length) : leN (l.take (i + 1)) = leN (l.take i) + (l.getD i 0).toNat * 256 ^ i := by
  rw [List.take_succ_eq_append_getElem h, leN_append, List.length_take, Nat.min_eq_left (by omega)]
  simp [leN, List.getD_eq_getElem?_getD, h, Nat.mul_comm]
theorem leN_vN (l : List B8) : ∀ n, n ≤ l.length → vN 256 (toN (UL l)) n = leN (l.take n)
  | 0, _ => by simp [vN, leN]
  | n + 1, h => by rw [vN, leN_vN l n (by omega), leN_take_succ l n (by omega)]; rfl
theorem leN_vN' (l : List B8) {n : Nat} (h : n = l.length) : vN 256 (toN (UL l)) n = leN l := by
  rw [leN_vN l n (by omega), List.take_of_length_le (by omega)]
theorem UL_lt (l : List B8) (j : Nat) : toN (UL l) j < 256 := by
  have := (l.getD j 0).isLt
  show (U (l.getD j 0)).toNat < 256
  unfold U; omega
theorem leN_dg (l : List B8) {n j : Nat} (h : n = l.length) (hj : j < n) : UL l j = NI (dg 256 (leN l)) j := by
  rw [← leN_vN' l h, NI, dg_val (by omega) (fun i _ => UL_lt l i) hj]
  exact (Int.toNat_of_nonneg (U_nonneg _)).symm
theorem UL_leB (n v j : Nat) (h : j < n) : UL (leB n v) j = NI (dg 256 v) j := by
  unfold UL leB NI dg U
  simp [h]
theorem leN_leB (n v : Nat) : leN (leB n v) = v % 256 ^ n := by
  rw [← leN_vN' (leB n v) (leB_length n v).symm, ← vN_dg]
  refine vN_congr fun j hj => ?_
  unfold toN
  rw [UL_leB n v j hj]
  rfl
theorem leN_inj {a b : List B8} (hl : a.length = b.length) (h : leN a = leN b) : a = b := by
  refine list_ext 0 hl fun j hj => ?_
  have h1 := leN_dg a rfl hj
  rw [h, ← leN_dg b hl hj] at h1
  exact U_inj h1
theorem leB_leN (l : List B8) {n : Nat} (h : n = l.length) : leB n (leN l) = l := by
  refine leN_inj (by rw [leB_length, h]) ?_
  rw [leN_leB, h, Nat.mod_eq_of_lt (leN_lt l)]
theorem land_step (x X m M : Nat) (hx : x < 256) (hm : m < 256) : (x + 256 * X) &&& (m + 256 * M) = (x &&& m) + 256 * (X &&& M) := by
  have e1 : (x + 256 * X) &&& (m + 256 * M) = ((x + 256 * X) &&& (m + 256 * M)) % 2 ^ 8 + 2 ^ 8 * (((x + 256 * X) &&& (m + 256 * M)) / 2 ^ 8) := (Nat.mod_add_div _ _).symm
  rw [e1, Nat.and_mod_two_pow, Nat.and_div_two_pow]
  rw [show (x + 256 * X) % 2 ^ 8 = x by omega, show (m + 256 * M) % 2 ^ 8 = m by omega, show (x + 256 * X) / 2 ^ 8 = X by omega, show (m + 256 * M) / 2 ^ 8 = M by omega]
theorem leN_and : ∀ (a b : List B8), a.length = b.length → leN (List.zipWith (· &&& ·) a b) = leN a &&& leN b
  | [], [], _ => rfl
  | x :: a, y :: b, h => by
    rw [List.zipWith_cons_cons, leN, leN, leN, leN_and a b (by simpa using h), land_step _ _ _ _ x.isLt y.isLt, BitVec.toNat_and]

/-! Poly1305 -/
def P1305 : Nat := 1361129467683753853853498429727072845819
theorem P1305_eq : P1305 = 2 ^ 130 - 5 := by decide
def masks : List B8 := [255, 255, 255, 15, 252, 255, 255, 15, 252, 255, 255, 15, 252, 255, 255, 15]
def polyR (key : List B8) : Nat := leN (List.zipWith (· &&& ·) (key.take 16) masks)
/-- Piece i. -/
def pc (l : List B8) (i : Nat) : List B8 := (l.drop (16 * i)).take 16
def polyA (r : Nat) (l : List B8) : Nat → Nat
  | 0 => 0
  | k + 1 => (polyA r l k + (leN (pc l k) + 256 ^ (pc l k).length)) * r % P1305
def polyN (key l : List B8) : Nat := polyA (polyR key) l ((l.length + 15) / 16)
/-- The tag. -/
noncomputable def polyTag (key l : List B8) : List B8 := leB 16 (sealF (polyN key l + leN ((key.drop 16).take 16)))
theorem polyTag_eq (key l : List B8) : polyTag key l = leB 16 (polyN key l + leN ((key.drop 16).take 16)) := by unfold polyTag; rw [sealF_eq]
theorem polyTag_length (key l : List B8) : (polyTag key l).length = 16 := leB_length _ _
theorem polyA_lt (r : Nat) (l : List B8) (k : Nat) : polyA r l k < P1305 := by
  cases k with
  | zero => show 0 < P1305; decide
  | succ k => exact Nat.mod_lt _ (by decide)
theorem polyR_lt (key : List B8) : polyR key < 2 ^ 124 := by
  unfold polyR
  have h : ∀ a : List B8, leN (List.zipWith (· &&& ·) a masks) ≤ leN masks := by
    have : ∀ a b : List B8, leN (List.zipWith (· &&& ·) a b) ≤ leN b := by
      intro a
      induction a with
      | nil => intro b; simp [leN]
      | cons x a ih =>
        intro b
        cases b with
        | nil => simp [leN]
        | cons y b =>
          rw [List.zipWith_cons_cons, leN, leN, BitVec.toNat_and]
          have := ih b
          have h2 : x.toNat &&& y.toNat ≤ y.toNat := Nat.and_le_right
          omega
    exact fun a => this a masks
  exact Nat.lt_of_le_of_lt (h _) (by decide)

/-- What stands above 130 bits comes again, five times. -/
def foldV (A : Nat) : Nat := if A < 1361129467683753853853498429727072845824 then A else foldV (A % 1361129467683753853853498429727072845824 + 5 * (A / 1361129467683753853853498429727072845824))
  termination_by A
  decreasing_by omega
theorem foldV_small {A : Nat} (h : A < 1361129467683753853853498429727072845824) : foldV A = A := by rw [foldV, if_pos h]
theorem foldV_big {A : Nat} (h : ¬ A < 1361129467683753853853498429727072845824) : foldV A = foldV (A % 1361129467683753853853498429727072845824 + 5 * (A / 1361129467683753853853498429727072845824)) := by rw [foldV, if_neg h]
theorem foldV_ok (A : Nat) : foldV A < 1361129467683753853853498429727072845824 ∧ foldV A % P1305 = A % P1305 := by
  induction A using Nat.strongRecOn with
  | ind A ih =>
    by_cases h : A < 1361129467683753853853498429727072845824
    · rw [foldV_small h]; exact ⟨h, rfl⟩
    · rw [foldV_big h]
      obtain ⟨h1, h2⟩ := ih (A % 1361129467683753853853498429727072845824 + 5 * (A / 1361129467683753853853498429727072845824)) (by omega)
      refine ⟨h1, h2.trans ?_⟩
      unfold P1305
      omega
/-- The last one: less than 2^130 - 5. -/
theorem last_mod {x : Nat} (h : x < 1361129467683753853853498429727072845824) : x % P1305 = if 1361129467683753853853498429727072845824 ≤ x + 5 then (x + 5) % 1361129467683753853853498429727072845824 else x := by
  unfold P1305
  split <;> omega
theorem step_mod {a b c r : Nat} (h : a % P1305 = b % P1305) : (a + c) * r % P1305 = (b + c) * r % P1305 := by
  rw [Nat.mul_mod, Nat.add_mod, h, ← Nat.add_mod, ← Nat.mul_mod]
/-- A product, what stands above 130 bits five times, twice. -/
def timesV (a b : Nat) : Nat :=
  (a * b % 1361129467683753853853498429727072845824 + 5 * (a * b / 1361129467683753853853498429727072845824)) % 1361129467683753853853498429727072845824 +
    5 * ((a * b % 1361129467683753853853498429727072845824 + 5 * (a * b / 1361129467683753853853498429727072845824)) / 1361129467683753853853498429727072845824)
theorem timesV_mod (a b : Nat) : timesV a b % P1305 = a * b % P1305 := by
  unfold timesV P1305
  generalize a * b = p
  omega
def lessV (a : Nat) : Nat :=
  let n := a % 1361129467683753853853498429727072845824 + 5 * (a / 1361129467683753853853498429727072845824)
  if 1361129467683753853853498429727072845824 ≤ n + 5 then (n + 5) % 1361129467683753853853498429727072845824 else n
theorem lessV_eq {a : Nat} (h : a < 2 * 1361129467683753853853498429727072845824) : lessV a = a % P1305 := by
  unfold lessV P1305
  simp only
  split <;> omega
end Go.Proofs.Ytogijkmflhjhkaa

/- Numbers by words of 64 bits, as poly's walk reckons them. Plain definitions and lemmas: no program, no condition. -/
namespace Go.Proofs.Ytogijkmflhjhkaa
open Go.Sx Go.RowKit
set_option linter.unusedSimpArgs false
set_option linter.unusedVariables false
set_option maxRecDepth 100000

def lim (V j : Nat) : Int := ((V / 18446744073709551616 ^ j % 18446744073709551616 : Nat) : Int)
def N3 (f : Nat → Int) : Nat := (f 0).toNat + (f 1).toNat * 18446744073709551616 + (f 2).toNat * 340282366920938463463374607431768211456
def R64 (f : Nat → Int) (n : Nat) : Prop := ∀ j, j < n → 0 ≤ f j ∧ f j < 18446744073709551616
def u64R (x : Int) : Prop := 0 ≤ x ∧ x < 18446744073709551616
theorem lim0 (V : Nat) : lim V 0 = ((V % 18446744073709551616 : Nat) : Int) := by unfold lim; rw [Nat.pow_zero, Nat.div_one]
theorem lim1 (V : Nat) : lim V 1 = ((V / 18446744073709551616 % 18446744073709551616 : Nat) : Int) := by unfold lim; rw [Nat.pow_one]
theorem lim2 (V : Nat) : lim V 2 = ((V / 340282366920938463463374607431768211456 % 18446744073709551616 : Nat) : Int) := by unfold lim; rw [show 18446744073709551616 ^ 2 = 340282366920938463463374607431768211456 from rfl]
theorem R64_lim (V n : Nat) : R64 (lim V) n := fun j _ => by unfold lim; omega
theorem u64_lim (V j : Nat) : u64R (lim V j) := by unfold lim u64R; omega
theorem N3_lim (V : Nat) : N3 (lim V) = V % 6277101735386680763835789423207666416102355444464034512896 := by
  unfold N3
  rw [lim0, lim1, lim2]
  simp only [Int.toNat_natCast]
  omega
theorem N3_lim' {V : Nat} (h : V < 6277101735386680763835789423207666416102355444464034512896) : N3 (lim V) = V := by rw [N3_lim, Nat.mod_eq_of_lt h]
theorem three {j : Nat} (h : j < 3) : j = 0 ∨ j = 1 ∨ j = 2 := by omega
theorem lim_ext {f : Nat → Int} {V : Nat} (h0 : f 0 = lim V 0) (h1 : f 1 = lim V 1) (h2 : f 2 = lim V 2) : ∀ j, j < 3 → f j = lim V j := fun j hj => by
  rcases three hj with rfl | rfl | rfl <;> assumption
theorem nat3 {f : Nat → Int} (hf : R64 f 3) : ∃ a b c : Nat, f 0 = (a : Int) ∧ f 1 = (b : Int) ∧ f 2 = (c : Int) ∧ a < 18446744073709551616 ∧ b < 18446744073709551616 ∧ c < 18446744073709551616 ∧ N3 f = a + b * 18446744073709551616 + c * 340282366920938463463374607431768211456 := by
  have h0 := hf 0 (by omega)
  have h1 := hf 1 (by omega)
  have h2 := hf 2 (by omega)
  refine ⟨(f 0).toNat, (f 1).toNat, (f 2).toNat, ?_, ?_, ?_, ?_, ?_, ?_, rfl⟩ <;> omega
theorem lim_N3 {f : Nat → Int} (hf : R64 f 3) : ∀ j, j < 3 → f j = lim (N3 f) j := by
  obtain ⟨a, b, c, h0, h1, h2, ha, hb, hc, hN⟩ := nat3 hf
  refine lim_ext ?_ ?_ ?_
  · rw [h0, lim0, hN]; omega
  · rw [h1, lim1, hN]; omega
  · rw [h2, lim2, hN]; omega
theorem N3_lt {f : Nat → Int} (hf : R64 f 3) : N3 f < 6277101735386680763835789423207666416102355444464034512896 := by
  obtain ⟨a, b, c, h0, h1, h2, ha, hb, hc, hN⟩ := nat3 hf
  omega
theorem N3_congr {f g : Nat → Int} (h : ∀ j, j < 3 → f j = g j) : N3 f = N3 g := by
  unfold N3; rw [h 0 (by omega), h 1 (by omega), h 2 (by omega)]

/-! bits -/
theorem and_u64 {a m : Nat} (ha : a < 18446744073709551616) (hm : m < 18446744073709551616) : bits .and .u64 (a : Int) (m : Int) = ((a &&& m : Nat) : Int) := by
  show IntKind.u64.wrap ((BitVec.ofInt 64 _ &&& BitVec.ofInt 64 _).toNat : Int) = _
  rw [BitVec.ofInt_natCast, BitVec.ofInt_natCast, BitVec.toNat_and, BitVec.toNat_ofNat, BitVec.toNat_ofNat, Nat.mod_eq_of_lt (show a < 2 ^ 64 from ha), Nat.mod_eq_of_lt (show m < 2 ^ 64 from hm), w_u64]
  have : a &&& m ≤ a := Nat.and_le_left
  omega
theorem and3 {a : Nat} (ha : a < 18446744073709551616) : bits .and .u64 (a : Int) 3 = ((a % 4 : Nat) : Int) := by
  have := and_u64 ha (m := 3) (by omega)
  rw [show (a &&& 3) = a % 4 from Nat.and_two_pow_sub_one_eq_mod a 2] at this
  exact this
theorem or_u64 {a k m : Nat} (ha : a < 2 ^ k) (h : a + 2 ^ k * m < 18446744073709551616) : bits .or .u64 (a : Int) ((2 ^ k * m : Nat) : Int) = ((a + 2 ^ k * m : Nat) : Int) := by
  show IntKind.u64.wrap ((BitVec.ofInt 64 _ ||| BitVec.ofInt 64 _).toNat : Int) = _
  rw [BitVec.ofInt_natCast, BitVec.ofInt_natCast, BitVec.toNat_or, BitVec.toNat_ofNat, BitVec.toNat_ofNat, Nat.mod_eq_of_lt (show a < 2 ^ 64 from by omega), Nat.mod_eq_of_lt (show 2 ^ k * m < 2 ^ 64 from by omega), w_u64, Nat.or_comm,
    ← Nat.two_pow_add_eq_or_of_lt ha]
  omega
theorem w64_nat {a : Nat} (h : a < 18446744073709551616) : IntKind.u64.wrap (a : Int) = (a : Int) := by rw [w_u64]; omega

/-! sixteen bytes -/
theorem sixteen {i : Nat} (h : i < 16) : i = 0 ∨ i = 1 ∨ i = 2 ∨ i = 3 ∨ i = 4 ∨ i = 5 ∨ i = 6 ∨ i = 7 ∨ i = 8 ∨ i = 9 ∨ i = 10 ∨ i = 11 ∨ i = 12 ∨ i = 13 ∨ i = 14 ∨ i = 15 := by omega
theorem read_or {d b s : Nat} (hs : s ≤ 56) (hd : d < 2 ^ s) (hb : b < 256) : bits .or .u64 (d : Int) (IntKind.u64.wrap ((b : Int) * 2 ^ s)) = ((d + 2 ^ s * b : Nat) : Int) := by
  have h1 : 2 ^ s ≤ 2 ^ 56 := Nat.pow_le_pow_right (by omega) hs
  have h2 : 2 ^ s * b ≤ 2 ^ s * 255 := Nat.mul_le_mul_left _ (by omega)
  have h3 : d + 2 ^ s * b < 18446744073709551616 := by
    have : (2 : Nat) ^ 56 = 72057594037927936 := rfl
    omega
  rw [show ((b : Int) * 2 ^ s) = ((2 ^ s * b : Nat) : Int) by push_cast; exact Int.mul_comm _ _, w64_nat (by omega), or_u64 hd h3]
theorem read_step {A x b i : Nat} (hi : i < 16) (hA : A < 256 ^ i) (hx : x < 18446744073709551616) (hb : b < 256) (j : Nat) (hj : j < 3) :
    upd (lim (A + x * 340282366920938463463374607431768211456)) (i / 8) (bits .or .u64 (lim (A + x * 340282366920938463463374607431768211456) (i / 8)) (IntKind.u64.wrap ((b : Int) * 2 ^ (8 * (i % 8))))) j = lim (A + b * 256 ^ i + x * 340282366920938463463374607431768211456) j := by
  have hd : (A + x * 340282366920938463463374607431768211456) / 18446744073709551616 ^ (i / 8) % 18446744073709551616 < 2 ^ (8 * (i % 8)) := by
    rcases sixteen hi with rfl | rfl | rfl | rfl | rfl | rfl | rfl | rfl | rfl | rfl | rfl | rfl | rfl | rfl | rfl | rfl <;> (simp only [Nat.reduceDiv, Nat.reduceMod, Nat.reduceMul, Nat.reducePow] at *; omega)
  have ho : bits .or .u64 (lim (A + x * 340282366920938463463374607431768211456) (i / 8)) (IntKind.u64.wrap ((b : Int) * 2 ^ (8 * (i % 8)))) = (((A + x * 340282366920938463463374607431768211456) / 18446744073709551616 ^ (i / 8) % 18446744073709551616 + 2 ^ (8 * (i % 8)) * b : Nat) : Int) := read_or (by omega) hd hb
  rw [ho]
  unfold upd lim
  rcases sixteen hi with rfl | rfl | rfl | rfl | rfl | rfl | rfl | rfl | rfl | rfl | rfl | rfl | rfl | rfl | rfl | rfl <;> rcases three hj with rfl | rfl | rfl <;>
    (simp only [Nat.reduceDiv, Nat.reduceMod, Nat.reduceMul, Nat.reducePow, Nat.reduceEqDiff, if_true, if_false, reduceIte] at *; omega)
theorem byte_lim {V i : Nat} (hi : i < 16) : IntKind.u8.wrap (lim V (i / 8) / 2 ^ (8 * (i % 8))) = U (BitVec.ofNat 8 (V / 256 ^ i)) := by
  rw [w_u8]
  unfold U lim
  rw [BitVec.toNat_ofNat]
  rcases sixteen hi with rfl | rfl | rfl | rfl | rfl | rfl | rfl | rfl | rfl | rfl | rfl | rfl | rfl | rfl | rfl | rfl <;>
    (simp only [Nat.reduceDiv, Nat.reduceMod, Nat.reduceMul, Nat.reducePow, Int.reducePow] at *; omega)

/-! add, low -/
theorem add_lim {f g : Nat → Int} (hf : R64 f 3) (hg : R64 g 3) {s0 s1 s2 c0 c1 c2 : Int} (h0 : s0 + c0 * 18446744073709551616 = f 0 + g 0) (h1 : s1 + c1 * 18446744073709551616 = f 1 + g 1 + c0) (h2 : s2 + c2 * 18446744073709551616 = f 2 + g 2 + c1)
    (r0 : u64R s0) (r1 : u64R s1) (r2 : u64R s2) (hc0 : 0 ≤ c0) (hc1 : 0 ≤ c1) (hc2 : 0 ≤ c2) (j : Nat) (hj : j < 3) : upd (upd (upd f 0 s0) 1 s1) 2 s2 j = lim (N3 f + N3 g) j := by
  obtain ⟨a0, a1, a2, e0, e1, e2, _, _, _, hN⟩ := nat3 hf
  obtain ⟨b0, b1, b2, d0, d1, d2, _, _, _, hM⟩ := nat3 hg
  rw [hN, hM]
  obtain ⟨p0, q0⟩ := r0
  obtain ⟨p1, q1⟩ := r1
  obtain ⟨p2, q2⟩ := r2
  rw [e0, d0] at h0
  rw [e1, d1] at h1
  rw [e2, d2] at h2
  revert j
  refine fun j hj => lim_ext (f := upd (upd (upd f 0 s0) 1 s1) 2 s2) ?_ ?_ ?_ j hj
  · show s0 = _
    rw [lim0]; omega
  · show s1 = _
    rw [lim1]; omega
  · show s2 = _
    rw [lim2]; omega
theorem low_lim {f : Nat → Int} (hf : R64 f 3) (j : Nat) (hj : j < 3) : upd f 2 (bits .and .u64 (f 2) 3) j = lim (N3 f % 1361129467683753853853498429727072845824) j := by
  obtain ⟨a0, a1, a2, e0, e1, e2, _, _, h2, hN⟩ := nat3 hf
  rw [hN]
  have := and3 h2
  refine lim_ext (f := upd f 2 (bits .and .u64 (f 2) 3)) ?_ ?_ ?_ j hj
  · show f 0 = _
    rw [lim0, e0]; omega
  · show f 1 = _
    rw [lim1, e1]; omega
  · show bits .and .u64 (f 2) 3 = _
    rw [lim2, e2, this]; omega
theorem N3_low {f : Nat → Int} (hf : R64 f 3) : f 2 / 4 = ((N3 f / 1361129467683753853853498429727072845824 : Nat) : Int) := by
  obtain ⟨a0, a1, a2, e0, e1, e2, _, _, h2, hN⟩ := nat3 hf
  rw [hN, e2]; omega

/-! times -/
theorem mul_step {m c p lo hi c1 l1 c2 x : Nat} (hm : m ≤ 340282366920938463426481119284349108225) (h1 : hi * 18446744073709551616 + lo = m) (h2 : l1 + c1 * 18446744073709551616 = lo + c) (h3 : x + c2 * 18446744073709551616 = p + l1) (hc : c < 18446744073709551616) (hp : p < 18446744073709551616)
    (k0 : lo < 18446744073709551616) (k1 : l1 < 18446744073709551616) (k2 : x < 18446744073709551616) : hi + c1 + c2 < 18446744073709551616 ∧ x + (hi + c1 + c2) * 18446744073709551616 = m + c + p := by omega
theorem sq_le {a b : Nat} (ha : a < 18446744073709551616) (hb : b < 18446744073709551616) : a * b ≤ 340282366920938463426481119284349108225 := Nat.mul_le_mul (show a ≤ 18446744073709551615 by omega) (show b ≤ 18446744073709551615 by omega)
theorem times_step (p : Nat → Nat) (i k x c' m c Q : Nat) (hik : i + k < 5) (h : vN 18446744073709551616 p 5 + c * 18446744073709551616 ^ (i + k) = Q) (hx : x + c' * 18446744073709551616 = m + c + p (i + k)) :
    vN 18446744073709551616 (updN p (i + k) x) 5 + c' * 18446744073709551616 ^ (i + k + 1) = Q + m * 18446744073709551616 ^ (i + k) := by
  have hv := vN_upd 18446744073709551616 p (i + k) x 5 hik
  rw [Nat.pow_succ]
  generalize 18446744073709551616 ^ (i + k) = T at *
  have hh : (x + c' * 18446744073709551616) * T = (m + c + p (i + k)) * T := by rw [hx]
  rw [Nat.add_mul, Nat.add_mul, Nat.add_mul, Nat.mul_right_comm, Nat.mul_assoc] at hh
  omega
theorem inner_next (F R p : Nat → Nat) (i k x c' c : Nat) (hik : i + k < 5) (h : vN 18446744073709551616 p 5 + c * 18446744073709551616 ^ (i + k) = vN 18446744073709551616 F i * vN 18446744073709551616 R 2 + F i * vN 18446744073709551616 R k * 18446744073709551616 ^ i) (hx : x + c' * 18446744073709551616 = F i * R k + c + p (i + k)) :
    vN 18446744073709551616 (updN p (i + k) x) 5 + c' * 18446744073709551616 ^ (i + (k + 1)) = vN 18446744073709551616 F i * vN 18446744073709551616 R 2 + F i * vN 18446744073709551616 R (k + 1) * 18446744073709551616 ^ i := by
  have h1 := times_step p i k x c' (F i * R k) c _ hik h hx
  have hs : vN 18446744073709551616 R (k + 1) = vN 18446744073709551616 R k + R k * 18446744073709551616 ^ k := rfl
  rw [← Nat.add_assoc i k 1, h1, hs, Nat.mul_add, Nat.add_mul, Nat.pow_add]
  have : F i * (R k * 18446744073709551616 ^ k) * 18446744073709551616 ^ i = F i * R k * (18446744073709551616 ^ i * 18446744073709551616 ^ k) := by
    rw [← Nat.mul_assoc, Nat.mul_assoc (F i * R k), Nat.mul_comm (18446744073709551616 ^ k)]
  omega
theorem outer_next (F R p : Nat → Nat) (i c : Nat) (hi : i < 3) (h : vN 18446744073709551616 p 5 + c * 18446744073709551616 ^ (i + 2) = vN 18446744073709551616 F i * vN 18446744073709551616 R 2 + F i * vN 18446744073709551616 R 2 * 18446744073709551616 ^ i) (h0 : p (i + 2) = 0) :
    vN 18446744073709551616 (updN p (i + 2) (p (i + 2) + c)) 5 = vN 18446744073709551616 F (i + 1) * vN 18446744073709551616 R 2 := by
  have hv := vN_upd 18446744073709551616 p (i + 2) (p (i + 2) + c) 5 (by omega)
  rw [h0] at hv ⊢
  rw [Nat.zero_mul, Nat.add_zero, Nat.zero_add] at hv
  have hs : vN 18446744073709551616 F (i + 1) = vN 18446744073709551616 F i + F i * 18446744073709551616 ^ i := rfl
  rw [Nat.zero_add, hv, h, hs, Nat.add_mul, Nat.mul_right_comm]
theorem vN5 (p : Nat → Nat) : vN 18446744073709551616 p 5 = p 0 + p 1 * 18446744073709551616 + p 2 * 340282366920938463463374607431768211456 + p 3 * 6277101735386680763835789423207666416102355444464034512896 + p 4 * 115792089237316195423570985008687907853269984665640564039457584007913129639936 := by
  simp only [vN, Nat.reducePow]; omega
theorem vN3 (f : Nat → Int) : vN 18446744073709551616 (toN f) 3 = N3 f := by
  simp only [vN, N3, toN, Nat.reducePow]; omega
theorem vN2 (f : Nat → Int) (h : N3 f < 340282366920938463463374607431768211456) : vN 18446744073709551616 (toN f) 2 = N3 f := by
  revert h
  simp only [vN, N3, toN, Nat.reducePow]; omega
theorem or62 {a b : Nat} (ha : a < 18446744073709551616) (hb : b < 18446744073709551616) : bits .or .u64 ((a / 4 : Nat) : Int) (IntKind.u64.wrap ((b : Int) * 2 ^ 62)) = ((a / 4 + 4611686018427387904 * (b % 4) : Nat) : Int) := by
  have h := or_u64 (a := a / 4) (k := 62) (m := b % 4) (by simp only [Nat.reducePow]; omega) (by simp only [Nat.reducePow]; omega)
  simp only [Nat.reducePow] at h
  rw [← h]
  congr 1
  rw [w_u64]
  simp only [Int.reducePow]
  omega
theorem N3_of {g : Nat → Int} {a b c : Nat} (h0 : g 0 = (a : Int)) (h1 : g 1 = (b : Int)) (h2 : g 2 = (c : Int)) : N3 g = a + b * 18446744073709551616 + c * 340282366920938463463374607431768211456 := by unfold N3; rw [h0, h1, h2]; rfl
theorem times_low {p : Nat → Nat} (hp : ∀ j, p j < 18446744073709551616) : p 0 + p 1 * 18446744073709551616 + p 2 % 4 * 340282366920938463463374607431768211456 = vN 18446744073709551616 p 5 % 1361129467683753853853498429727072845824 := by
  have h0 := hp 0; have h1 := hp 1; have h2 := hp 2; have h3 := hp 3; have h4 := hp 4
  rw [vN5]; omega
theorem times_high {p : Nat → Nat} (hp : ∀ j, p j < 18446744073709551616) : (p 2 / 4 + 4611686018427387904 * (p 3 % 4)) + (p 3 / 4 + 4611686018427387904 * (p 4 % 4)) * 18446744073709551616 + p 4 / 4 * 340282366920938463463374607431768211456 = vN 18446744073709551616 p 5 / 1361129467683753853853498429727072845824 := by
  have h0 := hp 0; have h1 := hp 1; have h2 := hp 2; have h3 := hp 3; have h4 := hp 4
  rw [vN5]; omega

/-! the key's first half; a piece -/
theorem masks_val : leN masks = 21267647620597763993911028882763415551 := by decide
theorem land_digits (a m : Nat) : (a &&& m) % 18446744073709551616 = (a % 18446744073709551616) &&& (m % 18446744073709551616) ∧ (a &&& m) / 18446744073709551616 = (a / 18446744073709551616) &&& (m / 18446744073709551616) :=
  ⟨Nat.and_mod_two_pow (n := 64), Nat.and_div_two_pow (n := 64)⟩
theorem clamp {K : Nat} (h : K < 340282366920938463463374607431768211456) (j : Nat) (hj : j < 3) :
    upd (upd (lim K) 0 (bits .and .u64 (lim K 0) 1152921487695413247)) 1 (bits .and .u64 (lim K 1) 1152921487695413244) j = lim (K &&& leN masks) j := by
  obtain ⟨e0, e1⟩ := land_digits K (leN masks)
  have le : K &&& leN masks ≤ K := Nat.and_le_left
  rw [masks_val] at *
  have a0 := and_u64 (a := K % 18446744073709551616) (m := 1152921487695413247) (by omega) (by omega)
  have a1 := and_u64 (a := K / 18446744073709551616 % 18446744073709551616) (m := 1152921487695413244) (by omega) (by omega)
  refine lim_ext (f := upd (upd (lim K) 0 (bits .and .u64 (lim K 0) 1152921487695413247)) 1 (bits .and .u64 (lim K 1) 1152921487695413244)) ?_ ?_ ?_ j hj
  · show bits .and .u64 (lim K 0) 1152921487695413247 = _
    rw [lim0, lim0, e0]
    exact a0
  · show bits .and .u64 (lim K 1) 1152921487695413244 = _
    rw [lim1, lim1, e1]
    have hk : K / 18446744073709551616 % 18446744073709551616 = K / 18446744073709551616 := Nat.mod_eq_of_lt (by omega)
    have hle : K / 18446744073709551616 &&& 21267647620597763993911028882763415551 / 18446744073709551616 ≤ K / 18446744073709551616 := Nat.and_le_left
    rw [Nat.mod_eq_of_lt (a := K / 18446744073709551616 &&& _) (by omega)]
    rw [hk] at a1 ⊢
    exact a1
  · show lim K 2 = _
    rw [lim2, lim2]
    omega
theorem polyR_eq {key : List B8} (h : 16 ≤ key.length) : polyR key = leN (key.take 16) &&& leN masks := leN_and _ _ (by rw [List.length_take, Nat.min_eq_left h]; rfl)
theorem leN_zeros (n : Nat) : leN (List.replicate n 0) = 0 := by
  induction n with
  | zero => rfl
  | succ n ih => rw [List.replicate_succ, leN, ih]; rfl
theorem L8_succ (f : Nat → Int) (n : Nat) : L8 f (n + 1) = L8 f n ++ [BitVec.ofInt 8 (f n)] := by simp [L8, List.range_succ]
theorem piece_val {l : List B8} {k : Nat} (hk : k = l.length) (hk2 : k ≤ 16) {X : Nat → Int} (hX : ∀ j, j < 17 → X j = if j < k then UL l j else if j = k then 1 else 0) :
    leN (L8 X 16) + (X 16).toNat * 340282366920938463463374607431768211456 = leN l + 256 ^ k := by
  have h17 : L8 X 17 = l ++ ([1] ++ List.replicate (16 - k) 0) := by
    refine list_ext 0 (by rw [L8_length]; simp; omega) fun j hj => ?_
    rw [L8_length] at hj
    rw [L8_get _ _ _ hj, hX j hj]
    by_cases h1 : j < k
    · rw [if_pos h1, UL_getD, ofInt_U]
      simp [List.getD_eq_getElem?_getD, List.getElem?_append_left (show j < l.length by omega)]
    · rw [if_neg h1, List.getD_eq_getElem?_getD, List.getElem?_append_right (by omega), ← List.getD_eq_getElem?_getD]
      by_cases h2 : j = k
      · rw [if_pos h2, show j - l.length = 0 by omega]; rfl
      · rw [if_neg h2, show j - l.length = (j - l.length - 1) + 1 by omega]
        have h3 : j - l.length - 1 < 16 - k := by omega
        simp [List.getD_eq_getElem?_getD, h3]
  have e1 : leN (L8 X 17) = leN (L8 X 16) + 256 ^ 16 * (BitVec.ofInt 8 (X 16)).toNat := by
    rw [L8_succ, leN_append, L8_length]; simp [leN]
  have e2 : leN (L8 X 17) = leN l + 256 ^ k := by
    rw [h17, leN_append, leN_append, leN_zeros, ← hk]; simp [leN]
  have e3 : (BitVec.ofInt 8 (X 16)).toNat = (X 16).toNat := by
    have h := hX 16 (by omega)
    by_cases h1 : 16 < k
    · omega
    · rw [if_neg h1] at h
      rw [h]
      split <;> rfl
  rw [e3, show 256 ^ 16 = 340282366920938463463374607431768211456 from rfl, Nat.mul_comm] at e1
  omega
end Go.Proofs.Ytogijkmflhjhkaa

/- Functions through the evaluator: numbers of 128 bits and more, as Poly1305 needs them. No condition. -/
namespace Go.Proofs.Ytogijkmflhjhkaa
open Go.Sx Go.RowKit
set_option maxRecDepth 100000
set_option maxHeartbeats 1000000
set_option linter.unusedVariables false
set_option linter.unusedSimpArgs false

/-- math/bits.Add64. -/
def add64S : Summary := mkS false [.v, .v, .v] fun
  | [.v (.sc (.int .u64 x)), .v (.sc (.int .u64 y)), .v (.sc (.int .u64 c))] => some ⟨.and (.p (u64R x)) (.and (.p (u64R y)) (.p (0 ≤ c ∧ c ≤ 1))),
      some (.tup [.sc (.int .u64 ((x + y + c) % 18446744073709551616)), .sc (.int .u64 ((x + y + c) / 18446744073709551616))]), [], 0⟩
  | _ => none
theorem add64S_ok : SumOk Try.prog 96 add64S := by
  unfold add64S
  apply sum_ok
  intro vs A H n o r hb h
  split at h
  rotate_left
  · cases h
  rename_i x y c
  injection h with h
  subst h
  cases hb
  intro ρ w vs hg hv hp
  obtain ⟨hx, hy, hc⟩ := hp
  obtain ⟨v1, r1, rfl, hv1, v2, r2, rfl, hv2, v3, r3, rfl, hv3, rfl⟩ := hv
  cases hv1
  cases hv2
  cases hv3
  intro op a next Q hn
  have e := run_callFunc_extern (P := Try.prog) (f := 96) (fn := Try.f96) (e := add64Entry) rfl (by decide) rfl rfl (by rfl) #[.int .u64 x, .int .u64 y, .int .u64 c] w
  rw [run_add64 x y c hx.1 hy.1 hc.1 hc.2] at e
  show op.upon _ a next Q ((callFunc 96 #[.int .u64 x, .int .u64 y, .int .u64 c]).run Try.prog w)
  rw [e]
  refine hn _ w ⟨ρ, Eff.refl _ _ _ _, fun sv hsv => ?_⟩
  cases hsv
  exact ⟨_, rfl, _, _, rfl, rfl, _, _, rfl, rfl, rfl⟩

theorem mask32 {a : Int} (h0 : 0 ≤ a) (h1 : a < 18446744073709551616) : bits .and .u64 a 4294967295 = a % 4294967296 := by
  obtain ⟨n, rfl⟩ := Int.eq_ofNat_of_zero_le h0
  have h := and_u64 (a := n) (m := 4294967295) (by omega) (by omega)
  rw [show (n &&& 4294967295) = n % 4294967296 from Nat.and_two_pow_sub_one_eq_mod n 32] at h
  exact h
theorem mdivN (a : Nat) : (a : Int) / 4294967296 = ((a / 4294967296 : Nat) : Int) := by omega
theorem mmulN (a b : Nat) : (a : Int) * (b : Int) = ((a * b : Nat) : Int) := (Int.natCast_mul a b).symm
theorem maddN (a b : Nat) : (a : Int) + (b : Int) = ((a + b : Nat) : Int) := (Int.natCast_add a b).symm
theorem mwrap {a : Nat} (ha : a < 18446744073709551616) : IntKind.u64.wrap (a : Int) = (a : Int) := w64_nat ha
theorem mmask (a : Nat) (h : a < 18446744073709551616) : bits .and .u64 (a : Int) 4294967295 = ((a % 4294967296 : Nat) : Int) := by
  rw [mask32 (by omega) (by omega)]; omega
theorem mdivB (a : Nat) : (a : Int) / 18446744073709551616 = ((a / 18446744073709551616 : Nat) : Int) := by omega
theorem mmodB (a : Nat) : (a : Int) % 18446744073709551616 = ((a % 18446744073709551616 : Nat) : Int) := by omega
theorem sh32 : min (Int.toNat 32) IntKind.u64.bits = 32 := rfl
/-- math/bits.Mul64. -/
def mul64S : Summary := mkS false [.v, .v] fun
  | [.v (.sc (.int .u64 x)), .v (.sc (.int .u64 y))] => some ⟨.and (.p (u64R x)) (.p (u64R y)),
      some (.tup [.sc (.int .u64 (x * y / 18446744073709551616)), .sc (.int .u64 (x * y % 18446744073709551616))]), [], 0⟩
  | _ => none
theorem mul64S_ok : SumOk Try.prog 97 mul64S := by
  unfold mul64S
  apply sum_ok
  intro vs A H n o r hb h
  split at h
  rotate_left
  · cases h
  rename_i x y
  injection h with h
  subst h
  cases hb
  refine fsound_of_run tt_ok cok_nil mixed_ok Try.call97 Try.func97 rfl (rs := _) Try.results97 (size := 51) Try.ntmps97 (Nat.le_of_ble_eq_true rfl) rfl fun hp hfa hfh => ?_
  obtain ⟨hx, hy⟩ := hp
  obtain ⟨X, rfl⟩ := Int.eq_ofNat_of_zero_le hx.1
  obtain ⟨Y, rfl⟩ := Int.eq_ofNat_of_zero_le hy.1
  have hX : X < 18446744073709551616 := by have := hx.2; omega
  have hY : Y < 18446744073709551616 := by have := hy.2; omega
  obtain ⟨bb, bt, bw, bh⟩ := Go.Lib.mul64_hi X Y hX hY
  have ba := Go.Lib.half_mul_le (a := X / 4294967296) (b := Y / 4294967296) (by omega) (by omega)
  have bc := Go.Lib.half_mul_le (a := X / 4294967296) (b := Y % 4294967296) (by omega) (by omega)
  have bd := Go.Lib.half_mul_le (a := X % 4294967296) (b := Y / 4294967296) (by omega) (by omega)
  repeat ((conv => whnf); (with_reducible refine And.intro ?_ ?_); · omega)
  conv => whnf
  refine ⟨[], ?_⟩
  simp only [sh32, show (2 : Int) ^ 32 = 4294967296 from rfl, mdivN, mmask X hX, mmask Y hY, mmulN, maddN, mwrap bb, mwrap (show X / 4294967296 * (Y % 4294967296) < 18446744073709551616 by omega), mwrap bt, mmask _ bt, mwrap (show X % 4294967296 * (Y / 4294967296) < 18446744073709551616 by omega), mwrap bw,
    mwrap (show X / 4294967296 * (Y / 4294967296) < 18446744073709551616 by omega),
    mwrap (show X / 4294967296 * (Y / 4294967296) + (X / 4294967296 * (Y % 4294967296) + X % 4294967296 * (Y % 4294967296) / 4294967296) / 4294967296 < 18446744073709551616 by omega),
    mwrap (show X / 4294967296 * (Y / 4294967296) + (X / 4294967296 * (Y % 4294967296) + X % 4294967296 * (Y % 4294967296) / 4294967296) / 4294967296 + ((X / 4294967296 * (Y % 4294967296) + X % 4294967296 * (Y % 4294967296) / 4294967296) % 4294967296 + X % 4294967296 * (Y / 4294967296)) / 4294967296 < 18446744073709551616 by rw [bh]; exact Nat.div_lt_of_lt_mul (Nat.mul_lt_mul'' hX hY)), bh, w_u64, mdivB, mmodB]
  repeat ((conv => whnf); (with_reducible refine And.intro ?_ ?_); · first | with_reducible rfl | omega)
  conv => whnf
  exact True.intro

/-- poly.read. -/
def readS : Summary := mkS false [.r .u8, .v] fun
  | [.r nl g n, .v (.sc (.int .u64 x))] => some ⟨.and (.p (R8 g n)) (.and (.p (16 ≤ n)) (.p (u64R x))),
      some (.sa (.agg [.ints .u64 (lim (leN (L8 g 16) + x.toNat * 340282366920938463463374607431768211456)) 3])), [], 0⟩
  | _ => none
theorem readS_ok : SumOk Try.prog 78 readS := by
  unfold readS
  apply sum_ok
  intro vs A H n o r hb h
  split at h
  rotate_left
  · cases h
  rename_i nl g n0 x
  injection h with h
  subst h
  cases hb
  refine fsound_of_run tt_ok cok_nil mixed_ok Try.call78 Try.func78 rfl (rs := _) Try.results78 (size := 29) Try.ntmps78 (Nat.le_of_ble_eq_true rfl) rfl fun hp hfa hfh => ?_
  obtain ⟨hg, hn, hx⟩ := hp
  have hg : R8 g n0 := hg
  have hn : 16 ≤ n0 := hn
  have hx : u64R x := hx
  obtain ⟨X, rfl⟩ := Int.eq_ofNat_of_zero_le hx.1
  have hX : X < 18446744073709551616 := by have := hx.2; omega
  obtain ⟨K, hK⟩ : ∃ K, K = L8 g 16 := ⟨_, rfl⟩
  have hKl : K.length = 16 := by rw [hK, L8_length]
  have hKj : ∀ j, j < 16 → g j = ((K.getD j 0).toNat : Int) := fun j hj => by rw [hK, ← show UL (L8 g 16) j = ((L8 g 16).getD j 0).toNat from rfl, UL_L8 (R8_le hg hn) j hj]
  rw [← hK, Int.toNat_natCast]
  repeat ((conv => whnf); (with_reducible refine And.intro ?_ ?_); · omega)
  conv => whnf
  refine ⟨0, Nat, fun i => ⟨29, [(0, .sa (.sc (.im nl .u8 g n0))), (4, .sa (.sc (.ptr 0 0 0))), (5, .sa (.sc (.ptr 1 0 0))), (9, .sa (.sc (.int .i64 i)))],
    [(0, .own 98 [.ints .u64 (fun _ => 0) 3] false), (1, .own 98 [.ints .u64 (lim (leN (K.take i) + X * 340282366920938463463374607431768211456)) 3] false)], 2⟩, fun i => i ≤ 16, fun i => 16 - i, ⟨0, by omega, le_of [] ?_⟩, fun i hi => ?_⟩
  · have h0 : ∀ j, j < 3 → lim (leN (K.take 0) + X * 340282366920938463463374607431768211456) j = listI [(X : Int), 0, 0].reverse j := fun j hj => by
      refine (lim_ext (f := listI [(X : Int), 0, 0].reverse) ?_ ?_ ?_ j hj).symm
      · rw [lim0]; simp only [List.take_zero, leN]; show (0 : Int) = _; omega
      · rw [lim1]; simp only [List.take_zero, leN]; show (0 : Int) = _; omega
      · rw [lim2]; simp only [List.take_zero, leN]; show (X : Int) = _; omega
    repeat ((conv => whnf); (with_reducible refine And.intro ?_ ?_); · first | with_reducible rfl | (intro _ _; with_reducible rfl) | assumption | omega)
    conv => whnf
    exact True.intro
  have hi : i ≤ 16 := hi
  repeat ((conv => whnf); (with_reducible refine And.intro ?_ ?_); · omega)
  conv => whnf
  refine ⟨fun h1 => ?_, fun h1 => ?_⟩
  · replace h1 := of_decide_eq_true h1
    have hi16 : i < 16 := by omega
    have q1 : IntKind.i64.wrap (((i : Nat) : Int).tdiv 8) = ((i / 8 : Nat) : Int) := by rw [show ((i : Nat) : Int).tdiv 8 = ((i / 8 : Nat) : Int) from rfl, w_i64]; omega
    have q2 : ((i : Nat) : Int).tmod 8 = ((i % 8 : Nat) : Int) := rfl
    have q3 : IntKind.i64.wrap (8 * ((i % 8 : Nat) : Int)) = ((8 * (i % 8) : Nat) : Int) := by rw [w_i64]; omega
    have hq : i / 8 < 3 := by omega
    refine ⟨[(0, ⟨0, some 12, []⟩), (1, ⟨1, some 13, []⟩), (2, ⟨3, some 14, []⟩), (3, ⟨7, some 15, []⟩), (4, ⟨0, some 16, []⟩), (5, ⟨0, some 17, []⟩), (6, ⟨48, some 18, []⟩), (7, ⟨112, some 19, []⟩), (8, ⟨240, some 20, []⟩), (9, ⟨0, some 21, []⟩), (10, ⟨512, some 22, []⟩), (11, ⟨1536, some 23, []⟩), (12, ⟨4080, some 24, []⟩), (13, ⟨8191, some 25, []⟩), (14, ⟨16383, some 26, []⟩), (15, ⟨32767, none, [1]⟩)], 258, ?_⟩
    repeat ((conv => whnf); (with_reducible refine And.intro ?_ ?_); · first | omega | (simp only [q1, q2, q3, Int.toNat_natCast]; omega))
    conv => whnf
    refine ⟨i + 1, ⟨by show i + 1 ≤ 16; omega, by show 16 - (i + 1) < 16 - i; omega⟩, le_of [] ?_⟩
    have hb := (K.getD i 0).isLt
    have hst := fun j hj => (read_step (A := leN (K.take i)) (x := X) (b := (K.getD i 0).toNat) hi16 (by have := leN_lt (K.take i); rwa [List.length_take, Nat.min_eq_left (by omega)] at this) hX hb j hj).symm
    rw [← leN_take_succ K i (by omega)] at hst
    have q4 : min (8 * (i % 8)) IntKind.u64.bits = 8 * (i % 8) := Nat.min_eq_left (by show _ ≤ 64; omega)
    have q5 : IntKind.u64.wrap (g i) = ((K.getD i 0).toNat : Int) := by rw [hKj i hi16, w_u64]; omega
    simp only [q1, q2, q3, Int.toNat_natCast, q4, q5]
    repeat ((conv => whnf); (with_reducible refine And.intro ?_ ?_); · first | with_reducible rfl | (intro _ _; with_reducible rfl) | assumption | (simp only [w_i64, w_u64, w_u32, w_u8]; omega))
    conv => whnf
    exact True.intro
  · replace h1 := of_decide_eq_false h1
    have hie : i = 16 := by omega
    subst hie
    rw [List.take_of_length_le (by omega : K.length ≤ 16)]
    repeat ((conv => whnf); (with_reducible refine And.intro ?_ ?_); · omega)
    conv => whnf
    refine ⟨[], ?_⟩
    repeat ((conv => whnf); (with_reducible refine And.intro ?_ ?_); · first | with_reducible rfl | (intro _ _; with_reducible rfl))
    conv => whnf
    exact True.intro

/-- (poly.number).add. -/
def addS : Summary := mkS false [.v, .v] fun
  | [.v (.agg [.ints .u64 f 3]), .v (.agg [.ints .u64 g 3])] => some ⟨.and (.p (R64 f 3)) (.p (R64 g 3)), some (.sa (.agg [.ints .u64 (lim (N3 f + N3 g)) 3])), [], 0⟩
  | _ => none
theorem cok35 : COk Try.prog (tab [(96, add64S), (97, mul64S)]) := cok_cons add64S_ok (cok_cons mul64S_ok cok_nil)
theorem carry_ok {a b c : Int} (ha : u64R a) (hb : u64R b) (hc : 0 ≤ c ∧ c ≤ 1) : 0 ≤ (a + b + c) / 18446744073709551616 ∧ (a + b + c) / 18446744073709551616 ≤ 1 := by
  obtain ⟨h1, h2⟩ := ha
  obtain ⟨h3, h4⟩ := hb
  omega
theorem mod_ok (a : Int) : u64R (a % 18446744073709551616) := by unfold u64R; omega
theorem addS_ok : SumOk Try.prog 79 addS := by
  unfold addS
  apply sum_ok
  intro vs A H n o r hb h
  split at h
  rotate_left
  · cases h
  rename_i f g
  injection h with h
  subst h
  cases hb
  refine fsound_of_run tt_ok cok35 mixed_ok Try.call79 Try.func79 rfl (rs := _) Try.results79 (size := 36) Try.ntmps79 (Nat.le_of_ble_eq_true rfl) rfl fun hp hfa hfh => ?_
  obtain ⟨hf, hg⟩ := hp
  have hf : R64 f 3 := hf
  have hg : R64 g 3 := hg
  have f0 : u64R (f 0) := hf 0 (by omega)
  have f1 : u64R (f 1) := hf 1 (by omega)
  have f2 : u64R (f 2) := hf 2 (by omega)
  have g0 : u64R (g 0) := hg 0 (by omega)
  have g1 : u64R (g 1) := hg 1 (by omega)
  have g2 : u64R (g 2) := hg 2 (by omega)
  have c0 := carry_ok f0 g0 (c := 0) (by omega)
  have c1 := carry_ok f1 g1 c0
  have c2 := carry_ok f2 g2 c1
  have hfin : ∀ j, j < 3 → lim (N3 f + N3 g) j = upd (upd (upd f 0 ((f 0 + g 0 + 0) % 18446744073709551616)) 1 ((f 1 + g 1 + (f 0 + g 0 + 0) / 18446744073709551616) % 18446744073709551616)) 2 ((f 2 + g 2 + (f 1 + g 1 + (f 0 + g 0 + 0) / 18446744073709551616) / 18446744073709551616) % 18446744073709551616) j := fun j hj =>
    (add_lim hf hg (c0 := (f 0 + g 0 + 0) / 18446744073709551616) (c1 := (f 1 + g 1 + (f 0 + g 0 + 0) / 18446744073709551616) / 18446744073709551616) (c2 := (f 2 + g 2 + (f 1 + g 1 + (f 0 + g 0 + 0) / 18446744073709551616) / 18446744073709551616) / 18446744073709551616) (by omega) (by omega) (by omega) (mod_ok _) (mod_ok _) (mod_ok _) c0.1 c1.1 c2.1 j hj).symm
  repeat ((conv => whnf); (with_reducible refine And.intro ?_ ?_); · first | omega | exact f0 | exact f1 | exact f2 | exact g0 | exact g1 | exact g2 | exact c0 | exact c1)
  conv => whnf
  refine ⟨[], ?_⟩
  repeat ((conv => whnf); (with_reducible refine And.intro ?_ ?_); · first | with_reducible rfl | assumption)
  conv => whnf
  exact True.intro

/-- (poly.number).low. -/
def lowS : Summary := mkS false [.v] fun
  | [.v (.agg [.ints .u64 f 3])] => some ⟨.p (R64 f 3), some (.tup [.agg [.ints .u64 (lim (N3 f % 1361129467683753853853498429727072845824)) 3], .agg [.ints .u64 (lim (5 * (N3 f / 1361129467683753853853498429727072845824))) 3]]), [], 0⟩
  | _ => none
theorem sh2 : min (Int.toNat 2) IntKind.u64.bits = 2 := rfl
theorem rest_lim {f : Nat → Int} (hf : R64 f 3) (j : Nat) (hj : j < 3) : lim (5 * (N3 f / 1361129467683753853853498429727072845824)) j = listI [f 2 / 2 ^ 2 * 5 % 18446744073709551616, f 2 / 2 ^ 2 * 5 / 18446744073709551616, 0] j := by
  have e := N3_low hf
  have h2 := hf 2 (by omega)
  generalize N3 f / 1361129467683753853853498429727072845824 = q at *
  rw [show (2 : Int) ^ 2 = 4 from rfl, e]
  refine (lim_ext (f := listI [((q : Nat) : Int) * 5 % 18446744073709551616, ((q : Nat) : Int) * 5 / 18446744073709551616, 0]) ?_ ?_ ?_ j hj).symm
  · rw [lim0]; show ((q : Nat) : Int) * 5 % 18446744073709551616 = _; omega
  · rw [lim1, Nat.mod_eq_of_lt (show 5 * q / 18446744073709551616 < 18446744073709551616 by omega)]; show ((q : Nat) : Int) * 5 / 18446744073709551616 = _; omega
  · rw [lim2, Nat.div_eq_of_lt (show 5 * q < 340282366920938463463374607431768211456 by omega)]; rfl
theorem lowS_ok : SumOk Try.prog 98 lowS := by
  unfold lowS
  apply sum_ok
  intro vs A H n o r hb h
  split at h
  rotate_left
  · cases h
  rename_i f
  injection h with h
  subst h
  cases hb
  refine fsound_of_run tt_ok cok35 mixed_ok Try.call98 Try.func98 rfl (rs := _) Try.results98 (size := 25) Try.ntmps98 (Nat.le_of_ble_eq_true rfl) rfl fun hp hfa hfh => ?_
  have hf : R64 f 3 := hp
  have hr : u64R (f 2 / 2 ^ 2) := by
    have := hf 2 (by omega)
    rw [show (2 : Int) ^ 2 = 4 from rfl]
    constructor <;> omega
  have hl := low_lim hf
  have hr2 := rest_lim hf
  repeat ((conv => whnf); (with_reducible refine And.intro ?_ ?_); · first | omega | exact hr | exact ⟨by decide, by decide⟩)
  conv => whnf
  refine ⟨[], ?_⟩
  repeat ((conv => whnf); (with_reducible refine And.intro ?_ ?_); · first | with_reducible rfl | assumption | exact fun j hj => (hl j hj).symm)
  conv => whnf
  exact True.intro

/-- (poly.number).less. -/
def lessS : Summary := mkS false [.v] fun
  | [.v (.agg [.ints .u64 f 3])] => some ⟨.and (.p (R64 f 3)) (.p (N3 f < 2 * 1361129467683753853853498429727072845824)), some (.sa (.agg [.ints .u64 (lim (lessV (N3 f))) 3])), [], 0⟩
  | _ => none
theorem cok36 : COk Try.prog (tab [(79, addS), (98, lowS)]) := cok_cons addS_ok (cok_cons lowS_ok cok_nil)
theorem lessS_ok : SumOk Try.prog 81 lessS := by
  unfold lessS
  apply sum_ok
  intro vs A H n o r hb h
  split at h
  rotate_left
  · cases h
  rename_i f
  injection h with h
  subst h
  cases hb
  refine fsound_of_run tt_ok cok36 mixed_ok Try.call81 Try.func81 rfl (rs := _) Try.results81 (size := 26) Try.ntmps81 (Nat.le_of_ble_eq_true rfl) rfl fun hp hfa hfh => ?_
  obtain ⟨hf, hV⟩ := hp
  have hf : R64 f 3 := hf
  have hV : N3 f < 2 * 1361129467683753853853498429727072845824 := hV
  have e1 : N3 (lim (N3 f % 1361129467683753853853498429727072845824)) = N3 f % 1361129467683753853853498429727072845824 := N3_lim' (by omega)
  have e2 : N3 (lim (5 * (N3 f / 1361129467683753853853498429727072845824))) = 5 * (N3 f / 1361129467683753853853498429727072845824) := N3_lim' (by omega)
  have e3 : N3 (lim (N3 f % 1361129467683753853853498429727072845824 + 5 * (N3 f / 1361129467683753853853498429727072845824))) = N3 f % 1361129467683753853853498429727072845824 + 5 * (N3 f / 1361129467683753853853498429727072845824) := N3_lim' (by omega)
  have e4 : N3 (listI [5].reverse) = 5 := rfl
  have r4 : R64 (listI [5].reverse) 3 := fun j hj => by rcases three hj with rfl | rfl | rfl <;> exact ⟨by decide, by decide⟩
  repeat ((conv => whnf); (with_reducible refine And.intro ?_ ?_); · first | with_reducible assumption | omega | exact R64_lim _ _)
  conv => whnf
  simp only [e1, e2, e3, e4]
  have hless : lessV (N3 f) = if 1361129467683753853853498429727072845824 ≤ N3 f % 1361129467683753853853498429727072845824 + 5 * (N3 f / 1361129467683753853853498429727072845824) + 5 then (N3 f % 1361129467683753853853498429727072845824 + 5 * (N3 f / 1361129467683753853853498429727072845824) + 5) % 1361129467683753853853498429727072845824 else N3 f % 1361129467683753853853498429727072845824 + 5 * (N3 f / 1361129467683753853853498429727072845824) := rfl
  have hW : N3 f % 1361129467683753853853498429727072845824 + 5 * (N3 f / 1361129467683753853853498429727072845824) < 1361129467683753853853498429727072845824 + 10 := by omega
  generalize N3 f % 1361129467683753853853498429727072845824 + 5 * (N3 f / 1361129467683753853853498429727072845824) = W at *
  have e5 : N3 (lim (W + 5)) = W + 5 := N3_lim' (by omega)
  have e6 := N3_low (R64_lim (W + 5) 3)
  rw [e5] at e6
  refine ⟨fun h1 => ?_, fun h1 => ?_⟩
  · replace h1 := of_decide_eq_true h1
    have h2 : 1361129467683753853853498429727072845824 ≤ W + 5 := by
      have : (0 : Int) < lim (W + 5) 2 / 4 := h1
      omega
    rw [if_pos h2] at hless
    repeat ((conv => whnf); (with_reducible refine And.intro ?_ ?_); · omega)
    conv => whnf
    refine ⟨[], ?_⟩
    have hl := low_lim (R64_lim (W + 5) 3)
    rw [e5, ← hless] at hl
    repeat ((conv => whnf); (with_reducible refine And.intro ?_ ?_); · first | with_reducible rfl | exact fun j hj => (hl j hj).symm)
    conv => whnf
    exact True.intro
  · replace h1 := of_decide_eq_false h1
    have h2 : ¬ 1361129467683753853853498429727072845824 ≤ W + 5 := by
      have : ¬ (0 : Int) < lim (W + 5) 2 / 4 := h1
      omega
    rw [if_neg h2] at hless
    repeat ((conv => whnf); (with_reducible refine And.intro ?_ ?_); · omega)
    conv => whnf
    refine ⟨[], ?_⟩
    simp only [hless]
    repeat ((conv => whnf); (with_reducible refine And.intro ?_ ?_); · first | with_reducible rfl | (intro _ _; with_reducible rfl))
    conv => whnf
    exact True.intro
end Go.Proofs.Ytogijkmflhjhkaa

/- Functions through the evaluator: a product modulo 2^130 - 5. No condition. -/
namespace Go.Proofs.Ytogijkmflhjhkaa
open Go.Sx Go.RowKit
set_option maxRecDepth 100000
set_option maxHeartbeats 2000000
set_option linter.unusedVariables false
set_option linter.unusedSimpArgs false

/-- Behind i of the outer rounds. -/
structure TO (F R : Nat → Nat) (i : Nat) (p : Nat → Nat) : Prop where
  i3 : i ≤ 3
  lt : ∀ j, p j < 18446744073709551616
  z : ∀ j, i + 2 ≤ j → p j = 0
  v : vN 18446744073709551616 p 5 = vN 18446744073709551616 F i * vN 18446744073709551616 R 2
/-- Behind k of the inner rounds. -/
structure TN (F R : Nat → Nat) (i k c : Nat) (p : Nat → Nat) : Prop where
  k2 : k ≤ 2
  cl : c < 18446744073709551616
  lt : ∀ j, p j < 18446744073709551616
  z : ∀ j, i + 2 ≤ j → p j = 0
  v : vN 18446744073709551616 p 5 + c * 18446744073709551616 ^ (i + k) = vN 18446744073709551616 F i * vN 18446744073709551616 R 2 + F i * vN 18446744073709551616 R k * 18446744073709551616 ^ i
theorem TO.zero (F R : Nat → Nat) : TO F R 0 fun _ => 0 := ⟨by omega, fun j => by omega, fun j _ => rfl, by rw [vN_zero (fun j _ => rfl), show vN 18446744073709551616 F 0 = 0 from rfl, Nat.zero_mul]⟩
theorem TN.zero {F R p : Nat → Nat} {i : Nat} (h : TO F R i p) : TN F R i 0 0 p := ⟨Nat.zero_le _, Nat.zero_lt_succ _, h.lt, h.z, by rw [h.v, Nat.zero_mul, show vN 18446744073709551616 R 0 = 0 from rfl, Nat.mul_zero, Nat.zero_mul]⟩

/-- One inner round. -/
theorem TN.step {F R p : Nat → Nat} {i k c : Nat} (h : TN F R i k c p) (hi : i < 3) (hk : k < 2) {f r : Int} (hf : f = (F i : Int)) (hr : r = (R k : Int)) (uf : u64R f) (ur : u64R r) {hi1 c1 l1 c2 x : Int}
    (e1 : hi1 = f * r / 18446744073709551616) (e2 : l1 = (f * r % 18446744073709551616 + (c : Int) + 0) % 18446744073709551616) (e3 : c1 = (f * r % 18446744073709551616 + (c : Int) + 0) / 18446744073709551616) (e4 : x = (NI p (i + k) + l1 + 0) % 18446744073709551616) (e5 : c2 = (NI p (i + k) + l1 + 0) / 18446744073709551616) :
    ∃ X C : Nat, x = (X : Int) ∧ IntKind.u64.wrap (IntKind.u64.wrap (hi1 + c1) + c2) = (C : Int) ∧ TN F R i (k + 1) C (updN p (i + k) X) := by
  have hm := sq_le (a := F i) (b := R k) (by have := uf.2; omega) (by have := ur.2; omega)
  have hp := h.lt (i + k)
  have hc := h.cl
  have hpe : NI p (i + k) = (p (i + k) : Int) := rfl
  have em : f * r = ((F i * R k : Nat) : Int) := by rw [hf, hr]; exact (Int.natCast_mul _ _).symm
  have hv := h.v
  have hnext := fun X C hX => inner_next F R p i k X C c (by omega) hv hX
  rw [hpe] at e4 e5
  rw [em] at e1 e2 e3
  generalize F i * R k = m at *
  obtain ⟨g1, g2⟩ := mul_step (m := m) (c := c) (p := p (i + k)) (lo := m % 18446744073709551616) (hi := m / 18446744073709551616) (l1 := (m % 18446744073709551616 + c) % 18446744073709551616) (c1 := (m % 18446744073709551616 + c) / 18446744073709551616) (x := (p (i + k) + (m % 18446744073709551616 + c) % 18446744073709551616) % 18446744073709551616) (c2 := (p (i + k) + (m % 18446744073709551616 + c) % 18446744073709551616) / 18446744073709551616) hm (by omega) (by omega) (by omega) hc hp (by omega) (by omega) (by omega)
  refine ⟨(p (i + k) + (m % 18446744073709551616 + c) % 18446744073709551616) % 18446744073709551616, m / 18446744073709551616 + (m % 18446744073709551616 + c) / 18446744073709551616 + (p (i + k) + (m % 18446744073709551616 + c) % 18446744073709551616) / 18446744073709551616, ?_, ?_, ⟨by omega, g1, fun j => ?_, fun j hj => ?_, hnext _ _ g2⟩⟩
  · subst e2; rw [e4]; omega
  · subst e1 e3 e2 e5
    rw [w_u64, w_u64]
    omega
  · unfold updN; split
    · omega
    · exact h.lt j
  · unfold updN; rw [if_neg (by omega)]; exact h.z j hj
/-- The end of an outer round. -/
theorem TN.next {F R p : Nat → Nat} {i c : Nat} (h : TN F R i 2 c p) (hi : i < 3) : IntKind.u64.wrap (NI p (i + 2) + (c : Int)) = ((p (i + 2) + c : Nat) : Int) ∧ TO F R (i + 1) (updN p (i + 2) (p (i + 2) + c)) := by
  have h0 := h.z (i + 2) (by omega)
  have hc := h.cl
  refine ⟨?_, ⟨by omega, fun j => ?_, fun j hj => ?_, outer_next F R p i c hi h.v h0⟩⟩
  · show IntKind.u64.wrap ((p (i + 2) : Int) + (c : Int)) = _
    rw [h0, w_u64]; omega
  · unfold updN; split
    · omega
    · exact h.lt j
  · unfold updN; rw [if_neg (by omega)]; exact h.z j (by omega)
theorem NI_upd (p : Nat → Nat) (i X : Nat) : upd (NI p) i (X : Int) = NI (updN p i X) := by
  funext j; unfold upd NI updN; split <;> rfl
theorem u64_mod (a : Int) : u64R (a % 18446744073709551616) := mod_ok a
theorem u64_div {a b : Int} (ha : u64R a) (hb : u64R b) : 0 ≤ (a + b + 0) / 18446744073709551616 ∧ (a + b + 0) / 18446744073709551616 ≤ 1 := carry_ok ha hb (by omega)
theorem u64_nat {c : Nat} (h : c < 18446744073709551616) : u64R (c : Int) := by unfold u64R; omega
theorem u64_NI {p : Nat → Nat} (h : ∀ j, p j < 18446744073709551616) (j : Nat) : u64R (NI p j) := u64_nat (h j)
/-- The last step: what stands below 130 bits, what stands above. -/
theorem times_end {F R p : Nat → Nat} (h : TO F R 3 p) {f r : Nat → Int} (hF : F = toN f) (hR : R = toN r) (hV : N3 f < 4 * 1361129467683753853853498429727072845824) (hW : N3 r < 340282366920938463463374607431768211456) {g1 g2 : Nat → Int}
    (a0 : g1 0 = NI p 0) (a1 : g1 1 = NI p 1) (a2 : g1 2 = bits .and .u64 (NI p 2) 3)
    (b0 : g2 0 = bits .or .u64 (NI p 2 / 2 ^ 2) (IntKind.u64.wrap (NI p 3 * 2 ^ 62))) (b1 : g2 1 = bits .or .u64 (NI p 3 / 2 ^ 2) (IntKind.u64.wrap (NI p 4 * 2 ^ 62))) (b2 : g2 2 = NI p 4 / 2 ^ 2) :
    R64 g1 3 ∧ R64 g2 3 ∧ N3 g1 = N3 f * N3 r % 1361129467683753853853498429727072845824 ∧ N3 g2 = N3 f * N3 r / 1361129467683753853853498429727072845824 ∧ N3 f * N3 r < 4 * 1361129467683753853853498429727072845824 * 340282366920938463463374607431768211456 := by
  have hv := h.v
  rw [hF, hR, vN3, vN2 r hW] at hv
  have hb : N3 f * N3 r < 4 * 1361129467683753853853498429727072845824 * 340282366920938463463374607431768211456 := Nat.mul_lt_mul'' hV hW
  have q : ∀ j, NI p j / 2 ^ 2 = ((p j / 4 : Nat) : Int) := fun j => by show (p j : Int) / 4 = _; omega
  have l0 := h.lt 0
  have l1 := h.lt 1
  have l2 := h.lt 2
  have l3 := h.lt 3
  have l4 := h.lt 4
  have c2 : g1 2 = ((p 2 % 4 : Nat) : Int) := by rw [a2]; exact and3 l2
  have d0 : g2 0 = ((p 2 / 4 + 4611686018427387904 * (p 3 % 4) : Nat) : Int) := by rw [b0, q]; exact or62 l2 l3
  have d1 : g2 1 = ((p 3 / 4 + 4611686018427387904 * (p 4 % 4) : Nat) : Int) := by rw [b1, q]; exact or62 l3 l4
  have d2 : g2 2 = ((p 4 / 4 : Nat) : Int) := by rw [b2, q]
  have c0 : g1 0 = (p 0 : Int) := a0
  have c1 : g1 1 = (p 1 : Int) := a1
  refine ⟨fun j hj => ?_, fun j hj => ?_, ?_, ?_, hb⟩
  · rcases three hj with rfl | rfl | rfl
    · rw [c0]; omega
    · rw [c1]; omega
    · rw [c2]; omega
  · rcases three hj with rfl | rfl | rfl
    · rw [d0]; omega
    · rw [d1]; omega
    · rw [d2]; omega
  · rw [N3_of c0 c1 c2, times_low h.lt, hv]
  · rw [N3_of d0 d1 d2, times_high h.lt, hv]
theorem cok37 : COk Try.prog (tab [(79, addS), (98, lowS), (96, add64S), (97, mul64S)]) := cok_cons addS_ok (cok_cons lowS_ok (cok_cons add64S_ok (cok_cons mul64S_ok cok_nil)))
/-- (poly.number).times. -/
def timesS : Summary := mkS false [.v, .v] fun
  | [.v (.agg [.ints .u64 f 3]), .v (.agg [.ints .u64 r 3])] => some ⟨.and (.and (.p (R64 f 3)) (.p (R64 r 3))) (.and (.p (N3 f < 4 * 1361129467683753853853498429727072845824)) (.p (N3 r < 340282366920938463463374607431768211456))), some (.sa (.agg [.ints .u64 (lim (timesV (N3 f) (N3 r))) 3])), [], 0⟩
  | _ => none
theorem timesS_ok : SumOk Try.prog 80 timesS := by
  unfold timesS
  apply sum_ok
  intro vs A H n o r hb h
  split at h
  rotate_left
  · cases h
  rename_i f r
  injection h with h
  subst h
  cases hb
  refine fsound_of_run tt_ok cok37 mixed_ok Try.call80 Try.func80 rfl (rs := _) Try.results80 (size := 112) Try.ntmps80 (Nat.le_of_ble_eq_true rfl) rfl fun hp hfa hfh => ?_
  obtain ⟨⟨hf, hr⟩, hV, hR⟩ := hp
  have hf : R64 f 3 := hf
  have hr : R64 r 3 := hr
  have hV : N3 f < 4 * 1361129467683753853853498429727072845824 := hV
  have hR : N3 r < 340282366920938463463374607431768211456 := hR
  obtain ⟨F, hF⟩ : ∃ F, F = toN f := ⟨_, rfl⟩
  obtain ⟨R, hRR⟩ : ∃ R, R = toN r := ⟨_, rfl⟩
  have hFj : ∀ j, j < 3 → f j = (F j : Int) := fun j hj => by rw [hF]; exact (Int.toNat_of_nonneg (hf j hj).1).symm
  have hRj : ∀ j, j < 3 → r j = (R j : Int) := fun j hj => by rw [hRR]; exact (Int.toNat_of_nonneg (hr j hj).1).symm
  repeat ((conv => whnf); (with_reducible refine And.intro ?_ ?_); · omega)
  conv => whnf
  refine ⟨0, Nat × (Nat → Nat), fun x => ⟨112, [(2, .sa (.sc (.ptr 0 0 0))), (3, .sa (.sc (.ptr 1 0 0))), (4, .sa (.sc (.ptr 2 0 0))), (5, .sa (.sc (.ptr 3 0 0))), (16, .sa (.sc (.int .i64 x.1)))],
    [(0, .own 98 [.ints .u64 f 3] false), (1, .own 98 [.ints .u64 r 3] false), (2, .own 98 [.ints .u64 (fun _ => 0) 3] false), (3, .own 116 [.ints .u64 (NI x.2) 5] false)], 4⟩,
    fun x => TO F R x.1 x.2, fun x => 3 - x.1, ⟨(0, fun _ => 0), TO.zero F R, le_of [] ?_⟩, fun x hx => ?_⟩
  · repeat ((conv => whnf); (with_reducible refine And.intro ?_ ?_); · first | with_reducible rfl | (intro _ _; with_reducible rfl) | omega | exact fun j _ => rfl)
    conv => whnf
    exact True.intro
  have hx : TO F R x.1 x.2 := hx
  have hi := hx.i3
  repeat ((conv => whnf); (with_reducible refine And.intro ?_ ?_); · omega)
  conv => whnf
  refine ⟨fun h1 => ?_, fun h1 => ?_⟩
  · replace h1 := of_decide_eq_true h1
    have hi3 : x.1 < 3 := by omega
    repeat ((conv => whnf); (with_reducible refine And.intro ?_ ?_); · omega)
    conv => whnf
    refine ⟨0, Nat × Nat × (Nat → Nat), fun y => ⟨112, [(2, .sa (.sc (.ptr 0 0 0))), (3, .sa (.sc (.ptr 1 0 0))), (4, .sa (.sc (.ptr 2 0 0))), (5, .sa (.sc (.ptr 3 0 0))), (16, .sa (.sc (.int .i64 x.1))), (6, .sa (.sc (.int .i64 x.1))), (7, .sa (.sc (.int .u64 y.2.1))), (19, .sa (.sc (.int .i64 y.1)))],
      [(0, .own 98 [.ints .u64 f 3] false), (1, .own 98 [.ints .u64 r 3] false), (2, .own 98 [.ints .u64 (fun _ => 0) 3] false), (3, .own 116 [.ints .u64 (NI y.2.2) 5] false)], 4⟩,
      fun y => TN F R x.1 y.1 y.2.1 y.2.2, fun y => 2 - y.1, ⟨(0, 0, x.2), TN.zero hx, le_of [] ?_⟩, fun y hy => ?_⟩
    · repeat ((conv => whnf); (with_reducible refine And.intro ?_ ?_); · first | with_reducible rfl | (intro _ _; with_reducible rfl) | omega | (simp only [w_i64, w_u64, w_u32, w_u8]; omega))
      conv => whnf
      exact True.intro
    have hy : TN F R x.1 y.1 y.2.1 y.2.2 := hy
    have hk := hy.k2
    repeat ((conv => whnf); (with_reducible refine And.intro ?_ ?_); · omega)
    conv => whnf
    refine ⟨fun h2 => ?_, fun h2 => ?_⟩
    · replace h2 := of_decide_eq_true h2
      have hk2 : y.1 < 2 := by omega
      have uf : u64R (f x.1) := hf _ hi3
      have ur : u64R (r y.1) := hr _ (by omega)
      have uc : u64R (y.2.1 : Int) := u64_nat hy.cl
      have wa : IntKind.i64.wrap ((x.1 : Int) + (y.1 : Int)) = ((x.1 + y.1 : Nat) : Int) := by rw [w_i64]; omega
      have um := u64_mod (f x.1 * r y.1)
      have ud := u64_div um uc
      have ul := u64_mod (f x.1 * r y.1 % 18446744073709551616 + (y.2.1 : Int) + 0)
      have up := u64_NI hy.lt (x.1 + y.1)
      obtain ⟨X, C, hX, hC, hT⟩ := hy.step hi3 hk2 (hFj _ hi3) (hRj _ (by omega)) uf ur rfl rfl rfl rfl rfl
      refine ⟨[(0, ⟨0, some 23, []⟩), (1, ⟨1, some 24, []⟩), (2, ⟨3, some 25, []⟩), (3, ⟨0, some 26, []⟩), (4, ⟨8, some 27, []⟩), (5, ⟨24, some 28, []⟩), (6, ⟨63, some 29, []⟩), (7, ⟨127, some 22, []⟩), (8, ⟨255, some 30, []⟩), (9, ⟨255, some 31, []⟩), (10, ⟨511, some 9, []⟩), (11, ⟨2047, some 10, []⟩)], 196, ?_⟩
      repeat ((conv => whnf); (with_reducible refine And.intro ?_ ?_); · first | with_reducible assumption | omega | (simp only [wa, Int.toNat_natCast]; omega))
      conv => whnf
      refine ⟨(y.1 + 1, C, updN y.2.2 (x.1 + y.1) X), ⟨hT, by show 2 - (y.1 + 1) < 2 - y.1; omega⟩, le_of [] ?_⟩
      simp only [wa, Int.toNat_natCast, hC, hX, NI_upd]
      repeat ((conv => whnf); (with_reducible refine And.intro ?_ ?_); · first | with_reducible rfl | (intro _ _; with_reducible rfl) | (simp only [w_i64, w_u64, w_u32, w_u8]; omega))
      conv => whnf
      exact True.intro
    · replace h2 := of_decide_eq_false h2
      have hk2 : y.1 = 2 := by omega
      rw [hk2] at hy
      obtain ⟨g1, g2⟩ := hy.next hi3
      have wa : IntKind.i64.wrap ((x.1 : Int) + 2) = ((x.1 + 2 : Nat) : Int) := by rw [w_i64]; omega
      repeat ((conv => whnf); (with_reducible refine And.intro ?_ ?_); · omega)
      conv => whnf
      refine ⟨(x.1 + 1, updN y.2.2 (x.1 + 2) (y.2.2 (x.1 + 2) + y.2.1)), ⟨g2, by show 3 - (x.1 + 1) < 3 - x.1; omega⟩, le_of [] ?_⟩
      simp only [wa, Int.toNat_natCast, g1, NI_upd]
      repeat ((conv => whnf); (with_reducible refine And.intro ?_ ?_); · first | with_reducible rfl | (intro _ _; with_reducible rfl) | (simp only [w_i64, w_u64, w_u32, w_u8]; omega))
      conv => whnf
      exact True.intro
  · replace h1 := of_decide_eq_false h1
    have hi3 : x.1 = 3 := by omega
    rw [hi3] at hx
    repeat ((conv => whnf); (with_reducible refine And.intro ?_ ?_); · omega)
    conv => whnf
    have te := times_end hx hF hRR hV hR (g1 := listI [bits .and .u64 (NI x.2 (Int.toNat 2)) 3, NI x.2 (Int.toNat 1), NI x.2 (Int.toNat 0)].reverse)
      (g2 := listI [NI x.2 (Int.toNat 4) / 2 ^ min (Int.toNat 2) IntKind.u64.bits, bits .or .u64 (NI x.2 (Int.toNat 3) / 2 ^ min (Int.toNat 2) IntKind.u64.bits) (IntKind.u64.wrap (NI x.2 (Int.toNat 4) * 2 ^ min (Int.toNat 62) IntKind.u64.bits)),
        bits .or .u64 (NI x.2 (Int.toNat 2) / 2 ^ min (Int.toNat 2) IntKind.u64.bits) (IntKind.u64.wrap (NI x.2 (Int.toNat 3) * 2 ^ min (Int.toNat 62) IntKind.u64.bits))].reverse) rfl rfl rfl rfl rfl rfl
    generalize listI [bits .and .u64 (NI x.2 (Int.toNat 2)) 3, NI x.2 (Int.toNat 1), NI x.2 (Int.toNat 0)].reverse = g1 at te ⊢
    generalize listI [NI x.2 (Int.toNat 4) / 2 ^ min (Int.toNat 2) IntKind.u64.bits, bits .or .u64 (NI x.2 (Int.toNat 3) / 2 ^ min (Int.toNat 2) IntKind.u64.bits) (IntKind.u64.wrap (NI x.2 (Int.toNat 4) * 2 ^ min (Int.toNat 62) IntKind.u64.bits)),
        bits .or .u64 (NI x.2 (Int.toNat 2) / 2 ^ min (Int.toNat 2) IntKind.u64.bits) (IntKind.u64.wrap (NI x.2 (Int.toNat 3) * 2 ^ min (Int.toNat 62) IntKind.u64.bits))].reverse = g2 at te ⊢
    obtain ⟨r1, r2, n1, n2, hb⟩ := te
    have ht : timesV (N3 f) (N3 r) = (N3 g1 + (N3 g2 + N3 g2 + N3 g2 + N3 g2 + N3 g2)) % 1361129467683753853853498429727072845824 + 5 * ((N3 g1 + (N3 g2 + N3 g2 + N3 g2 + N3 g2 + N3 g2)) / 1361129467683753853853498429727072845824) := by
      unfold timesV
      rw [← n1, ← n2, show 5 * N3 g2 = N3 g2 + N3 g2 + N3 g2 + N3 g2 + N3 g2 by omega]
    have h1 : N3 g1 < 1361129467683753853853498429727072845824 := by rw [n1]; exact Nat.mod_lt _ (by omega)
    have h2 : N3 g2 < 4 * 340282366920938463463374607431768211456 := by rw [n2]; exact Nat.div_lt_of_lt_mul (by omega)
    obtain ⟨L, hL⟩ : ∃ L, L = N3 g1 := ⟨_, rfl⟩
    obtain ⟨H, hH⟩ : ∃ H, H = N3 g2 := ⟨_, rfl⟩
    have e2 : N3 (lim (N3 g2 + N3 g2)) = N3 g2 + N3 g2 := N3_lim' (by omega)
    have e3 : N3 (lim (N3 g2 + N3 g2 + N3 g2)) = N3 g2 + N3 g2 + N3 g2 := N3_lim' (by omega)
    have e4 : N3 (lim (N3 g2 + N3 g2 + N3 g2 + N3 g2)) = N3 g2 + N3 g2 + N3 g2 + N3 g2 := N3_lim' (by omega)
    have e5 : N3 (lim (N3 g2 + N3 g2 + N3 g2 + N3 g2 + N3 g2)) = N3 g2 + N3 g2 + N3 g2 + N3 g2 + N3 g2 := N3_lim' (by omega)
    have e6 : N3 (lim (N3 g1 + (N3 g2 + N3 g2 + N3 g2 + N3 g2 + N3 g2))) = N3 g1 + (N3 g2 + N3 g2 + N3 g2 + N3 g2 + N3 g2) := N3_lim' (by omega)
    have e7 : N3 (lim ((N3 g1 + (N3 g2 + N3 g2 + N3 g2 + N3 g2 + N3 g2)) % 1361129467683753853853498429727072845824)) = (N3 g1 + (N3 g2 + N3 g2 + N3 g2 + N3 g2 + N3 g2)) % 1361129467683753853853498429727072845824 := N3_lim' (by omega)
    have e8 : N3 (lim (5 * ((N3 g1 + (N3 g2 + N3 g2 + N3 g2 + N3 g2 + N3 g2)) / 1361129467683753853853498429727072845824))) = 5 * ((N3 g1 + (N3 g2 + N3 g2 + N3 g2 + N3 g2 + N3 g2)) / 1361129467683753853853498429727072845824) := N3_lim' (by omega)
    refine ⟨[(0, ⟨0, some 93, []⟩), (1, ⟨0, some 94, []⟩), (2, ⟨3, some 95, []⟩), (3, ⟨0, some 96, []⟩), (4, ⟨15, some 97, []⟩), (5, ⟨0, some 98, []⟩), (6, ⟨63, some 99, []⟩), (7, ⟨0, some 100, []⟩), (8, ⟨255, some 101, []⟩), (9, ⟨0, some 14, [150]⟩), (10, ⟨1023, none, [150]⟩)], 182, ?_⟩
    repeat ((conv => whnf); (with_reducible refine And.intro ?_ ?_); · first | with_reducible assumption | exact R64_lim _ _)
    conv => whnf
    simp only [e2, e3, e4, e5]
    repeat ((conv => whnf); (with_reducible refine And.intro ?_ ?_); · omega)
    conv => whnf
    refine ⟨[], ?_⟩
    simp only [e2, e3, e4, e5, e6, e7, e8, ← ht]
    repeat ((conv => whnf); (with_reducible refine And.intro ?_ ?_); · first | with_reducible rfl | (intro _ _; with_reducible rfl))
    conv => whnf
    exact True.intro
end Go.Proofs.Ytogijkmflhjhkaa

/- Functions through the evaluator: Poly1305's tag. No condition. -/
namespace Go.Proofs.Ytogijkmflhjhkaa
open Go.Sx Go.RowKit
set_option maxRecDepth 100000
set_option maxHeartbeats 2000000
set_option linter.unusedVariables false
set_option linter.unusedSimpArgs false

theorem cok38 : COk Try.prog (tab [(78, readS), (79, addS), (80, timesS), (81, lessS)]) := cok_cons readS_ok (cok_cons addS_ok (cok_cons timesS_ok (cok_cons lessS_ok cok_nil)))
theorem timesV_lt {a b : Nat} (ha : a < 4 * 1361129467683753853853498429727072845824) (hb : b < 340282366920938463463374607431768211456) : timesV a b < 2 * 1361129467683753853853498429727072845824 := by
  have h : a * b < 4 * 1361129467683753853853498429727072845824 * 340282366920938463463374607431768211456 := Nat.mul_lt_mul'' ha hb
  unfold timesV
  generalize a * b = p at *
  omega
theorem pc_len {M : List B8} {i n0 : Nat} (h : M.length = n0) : (pc M i).length = min (n0 - 16 * i) 16 := by
  rw [pc, List.length_take, List.length_drop, h]; omega
theorem pc_val {M : List B8} {g : Nat → Int} {n0 i : Nat} (hM : M = L8 g n0) (hg : R8 g n0) {j : Nat} (hj : j < min (n0 - 16 * i) 16) : UL (pc M i) j = g (16 * i + j) := by
  rw [UL_getD, pc, getD_take _ _ _ _ (by omega), getD_drop, hM, ← UL_getD, UL_L8 hg _ (by omega)]
theorem pw256 {k : Nat} (h : k ≤ 16) : 256 ^ k ≤ 340282366920938463463374607431768211456 := by
  have := Nat.pow_le_pow_right (n := 256) (by omega) h
  exact this
theorem piece_lt {M : List B8} {i n0 : Nat} (h : M.length = n0) : leN (pc M i) + 256 ^ (pc M i).length < 2 * 340282366920938463463374607431768211456 := by
  have h1 := leN_lt (pc M i)
  have h2 := pw256 (k := (pc M i).length) (by rw [pc_len h]; omega)
  omega
/-- The first i bytes are out. -/
def preF (D : List B8) (i j : Nat) : Int := if j < i then UL D j else 0
theorem preF_step {D : List B8} {i : Nat} {v : Int} (hv : v = UL D i) (j : Nat) : preF D (i + 1) j = upd (preF D i) i v j := by
  unfold upd preF
  by_cases h : j = i
  · subst h; rw [if_pos (by omega), if_pos rfl, hv]
  · rw [if_neg h]
    by_cases h2 : j < i
    · rw [if_pos (by omega), if_pos h2]
    · rw [if_neg (by omega), if_neg h2]
theorem UL_leBi {n V i : Nat} (h : i < n) : UL (leB n V) i = U (BitVec.ofNat 8 (V / 256 ^ i)) := by
  rw [UL_getD]; unfold leB; simp [h]
/-- poly.Tag. -/
noncomputable def tagS : Summary := mkS false [.v, .r .u8] fun
  | [.v (.agg [.ints .u8 k 32]), .r nl g n] => some ⟨.and (.p (R8 k 32)) (.and (.p (R8 g n)) (.p (n ≤ 100000))), some (.sa (.agg [.ints .u8 (UL (polyTag (L8 k 32) (L8 g n))) 16])), [], 0⟩
  | _ => none
theorem tagS_ok : SumOk Try.prog 59 tagS := by
  unfold tagS
  apply sum_ok
  intro vs A H n o r hb h
  split at h
  rotate_left
  · cases h
  rename_i k nl g n0
  injection h with h
  subst h
  cases hb
  refine fsound_of_run tt_ok cok38 mixed_ok Try.call59 Try.func59 rfl (rs := _) Try.results59 (size := 62) Try.ntmps59 (Nat.le_of_ble_eq_true rfl) rfl fun hp hfa hfh => ?_
  obtain ⟨hk, hg, hn⟩ := hp
  have hk : R8 k 32 := hk
  have hg : R8 g n0 := hg
  have hn : n0 ≤ 100000 := hn
  obtain ⟨K, hK⟩ : ∃ K, K = L8 k 32 := ⟨_, rfl⟩
  have hKl : K.length = 32 := by rw [hK, L8_length]
  obtain ⟨M, hM⟩ : ∃ M, M = L8 g n0 := ⟨_, rfl⟩
  have hMl : M.length = n0 := by rw [hM, L8_length]
  have hk1 : R8 (fun j => k (Int.toNat 0 + j)) (Int.toNat 16 - Int.toNat 0) := fun j hj => hk (0 + j) (by have : j < 16 := hj; omega)
  have hk2 : R8 (fun j => k (Int.toNat 16 + j)) (32 - Int.toNat 16) := fun j hj => hk (16 + j) (by have : j < 16 := hj; omega)
  have k1 : L8 (fun j => k (Int.toNat 0 + j)) 16 = K.take 16 := by rw [hK]; exact L8_sub k 32 0 16 (by omega)
  have k2 : L8 (fun j => k (Int.toNat 16 + j)) 16 = (K.drop 16).take 16 := by rw [hK]; exact L8_sub k 32 16 16 (by omega)
  have hR0 : leN (K.take 16) < 340282366920938463463374607431768211456 := by have := leN_lt (K.take 16); rw [List.length_take, hKl] at this; exact this
  have hcl := clamp hR0
  rw [← polyR_eq (by omega : 16 ≤ K.length)] at hcl
  have hRlt := polyR_lt K
  obtain ⟨R, hR⟩ : ∃ R, R = polyR K := ⟨_, rfl⟩
  rw [← hR] at hcl hRlt
  rw [← hK, ← hM]
  repeat ((conv => whnf); (with_reducible refine And.intro ?_ ?_); · first | with_reducible assumption | omega | (intro _; refine ⟨True.intro, ?_⟩; omega) | exact ⟨by decide, by decide⟩)
  conv => whnf
  simp only [k1]
  refine ⟨0, Nat × Nat, fun x => ⟨62, [(1, .sa (.sc (.im nl .u8 (fun j => g (16 * x.1 + j)) (n0 - 16 * x.1)))), (2, .sa (.sc (.ptr 0 0 0))), (4, .sa (.sc (.ptr 1 0 0))), (5, .sa (.sc (.ptr 2 0 0))), (6, .sa (.sc (.ptr 3 0 0)))],
    [(0, .own 29 [.ints .u8 k 32] false), (1, .own 68 [.ints .u8 (fun _ => 0) 16] false), (2, .own 98 [.ints .u64 (lim R) 3] false), (3, .own 98 [.ints .u64 (lim x.2) 3] false)], 4⟩,
    fun x => 16 * x.1 < n0 + 16 ∧ x.2 < 2 * 1361129467683753853853498429727072845824 ∧ x.2 % P1305 = polyA R M x.1, fun x => n0 + 16 - 16 * x.1, ⟨(0, 0), ⟨by show 16 * 0 < n0 + 16; omega, by show 0 < 2 * 1361129467683753853853498429727072845824; omega, rfl⟩, le_of [] ?_⟩, fun x hx => ?_⟩
  · have h0 : ∀ j, j < 3 → lim 0 j = 0 := fun j hj => by unfold lim; rw [Nat.zero_div]; rfl
    repeat ((conv => whnf); (with_reducible refine And.intro ?_ ?_); · first | with_reducible rfl | (intro _ _; with_reducible rfl) | assumption | omega | (simp [appG]; done) | exact fun j hj => (hcl j hj).symm)
    conv => whnf
    exact True.intro
  obtain ⟨hx1, hx2, hx3⟩ := hx
  have hx1 : 16 * x.1 < n0 + 16 := hx1
  have hx2 : x.2 < 2 * 1361129467683753853853498429727072845824 := hx2
  have hx3 : x.2 % P1305 = polyA R M x.1 := hx3
  repeat ((conv => whnf); (with_reducible refine And.intro ?_ ?_); · omega)
  conv => whnf
  refine ⟨fun h1 => ?_, fun h1 => ?_⟩
  · replace h1 := of_decide_eq_true h1
    have h16 : 16 * x.1 < n0 := by omega
    repeat ((conv => whnf); (with_reducible refine And.intro ?_ ?_); · omega)
    conv => whnf
    generalize hXe : upd (put_ (fun _ => 0) (Int.toNat 0) (min (n0 - 16 * x.1) (Int.toNat 16 - Int.toNat 0)) fun j => g (16 * x.1 + j)) ((min (n0 - 16 * x.1) (Int.toNat 16 - Int.toNat 0) : Nat) : Int).toNat 1 = X
    have hmin : min (n0 - 16 * x.1) (Int.toNat 16 - Int.toNat 0) = min (n0 - 16 * x.1) 16 := rfl
    have hl := pc_len (i := x.1) hMl
    have hX : ∀ j, j < 17 → X j = if j < min (n0 - 16 * x.1) 16 then UL (pc M x.1) j else if j = min (n0 - 16 * x.1) 16 then 1 else 0 := fun j hj => by
      rw [← hXe, hmin, Int.toNat_natCast]
      unfold upd put_
      by_cases q1 : j = min (n0 - 16 * x.1) 16
      · rw [if_pos q1, if_neg (by omega), if_pos q1]
      rw [if_neg q1]
      by_cases q2 : j < min (n0 - 16 * x.1) 16
      · rw [if_pos q2, pc_val hM hg q2, if_pos ⟨Nat.zero_le _, by show j < 0 + _; omega⟩]; show g (16 * x.1 + (j - 0)) = _; rw [Nat.sub_zero]
      · rw [if_neg q2, if_neg q1, if_neg fun h => q2 (by have h3 : j < 0 + min (n0 - 16 * x.1) 16 := h.2; omega)]
    have hX8 : R8 X 17 := fun j hj => by
      rw [hX j hj]
      split
      · exact ⟨U_nonneg _, U_lt8 _⟩
      · split <;> omega
    have hXs : (fun j => X (Int.toNat 0 + j)) = X := funext fun j => by show X (0 + j) = X j; rw [Nat.zero_add]
    have hX16 : IntKind.u64.wrap (X (Int.toNat 16)) = X 16 := by
      have := hX8 16 (by omega)
      show IntKind.u64.wrap (X 16) = X 16
      rw [w_u64]; omega
    have hX1 : R8 (fun j => X (Int.toNat 0 + j)) (Int.toNat 16 - Int.toNat 0) := by rw [hXs]; exact R8_le hX8 (by decide)
    have hX2 : u64R (IntKind.u64.wrap (X (Int.toNat 16))) := by rw [hX16]; have := hX8 16 (by omega); unfold u64R; omega
    have hpv : leN (L8 (fun j => X (Int.toNat 0 + j)) 16) + (IntKind.u64.wrap (X (Int.toNat 16))).toNat * 340282366920938463463374607431768211456 = leN (pc M x.1) + 256 ^ (pc M x.1).length := by
      rw [hXs, hX16, hl]
      exact piece_val (l := pc M x.1) hl.symm (by omega) hX
    have hpl := piece_lt (i := x.1) hMl
    have e1 : N3 (lim x.2) = x.2 := N3_lim' (by omega)
    have e2 : N3 (lim (leN (pc M x.1) + 256 ^ (pc M x.1).length)) = leN (pc M x.1) + 256 ^ (pc M x.1).length := N3_lim' (by omega)
    have e3 : N3 (lim (x.2 + (leN (pc M x.1) + 256 ^ (pc M x.1).length))) = x.2 + (leN (pc M x.1) + 256 ^ (pc M x.1).length) := N3_lim' (by omega)
    have e4 : N3 (lim R) = R := N3_lim' (by omega)
    have hA : x.2 + (leN (pc M x.1) + 256 ^ (pc M x.1).length) < 4 * 1361129467683753853853498429727072845824 := by omega
    have hR2 : R < 340282366920938463463374607431768211456 := by omega
    have htl := timesV_lt hA hR2
    have hpA : polyA R M (x.1 + 1) = timesV (x.2 + (leN (pc M x.1) + 256 ^ (pc M x.1).length)) R % P1305 := by
      rw [timesV_mod, polyA]
      exact (step_mod (hx3.trans (Nat.mod_eq_of_lt (polyA_lt R M x.1)).symm)).symm
    refine ⟨[(0, ⟨0, some 29, []⟩), (1, ⟨0, some 30, []⟩), (2, ⟨0, some 31, []⟩), (3, ⟨4, some 32, []⟩), (4, ⟨12, some 33, []⟩), (5, ⟨30, some 34, []⟩), (6, ⟨63, some 35, []⟩), (7, ⟨0, some 36, []⟩), (8, ⟨255, some 37, []⟩), (9, ⟨511, none, [3]⟩)], 165, ?_⟩
    repeat ((conv => whnf); (with_reducible refine And.intro ?_ ?_); · first | with_reducible assumption | omega | (intro _; refine ⟨True.intro, ?_⟩; omega) | exact R64_lim _ _ | (rw [hpv, e1, e2, e3]; exact hA))
    conv => whnf
    refine ⟨(x.1 + 1, timesV (x.2 + (leN (pc M x.1) + 256 ^ (pc M x.1).length)) R), ⟨⟨by show 16 * (x.1 + 1) < n0 + 16; omega, htl, hpA.symm⟩, by show n0 + 16 - 16 * (x.1 + 1) < n0 + 16 - 16 * x.1; omega⟩, le_of [] ?_⟩
    simp only [hpv, e1, e2, e3, e4, hmin, Int.toNat_natCast]
    have hc : ∀ j, j < n0 - 16 * (x.1 + 1) → g (16 * (x.1 + 1) + j) = g (16 * x.1 + (min (n0 - 16 * x.1) 16 + j)) := fun j hj => congrArg g (by omega)
    repeat ((conv => whnf); (with_reducible refine And.intro ?_ ?_); · first | with_reducible rfl | (intro _ _; with_reducible rfl) | assumption | omega)
    conv => whnf
    exact True.intro
  · replace h1 := of_decide_eq_false h1
    have h16 : ¬ 16 * x.1 < n0 := by omega
    have hxe : x.1 = (M.length + 15) / 16 := by omega
    have hP : polyTag K M = leB 16 (x.2 % P1305 + leN ((K.drop 16).take 16)) := by
      rw [hx3, hxe, hR, polyTag_eq]; rfl
    have hS : leN ((K.drop 16).take 16) < 340282366920938463463374607431768211456 := by have := leN_lt ((K.drop 16).take 16); rw [List.length_take, List.length_drop, hKl] at this; exact this
    have hPl : x.2 % P1305 < 1361129467683753853853498429727072845824 := by have : x.2 % P1305 < P1305 := Nat.mod_lt _ (by decide); unfold P1305 at this ⊢; omega
    have e1 : N3 (lim x.2) = x.2 := N3_lim' (by omega)
    have e2 : lessV x.2 = x.2 % P1305 := lessV_eq hx2
    have e3 : N3 (lim (x.2 % P1305)) = x.2 % P1305 := N3_lim' (by omega)
    have e4 : N3 (lim (leN ((K.drop 16).take 16) + Int.toNat 0 * 340282366920938463463374607431768211456)) = leN ((K.drop 16).take 16) := by rw [show Int.toNat 0 = 0 from rfl, Nat.zero_mul, Nat.add_zero]; exact N3_lim' (by omega)
    refine ⟨[(0, ⟨0, some 41, []⟩), (1, ⟨1, some 42, []⟩), (2, ⟨0, some 43, []⟩), (3, ⟨7, some 44, []⟩), (4, ⟨15, some 45, []⟩), (5, ⟨31, none, [3]⟩)], 100, ?_⟩
    repeat ((conv => whnf); (with_reducible refine And.intro ?_ ?_); · first | with_reducible assumption | omega | (intro _; refine ⟨True.intro, ?_⟩; omega) | exact R64_lim _ _ | exact ⟨by decide, by decide⟩)
    conv => whnf
    simp only [e1, e2, e3, k2, e4]
    rw [hP]
    obtain ⟨V, hVe⟩ : ∃ V, V = x.2 % P1305 + leN ((K.drop 16).take 16) := ⟨_, rfl⟩
    simp only [← hVe]
    refine ⟨0, Nat, fun i => ⟨62, [(2, .sa (.sc (.ptr 0 0 0))), (4, .sa (.sc (.ptr 1 0 0))), (5, .sa (.sc (.ptr 2 0 0))), (6, .sa (.sc (.ptr 3 0 0))), (9, .sa (.sc (.ptr 4 0 0))), (46, .sa (.sc (.int .i64 i)))],
      [(0, .own 29 [.ints .u8 k 32] false), (1, .own 68 [.ints .u8 (fun _ => 0) 16] false), (2, .own 98 [.ints .u64 (lim R) 3] false), (3, .own 98 [.ints .u64 (lim V) 3] false), (4, .own 68 [.ints .u8 (preF (leB 16 V) i) 16] false)], 5⟩,
      fun i => i ≤ 16, fun i => 16 - i, ⟨0, by omega, le_of [(4, 100)] ?_⟩, fun i hi => ?_⟩
    · repeat ((conv => whnf); (with_reducible refine And.intro ?_ ?_); · first | with_reducible rfl | (intro _ _; with_reducible rfl) | omega | exact fun j _ => if_neg (by omega))
      conv => whnf
      exact True.intro
    have hi : i ≤ 16 := hi
    repeat ((conv => whnf); (with_reducible refine And.intro ?_ ?_); · omega)
    conv => whnf
    refine ⟨fun h2 => ?_, fun h2 => ?_⟩
    · replace h2 := of_decide_eq_true h2
      have hi16 : i < 16 := by omega
      have q1 : IntKind.i64.wrap (((i : Nat) : Int).tdiv 8) = ((i / 8 : Nat) : Int) := by rw [show ((i : Nat) : Int).tdiv 8 = ((i / 8 : Nat) : Int) from rfl, w_i64]; omega
      have q2 : ((i : Nat) : Int).tmod 8 = ((i % 8 : Nat) : Int) := rfl
      have q3 : IntKind.i64.wrap (8 * ((i % 8 : Nat) : Int)) = ((8 * (i % 8) : Nat) : Int) := by rw [w_i64]; omega
      have q4 : min (8 * (i % 8)) IntKind.u64.bits = 8 * (i % 8) := Nat.min_eq_left (by show _ ≤ 64; omega)
      have hq : i / 8 < 3 := by omega
      repeat ((conv => whnf); (with_reducible refine And.intro ?_ ?_); · first | omega | (simp only [q1, q2, q3, Int.toNat_natCast]; omega))
      conv => whnf
      refine ⟨i + 1, ⟨by show i + 1 ≤ 16; omega, by show 16 - (i + 1) < 16 - i; omega⟩, le_of [] ?_⟩
      have hst := preF_step (D := leB 16 V) (i := i) ((byte_lim (V := V) hi16).trans (UL_leBi hi16).symm)
      simp only [q1, q2, q3, Int.toNat_natCast, q4]
      repeat ((conv => whnf); (with_reducible refine And.intro ?_ ?_); · first | with_reducible rfl | (intro _ _; with_reducible rfl) | (simp only [w_i64, w_u64, w_u32, w_u8]; omega) | exact fun j _ => hst j)
      conv => whnf
      exact True.intro
    · replace h2 := of_decide_eq_false h2
      have hie : i = 16 := by omega
      subst hie
      repeat ((conv => whnf); (with_reducible refine And.intro ?_ ?_); · omega)
      conv => whnf
      refine ⟨[], ?_⟩
      repeat ((conv => whnf); (with_reducible refine And.intro ?_ ?_); · first | with_reducible rfl | (intro j hj; unfold preF; rw [if_pos hj]))
      conv => whnf
      exact True.intro
end Go.Proofs.Ytogijkmflhjhkaa

/- Functions through the evaluator: the document's blocks of ChaCha20. No condition. -/
namespace Go.Proofs.Ytogijkmflhjhkaa
open Go.Sx Go.RowKit
set_option maxRecDepth 100000
set_option maxHeartbeats 2000000
set_option linter.unusedVariables false
set_option linter.unusedSimpArgs false

theorem cok43 : COk Try.prog (tab [(52, rquarterS), (77, low4S)]) := cok_cons rquarterS_ok (cok_cons low4S_ok cok_nil)
theorem app1w {l : List W32} {g : Nat → Int} {m : Nat} {b : W32} (hm : m = l.length) (hz : g 0 = U b) (j : Nat) (hj : j < m + 1) : UL (l ++ [b]) j = put_ (UL l) m 1 g j := by
  subst hm
  rw [← UL_app l [b] j hj]
  unfold put_
  show (if l.length ≤ j ∧ j < l.length + 1 then _ else _) = _
  split
  · rename_i h
    rw [show j - l.length = 0 by omega, hz]; rfl
  · rfl
theorem u32_UL (l : List W32) (j : Nat) : u32R (UL l j) := ⟨U_nonneg _, U_lt32 _⟩
theorem ne_of_beq_false {a b : Int} (h : (a == b) = false) : a ≠ b := fun e => by subst e; simp at h
/-- indentureref4.Block. -/
noncomputable def rblockS : Summary := mkS false [.v, .v, .v] fun
  | [.v (.agg [.ints .u8 k 32]), .v (.sc (.int .u32 c)), .v (.agg [.ints .u8 n 12])] => some ⟨.and (.p (R8 k 32)) (.and (.p (u32R c)) (.p (R8 n 12))),
      some (.sa (.agg [.ints .u8 (UL (chBlock (L8 k 32) (BitVec.ofInt 32 c) (L8 n 12))) 64])), [], 0⟩
  | _ => none
theorem rblockS_ok : SumOk Try.prog 56 rblockS := by
  unfold rblockS
  apply sum_ok
  intro vs A H n o r hb h
  split at h
  rotate_left
  · cases h
  rename_i k c n
  injection h with h
  subst h
  cases hb
  refine fsound_of_run tt_ok cok43 mixed_ok Try.call56 Try.func56 rfl (rs := _) Try.results56 (size := 137) Try.ntmps56 (Nat.le_of_ble_eq_true rfl) rfl fun hp hfa hfh => ?_
  obtain ⟨hk, hc, hn⟩ := hp
  have hk : R8 k 32 := hk
  have hn : R8 n 12 := hn
  have hc : u32R c := hc
  obtain ⟨C, rfl⟩ := u32_ex hc
  rw [ofInt_U]
  have hbe := chBlock_eq (L8 k 32) C (L8 n 12)
  repeat ((conv => whnf); (with_reducible refine And.intro ?_ ?_); · omega)
  conv => whnf
  refine ⟨0, Nat, fun i => ⟨137, [(1, .sa (.sc (.int .u32 (U C)))), (3, .sa (.sc (.ptr 0 0 0))), (5, .sa (.sc (.ptr 1 0 0))), (6, .sa (.sc (.ptr 2 0 0))), (7, .sa (.sc (ownA false (4 + i) 3))), (8, .sa (.sc (.int .i64 i)))],
    [(0, .own 29 [.ints .u8 k 32] false), (1, .own 61 [.ints .u8 n 12] false), (2, .own 63 [.ints .u8 (fun _ => 0) 64] false), (3, ownB 57 .u32 (UL (chC ++ chK (L8 k 32) i)) (4 + i))], 4⟩, fun i => i ≤ 8, fun i => 8 - i, ⟨0, by omega, le_of [] ?_⟩, fun i hi => ?_⟩
  · have h0 : ∀ j, j < 4 → UL (chC ++ chK (L8 k 32) 0) j = listI [1797285236, 2036477234, 857760878, 1634760805].reverse j := fun j hj => by
      rw [show chC ++ chK (L8 k 32) 0 = chC from List.append_nil _]
      rcases four hj with rfl | rfl | rfl | rfl <;> decide
    repeat ((conv => whnf); (with_reducible refine And.intro ?_ ?_); · first | with_reducible rfl | (intro _ _; with_reducible rfl) | (intro h; exact absurd h (by decide)) | omega | (intro _; refine ⟨?_, True.intro⟩; omega) | (intro hgd; (try replace hgd := of_decide_eq_true hgd); (repeat ((conv => whnf); (with_reducible refine And.intro ?_ ?_); · first | assumption | omega)); (conv => whnf); exact True.intro))
    conv => whnf
    exact True.intro
  have hi : i ≤ 8 := hi
  have hl : (chC ++ chK (L8 k 32) i).length = 4 + i := by rw [List.length_append, chK_length]; rfl
  repeat ((conv => whnf); (with_reducible refine And.intro ?_ ?_); · omega)
  conv => whnf
  refine ⟨fun h1 => ?_, fun h1 => ?_⟩
  · replace h1 := of_decide_eq_true h1
    have w0 : IntKind.i64.wrap (4 * (i : Int)) = ((4 * i : Nat) : Int) := by rw [w_i64]; omega
    have hr : R8 (fun j => k (4 * i + j)) (32 - 4 * i) := fun j hj => hk _ (by omega)
    have hb := le_blk (f := k) (a := 4 * i) (n := 32 - 4 * i) (i := i) (N := 32) rfl (by omega) (by omega)
    repeat ((conv => whnf); (with_reducible refine And.intro ?_ ?_); · first | omega | (intro _; refine ⟨True.intro, ?_⟩; omega) | (intro _; refine ⟨decide_eq_true ?_, ?_⟩ <;> omega) | (simp only [w0, Int.toNat_natCast]; omega))
    conv => whnf
    simp only [w0, Int.toNat_natCast, hb]
    refine ⟨i + 1, ⟨by show i + 1 ≤ 8; omega, by show 8 - (i + 1) < 8 - i; omega⟩, le_of [(3, 5)] ?_⟩
    have hfin : ∀ j, j < 4 + i + 1 → UL (chC ++ chK (L8 k 32) (i + 1)) j = put_ (UL (chC ++ chK (L8 k 32) i)) (4 + i) 1 (fun j => listI [U (le4 (L8 k 32) i)].reverse (0 + j)) j := fun j hj => by
      rw [chK_succ, ← List.append_assoc]
      exact app1w hl.symm rfl j hj
    simp only [← Nat.add_assoc]
    repeat ((conv => whnf); (with_reducible refine And.intro ?_ ?_); · first | with_reducible rfl | exact (Bool.and_false _).symm | (intro _ _; with_reducible rfl) | (intro h; exact absurd h (by decide)) | (intro _; refine ⟨?_, True.intro⟩; omega) | (simp only [w_i64, w_u64, w_u32, w_u8]; omega) | (intro hgd; (try replace hgd := of_decide_eq_true hgd); (repeat ((conv => whnf); (with_reducible refine And.intro ?_ ?_); · first | assumption | omega | (simp [appG]; done))); (conv => whnf); exact True.intro))
    conv => whnf
    exact True.intro
  · replace h1 := of_decide_eq_false h1
    have hi8 : i = 8 := by omega
    subst hi8
    repeat ((conv => whnf); (with_reducible refine And.intro ?_ ?_); · omega)
    conv => whnf
    have hn0 : R8 (fun j => n (Int.toNat 0 + j)) (12 - Int.toNat 0) := fun j hj => hn (0 + j) (by have : j < 12 - 0 := hj; omega)
    have hn4 : R8 (fun j => n (Int.toNat 4 + j)) (12 - Int.toNat 4) := fun j hj => hn (4 + j) (by have : j < 12 - 4 := hj; omega)
    have hn8 : R8 (fun j => n (Int.toNat 8 + j)) (12 - Int.toNat 8) := fun j hj => hn (8 + j) (by have : j < 12 - 8 := hj; omega)
    have b0 : le4 (L8 (fun j => n (Int.toNat 0 + j)) (12 - Int.toNat 0)) 0 = le4 (L8 n 12) 0 := le_blk (f := n) (a := 0) (n := 12) (i := 0) (N := 12) rfl (by omega) (by omega)
    have b4 : le4 (L8 (fun j => n (Int.toNat 4 + j)) (12 - Int.toNat 4)) 0 = le4 (L8 n 12) 1 := le_blk (f := n) (a := 4) (n := 8) (i := 1) (N := 12) rfl (by omega) (by omega)
    have b8 : le4 (L8 (fun j => n (Int.toNat 8 + j)) (12 - Int.toNat 8)) 0 = le4 (L8 n 12) 2 := le_blk (f := n) (a := 8) (n := 4) (i := 2) (N := 12) rfl (by omega) (by omega)
    refine ⟨[(0, ⟨0, some 33, []⟩), (1, ⟨0, some 34, []⟩), (2, ⟨0, some 35, []⟩), (3, ⟨4, some 36, []⟩), (4, ⟨0, some 37, []⟩), (5, ⟨28, some 38, []⟩), (6, ⟨0, some 39, []⟩), (7, ⟨124, some 40, []⟩), (8, ⟨254, some 41, [132]⟩), (9, ⟨511, some 42, [148, 3]⟩), (10, ⟨1023, some 7, []⟩)], 180, ?_⟩
    repeat (first | ((with_reducible refine (Cd.then_iff _ _).2 (And.intro ?_ ?_)); · repeat' ((conv => arg 1; whnf); first | exact Cd.holds_tt | (refine Cd.holds_p ?_; first | exact hn0 | exact hn4 | exact hn8 | decide | (intro _; refine ⟨True.intro, ?_⟩; omega)) | refine Cd.holds_and ?_ ?_)) | ((conv => whnf); (with_reducible refine And.intro ?_ ?_); · first | decide | (intro _; refine ⟨True.intro, ?_⟩; omega) | (intro _; refine ⟨decide_eq_true ?_, ?_⟩ <;> omega) | (intro _; refine ⟨?_, ?_⟩ <;> first | omega | (simp [appG, Cd.holds]; done))))
    conv => whnf
    simp only [b0, b4, b8]
    obtain ⟨S, hS⟩ : ∃ S, S = chInit (L8 k 32) C (L8 n 12) := ⟨_, rfl⟩
    have hSl : S.length = 16 := by rw [hS, chInit_length]
    have hSe : S = (chC ++ chK (L8 k 32) 8) ++ [C, le4 (L8 n 12) 0, le4 (L8 n 12) 1, le4 (L8 n 12) 2] := by rw [hS]; unfold chInit; rw [List.append_assoc]; rfl
    rw [← hS] at hbe
    have hSc : ∀ j, j < 16 → UL S j = put_ (UL (chC ++ chK (L8 k 32) 8)) (4 + 8) 4 (fun j => listI [U (le4 (L8 n 12) 2), U (le4 (L8 n 12) 1), U (le4 (L8 n 12) 0), U C].reverse (0 + j)) j := fun j hj => by
      rw [hSe, ← UL_app _ _ _ (by rw [hl]; exact hj), hl]
      unfold put_
      show (if 4 + 8 ≤ j ∧ j < 4 + 8 + 4 then _ else _) = _
      split
      · rename_i h
        rcases four (show j - (4 + 8) < 4 by omega) with e | e | e | e <;> rw [e] <;> rfl
      · rfl
    rw [hbe]
    repeat (((conv => whnf); (with_reducible refine And.intro ?_ ?_); · omega))
    conv => whnf
    have hW : ∀ j, j < 16 → UL S j = put_ (fun _ => 0) 0 (4 + 8 + 4) (fun j => put_ (UL (chC ++ chK (L8 k 32) 8)) (4 + 8) 4 (fun j => listI [U (le4 (L8 n 12) 2), U (le4 (L8 n 12) 1), U (le4 (L8 n 12) 0), U C].reverse (0 + j)) (0 + j)) j := fun j hj => by
      rw [put_0 (show j < 4 + 8 + 4 from hj), Nat.zero_add]
      exact hSc j hj
    refine ⟨0, Nat, fun i => ⟨137, [(6, .sa (.sc (.ptr 2 0 0))), (7, .sa (.sc (ownA false 16 3))), (9, .sa (.sc (ownA false 16 4))), (10, .sa (.sc (.int .i64 i)))],
      [(2, .own 63 [.ints .u8 (fun _ => 0) 64] false), (3, ownB 57 .u32 (UL S) 16), (4, ownB 57 .u32 (UL (chN S i)) 16)], 5⟩, fun i => i ≤ 20, fun i => 20 - i, ⟨0, by omega, le_of [(3, 148), (4, 180)] ?_⟩, fun i hi => ?_⟩
    · simp only [show chN S 0 = S from rfl]
      repeat ((conv => whnf); (with_reducible refine And.intro ?_ ?_); · first | with_reducible rfl | exact (Bool.and_false _).symm | (intro _ _; with_reducible rfl) | (intro h; exact absurd h (by decide)) | omega | (intro _; refine ⟨?_, True.intro⟩; omega) | (intro hgd; (try replace hgd := of_decide_eq_true hgd); (repeat ((conv => whnf); (with_reducible refine And.intro ?_ ?_); · first | assumption | omega | (simp [appG]; done))); (conv => whnf); exact True.intro))
      conv => whnf
      exact True.intro
    have hi : i ≤ 20 := hi
    repeat ((conv => whnf); (with_reducible refine And.intro ?_ ?_); · omega)
    conv => whnf
    refine ⟨fun h2 => ?_, fun h2 => ?_⟩
    · replace h2 := of_decide_eq_true h2
      obtain ⟨X, hX⟩ : ∃ X, X = chN S i := ⟨_, rfl⟩
      have hXl : X.length = 16 := by rw [hX, chN_length, hSl]
      rw [← hX]
      repeat ((conv => whnf); (with_reducible refine And.intro ?_ ?_); · omega)
      conv => whnf
      refine ⟨0, Nat, fun kk => ⟨137, [(6, .sa (.sc (.ptr 2 0 0))), (7, .sa (.sc (ownA false 16 3))), (9, .sa (.sc (ownA false 16 4))), (10, .sa (.sc (.int .i64 i))), (11, .sa (.sc (.int .i64 kk)))],
        [(2, .own 63 [.ints .u8 (fun _ => 0) 64] false), (3, ownB 57 .u32 (UL S) 16), (4, ownB 57 .u32 (UL (single X (i % 2) kk)) 16)], 5⟩, fun kk => kk ≤ 4, fun kk => 4 - kk, ⟨0, by omega, le_of [] ?_⟩, fun kk hkk => ?_⟩
      · simp only [show single X (i % 2) 0 = X from rfl]
        repeat ((conv => whnf); (with_reducible refine And.intro ?_ ?_); · first | with_reducible rfl | (intro _ _; with_reducible rfl) | (intro h; exact absurd h (by decide)) | omega | (intro _; refine ⟨?_, True.intro⟩; omega) | (intro hgd; (try replace hgd := of_decide_eq_true hgd); (repeat ((conv => whnf); (with_reducible refine And.intro ?_ ?_); · first | (intro _ _; with_reducible rfl) | omega | (refine decide_eq_true ?_; omega))); (conv => whnf); exact True.intro))
        conv => whnf
        exact True.intro
      have hkk : kk ≤ 4 := hkk
      repeat ((conv => whnf); (with_reducible refine And.intro ?_ ?_); · omega)
      conv => whnf
      refine ⟨fun h3 => ?_, fun h3 => ?_⟩
      · replace h3 := of_decide_eq_true h3
        have hk4 : kk < 4 := by omega
        repeat ((conv => whnf); (with_reducible refine And.intro ?_ ?_); · omega)
        conv => whnf
        refine ⟨fun h4 => ?_, fun h4 => ?_⟩
        · replace h4 := eq_of_beq h4
          have hJ : i % 2 = 1 := by have h5 : ((i : Nat) : Int).tmod 2 = ((i % 2 : Nat) : Int) := rfl; rw [h5] at h4; omega
          have hcol : single X (i % 2) (kk + 1) = qs (single X (i % 2) kk) kk (4 + (kk + 1) % 4) (8 + (kk + 2) % 4) (12 + (kk + 3) % 4) := by
            rw [hJ]; rfl
          have a1 : IntKind.i64.wrap ((kk : Int) + 1) = ((kk + 1 : Nat) : Int) := by rw [w_i64]; omega
          have a2 : IntKind.i64.wrap ((kk : Int) + 2) = ((kk + 2 : Nat) : Int) := by rw [w_i64]; omega
          have a3 : IntKind.i64.wrap ((kk : Int) + 3) = ((kk + 3 : Nat) : Int) := by rw [w_i64]; omega
          have c2 : IntKind.i64.wrap (2 * 1) = 2 := by decide
          have c3 : IntKind.i64.wrap (3 * 1) = 3 := by decide
          have t1 : ((kk + 1 : Nat) : Int).tmod 4 = (((kk + 1) % 4 : Nat) : Int) := rfl
          have t2 : ((kk + 2 : Nat) : Int).tmod 4 = (((kk + 2) % 4 : Nat) : Int) := rfl
          have t3 : ((kk + 3 : Nat) : Int).tmod 4 = (((kk + 3) % 4 : Nat) : Int) := rfl
          have b1 : IntKind.i64.wrap (4 + (((kk + 1) % 4 : Nat) : Int)) = ((4 + (kk + 1) % 4 : Nat) : Int) := by rw [w_i64]; omega
          have b2 : IntKind.i64.wrap (8 + (((kk + 2) % 4 : Nat) : Int)) = ((8 + (kk + 2) % 4 : Nat) : Int) := by rw [w_i64]; omega
          have b3 : IntKind.i64.wrap (12 + (((kk + 3) % 4 : Nat) : Int)) = ((12 + (kk + 3) % 4 : Nat) : Int) := by rw [w_i64]; omega
          generalize hZ : single X (i % 2) kk = Z at *
          have hZl : Z.length = 16 := by rw [← hZ, single_length, hXl]
          repeat ((conv => whnf); (with_reducible refine And.intro ?_ ?_); · omega)
          conv => whnf
          refine ⟨[(0, ⟨0, some 75, []⟩), (1, ⟨0, some 76, []⟩), (2, ⟨0, some 77, []⟩), (3, ⟨0, some 78, []⟩), (4, ⟨0, some 79, []⟩), (5, ⟨0, some 80, []⟩), (6, ⟨0, some 81, []⟩), (7, ⟨0, some 82, []⟩), (8, ⟨0, some 83, []⟩), (9, ⟨0, some 84, []⟩), (10, ⟨768, some 85, []⟩), (11, ⟨1792, some 86, []⟩), (12, ⟨0, some 87, []⟩), (13, ⟨0, some 88, []⟩), (14, ⟨12288, some 89, []⟩), (15, ⟨28672, some 90, []⟩), (16, ⟨0, some 91, []⟩), (17, ⟨0, some 92, []⟩), (18, ⟨196608, some 93, []⟩), (19, ⟨458752, some 94, []⟩), (20, ⟨0, some 95, []⟩), (21, ⟨0, some 96, []⟩), (22, ⟨3145728, some 97, []⟩), (23, ⟨7340032, some 98, []⟩), (24, ⟨16776960, some 99, []⟩), (25, ⟨33554176, some 74, []⟩), (26, ⟨67108608, some 100, []⟩), (27, ⟨67108608, some 101, []⟩), (28, ⟨67108608, some 102, []⟩), (29, ⟨67108608, some 103, []⟩), (30, ⟨134217475, some 104, []⟩), (31, ⟨1207959299, none, [4]⟩), (32, ⟨3489660687, some 105, []⟩), (33, ⟨7784627983, none, [4]⟩), (34, ⟨16642998079, some 106, []⟩), (35, ⟨33822867263, none, [4]⟩), (36, ⟨68719476735, some 107, []⟩), (37, ⟨137438953471, none, [4]⟩)], 613, ?_⟩
          simp only [a1, a2, a3, c2, c3, t1, t2, t3, b1, b2, b3, Int.toNat_natCast, Nat.zero_add]
          repeat (first | ((with_reducible refine (Cd.then_iff _ _).2 (And.intro ?_ ?_)); · repeat' ((conv => arg 1; whnf); first | (refine Cd.holds_p ?_; first | exact u32_UL _ _ | omega) | refine Cd.holds_and ?_ ?_)) | ((conv => whnf); (with_reducible refine And.intro ?_ ?_); · first | exact u32_UL _ _ | (refine ⟨?_, ?_⟩ <;> omega) | omega | (refine decide_eq_true ?_; omega)))
          conv => whnf
          refine ⟨kk + 1, ⟨by show kk + 1 ≤ 4; omega, by show 4 - (kk + 1) < 4 - kk; omega⟩, le_of [] ?_⟩
          have hq := qs_upd (l := Z) (a := kk) (b := 4 + (kk + 1) % 4) (c := 8 + (kk + 2) % 4) (d := 12 + (kk + 3) % 4) hZl (by omega) (by omega) (by omega) (by omega)
          simp only [Int.toNat_natCast, Nat.zero_add, UL_getD, ofInt_U, hcol]
          repeat ((conv => whnf); (with_reducible refine And.intro ?_ ?_); · first | with_reducible rfl | (intro _ _; with_reducible rfl) | (intro h; exact absurd h (by decide)) | omega | (intro _; refine ⟨?_, True.intro⟩; omega) | (intro hgd; (try replace hgd := of_decide_eq_true hgd); (repeat ((conv => whnf); (with_reducible refine And.intro ?_ ?_); · first | (intro _ _; with_reducible rfl) | omega | (refine decide_eq_true ?_; omega) | exact fun j _ => hq j)); (conv => whnf); exact True.intro))
          conv => whnf
          exact True.intro
        · replace h4 := ne_of_beq_false h4
          have hJ : i % 2 = 0 := by have h5 : ((i : Nat) : Int).tmod 2 = ((i % 2 : Nat) : Int) := rfl; rw [h5] at h4; omega
          have hcol : single X (i % 2) (kk + 1) = qs (single X (i % 2) kk) kk (4 + (kk + 0) % 4) (8 + (kk + 0) % 4) (12 + (kk + 0) % 4) := by
            rw [hJ]; rfl
          have a1 : IntKind.i64.wrap ((kk : Int) + 0) = ((kk + 0 : Nat) : Int) := by rw [w_i64]; omega
          have a2 : IntKind.i64.wrap ((kk : Int) + 0) = ((kk + 0 : Nat) : Int) := by rw [w_i64]; omega
          have a3 : IntKind.i64.wrap ((kk : Int) + 0) = ((kk + 0 : Nat) : Int) := by rw [w_i64]; omega
          have c2 : IntKind.i64.wrap (2 * 0) = 0 := by decide
          have c3 : IntKind.i64.wrap (3 * 0) = 0 := by decide
          have t1 : ((kk + 0 : Nat) : Int).tmod 4 = (((kk + 0) % 4 : Nat) : Int) := rfl
          have t2 : ((kk + 0 : Nat) : Int).tmod 4 = (((kk + 0) % 4 : Nat) : Int) := rfl
          have t3 : ((kk + 0 : Nat) : Int).tmod 4 = (((kk + 0) % 4 : Nat) : Int) := rfl
          have b1 : IntKind.i64.wrap (4 + (((kk + 0) % 4 : Nat) : Int)) = ((4 + (kk + 0) % 4 : Nat) : Int) := by rw [w_i64]; omega
          have b2 : IntKind.i64.wrap (8 + (((kk + 0) % 4 : Nat) : Int)) = ((8 + (kk + 0) % 4 : Nat) : Int) := by rw [w_i64]; omega
          have b3 : IntKind.i64.wrap (12 + (((kk + 0) % 4 : Nat) : Int)) = ((12 + (kk + 0) % 4 : Nat) : Int) := by rw [w_i64]; omega
          generalize hZ : single X (i % 2) kk = Z at *
          have hZl : Z.length = 16 := by rw [← hZ, single_length, hXl]
          repeat ((conv => whnf); (with_reducible refine And.intro ?_ ?_); · omega)
          conv => whnf
          refine ⟨[(0, ⟨0, some 75, []⟩), (1, ⟨0, some 76, []⟩), (2, ⟨0, some 77, []⟩), (3, ⟨0, some 78, []⟩), (4, ⟨0, some 79, []⟩), (5, ⟨0, some 80, []⟩), (6, ⟨0, some 81, []⟩), (7, ⟨0, some 82, []⟩), (8, ⟨0, some 83, []⟩), (9, ⟨0, some 84, []⟩), (10, ⟨768, some 85, []⟩), (11, ⟨1792, some 86, []⟩), (12, ⟨0, some 87, []⟩), (13, ⟨0, some 88, []⟩), (14, ⟨12288, some 89, []⟩), (15, ⟨28672, some 90, []⟩), (16, ⟨0, some 91, []⟩), (17, ⟨0, some 92, []⟩), (18, ⟨196608, some 93, []⟩), (19, ⟨458752, some 94, []⟩), (20, ⟨0, some 95, []⟩), (21, ⟨0, some 96, []⟩), (22, ⟨3145728, some 97, []⟩), (23, ⟨7340032, some 98, []⟩), (24, ⟨16776960, some 99, []⟩), (25, ⟨33554176, some 74, []⟩), (26, ⟨67108608, some 100, []⟩), (27, ⟨67108608, some 101, []⟩), (28, ⟨67108608, some 102, []⟩), (29, ⟨67108608, some 103, []⟩), (30, ⟨134217475, some 104, []⟩), (31, ⟨1207959299, none, [4]⟩), (32, ⟨3489660687, some 105, []⟩), (33, ⟨7784627983, none, [4]⟩), (34, ⟨16642998079, some 106, []⟩), (35, ⟨33822867263, none, [4]⟩), (36, ⟨68719476735, some 107, []⟩), (37, ⟨137438953471, none, [4]⟩)], 613, ?_⟩
          simp only [a1, a2, a3, c2, c3, t1, t2, t3, b1, b2, b3, Int.toNat_natCast, Nat.zero_add]
          repeat (first | ((with_reducible refine (Cd.then_iff _ _).2 (And.intro ?_ ?_)); · repeat' ((conv => arg 1; whnf); first | (refine Cd.holds_p ?_; first | exact u32_UL _ _ | omega) | refine Cd.holds_and ?_ ?_)) | ((conv => whnf); (with_reducible refine And.intro ?_ ?_); · first | exact u32_UL _ _ | (refine ⟨?_, ?_⟩ <;> omega) | omega | (refine decide_eq_true ?_; omega)))
          conv => whnf
          refine ⟨kk + 1, ⟨by show kk + 1 ≤ 4; omega, by show 4 - (kk + 1) < 4 - kk; omega⟩, le_of [] ?_⟩
          have hq := qs_upd (l := Z) (a := kk) (b := 4 + (kk + 0) % 4) (c := 8 + (kk + 0) % 4) (d := 12 + (kk + 0) % 4) hZl (by omega) (by omega) (by omega) (by omega)
          simp only [Int.toNat_natCast, Nat.zero_add, UL_getD, ofInt_U, hcol]
          repeat ((conv => whnf); (with_reducible refine And.intro ?_ ?_); · first | with_reducible rfl | (intro _ _; with_reducible rfl) | (intro h; exact absurd h (by decide)) | (intro _; refine ⟨?_, True.intro⟩; omega) | (simp only [w_i64, w_u64, w_u32, w_u8]; omega) | (intro hgd; (try replace hgd := of_decide_eq_true hgd); (repeat ((conv => whnf); (with_reducible refine And.intro ?_ ?_); · first | (intro _ _; with_reducible rfl) | omega | (refine decide_eq_true ?_; omega) | exact fun j _ => hq j)); (conv => whnf); exact True.intro))
          conv => whnf
          exact True.intro
      · replace h3 := of_decide_eq_false h3
        have hk4 : kk = 4 := by omega
        subst hk4
        have hNx : chN S (i + 1) = single X (i % 2) 4 := by rw [hX]; rfl
        repeat ((conv => whnf); (with_reducible refine And.intro ?_ ?_); · omega)
        conv => whnf
        refine ⟨i + 1, ⟨by show i + 1 ≤ 20; omega, by show 20 - (i + 1) < 20 - i; omega⟩, le_of [] ?_⟩
        simp only [hNx]
        repeat ((conv => whnf); (with_reducible refine And.intro ?_ ?_); · first | with_reducible rfl | (intro _ _; with_reducible rfl) | (intro h; exact absurd h (by decide)) | (intro _; refine ⟨?_, True.intro⟩; omega) | (simp only [w_i64, w_u64, w_u32, w_u8]; omega) | (intro hgd; (try replace hgd := of_decide_eq_true hgd); (repeat ((conv => whnf); (with_reducible refine And.intro ?_ ?_); · first | (intro _ _; with_reducible rfl) | omega | (refine decide_eq_true ?_; omega))); (conv => whnf); exact True.intro))
        conv => whnf
        exact True.intro
    · replace h2 := of_decide_eq_false h2
      have hi20 : i = 20 := by omega
      subst hi20
      obtain ⟨T, hT⟩ : ∃ T, T = chN S 20 := ⟨_, rfl⟩
      have hTl : T.length = 16 := by rw [hT, chN_length, hSl]
      obtain ⟨A, hA⟩ : ∃ A, A = addv T S := ⟨_, rfl⟩
      have hAl : A.length = 16 := by rw [hA, addv, List.length_zipWith, hTl, hSl]; rfl
      obtain ⟨D, hD⟩ : ∃ D, D = leW A := ⟨_, rfl⟩
      have hDl : D.length = 64 := by rw [hD, leW_length, hAl]
      rw [← hT, ← hA, ← hD]
      repeat ((conv => whnf); (with_reducible refine And.intro ?_ ?_); · omega)
      conv => whnf
      refine ⟨0, Nat, fun i => ⟨137, [(6, .sa (.sc (.ptr 2 0 0))), (7, .sa (.sc (ownA false 16 3))), (9, .sa (.sc (ownA false 16 4))), (17, .sa (.sc (.ptr 5 0 0))), (18, .sa (.sc (.int .i64 i)))],
        [(2, .own 63 [.ints .u8 (fun _ => 0) 64] false), (3, ownB 57 .u32 (UL S) 16), (4, ownB 57 .u32 (UL T) 16), (5, .own 63 [.ints .u8 (preF D (4 * i)) 64] false)], 6⟩, fun i => i ≤ 16, fun i => 16 - i, ⟨0, by omega, le_of [] ?_⟩, fun i hi => ?_⟩
      · repeat ((conv => whnf); (with_reducible refine And.intro ?_ ?_); · first | exact fun j _ => if_neg (by omega) | with_reducible rfl | (intro _ _; with_reducible rfl) | (intro h; exact absurd h (by decide)) | omega | (intro _; refine ⟨?_, True.intro⟩; omega) | (intro hgd; (try replace hgd := of_decide_eq_true hgd); (repeat ((conv => whnf); (with_reducible refine And.intro ?_ ?_); · first | (intro _ _; with_reducible rfl) | omega | (refine decide_eq_true ?_; omega))); (conv => whnf); exact True.intro))
        conv => whnf
        exact True.intro
      have hi : i ≤ 16 := hi
      repeat ((conv => whnf); (with_reducible refine And.intro ?_ ?_); · omega)
      conv => whnf
      refine ⟨fun h3 => ?_, fun h3 => ?_⟩
      · replace h3 := of_decide_eq_true h3
        have hi16 : i < 16 := by omega
        have hx := addv_get hTl hSl hi16
        rw [← hA] at hx
        repeat ((conv => whnf); (with_reducible refine And.intro ?_ ?_); · omega)
        conv => whnf
        refine ⟨[(0, ⟨0, some 112, []⟩), (1, ⟨0, some 113, []⟩), (2, ⟨3, some 114, []⟩), (3, ⟨7, some 115, []⟩), (4, ⟨0, some 116, []⟩), (5, ⟨0, some 117, []⟩), (6, ⟨48, some 118, []⟩), (7, ⟨112, some 119, []⟩), (8, ⟨255, some 120, []⟩), (9, ⟨511, some 19, []⟩)], 166, ?_⟩
        repeat ((conv => whnf); (with_reducible refine And.intro ?_ ?_); · first | omega | (refine decide_eq_true ?_; omega))
        conv => whnf
        simp only [Int.toNat_natCast, Nat.zero_add, hx]
        refine ⟨0, Nat, fun kk => ⟨137, [(6, .sa (.sc (.ptr 2 0 0))), (7, .sa (.sc (ownA false 16 3))), (9, .sa (.sc (ownA false 16 4))), (17, .sa (.sc (.ptr 5 0 0))), (18, .sa (.sc (.int .i64 i))), (19, .sa (.sc (.int .u32 (U (A.getD i 0))))), (20, .sa (.sc (.int .i64 kk)))],
          [(2, .own 63 [.ints .u8 (fun _ => 0) 64] false), (3, ownB 57 .u32 (UL S) 16), (4, ownB 57 .u32 (UL T) 16), (5, .own 63 [.ints .u8 (preF D (4 * i + kk)) 64] false)], 6⟩, fun kk => kk ≤ 4, fun kk => 4 - kk, ⟨0, by omega, le_of [] ?_⟩, fun kk hkk => ?_⟩
        · simp only [Nat.add_zero]
          repeat ((conv => whnf); (with_reducible refine And.intro ?_ ?_); · first | with_reducible rfl | (intro _ _; with_reducible rfl) | (intro h; exact absurd h (by decide)) | omega | (intro _; refine ⟨?_, True.intro⟩; omega) | (intro hgd; (try replace hgd := of_decide_eq_true hgd); (repeat ((conv => whnf); (with_reducible refine And.intro ?_ ?_); · first | (intro _ _; with_reducible rfl) | omega | (refine decide_eq_true ?_; omega))); (conv => whnf); exact True.intro))
          conv => whnf
          exact True.intro
        have hkk : kk ≤ 4 := hkk
        repeat ((conv => whnf); (with_reducible refine And.intro ?_ ?_); · omega)
        conv => whnf
        refine ⟨fun h4 => ?_, fun h4 => ?_⟩
        · replace h4 := of_decide_eq_true h4
          have hk4 : kk < 4 := by omega
          have w0 : IntKind.i64.wrap (4 * (i : Int)) = ((4 * i : Nat) : Int) := by rw [w_i64]; omega
          have w1 : IntKind.i64.wrap (((4 * i : Nat) : Int) + (kk : Int)) = ((4 * i + kk : Nat) : Int) := by rw [w_i64]; omega
          have w2 : IntKind.i64.wrap (8 * (kk : Int)) = ((8 * kk : Nat) : Int) := by rw [w_i64]; omega
          have w3 : IntKind.u64.wrap ((8 * kk : Nat) : Int) = ((8 * kk : Nat) : Int) := by rw [w_u64]; omega
          have hv : IntKind.u8.wrap (U (A.getD i 0) / 2 ^ min (8 * kk) IntKind.u32.bits) = UL D (4 * i + kk) := by
            rw [UL_getD, hD, leW_get A i kk (by omega) hk4, show min (8 * kk) IntKind.u32.bits = 8 * kk from Nat.min_eq_left (by show _ ≤ 32; omega), shr32, byte32]
            rcases four hk4 with rfl | rfl | rfl | rfl
            · show U _ = U _
              congr 1
            · rfl
            · rfl
            · rfl
          repeat ((conv => whnf); (with_reducible refine And.intro ?_ ?_); · (simp only [w0, w1, w2, w3, Int.toNat_natCast]; omega))
          conv => whnf
          refine ⟨kk + 1, ⟨by show kk + 1 ≤ 4; omega, by show 4 - (kk + 1) < 4 - kk; omega⟩, le_of [] ?_⟩
          have hst := preF_step (D := D) (i := 4 * i + kk) hv
          simp only [w0, w1, w2, w3, Int.toNat_natCast, ← Nat.add_assoc]
          repeat ((conv => whnf); (with_reducible refine And.intro ?_ ?_); · first | exact fun j _ => hst j | with_reducible rfl | (intro _ _; with_reducible rfl) | (intro h; exact absurd h (by decide)) | (intro _; refine ⟨?_, True.intro⟩; omega) | (simp only [w_i64, w_u64, w_u32, w_u8]; omega) | (intro hgd; (try replace hgd := of_decide_eq_true hgd); (repeat ((conv => whnf); (with_reducible refine And.intro ?_ ?_); · first | (intro _ _; with_reducible rfl) | omega | (refine decide_eq_true ?_; omega))); (conv => whnf); exact True.intro))
          conv => whnf
          exact True.intro
        · replace h4 := of_decide_eq_false h4
          have hk4 : kk = 4 := by omega
          subst hk4
          repeat ((conv => whnf); (with_reducible refine And.intro ?_ ?_); · omega)
          conv => whnf
          refine ⟨i + 1, ⟨by show i + 1 ≤ 16; omega, by show 16 - (i + 1) < 16 - i; omega⟩, le_of [] ?_⟩
          simp only [show 4 * (i + 1) = 4 * i + 4 by omega]
          repeat ((conv => whnf); (with_reducible refine And.intro ?_ ?_); · first | with_reducible rfl | (intro _ _; with_reducible rfl) | (intro h; exact absurd h (by decide)) | (intro _; refine ⟨?_, True.intro⟩; omega) | (simp only [w_i64, w_u64, w_u32, w_u8]; omega) | (intro hgd; (try replace hgd := of_decide_eq_true hgd); (repeat ((conv => whnf); (with_reducible refine And.intro ?_ ?_); · first | (intro _ _; with_reducible rfl) | omega | (refine decide_eq_true ?_; omega))); (conv => whnf); exact True.intro))
          conv => whnf
          exact True.intro
      · replace h3 := of_decide_eq_false h3
        have hi16 : i = 16 := by omega
        subst hi16
        repeat ((conv => whnf); (with_reducible refine And.intro ?_ ?_); · omega)
        conv => whnf
        refine ⟨[], ?_⟩
        repeat ((conv => whnf); (with_reducible refine And.intro ?_ ?_); · first | (intro j hj; unfold preF; rw [if_pos (by omega)]) | with_reducible rfl)
        conv => whnf
        exact True.intro
end Go.Proofs.Ytogijkmflhjhkaa
