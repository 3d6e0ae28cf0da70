/- The symbolic evaluator: what its values and blocks say of the model's own. Definitions and lemmas on memory; no condition. -/
import Derived.Test.YtogijkmflhjhkaaSxA
namespace Go.Sx
open Go.RowKit
set_option linter.unusedSimpArgs false
set_option linter.unusedVariables false

/-- Where a tag lies: its block, its first cell, the block's cells. -/
structure Pl where
  b : Nat
  f : Nat
  n : Nat
/-- Where the tags lie; the cells that nobody writes; the values that are handed on. -/
structure Rho where
  pl : Nat → Option Pl
  im : Addr → Option Value
  oq : Nat → Value
instance : CoeFun Rho (fun _ => Nat → Option Pl) := ⟨Rho.pl⟩

def RelRow (ρ : Rho) (k : IntKind) (r : Row) (v : Value) : Prop :=
  (r.nl = true ∧ v = .slice none 0 0 ∧ r.n = 0) ∨
  (r.nl = false ∧ ∃ A cap, v = .slice (some A) r.n cap ∧ r.n ≤ cap ∧ cap ≤ maxLen ∧ ∀ j, j < r.n → ρ.im (A.add j) = some (.int k (r.f j)))
def Rel1 (ρ : Rho) : SC → Value → Prop
  | .any, v => v.oneCell' = true
  | .int k n, v => v = .int k n
  | .bool b, v => v = .bool b
  | .str s, v => v = .string s
  | .nilp, v => v = .pointer none
  | .ptr t o i, v => ∃ pl, ρ t = some pl ∧ v = .pointer (some ⟨pl.b, pl.f + (o + i), none⟩)
  | .sl nl ex z t o i n c, v =>
    (nl = true ∧ v = .slice none 0 0 ∧ n = 0 ∧ c = 0) ∨
    (nl = false ∧ ∃ A cap, v = .slice (some A) n cap ∧ n ≤ c ∧ c ≤ cap ∧ cap ≤ maxLen ∧
      ((0 < n ∨ ex = true) → ∃ pl, ρ t = some pl ∧ A = ⟨pl.b, pl.f + (o + i), none⟩ ∧ pl.f + (o + i) + cap = pl.n) ∧ (z = true → n = 0 → cap = 0))
  | .im nl k f n, v => RelRow ρ k ⟨nl, f, n⟩ v
  | .rows nl k r n, v =>
    (nl = true ∧ v = .slice none 0 0 ∧ n = 0) ∨
    (nl = false ∧ ∃ A cap, v = .slice (some A) n cap ∧ n ≤ cap ∧ cap ≤ maxLen ∧ ∀ j, j < n → ∃ u, ρ.im (A.add j) = some u ∧ RelRow ρ k (r j) u)
  | .adr c, v => ∃ A u, v = .pointer (some A) ∧ ρ.im A = some u ∧ Rel1 ρ c u
  | .opq i, v => v = ρ.oq i ∧ v.oneCell' = true
  | .fn f t, v => ∃ pl, ρ t = some pl ∧ v = .func (.func f) #[] #[.pointer (some ⟨pl.b, pl.f, none⟩)]

def intsV (k : IntKind) (f : Nat → Int) (n : Nat) : List Value := (List.range n).map fun j => .int k (f j)
def RelS (ρ : Rho) : List Seg → List Value → Prop
  | [], vs => vs = []
  | .one c :: r, vs => ∃ v vs', vs = v :: vs' ∧ Rel1 ρ c v ∧ RelS ρ r vs'
  | .ints k f n :: r, vs => ∃ vs', vs = intsV k f n ++ vs' ∧ RelS ρ r vs'
  | .rows k g n :: r, vs => ∃ us vs', vs = us ++ vs' ∧ us.length = n ∧ (∀ j u, us[j]? = some u → RelRow ρ k (g j) u) ∧ RelS ρ r vs'
def RelA (ρ : Rho) : SA → Value → Prop
  | .sc c, v => Rel1 ρ c v
  | .agg l, v => ∃ vs, v = .agg vs.toArray ∧ RelS ρ l vs
def RelL (ρ : Rho) : List SA → List Value → Prop
  | [], vs => vs = []
  | a :: r, vs => ∃ v vs', vs = v :: vs' ∧ RelA ρ a v ∧ RelL ρ r vs'
def RelV (ρ : Rho) : SV → Value → Prop
  | .sa a, v => RelA ρ a v
  | .tup l, v => ∃ vs, v = .tuple vs.toArray ∧ RelL ρ l vs
  | .gd g a, v => (g = true → RelA ρ a v) ∧ (g = false → v = undef)

def Sat (ρ : Rho) (w : World) : SB → Nat → Prop
  | .own ty l more, t => ∃ pl vs post, ρ t = some pl ∧ pl.f = 0 ∧ w.heap[pl.b]? = some (.cells (vs ++ post).toArray ty (0, 0)) ∧ (vs ++ post).length = pl.n ∧ RelS ρ l vs ∧ (more = false → post = [])
  | .ro k f n, t => ∃ pl, ρ t = some pl ∧ ∀ j, j < n → w.cell? ⟨pl.b, pl.f + j, none⟩ = some (.int k (f j))
  | .dead, _ => True
  | .gd g b, t => g = true → Sat ρ w b t

structure Ext (ρ ρ' : Rho) : Prop where
  tag : ∀ t pl, ρ t = some pl → ρ' t = some pl
  im : ρ'.im = ρ.im
  oq : ρ'.oq = ρ.oq
instance {ρ ρ' : Rho} : CoeFun (Ext ρ ρ') (fun _ => ∀ t pl, ρ t = some pl → ρ' t = some pl) := ⟨Ext.tag⟩
theorem Ext.refl (ρ : Rho) : Ext ρ ρ := ⟨fun _ _ h => h, rfl, rfl⟩
theorem Ext.trans {a b c : Rho} (h : Ext a b) (k : Ext b c) : Ext a c := ⟨fun t pl e => k t pl (h t pl e), k.im.trans h.im, k.oq.trans h.oq⟩

section
variable {ρ ρ' : Rho}
theorem RelRow.ext (h : Ext ρ ρ') {k : IntKind} {r : Row} {v : Value} (hr : RelRow ρ k r v) : RelRow ρ' k r v := by
  unfold RelRow at hr ⊢
  rw [h.im]; exact hr
theorem Rel1.ext (h : Ext ρ ρ') : ∀ {c : SC} {v : Value}, Rel1 ρ c v → Rel1 ρ' c v
  | .any, _, r => r
  | .int _ _, _, r => r
  | .bool _, _, r => r
  | .str _, _, r => r
  | .nilp, _, r => r
  | .ptr _ _ _, _, ⟨pl, e, r⟩ => ⟨pl, h _ _ e, r⟩
  | .sl _ _ _ _ _ _ _ _, _, r => r.imp id fun ⟨a, A, cap, b, c, d, e, f, z⟩ => ⟨a, A, cap, b, c, d, e, fun g => let ⟨pl, x, y⟩ := f g; ⟨pl, h _ _ x, y⟩, z⟩
  | .im _ _ _ _, _, r => RelRow.ext h r
  | .rows _ _ _ _, _, r => r.imp id fun ⟨a, A, cap, b, c, d, e⟩ => ⟨a, A, cap, b, c, d, fun j hj => let ⟨u, x, y⟩ := e j hj; ⟨u, by rw [h.im]; exact x, y.ext h⟩⟩
  | .adr c, _, ⟨A, u, a, b, d⟩ => ⟨A, u, a, by rw [h.im]; exact b, Rel1.ext h (c := c) d⟩
  | .opq _, _, r => by simp only [Rel1] at r ⊢; rw [h.oq]; exact r
  | .fn _ _, _, ⟨pl, e, r⟩ => ⟨pl, h _ _ e, r⟩
theorem RelS.ext (h : Ext ρ ρ') : ∀ {l : List Seg} {vs : List Value}, RelS ρ l vs → RelS ρ' l vs
  | [], _, r => r
  | .one _ :: _, _, ⟨v, vs', a, b, c⟩ => ⟨v, vs', a, b.ext h, c.ext h⟩
  | .ints _ _ _ :: _, _, ⟨vs', a, b⟩ => ⟨vs', a, b.ext h⟩
  | .rows _ _ _ :: _, _, ⟨us, vs', a, b, c, d⟩ => ⟨us, vs', a, b, fun j u hj => (c j u hj).ext h, d.ext h⟩
theorem RelA.ext (h : Ext ρ ρ') : ∀ {a : SA} {v : Value}, RelA ρ a v → RelA ρ' a v
  | .sc _, _, r => Rel1.ext h r
  | .agg _, _, ⟨vs, a, b⟩ => ⟨vs, a, b.ext h⟩
theorem RelL.ext (h : Ext ρ ρ') : ∀ {l : List SA} {vs : List Value}, RelL ρ l vs → RelL ρ' l vs
  | [], _, r => r
  | _ :: _, _, ⟨v, vs', a, b, c⟩ => ⟨v, vs', a, b.ext h, c.ext h⟩
theorem RelV.ext (h : Ext ρ ρ') : ∀ {a : SV} {v : Value}, RelV ρ a v → RelV ρ' a v
  | .sa _, _, r => RelA.ext h r
  | .tup _, _, ⟨vs, a, b⟩ => ⟨vs, a, b.ext h⟩
  | .gd _ _, _, r => ⟨fun g => RelA.ext h (r.1 g), r.2⟩

theorem RelRow.one {k : IntKind} {r : Row} {v : Value} (h : RelRow ρ k r v) : v.oneCell' = true := by
  rcases h with ⟨_, rfl, _⟩ | ⟨_, _, _, rfl, _⟩ <;> rfl
theorem Rel1.one {c : SC} {v : Value} (r : Rel1 ρ c v) (hf : ∀ f t, c ≠ .fn f t) : v.oneCell' = true := by
  cases c <;> simp only [Rel1] at r
  case any => exact r
  case ptr => obtain ⟨_, _, rfl⟩ := r; rfl
  case sl => rcases r with ⟨_, rfl, _⟩ | ⟨_, _, _, rfl, _⟩ <;> rfl
  case im => exact r.one
  case rows => rcases r with ⟨_, rfl, _⟩ | ⟨_, _, _, rfl, _⟩ <;> rfl
  case adr => obtain ⟨_, _, rfl, _⟩ := r; rfl
  case opq => exact r.2
  case fn f t => exact absurd rfl (hf f t)
  all_goals (subst r; rfl)

theorem relS_append : ∀ {l l' : List Seg} {vs : List Value}, RelS ρ (l ++ l') vs ↔ ∃ a b, vs = a ++ b ∧ RelS ρ l a ∧ RelS ρ l' b
  | [], l', vs => ⟨fun h => ⟨[], vs, rfl, rfl, h⟩, fun ⟨a, b, e, ha, hb⟩ => by simp only [RelS] at ha; subst ha; simp at e; subst e; exact hb⟩
  | .one c :: r, l', vs => by
    simp only [List.cons_append, RelS]
    constructor
    · rintro ⟨v, vs', rfl, h1, h2⟩
      obtain ⟨a, b, rfl, ha, hb⟩ := relS_append.1 h2
      exact ⟨v :: a, b, rfl, ⟨v, a, rfl, h1, ha⟩, hb⟩
    · rintro ⟨a, b, rfl, ⟨v, a', rfl, h1, ha⟩, hb⟩
      exact ⟨v, a' ++ b, rfl, h1, relS_append.2 ⟨a', b, rfl, ha, hb⟩⟩
  | .ints k f n :: r, l', vs => by
    simp only [List.cons_append, RelS]
    constructor
    · rintro ⟨vs', rfl, h2⟩
      obtain ⟨a, b, rfl, ha, hb⟩ := relS_append.1 h2
      exact ⟨intsV k f n ++ a, b, by simp, ⟨a, rfl, ha⟩, hb⟩
    · rintro ⟨a, b, rfl, ⟨a', rfl, ha⟩, hb⟩
      exact ⟨a' ++ b, by simp, relS_append.2 ⟨a', b, rfl, ha, hb⟩⟩
  | .rows k f n :: r, l', vs => by
    simp only [List.cons_append, RelS]
    constructor
    · rintro ⟨us, vs', rfl, h0, h1, h2⟩
      obtain ⟨a, b, rfl, ha, hb⟩ := relS_append.1 h2
      exact ⟨us ++ a, b, by simp, ⟨us, a, rfl, h0, h1, ha⟩, hb⟩
    · rintro ⟨a, b, rfl, ⟨us, a', rfl, h0, h1, ha⟩, hb⟩
      exact ⟨us, a' ++ b, by simp, h0, h1, relS_append.2 ⟨a', b, rfl, ha, hb⟩⟩
theorem intsV_length (k : IntKind) (f : Nat → Int) (n : Nat) : (intsV k f n).length = n := by simp [intsV]
theorem intsV_get (k : IntKind) (f : Nat → Int) (n j : Nat) (h : j < n) : (intsV k f n)[j]? = some (.int k (f j)) := by simp [intsV, h]
theorem relS_len : ∀ {l : List Seg} {vs : List Value}, RelS ρ l vs → vs.length = segsLen l
  | [], _, h => by simp only [RelS] at h; subst h; rfl
  | .one c :: r, _, ⟨v, vs', e, _, h⟩ => by subst e; have := relS_len h; simp only [List.length_cons, segsLen, Seg.len]; omega
  | .ints k f n :: r, _, ⟨vs', e, h⟩ => by subst e; have := relS_len h; simp only [List.length_append, intsV_length, segsLen, Seg.len]; omega
  | .rows k f n :: r, _, ⟨us, vs', e, hl, _, h⟩ => by subst e; have := relS_len h; simp only [List.length_append, hl, segsLen, Seg.len]; omega
end

theorem segsLen_append (a b : List Seg) : segsLen (a ++ b) = segsLen a + segsLen b := by
  induction a with
  | nil => simp [segsLen]
  | cons g r ih => simp only [List.cons_append, segsLen, ih]; omega
theorem segDrop_spec : ∀ {l : List Seg} {o : Nat} {r : List Seg}, segDrop l o = some r → ∃ a, l = a ++ r ∧ segsLen a = o
  | [], o, r, h => by
    simp only [segDrop] at h
    split at h
    · rename_i e; simp only [Nat.beq_eq] at e; subst e; injection h with h; subst h; exact ⟨[], rfl, rfl⟩
    · cases h
  | g :: l, o, r, h => by
    simp only [segDrop] at h
    split at h
    · rename_i e; simp only [Nat.beq_eq] at e; subst e; injection h with h; subst h; exact ⟨[], rfl, rfl⟩
    · split at h
      · rename_i e
        have := Nat.le_of_ble_eq_true e
        obtain ⟨a, rfl, ha⟩ := segDrop_spec h
        exact ⟨g :: a, rfl, by simp only [segsLen]; omega⟩
      · cases h
theorem segTake_spec : ∀ {l : List Seg} {o : Nat} {r : List Seg}, segTake l o = some r → ∃ b, l = r ++ b ∧ segsLen r = o
  | [], o, r, h => by
    simp only [segTake] at h
    split at h
    · rename_i e; simp only [Nat.beq_eq] at e; subst e; injection h with h; subst h; exact ⟨[], rfl, rfl⟩
    · cases h
  | g :: l, o, r, h => by
    simp only [segTake] at h
    split at h
    · rename_i e; simp only [Nat.beq_eq] at e; subst e; injection h with h; subst h; exact ⟨g :: l, rfl, rfl⟩
    · split at h
      · rename_i e
        have := Nat.le_of_ble_eq_true e
        split at h
        · rename_i r' h'
          injection h with h
          subst h
          obtain ⟨b, rfl, hb⟩ := segTake_spec h'
          exact ⟨b, rfl, by simp only [segsLen]; omega⟩
        · cases h
      · cases h
/-- Two parts of one list of stretches that are of one length are one. -/
theorem app_inj {a b c d : List Seg} (h : a ++ b = c ++ d) (hl : a.length = c.length) : a = c ∧ b = d := List.append_inj h hl

/-- A splice: what stood, part by part. -/
theorem segSplice_spec {ρ : Rho} {l new l' : List Seg} {o m : Nat} (h : segSplice l o m new = some l') {vs : List Value} (hv : RelS ρ l vs) :
    ∃ a x b, vs = a ++ (x ++ b) ∧ a.length = o ∧ x.length = m ∧ ∀ y, RelS ρ new y → RelS ρ l' (a ++ (y ++ b)) := by
  unfold segSplice at h
  split at h
  · rename_i la lb h1 h2
    split at h
    rotate_left
    · cases h
    rename_i lc h3
    simp only [catK_eq] at h
    injection h with h
    subst h
    obtain ⟨b1, e1, n1⟩ := segTake_spec h1
    obtain ⟨a2, e2, n2⟩ := segDrop_spec h2
    obtain ⟨a3, e3, n3⟩ := segDrop_spec h3
    have hv1 := hv
    rw [e1] at hv1
    obtain ⟨va, vb, rfl, ra, rb⟩ := relS_append.1 hv1
    rw [e2, e3] at hv
    obtain ⟨va2, vb2, e4, ra2, rb2⟩ := relS_append.1 hv
    obtain ⟨vx, vc, rfl, rx, rc⟩ := relS_append.1 rb2
    have hla : va.length = o := (relS_len ra).trans n1
    have hla2 : va2.length = o := (relS_len ra2).trans n2
    obtain ⟨rfl, rfl⟩ := List.append_inj e4 (hla.trans hla2.symm)
    exact ⟨va, vx, vc, rfl, hla, (relS_len rx).trans n3, fun y hy => relS_append.2 ⟨va, y ++ vc, rfl, ra, relS_append.2 ⟨y, vc, rfl, hy, rc⟩⟩⟩
  · cases h

section
variable {ρ ρ' : Rho} {w w' : World}
theorem Sat.ext (h : Ext ρ ρ') : ∀ {b : SB} {t : Nat}, Sat ρ w b t → Sat ρ' w b t
  | .own _ _ _, _, ⟨pl, vs, post, a, b, c, d, e, f⟩ => ⟨pl, vs, post, h _ _ a, b, c, d, e.ext h, f⟩
  | .ro _ _ _, _, ⟨pl, a, b⟩ => ⟨pl, h _ _ a, b⟩
  | .dead, _, _ => trivial
  | .gd _ _, _, r => fun g => Sat.ext h (r g)
/-- What stands in a block that has not turned. -/
theorem Sat.keep : ∀ {b : SB} {t : Nat}, (∀ pl, ρ t = some pl → w'.heap[pl.b]? = w.heap[pl.b]?) → Sat ρ w b t → Sat ρ w' b t
  | .own _ _ _, _, k, ⟨pl, vs, post, a, b, c, d, e, f⟩ => ⟨pl, vs, post, a, b, (k pl a).trans c, d, e, f⟩
  | .ro _ _ _, _, k, ⟨pl, a, b⟩ => ⟨pl, a, fun j hj => (World.cell?_of_block (a := ⟨pl.b, pl.f + j, none⟩) (k pl a)).trans (b j hj)⟩
  | .dead, _, _, _ => trivial
  | .gd _ _, _, k, r => fun g => Sat.keep k (r g)
end

theorem block_lt {w : World} {A : Addr} {v : Value} (h : w.cell? A = some v) : A.block < w.heap.size := by
  unfold World.cell? at h
  cases hq : w.heap[A.block]? with
  | none => rw [hq] at h; cases h
  | some o => exact (Array.getElem?_eq_some_iff.1 hq).1

/-- What a call may turn: the world behind it. -/
structure Chg (W : Nat → Prop) (w w' : World) : Prop where
  os : w'.os = w.os
  tape : w'.tape = w.tape
  output : w'.output = w.output
  size : w.heap.size ≤ w'.heap.size
  block : ∀ i, i < w.heap.size → ¬ W i → w'.heap[i]? = w.heap[i]?
theorem Chg.refl (W : Nat → Prop) (w : World) : Chg W w w := ⟨rfl, rfl, rfl, Nat.le_refl _, fun _ _ _ => rfl⟩
theorem Chg.trans {W : Nat → Prop} {a b c : World} (h : Chg W a b) (k : Chg W b c) : Chg W a c :=
  ⟨k.os.trans h.os, k.tape.trans h.tape, k.output.trans h.output, Nat.le_trans h.size k.size, fun i hi hn => (k.block i (Nat.lt_of_lt_of_le hi h.size) hn).trans (h.block i hi hn)⟩
theorem Chg.trans' {W : Nat → Prop} {a b c : World} (h : Chg W a b) (k : c.os = b.os ∧ c.tape = b.tape ∧ c.output = b.output ∧ b.heap.size ≤ c.heap.size) (kb : ∀ i, i < a.heap.size → ¬ W i → c.heap[i]? = b.heap[i]?) : Chg W a c :=
  ⟨k.1.trans h.os, k.2.1.trans h.tape, k.2.2.1.trans h.output, Nat.le_trans h.size k.2.2.2, fun i hi hn => (kb i hi hn).trans (h.block i hi hn)⟩
theorem Chg.mono {W W' : Nat → Prop} {a b : World} (h : Chg W a b) (hW : ∀ i, i < a.heap.size → W i → W' i) : Chg W' a b :=
  ⟨h.os, h.tape, h.output, h.size, fun i hi hn => h.block i hi (fun x => hn (hW i hi x))⟩

def SB.isOwn : SB → Bool
  | .own _ _ _ => true
  | .gd _ b => b.isOwn
  | _ => false
def SB.live : SB → Bool
  | .dead => false
  | .gd _ b => b.live
  | _ => true
theorem SB.live_of_own : ∀ {b : SB}, b.isOwn = true → b.live = true
  | .own _ _ _, _ => rfl
  | .gd _ b, h => SB.live_of_own (b := b) h

/-- What is fixed while a function runs: the caller's blocks that it may write; where its first tags lie. -/
structure Env where
  wr : Nat → Prop
  base : Rho
  lim : Nat

/-- The state of the evaluator speaks of the frame and the world; F: the tags in use. -/
structure R (W : Env) (w0 : World) (F : Nat → Prop) (ρ : Rho) (s : St) (a : Act) (w : World) : Prop where
  size : a.tmps.size = s.size
  defers : a.defers = []
  frame : ∀ i v, getA s.frame i = some v → RelV ρ v (a.tmps.getD i undef)
  heap : ∀ t b, getA s.heap t = some b → Sat ρ w b t
  dom : ∀ t pl, ρ t = some pl → F t ∧ pl.b < w.heap.size
  inj : ∀ t t' b b', t ≠ t' → getA s.heap t = some b → getA s.heap t' = some b' → b.isOwn = true → b'.live = true → ∀ pl pl', ρ t = some pl → ρ t' = some pl' → pl.b ≠ pl'.b
  mine : ∀ t b pl, getA s.heap t = some b → b.isOwn = true → ρ t = some pl → w0.heap.size ≤ pl.b ∨ W.wr pl.b
  tags : ∀ t b, getA s.heap t = some b → F t
  chg : Chg W.wr w0 w
  free : ∀ t, s.next ≤ t → t < s.next + 16 → ¬ F t
  base : ∀ t, t < W.lim → F t ∧ ρ t = W.base t
  imm : ∀ A v, ρ.im A = some v → w.cell? A = some v
  isep : ∀ t b pl, getA s.heap t = some b → b.isOwn = true → ρ t = some pl → ∀ A : Addr, A.block = pl.b → ρ.im A = none
  same : ρ.im = W.base.im ∧ ρ.oq = W.base.oq

/-- What an operation does to memory: the blocks d; its new tags lie from next to next'. -/
structure Eff (ρ ρ' : Rho) (hp : List (Nat × SB)) (next : Nat) (d : List (Nat × SB)) (next' : Nat) (w w' : World) : Prop where
  ext : Ext ρ ρ'
  le : next ≤ next'
  top : next' ≤ next + 16
  size : w.heap.size ≤ w'.heap.size
  os : w'.os = w.os
  tape : w'.tape = w.tape
  output : w'.output = w.output
  /-- a new tag's block is new, or that of an own block that died -/
  new : ∀ t pl, ρ' t = some pl → ρ t = some pl ∨ (next ≤ t ∧ t < next' ∧ pl.b < w'.heap.size ∧ (∀ b, getA d t = some b → b.live = true → w.heap.size ≤ pl.b ∨ ∃ t0 b0 pl0, getA d t0 = some .dead ∧ getA hp t0 = some b0 ∧ b0.isOwn = true ∧ ρ t0 = some pl0 ∧ pl0.b = pl.b))
  sat : ∀ t b, getA d t = some b → Sat ρ' w' b t
  /-- an old tag is written if it was own -/
  old : ∀ t b, getA d t = some b → (next ≤ t ∧ t < next') ∨ ∃ b0, getA hp t = some b0 ∧ b0.isOwn = true
  /-- what has not been written stands -/
  block : ∀ i, i < w.heap.size → (∀ t b pl, getA d t = some b → ρ t = some pl → pl.b ≠ i) → w'.heap[i]? = w.heap[i]?
  inj : ∀ t t' b b', t ≠ t' → next ≤ t → t < next' → next ≤ t' → t' < next' → getA d t = some b → getA d t' = some b' → b.isOwn = true → b'.live = true → ∀ pl pl', ρ' t = some pl → ρ' t' = some pl' → pl.b ≠ pl'.b

theorem getA_append {α : Type} : ∀ (d h : List (Nat × α)) (t : Nat), getA (d ++ h) t = match getA d t with | some b => some b | none => getA h t
  | [], h, t => rfl
  | (j, v) :: r, h, t => by
    simp only [List.cons_append, getA]
    split
    · rfl
    · exact getA_append r h t

theorem Sat.of_dead {ρ : Rho} {w : World} : ∀ {b : SB} {t : Nat}, b.live = false → Sat ρ w b t
  | .dead, _, _ => trivial
  | .gd _ b, t, h => fun _ => Sat.of_dead (b := b) h
  | .own _ _ _, _, h => by cases h
  | .ro _ _ _, _, h => by cases h

/-- The tags in use behind an operation. -/
def used (F : Nat → Prop) (next next' : Nat) (t : Nat) : Prop := F t ∨ (next ≤ t ∧ t < next')

theorem R.eff {W : Env} {w0 w w' : World} {F : Nat → Prop} {ρ ρ' : Rho} {s : St} {a : Act} {d : List (Nat × SB)} {n next' next'' : Nat} (h : R W w0 F ρ s a w) (e : Eff ρ ρ' s.heap n d next' w w')
    (hn : ∀ t, n ≤ t → t < n + 16 → ¬ F t) (hfree : ∀ t, next'' ≤ t → t < next'' + 16 → ¬ used F n next' t) :
    R W w0 (used F n next') ρ' { s with heap := d ++ s.heap, next := next'' } a w' := by
  have notNew : ∀ t, F t → ¬ (n ≤ t ∧ t < next') := fun t hF ⟨h1, h2⟩ => hn t h1 (Nat.lt_of_lt_of_le h2 e.top) hF
  -- of an old tag in d ++ heap: it was own, it was live, before
  have wasOwn : ∀ t b, getA (d ++ s.heap) t = some b → F t → b.isOwn = true → ∃ b0, getA s.heap t = some b0 ∧ b0.isOwn = true := by
    intro t b hb ht ho
    rw [getA_append] at hb
    cases hd : getA d t with
    | none => rw [hd] at hb; exact ⟨b, hb, ho⟩
    | some b1 => exact (e.old t b1 hd).resolve_left (notNew t ht)
  have wasLive : ∀ t b, getA (d ++ s.heap) t = some b → F t → b.live = true → ∃ b0, getA s.heap t = some b0 ∧ b0.live = true := by
    intro t b hb ht ho
    rw [getA_append] at hb
    cases hd : getA d t with
    | none => rw [hd] at hb; exact ⟨b, hb, ho⟩
    | some b1 => obtain ⟨b0, h0, h1⟩ := (e.old t b1 hd).resolve_left (notNew t ht); exact ⟨b0, h0, SB.live_of_own h1⟩
  have oldPl : ∀ t pl, ρ' t = some pl → F t → ρ t = some pl := by
    intro t pl hp ht
    rcases e.new t pl hp with h1 | ⟨h1, h2, _⟩
    · exact h1
    · exact absurd ⟨h1, h2⟩ (notNew t ht)
  have isUsed : ∀ t b, getA (d ++ s.heap) t = some b → F t ∨ (¬ F t ∧ n ≤ t ∧ t < next' ∧ getA d t = some b) := by
    intro t b hb
    rw [getA_append] at hb
    cases hd : getA d t with
    | none => rw [hd] at hb; exact .inl (h.tags t b hb)
    | some b1 =>
      rw [hd] at hb
      injection hb with hb
      subst hb
      rcases e.old t b1 hd with h1 | ⟨b0, h0, _⟩
      · exact .inr ⟨fun hF => notNew t hF h1, h1.1, h1.2, rfl⟩
      · exact .inl (h.tags t b0 h0)
  have newPl : ∀ t pl, ρ' t = some pl → ¬ F t → ∀ b, getA d t = some b → b.live = true → w.heap.size ≤ pl.b ∨ ∃ t0 b0 pl0, getA d t0 = some .dead ∧ getA s.heap t0 = some b0 ∧ b0.isOwn = true ∧ ρ t0 = some pl0 ∧ pl0.b = pl.b := by
    intro t pl hp ht b hb hl
    rcases e.new t pl hp with h1 | ⟨_, _, _, h1⟩
    · exact absurd (h.dom t pl h1).1 ht
    · exact h1 b hb hl
  have notDead : ∀ t b t0, getA (d ++ s.heap) t = some b → b.live = true → getA d t0 = some .dead → t ≠ t0 := by
    rintro t b t0 hb hl h0 rfl
    rw [getA_append, h0] at hb
    injection hb with hb
    subst hb
    cases hl
  refine ⟨h.size, h.defers, fun i v hv => (h.frame i v hv).ext e.ext, ?_, ?_, ?_, ?_, ?_, ?_, hfree, fun t ht => ⟨.inl (h.base t ht).1, ?_⟩, ?_, ?_, ⟨e.ext.im.trans h.same.1, e.ext.oq.trans h.same.2⟩⟩
  · intro t b hb
    have hb' := hb
    rw [getA_append] at hb
    cases hd : getA d t with
    | some b1 => rw [hd] at hb; injection hb with hb; subst hb; exact e.sat t b1 hd
    | none =>
      rw [hd] at hb
      cases hl : b.live with
      | false => exact Sat.of_dead hl
      | true =>
        refine (Sat.keep (fun pl hp => ?_) (h.heap t b hb)).ext e.ext
        refine e.block _ (h.dom t pl hp).2 (fun t1 b1 pl1 h1 hp1 => ?_)
        obtain ⟨b0, h0, ho⟩ := (e.old t1 b1 h1).resolve_left (notNew t1 (h.dom t1 pl1 hp1).1)
        refine h.inj t1 t b0 b ?_ h0 hb ho hl pl1 pl hp1 hp
        rintro rfl
        rw [hd] at h1; cases h1
  · intro t pl hp
    rcases e.new t pl hp with h1 | ⟨h0, h1, h2, _⟩
    · have := h.dom t pl h1
      exact ⟨.inl this.1, Nat.lt_of_lt_of_le this.2 e.size⟩
    · exact ⟨.inr ⟨h0, h1⟩, h2⟩
  · intro t t' b b' hne hb hb' ho hl pl pl' hp hp'
    rcases isUsed t b hb with ht | ⟨ht, r1, r2, r3⟩ <;> rcases isUsed t' b' hb' with ht' | ⟨ht', r1', r2', r3'⟩
    · obtain ⟨b0, h0, ho0⟩ := wasOwn t b hb ht ho
      obtain ⟨b0', h0', hl0⟩ := wasLive t' b' hb' ht' hl
      exact h.inj t t' b0 b0' hne h0 h0' ho0 hl0 pl pl' (oldPl t pl hp ht) (oldPl t' pl' hp' ht')
    · have hp0 := oldPl t pl hp ht
      rcases newPl t' pl' hp' ht' b' r3' hl with h1 | ⟨t0, b0, pl0, h1, h2, h3, h4, h5⟩
      · have := (h.dom t pl hp0).2; omega
      · obtain ⟨b1, g1, go1⟩ := wasOwn t b hb ht ho
        rw [← h5]
        exact h.inj t t0 b1 b0 (notDead t b t0 hb (SB.live_of_own ho) h1) g1 h2 go1 (SB.live_of_own h3) pl pl0 hp0 h4
    · have hp0 := oldPl t' pl' hp' ht'
      rcases newPl t pl hp ht b r3 (SB.live_of_own ho) with h1 | ⟨t0, b0, pl0, h1, h2, h3, h4, h5⟩
      · have := (h.dom t' pl' hp0).2; omega
      · obtain ⟨b1, g1, go1⟩ := wasLive t' b' hb' ht' hl
        rw [← h5]
        exact h.inj t0 t' b0 b1 (Ne.symm (notDead t' b' t0 hb' hl h1)) h2 g1 h3 go1 pl0 pl' h4 hp0
    · exact e.inj t t' b b' hne r1 r2 r1' r2' r3 r3' ho hl pl pl' hp hp'
  · intro t b pl hb ho hp
    rcases isUsed t b hb with ht | ⟨ht, r1, r2, r3⟩
    · obtain ⟨b0, h0, ho0⟩ := wasOwn t b hb ht ho
      exact h.mine t b0 pl h0 ho0 (oldPl t pl hp ht)
    · rcases newPl t pl hp ht b r3 (SB.live_of_own ho) with h1 | ⟨t0, b0, pl0, h1, h2, h3, h4, h5⟩
      · exact .inl (Nat.le_trans h.chg.size h1)
      · rw [← h5]; exact h.mine t0 b0 pl0 h2 h3 h4
  · intro t b hb
    rcases isUsed t b hb with ht | ⟨_, r1, r2, _⟩
    · exact .inl ht
    · exact .inr ⟨r1, r2⟩
  · refine h.chg.trans' ⟨e.os, e.tape, e.output, e.size⟩ (fun i hi hn' => e.block i (Nat.lt_of_lt_of_le hi h.chg.size) (fun t b pl hb hp => ?_))
    obtain ⟨b0, h0, ho⟩ := (e.old t b hb).resolve_left (notNew t (h.dom t pl hp).1)
    rcases h.mine t b0 pl h0 ho hp with h1 | h1
    · omega
    · rintro rfl; exact hn' h1
  · obtain ⟨hF, hb⟩ := h.base t ht
    cases hq : ρ t with
    | some pl => rw [e.ext t pl hq, ← hb, hq]
    | none =>
      cases hq' : ρ' t with
      | none => rw [← hb, hq]
      | some pl =>
        rcases e.new t pl hq' with h1 | ⟨h1, h2, _⟩
        · rw [hq] at h1; cases h1
        · exact absurd ⟨h1, h2⟩ (notNew t hF)
  · intro A v hv
    rw [e.ext.im] at hv
    have hc := h.imm A v hv
    rw [← hc]
    refine World.cell?_of_block (e.block _ (block_lt hc) fun t b pl hb hp hpl => ?_)
    obtain ⟨b0, h0, ho⟩ := (e.old t b hb).resolve_left (notNew t (h.dom t pl hp).1)
    rw [h.isep t b0 pl h0 ho hp A hpl.symm] at hv
    cases hv
  · intro t b pl hb ho hp A hA
    rw [e.ext.im]
    rcases isUsed t b hb with ht | ⟨ht, r1, r2, r3⟩
    · obtain ⟨b0, h0, ho0⟩ := wasOwn t b hb ht ho
      exact h.isep t b0 pl h0 ho0 (oldPl t pl hp ht) A hA
    · rcases newPl t pl hp ht b r3 (SB.live_of_own ho) with h1 | ⟨t0, b0, pl0, h1, h2, h3, h4, h5⟩
      · cases hi : ρ.im A with
        | none => rfl
        | some v => have := block_lt (h.imm A v hi); omega
      · exact h.isep t0 b0 pl0 h2 h3 h4 A (hA.trans h5.symm)

/-- One frame entry more. -/
theorem Act.getD_put {a : Act} {i j : Nat} {v : Value} (hi : i < a.tmps.size) : (a.put (some i) v).tmps.getD j undef = if i = j then v else a.tmps.getD j undef := by
  simp only [Act.put, Array.getD_eq_getD_getElem?, Array.getElem?_setIfInBounds]
  by_cases h : i = j
  · subst h; simp [hi]
  · rw [if_neg h, if_neg h]

end Go.Sx
