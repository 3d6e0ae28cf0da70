/- The symbolic evaluator: a caller's arguments, said in the callee's own tags. Definitions and plain lemmas, no condition. -/
import Derived.Test.YtogijkmflhjhkaaSxQ
namespace Go.Sx
open Go.RowKit
set_option linter.unusedSimpArgs false

set_option linter.unusedVariables false

/-- A field of a struct that is handed over by its address: integers; a value without tags; a slice of the call's own; one that is handed on. -/
inductive FM where
  | i (k : IntKind) (n : Nat)
  | s
  | a (e : TypeId) (k : IntKind)
  | o
/-- How an argument is handed over: a value without tags; a slice that is only read; a slice of such slices; a slice of the call's own; the address of a struct or array of the call's own. -/
inductive Md where
  | v
  | r (k : IntKind)
  | rr (k : IntKind)
  | a (e : TypeId) (k : IntKind)
  | p (ty : TypeId) (fs : List FM)
/-- What is told of them. -/
inductive FV where
  | i (f : Nat → Int)
  | s (c : SC)
  | a (nl : Bool) (f : Nat → Int) (n : Nat)
  | o
inductive Vw where
  | v (a : SA)
  | r (nl : Bool) (f : Nat → Int) (n : Nat)
  | rr (nl : Bool) (g : Nat → Row) (n : Nat)
  | a (nl : Bool) (f : Nat → Int) (n : Nat)
  | p (fs : List FV)

/-- A slice of own integers, its block. -/
def ownA (nl : Bool) (n τ : Nat) : SC := .sl nl false true τ 0 0 n n
def ownB (e : TypeId) (k : IntKind) (f : Nat → Int) (n : Nat) : SB := .gd (decide (0 < n)) (.own e [.ints k f n] true)

def bldF : List FM → List FV → Nat → Nat → Option (List Seg × List (Nat × SB) × Nat × Nat)
  | [], [], τ, ο => some ([], [], τ, ο)
  | .i k n :: ms, .i f :: vs, τ, ο => match bldF ms vs τ ο with
    | some (l, H, t, o) => some (.ints k f n :: l, H, t, o)
    | none => none
  | .s :: ms, .s c :: vs, τ, ο => match bldF ms vs τ ο with
    | some (l, H, t, o) => some (.one c :: l, H, t, o)
    | none => none
  | .a e k :: ms, .a nl f n :: vs, τ, ο => match bldF ms vs (τ + 1) ο with
    | some (l, H, t, o) => some (.one (ownA nl n τ) :: l, (τ, ownB e k f n) :: H, t, o)
    | none => none
  | .o :: ms, .o :: vs, τ, ο => match bldF ms vs τ (ο + 1) with
    | some (l, H, t, o) => some (.one (.opq ο) :: l, H, t, o)
    | none => none
  | _, _, _, _ => none
def bld1 : Md → Vw → Nat → Nat → Option (SA × List (Nat × SB) × Nat × Nat)
  | .v, .v a, τ, ο => some (a, [], τ, ο)
  | .r k, .r nl f n, τ, ο => some (.sc (.im nl k f n), [], τ, ο)
  | .rr k, .rr nl g n, τ, ο => some (.sc (.rows nl k g n), [], τ, ο)
  | .a e k, .a nl f n, τ, ο => some (.sc (ownA nl n τ), [(τ, ownB e k f n)], τ + 1, ο)
  | .p ty fs, .p vs, τ, ο => match bldF fs vs (τ + 1) ο with
    | some (l, H, t, o) => some (.sc (.ptr τ 0 0), (τ, .own ty l false) :: H, t, o)
    | none => none
  | _, _, _, _ => none
/-- The callee's arguments, its blocks; the next tag. -/
def bld : List Md → List Vw → Nat → Nat → Option (List SA × List (Nat × SB) × Nat × Nat)
  | [], [], τ, ο => some ([], [], τ, ο)
  | m :: ms, v :: vs, τ, ο => match bld1 m v τ ο with
    | some (a, H, t, o) => (match bld ms vs t o with
      | some (A, H', t', o') => some (a :: A, H ++ H', t', o')
      | none => none)
    | none => none
  | _, _, _, _ => none

def noTag : SC → Bool
  | .int _ _ | .bool _ | .str _ | .nilp => true
  | _ => false
def noTagS : List Seg → Bool
  | [] => true
  | .one c :: r => noTag c && noTagS r
  | .ints _ _ _ :: r => noTagS r
  | .rows _ _ _ :: _ => false

/-- A slice that is only read: is it nil; its integers; the tag that it is read from. -/
def impS (s : St) (st : Bool) (k : IntKind) (c : SC) : Option (Cd × Bool × (Nat → Int) × Nat × List Nat) :=
  match c with
  | .im nl k' f n => match kEq k k' with | true => some (.tt, nl, f, n, []) | false => none
  | .sl nl _ _ t o f n _ =>
    match st with
    | true => none
    | false => match s.srcT k nl t o f n with
      | some (q, g) => some (q, nl, g, n, [t])
      | none => none
  | _ => none
/-- Slices that are only read. -/
def impRows (s : St) (st : Bool) (k : IntKind) : List Seg → Option (Cd × (Nat → Row) × Nat × List Nat)
  | [] => some (.tt, (fun _ => ⟨true, fun _ => 0, 0⟩), 0, [])
  | .one c :: r =>
    match impS s st k c with
    | some (q, nl, f, n, rd) => (match r with
      | [] => some (q, (fun _ => ⟨nl, f, n⟩), 1, rd)
      | r => match impRows s st k r with
        | some (q', g, m, rd') => some (.and q q', putR (fun _ => ⟨nl, f, n⟩) 1 g, 1 + m, rd ++ rd')
        | none => none)
    | none => none
  | .rows k' g n :: r =>
    match kEq k k' with
    | true => (match r with
      | [] => some (.tt, g, n, [])
      | r => match impRows s st k r with
        | some (q', g', m, rd') => some (q', putR g n g', n + m, rd')
        | none => none)
    | false => none
  | _ => none
/-- A slice of the call's own. -/
def impO (s : St) (e : TypeId) (k : IntKind) (c : SC) : Option (Cd × Bool × (Nat → Int) × Nat × Option Nat) :=
  match c with
  | .sl nl ex z t o i n _ =>
    match o, i, s.hp t with
    | 0, 0, some (q, .own e' [.ints k' g M] _) => match Nat.beq e e' && kEq k k' with
      | true => some (.and (.p (0 < n → q.holds ∧ n ≤ M)) (match z with | true => .tt | false => .p (nl = false → 0 < n)), nl, g, n, some t)
      | false => none
    | _, _, none => match nl with
      | true => some (.tt, true, (fun _ => 0), n, none)
      | _ => none
    | _, _, _ => none
  | _ => none
def impF (s : St) : List FM → List Seg → Option (Cd × List FV × List (Option Nat) × List SC)
  | [], [] => some (.tt, [], [], [])
  | .i k n :: ms, .ints k' f n' :: r => match kEq k k' && Nat.beq n n' with
    | true => (match impF s ms r with
      | some (q, vs, ow, os) => some (q, .i f :: vs, ow, os)
      | none => none)
    | false => none
  | .s :: ms, .one c :: r => match noTag c with
    | true => (match impF s ms r with
      | some (q, vs, ow, os) => some (q, .s c :: vs, ow, os)
      | none => none)
    | false => none
  | .a e k :: ms, .one c :: r => match impO s e k c with
    | some (q, nl, f, n, t) => (match impF s ms r with
      | some (q', vs, ow, os) => some (.and q q', .a nl f n :: vs, t :: ow, os)
      | none => none)
    | none => none
  | .o :: ms, .one c :: r => match impF s ms r with
    | some (q, vs, ow, os) => some (q, .o :: vs, ow, c :: os)
    | none => none
  | _, _ => none
structure Im where
  c : Cd
  v : Vw
  own : List (Option Nat)
  rd : List Nat
  ops : List SC
def imp1 (s : St) (st : Bool) (m : Md) (x : SA) : Option Im :=
  match m, x with
  | .v, .sc c => match noTag c with | true => some ⟨.tt, .v (.sc c), [], [], []⟩ | false => none
  | .v, .agg l => match noTagS l with | true => some ⟨.tt, .v (.agg l), [], [], []⟩ | false => none
  | .r k, .sc c => match impS s st k c with
    | some (q, nl, f, n, rd) => some ⟨q, .r nl f n, [], rd, []⟩
    | none => none
  | .rr k, .sc (.rows nl k' g n) => match kEq k k' with | true => some ⟨.tt, .rr nl g n, [], [], []⟩ | false => none
  | .rr k, .sc (.sl nl _ _ t o i n _) =>
    match st with
    | true => none
    | false =>
      match o, i, s.hp t with
      | 0, 0, some (q, .own _ l _) => match impRows s st k l with
        | some (q', g, m, rd) => some ⟨.and (.p (0 < n → q.holds)) (.and (.p (n = m)) q'), .rr nl g n, [], t :: rd, []⟩
        | none => none
      | _, _, none => match nl with
        | true => some ⟨.tt, .rr true (fun _ => ⟨true, fun _ => 0, 0⟩) n, [], [], []⟩
        | _ => none
      | _, _, _ => none
  | .a e k, .sc c => match impO s e k c with
    | some (q, nl, f, n, t) => some ⟨q, .a nl f n, [t], [], []⟩
    | none => none
  | .p ty fs, .sc (.ptr t 0 0) =>
    match s.hp t with
    | some (q, .own ty' l false) => match Nat.beq ty ty' with
      | true => (match impF s fs l with
        | some (q', vs, ow, os) => some ⟨.and q q', .p vs, some t :: ow, [], os⟩
        | none => none)
      | false => none
    | _ => none
  | _, _ => none
structure ImL where
  c : Cd
  v : List Vw
  own : List (Option Nat)
  rd : List Nat
  ops : List SC
def impL (s : St) (st : Bool) : List Md → List SA → Option ImL
  | [], [] => some ⟨.tt, [], [], [], []⟩
  | m :: ms, x :: xs => match imp1 s st m x, impL s st ms xs with
    | some ⟨c, v, ow, rd, os⟩, some ⟨c', vs, ow', rd', os'⟩ => some ⟨.and c c', v :: vs, ow ++ ow', rd ++ rd', os ++ os'⟩
    | _, _ => none
  | _, _ => none

def distO : List (Option Nat) → Bool
  | [] => true
  | none :: r => distO r
  | some t :: r => !(memO r t) && distO r
  where memO : List (Option Nat) → Nat → Bool
  | [], _ => false
  | none :: r, t => memO r t
  | some u :: r, t => Nat.beq u t || memO r t
def apart (own : List (Option Nat)) : List Nat → Bool
  | [] => true
  | t :: r => !(distO.memO own t) && apart own r
def sigOf : Nat → List (Option Nat) → Sig
  | _, [] => []
  | i, o :: r => (i, o) :: sigOf (i + 1) r

def forceC {β : Type} : SC → (SC → β) → β
  | .any, K => K .any
  | .int k n, K => K (.int k n)
  | .bool b, K => K (.bool b)
  | .str s, K => K (.str s)
  | .nilp, K => K .nilp
  | .ptr t o i, K => K (.ptr t o i)
  | .sl nl ex z t o i n c, K => K (.sl nl ex z t o i n c)
  | .im nl k f n, K => K (.im nl k f n)
  | .rows nl k r n, K => K (.rows nl k r n)
  | .adr c, K => K (.adr c)
  | .opq i, K => K (.opq i)
  | .fn f t, K => K (.fn f t)
theorem forceC_eq {β : Type} (c : SC) (K : SC → β) : forceC c K = K c := by cases c <;> rfl
def forceA {β : Type} : SA → (SA → β) → β
  | .sc c, K => forceC c fun c => K (.sc c)
  | .agg l, K => forceL l fun l => K (.agg l)
theorem forceA_eq {β : Type} (a : SA) (K : SA → β) : forceA a K = K a := by
  cases a
  · exact forceC_eq _ _
  · exact forceL_eq _ _
def forceAs {β : Type} : List SA → (List SA → β) → β
  | [], K => K []
  | a :: r, K => forceA a fun a => forceAs r fun r => K (a :: r)
theorem forceAs_eq {β : Type} : ∀ (l : List SA) (K : List SA → β), forceAs l K = K l
  | [], _ => rfl
  | a :: r, K => by simp only [forceAs, forceA_eq, forceAs_eq r]
def forceV {β : Type} : SV → (SV → β) → β
  | .sa a, K => forceA a fun a => K (.sa a)
  | .tup l, K => forceAs l fun l => K (.tup l)
  | .gd g a, K => forceA a fun a => K (.gd g a)
theorem forceV_eq {β : Type} (v : SV) (K : SV → β) : forceV v K = K v := by
  cases v
  · exact forceA_eq _ _
  · exact forceAs_eq _ _
  · exact forceA_eq _ _

/-- A summary for a caller: the arguments by their modes, what the function says. -/
def mkS (st : Bool) (ms : List Md) (spec : List Vw → Option Res) : Summary := fun l s =>
  match s with
  | ⟨sz, fr, hp, nx⟩ =>
  match impL ⟨sz, fr, hp, nx⟩ st ms l with
  | some ⟨c, vs, own, rd, ops⟩ =>
    match distO own && apart own rd with
    | true =>
      match bld ms vs 0 0 with
      | some (_, _, n, _) =>
        match spec vs with
        | some ⟨rp, rv, rd, rn⟩ =>
          match rv with
          | none => some ⟨.and c rp, none, renD ⟨sigOf 0 own, st, ops, n, nx⟩ rd, nx + (rn - n)⟩
          | some v => match okV st v with
            | true => forceV (renV ⟨sigOf 0 own, st, ops, n, nx⟩ v) fun v' => some ⟨.and c rp, some v', renD ⟨sigOf 0 own, st, ops, n, nx⟩ rd, nx + (rn - n)⟩
            | false => none
        | none => none
      | none => none
    | false => none
  | none => none

end Go.Sx
