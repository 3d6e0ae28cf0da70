/- Many texts in one: SxA, SxB, SxC, SxD, SxE, SxF, SxG, Bits, Mem, SxH, SxI. No condition. -/
import Derived.WalkKit
import Derived.KernelRfl
import Derived.Deep.MidRow
import Derived.Maps.AppendAt
import Derived.Deep.AppendLies
import Derived.Deep.Draws
import Derived.Deep.OwnRows
import Derived.Laws.OwnMore

/- A symbolic evaluator of the model's operations: its types and its steps. Plain definitions; no condition. -/
namespace Go.Sx
set_option linter.unusedSimpArgs false
set_option linter.unusedVariables false

/-- A condition. -/
inductive Cd where
  | tt
  | ff
  | p (P : Prop)
  | and (a b : Cd)
  | imp (g : Bool) (c : Cd)
def Cd.holds : Cd → Prop
  | .tt => True
  | .ff => False
  | .p P => P
  | .and a b => a.holds ∧ b.holds
  | .imp g c => g = true → c.holds
/-- The same without what is plain. -/
def Cd.norm : Cd → Cd
  | .and a b => match a.norm with
    | .tt => b.norm
    | a' => match b.norm with
      | .tt => a'
      | b' => .and a' b'
  | .imp g c => match c.norm with
    | .tt => .tt
    | c' => .imp g c'
  | c => c
/-- The condition, then K. -/
def Cd.then : Cd → Prop → Prop
  | .tt, K => K
  | .ff, _ => False
  | .p P, K => P ∧ K
  | .and a b, K => a.then (b.then K)
  | .imp g c, K => match c.norm with
    | .tt => K
    | _ => (g = true → c.then True) ∧ K
theorem Cd.norm_iff : ∀ c : Cd, c.norm.holds ↔ c.holds
  | .tt => Iff.rfl
  | .ff => Iff.rfl
  | .p _ => Iff.rfl
  | .and a b => by
    have ha := norm_iff a
    have hb := norm_iff b
    simp only [Cd.norm]
    split
    · rename_i h; rw [h] at ha; simp only [Cd.holds, true_iff] at ha ⊢; rw [hb]; exact ⟨fun h => ⟨ha, h⟩, fun h => h.2⟩
    · split
      · rename_i h; rw [h] at hb; simp only [Cd.holds, true_iff] at hb ⊢; rw [ha]; exact ⟨fun h => ⟨h, hb⟩, fun h => h.1⟩
      · simp only [Cd.holds]; rw [ha, hb]
  | .imp g c => by
    have hc := norm_iff c
    simp only [Cd.norm]
    split
    · rename_i h; rw [h] at hc; simp only [Cd.holds, true_iff] at hc ⊢; exact fun _ => hc
    · simp only [Cd.holds]; rw [hc]
theorem Cd.then_iff : ∀ (c : Cd) (K : Prop), c.then K ↔ c.holds ∧ K
  | .tt, K => by simp [Cd.then, Cd.holds]
  | .ff, K => by simp [Cd.then, Cd.holds]
  | .p P, K => by simp [Cd.then, Cd.holds]
  | .and a b, K => by simp only [Cd.then, Cd.holds]; rw [then_iff a, then_iff b, and_assoc]
  | .imp g c, K => by
    have hc := Cd.norm_iff c
    have ih := then_iff c True
    simp only [Cd.then]
    split
    · rename_i h; rw [h] at hc; simp only [Cd.holds, true_iff] at hc ⊢; exact ⟨fun h => ⟨fun _ => hc, h⟩, fun h => h.2⟩
    · simp only [Cd.holds, ih, and_true]

/-- A slice of integers that is only read. -/
structure Row where
  nl : Bool
  f : Nat → Int
  n : Nat

/-- A value of one cell, as the evaluator knows it. -/
inductive SC where
  | any
  | int (k : IntKind) (n : Int)
  | bool (b : Bool)
  | str (s : ByteArray)
  | nilp
  /-- cell 'o + i' behind the address of the tag t -/
  | ptr (t : Nat) (o : Nat) (i : Nat)
  /-- a slice: is it nil; is its place known though it be empty; has it no room where it is empty; its first cell is 'o + i' behind the tag's address; its length; what its capacity is at least -/
  | sl (nl ex z : Bool) (t : Nat) (o : Nat) (i n c : Nat)
  /-- a slice of integers that nobody writes -/
  | im (nl : Bool) (k : IntKind) (f : Nat → Int) (n : Nat)
  /-- a slice of such slices -/
  | rows (nl : Bool) (k : IntKind) (r : Nat → Row) (n : Nat)
  /-- the address of a cell that nobody writes -/
  | adr (c : SC)
  /-- a value that is handed on -/
  | opq (i : Nat)
  /-- a closure that captured one variable -/
  | fn (f : FuncId) (t : Nat)

/-- A stretch of a block: one cell; n integers; n slices that nobody writes. -/
inductive Seg where
  | one (v : SC)
  | ints (k : IntKind) (f : Nat → Int) (n : Nat)
  | rows (k : IntKind) (r : Nat → Row) (n : Nat)

/-- A value. -/
inductive SA where
  | sc (v : SC)
  | agg (l : List Seg)

/-- What a temporary holds: a value, several, a value if g. -/
inductive SV where
  | sa (v : SA)
  | tup (l : List SA)
  | gd (g : Bool) (v : SA)

/-- A block: own (it may be written): its type, its stretches from the head on, whether more cells may lie behind them; n integers that are only read; one of which nothing is known any more; one that is there if g. -/
inductive SB where
  | own (ty : TypeId) (l : List Seg) (more : Bool)
  | ro (k : IntKind) (f : Nat → Int) (n : Nat)
  | dead
  | gd (g : Bool) (b : SB)

structure St where
  size : Nat
  frame : List (Nat × SV)
  heap : List (Nat × SB)
  next : Nat

/-- What is known of a type. -/
inductive TyD where
  | int (k : IntKind)
  | bool
  | str
  | slice (e : TypeId) (bytes : Nat) (zero : Seg)
  | array (n : Nat) (e : TypeId)
  /-- fields: offset -/
  | struct (fs : List (Nat × Nat))
  | ptr
structure TyI where
  d : TyD
  size : Nat
  zero : List Seg

def getA {α : Type} (l : List (Nat × α)) (i : Nat) : Option α :=
  match l with
  | [] => none
  | (j, v) :: r => match Nat.beq j i with | true => some v | false => getA r i

def Seg.len : Seg → Nat
  | .one _ => 1
  | .ints _ _ n => n
  | .rows _ _ n => n
def segsLen : List Seg → Nat
  | [] => 0
  | g :: r => g.len + segsLen r

/-- What is left behind o cells, where a stretch ends there. -/
def segDrop : List Seg → Nat → Option (List Seg)
  | [], o => match Nat.beq o 0 with | true => some [] | false => none
  | g :: r, o => match Nat.beq o 0 with | true => some (g :: r) | false => match Nat.ble g.len o with | true => segDrop r (o - g.len) | false => none
def segTake : List Seg → Nat → Option (List Seg)
  | [], o => match Nat.beq o 0 with | true => some [] | false => none
  | g :: r, o => match Nat.beq o 0 with | true => some [] | false => match Nat.ble g.len o with
    | true => (match segTake r (o - g.len) with | some l => some (g :: l) | none => none)
    | false => none
/-- A list, its spine worked out. -/
def forceL {α β : Type} : List α → (List α → β) → β
  | [], k => k []
  | x :: r, k => forceL r fun r' => k (x :: r')
theorem forceL_eq {α β : Type} : ∀ (l : List α) (k : List α → β), forceL l k = k l
  | [], _ => rfl
  | _ :: r, _ => forceL_eq r _
def catK {α β : Type} : List α → List α → (List α → β) → β
  | [], b, k => k b
  | x :: r, b, k => catK r b fun r' => k (x :: r')
theorem catK_eq {α β : Type} : ∀ (l b : List α) (k : List α → β), catK l b k = k (l ++ b)
  | [], _, _ => rfl
  | _ :: r, b, _ => catK_eq r b _
def segSplice (l : List Seg) (o m : Nat) (new : List Seg) : Option (List Seg) :=
  match segTake l o, segDrop l o with
  | some a, some b => match segDrop b m with
    | some c => catK new c fun d => catK a d fun e => some e
    | none => none
  | _, _ => none

/-- A stretch in place of the one of its length that lies at o. -/
def segPut : List Seg → Nat → Seg → Option (List Seg)
  | [], _, _ => none
  | g :: r, o, x => match Nat.beq o 0 with
    | true => some (x :: r)
    | false => match Nat.ble g.len o with
      | true => (match segPut r (o - g.len) x with | some l => some (g :: l) | none => none)
      | false => none
theorem segPut_spec {x : Seg} : ∀ {l : List Seg} {o : Nat} {l' : List Seg}, segPut l o x = some l' → ∃ a g r, segTake l o = some a ∧ segDrop l o = some (g :: r) ∧ l' = a ++ x :: r
  | [], _, _, h => by cases h
  | b :: r, o, l', h => by
    unfold segPut at h
    split at h
    · rename_i e
      injection h with h
      exact ⟨[], b, r, by unfold segTake; rw [e], by unfold segDrop; rw [e], h.symm⟩
    · rename_i e
      split at h
      · rename_i e2
        split at h
        · rename_i l0 e3
          injection h with h
          obtain ⟨a, g, r', h1, h2, h3⟩ := segPut_spec e3
          refine ⟨b :: a, g, r', ?_, ?_, by rw [← h, h3]; rfl⟩
          · unfold segTake; rw [e, e2]; simp only [h1]
          · unfold segDrop; rw [e, e2]; exact h2
        · cases h
      · cases h
theorem segDrop_0 (l : List Seg) : segDrop l 0 = some l := by cases l <;> rfl
theorem segPut_splice {x g : Seg} {l r l' : List Seg} {o n : Nat} (h : segPut l o x = some l') (hd : segDrop l o = some (g :: r)) (hg : g.len = n) (hn : 0 < n) : segSplice l o n [x] = some l' := by
  obtain ⟨a, g', r', h1, h2, h3⟩ := segPut_spec h
  rw [hd] at h2
  injection h2 with h2
  injection h2 with h4 h5
  subst h4; subst h5
  have e : segDrop (g :: r) n = some r := by
    unfold segDrop
    rw [show Nat.beq n 0 = false from (by cases n with | zero => omega | succ n => rfl), show Nat.ble g.len n = true by rw [hg]; exact Nat.ble_eq_true_of_le (Nat.le_refl _), hg, Nat.sub_self]
    exact segDrop_0 r
  unfold segSplice
  rw [h1, hd]
  simp only [e, catK_eq]
  rw [h3]
  rfl

def upd (f : Nat → Int) (i : Nat) (v : Int) (j : Nat) : Int := if j = i then v else f j
/-- m numbers g from place i on. -/
def put_ (f : Nat → Int) (i m : Nat) (g : Nat → Int) (j : Nat) : Int := if i ≤ j ∧ j < i + m then g (j - i) else f j
/-- m rows g behind n rows f. -/
def putR (f : Nat → Row) (n : Nat) (g : Nat → Row) (j : Nat) : Row := if j < n then f j else g (j - n)
def listI (l : List Int) (j : Nat) : Int := l.getD j 0
def kEq (a b : IntKind) : Bool := Nat.beq a.ctorIdx b.ctorIdx
/-- A string's bytes; the string of bytes. -/
def bytesI (s : ByteArray) (j : Nat) : Int := ((s.data.getD j 0).toNat : Int)
def strI (f : Nat → Int) (n : Nat) : ByteArray := ⟨((List.range n).map fun j => UInt8.ofNat (f j).toNat).toArray⟩
def eqI (n : Nat) (f g : Nat → Int) : Bool := (List.range n).all fun j => f j == g j

/-- A tag that no block has. -/
def noTagN : Nat := 999999

def ofConst : Value → Option SV
  | .int k n => some (.sa (.sc (.int k n)))
  | .bool b => some (.sa (.sc (.bool b)))
  | .string s => some (.sa (.sc (.str s)))
  | .pointer none => some (.sa (.sc .nilp))
  | .slice none 0 0 => some (.sa (.sc (.sl true false true 999999 0 0 0 0)))
  | _ => none

def St.ev (s : St) : Operand → Option SV
  | .tmp t => getA s.frame t
  | .const v => ofConst v
  | _ => none
/-- An operand, with what must hold that it is there. -/
def St.ev1 (s : St) (x : Operand) : Option (Cd × SA) :=
  match s.ev x with
  | some (.sa v) => some (.tt, v)
  | some (.gd g v) => some (.p (g = true), v)
  | _ => none
def St.hp (s : St) (t : Nat) : Option (Cd × SB) :=
  match getA s.heap t with
  | some (.gd g (.gd h b)) => some (.and (.p (g = true)) (.p (h = true)), b)
  | some (.gd g b) => some (.p (g = true), b)
  | some b => some (.tt, b)
  | none => none

def St.evI (s : St) (x : Operand) : Option (Cd × Int) :=
  match s.ev1 x with
  | some (p, .sc (.int _ a)) => some (p, a)
  | _ => none
def St.evLo (s : St) : Option Operand → Option (Cd × Int)
  | none => some (.tt, 0)
  | some x => s.evI x
def St.evHi (s : St) : Option Operand → Option (Cd × Option Int)
  | none => some (.tt, none)
  | some x => match s.evI x with
    | some (p, a) => some (p, some a)
    | none => none
/-- The n integers of kind k that a slice holds, which lie from place o + f on behind the tag t. -/
def St.srcT (s : St) (k : IntKind) (nl : Bool) (t o f n : Nat) : Option (Cd × (Nat → Int)) :=
  match s.hp t with
  | some (q, .own _ l _) =>
    match segDrop l o with
    | some (.ints k' g m :: _) => match kEq k k' with | true => some (.p (0 < n → q.holds ∧ f + n ≤ m), fun j => g (f + j)) | false => none
    | _ => none
  | some (q, .ro k' g m) => match kEq k k' with | true => some (.p (0 < n → q.holds ∧ o + f + n ≤ m), fun j => g (o + f + j)) | false => none
  | _ => match nl with
    | true => some (.tt, fun _ => 0)
    | _ => none
/-- The integers that a slice holds. -/
def St.src (s : St) (k : IntKind) : SC → Option (Cd × (Nat → Int) × Nat)
  | .im _ k' f n => match kEq k k' with | true => some (.tt, f, n) | false => none
  | .sl nl _ _ t o f n _ => match s.srcT k nl t o f n with
    | some (c, g) => some (c, g, n)
    | none => none
  | _ => none
def isNl : SC → Option Bool
  | .im nl _ _ _ => some nl
  | .rows nl _ _ _ => some nl
  | .sl nl _ _ _ _ _ _ _ => some nl
  | _ => none

/-- What an operation does: its condition, its value, the blocks that it makes or writes, the next new tag. -/
structure Res where
  p : Cd
  v : Option SV
  d : List (Nat × SB)
  next : Nat

abbrev sc (v : SC) : SV := .sa (.sc v)
def St.one (s : St) (p : Cd) (v : SV) : Option Res := match s with | ⟨_, _, _, nx⟩ => some ⟨p, some v, [], nx⟩
/-- A new block: its address; a slice of all of it. -/
def St.newP (s : St) (p : Cd) (b : SB) : Option Res := match s with | ⟨_, _, _, nx⟩ => some ⟨p, some (.sa (.sc (.ptr nx 0 0))), [(nx, b)], nx + 1⟩
theorem St.newP_eq (s : St) (p : Cd) (b : SB) : s.newP p b = some ⟨p, some (sc (.ptr s.next 0 0)), [(s.next, b)], s.next + 1⟩ := by cases s; rfl
def St.newS (s : St) (p : Cd) (nl ex z : Bool) (n c : Nat) (b : SB) (d : List (Nat × SB)) : Option Res := match s with | ⟨_, _, _, nx⟩ => some ⟨p, some (.sa (.sc (.sl nl ex z nx 0 0 n c))), (nx, b) :: d, nx + 1⟩
theorem St.newS_eq (s : St) (p : Cd) (nl ex z : Bool) (n c : Nat) (b : SB) (d : List (Nat × SB)) : s.newS p nl ex z n c b d = some ⟨p, some (sc (.sl nl ex z s.next 0 0 n c)), (s.next, b) :: d, s.next + 1⟩ := by cases s; rfl
/-- A block written. -/
def St.wr (s : St) (p : Cd) (v : Option SV) (d : List (Nat × SB)) : Option Res := match s with | ⟨_, _, _, nx⟩ => some ⟨p, v, d, nx⟩
theorem St.wr_eq (s : St) (p : Cd) (v : Option SV) (d : List (Nat × SB)) : s.wr p v d = some ⟨p, v, d, s.next⟩ := by cases s; rfl
def binI (op : BinOp) (k : IntKind) (x : Int) (y : Int) : Cd × SC :=
  match op with
  | .add => (.tt, .int k (k.wrap (x + y)))
  | .sub => (.tt, .int k (k.wrap (x - y)))
  | .mul => (.tt, .int k (k.wrap (x * y)))
  | .quo => (.p (y ≠ 0), .int k (k.wrap (x.tdiv y)))
  | .rem => (.p (y ≠ 0), .int k (x.tmod y))
  | .and => (.tt, .int k (bits .and k x y))
  | .or => (.tt, .int k (bits .or k x y))
  | .xor => (.tt, .int k (bits .xor k x y))
  | .andNot => (.tt, .int k (bits .andNot k x y))
  | .shl => (.p (0 ≤ y), .int k (k.wrap (x * 2 ^ min y.toNat k.bits)))
  | .shr => (.p (0 ≤ y), .int k (x / 2 ^ min y.toNat k.bits))
  | .eql => (.tt, .bool (x == y))
  | .neq => (.tt, .bool (x != y))
  | .lss => (.tt, .bool (decide (x < y)))
  | .leq => (.tt, .bool (decide (x ≤ y)))
  | .gtr => (.tt, .bool (decide (x > y)))
  | .geq => (.tt, .bool (decide (x ≥ y)))

def isShift : BinOp → Bool
  | .shl | .shr => true
  | _ => false

/-- The parts of a new array or slice of integers, at their places 0, 1, ..: a list, what is not named is 0. -/
def partsI (k : IntKind) : List (Nat × SA) → Nat → List Int → Option (List Int)
  | [], _, acc => some acc.reverse
  | (i, .sc (.int k' n)) :: r, j, acc => match Nat.beq i j && kEq k k' with | true => partsI k r (j + 1) (n :: acc) | false => none
  | _, _, _ => none

/-- The parts of a struct: each at its field's offset, over the zero value. -/
def partsS (fs : List (Nat × Nat)) : List (Nat × SA) → List Seg → Option (List Seg)
  | [], acc => some acc
  | (i, v) :: r, acc =>
    match fs[i]? with
    | none => none
    | some (off, sz) =>
      match v with
      | .sc c => match Nat.beq sz 1 with | true => (segSplice acc off 1 [.one c]).bind fun acc' => partsS fs r acc' | false => none
      | .agg l => match Nat.beq sz (segsLen l) with | true => (segSplice acc off (segsLen l) l).bind fun acc' => partsS fs r acc' | false => none
/-- The parts of a new slice of one-cell values, all named. -/
def partsO : List (Nat × SA) → Nat → Option (List Seg)
  | [], _ => some []
  | (i, .sc v) :: r, j => match Nat.beq i j with | true => (match partsO r (j + 1) with | some l => some (.one v :: l) | none => none) | false => none
  | _, _ => none

def evAll (s : St) : List (Nat × Operand) → Option (Cd × List (Nat × SA))
  | [] => some (.tt, [])
  | (i, x) :: r =>
    match s.ev1 x, evAll s r with
    | some (p, v), some (q, l) => some (.and p q, (i, v) :: l)
    | _, _ => none
def evArgs (s : St) : List Operand → Option (Cd × List SA)
  | [] => some (.tt, [])
  | x :: r =>
    match s.ev1 x, evArgs s r with
    | some (p, v), some (q, l) => some (.and p q, v :: l)
    | _, _ => none

/-- Is the block of what append gives there? -/
def appG (nl ex : Bool) (n m : Nat) : Bool := match ex with | true => decide (0 < n + m) || !nl | false => decide (0 < n + m)
/-- append's first argument: its condition. -/
def appC (nl ex z : Bool) (n M : Nat) (q : Cd) : Cd :=
  match ex with
  | true => .p (nl = false → q.holds ∧ n ≤ M)
  | false => match z with
    | true => .p (0 < n → q.holds ∧ n ≤ M)
    | false => .p (nl = false → q.holds ∧ n ≤ M ∧ 0 < n)
/-- .. its integers, what dies. -/
def St.appDst (s : St) (nl ex z : Bool) (t o f n : Nat) (e : TypeId) (k : IntKind) : Option (Cd × (Nat → Int) × List (Nat × SB)) :=
  match o, f, s.hp t with
  | 0, 0, some (q', .own e' [.ints k' g m] _) => match Nat.beq e e' && kEq k k' with | true => some (appC nl ex z n m q', g, [(t, .dead)]) | false => none
  | _, _, none => match nl with
    | true => some (.tt, (fun _ => 0), [])
    | _ => none
  | _, _, _ => none
/-- append's second argument. -/
def St.appSrc (s : St) (k : IntKind) (tyi : TyI) (src : SA) : Option (Cd × (Nat → Int) × Nat) :=
  match tyi.d, src with
  | .slice _ _ _, .sc v => s.src k v
  | .str, .sc (.str b) => match kEq k .u8 with | true => some (.tt, bytesI b, b.size) | false => none
  | .int _, .sc (.int _ x) => some (.p (0 ≤ x), (fun _ => 0), x.toNat)
  | _, _ => none
/-- Stretches one behind the other; slices that nobody writes are taken together. -/
def joinS : List Seg → List Seg → List Seg
  | [], [.one (.im nl k f n)] => [.rows k (fun _ => ⟨nl, f, n⟩) 1]
  | [.rows k r n], [.one (.im nl k' f m)] => match kEq k k' with | true => [.rows k (putR r n (fun _ => ⟨nl, f, m⟩)) (n + 1)] | false => [.rows k r n, .one (.im nl k' f m)]
  | [.rows k r n], [.rows k' r' m] => match kEq k k' with | true => [.rows k (putR r n r') (n + m)] | false => [.rows k r n, .rows k' r' m]
  | a, b => a ++ b
/-- append's first argument, of one-cell values. -/
def St.appDstO (s : St) (nl ex z : Bool) (t o f n : Nat) (e : TypeId) : Option (Cd × List Seg × List (Nat × SB)) :=
  match o, f, s.hp t with
  | 0, 0, some (q', .own e' l _) => match Nat.beq e e' with | true => some (.and (appC nl ex z n n q') (.p (n = segsLen l)), l, [(t, .dead)]) | false => none
  | _, _, none => match nl with
    | true => some (.tt, [], [])
    | _ => none
  | _, _, _ => none
/-- .. its second argument: its stretches. -/
def St.srcO (s : St) : SC → Option (Cd × List Seg × Nat)
  | .rows _ k r n => some (.tt, [.rows k r n], n)
  | .sl nl _ _ t o f n _ =>
    match o, f, s.hp t with
    | 0, 0, some (q, .own _ l _) => some (.and (.p (0 < n → q.holds)) (.p (n = segsLen l)), l, n)
    | _, _, none => match nl with
      | true => some (.tt, [], n)
      | _ => none
    | _, _, _ => none
  | _ => none

/-- What a called function does with its arguments, the blocks and the next new tag. -/
abbrev Summary := List SA → St → Option Res

def isRow : TyD → Bool
  | .array _ _ => true
  | .struct _ => true
  | _ => false

def actBin (T : TypeId → Option TyI) (s : St) (bop : BinOp) (xt : TypeId) (x y : Operand) : Option Res :=
  match s.ev1 x, s.ev1 y with
  | some (p, .sc (.int k a)), some (q, .sc (.int k' b)) => match isShift bop || kEq k k', binI bop k a b with | true, (c, v) => s.one (.and p (.and q c)) (sc v) | false, _ => none
  | some (p, .sc (.str a)), some (q, .sc (.str b)) =>
    match bop with
    | .eql => s.one (.and p q) (sc (.bool (a.toList == b.toList)))
    | .neq => s.one (.and p q) (sc (.bool (!(a.toList == b.toList))))
    | .add => s.one (.and p (.and q (.p (a.size + b.size ≤ 9223372036854775807)))) (sc (.str (a ++ b)))
    | _ => none
  | some (p, .sc (.bool a)), some (q, .sc (.bool b)) => match bop, T xt with | .eql, some ⟨.bool, _, _⟩ => s.one (.and p q) (sc (.bool (a == b))) | .neq, some ⟨.bool, _, _⟩ => s.one (.and p q) (sc (.bool (!(a == b)))) | _, _ => none
  | some (p, .sc .nilp), some (q, .sc .nilp) => match bop, T xt with | .eql, some ⟨.ptr, _, _⟩ => s.one (.and p q) (sc (.bool true)) | .neq, some ⟨.ptr, _, _⟩ => s.one (.and p q) (sc (.bool false)) | _, _ => none
  | some (p, .sc (.ptr _ _ _)), some (q, .sc .nilp) => match bop, T xt with | .eql, some ⟨.ptr, _, _⟩ => s.one (.and p q) (sc (.bool false)) | .neq, some ⟨.ptr, _, _⟩ => s.one (.and p q) (sc (.bool true)) | _, _ => none
  | some (p, .sc v), some (q, .sc (.sl true _ _ _ _ _ _ _)) => match bop, T xt, isNl v with | .eql, some ⟨.slice _ _ _, _, _⟩, some nl => s.one (.and p q) (sc (.bool nl)) | .neq, some ⟨.slice _ _ _, _, _⟩, some nl => s.one (.and p q) (sc (.bool (!nl))) | _, _, _ => none
  | some (p, .agg [.ints k f n]), some (q, .agg [.ints k' g n']) =>
    match T xt with
    | some ⟨.array m _, _, [.ints k'' _ _]⟩ =>
      match kEq k k' && (kEq k k'' && (Nat.beq n n' && Nat.beq n m)) with
      | true =>
        match bop with
        | .eql => s.one (.and p q) (sc (.bool (eqI n f g)))
        | .neq => s.one (.and p q) (sc (.bool (!(eqI n f g))))
        | _ => none
      | false => none
    | _ => none
  | _, _ => none

def actLoad (T : TypeId → Option TyI) (s : St) (ty : TypeId) (x : Operand) : Option Res :=
  match T ty, s.ev1 x with
  | some ti, some (p, .sc (.adr c)) => match isRow ti.d with | true => none | false => s.one p (sc c)
  | some ti, some (p, .sc (.ptr t o i)) =>
    match s.hp t with
    | some (q, .own _ l _) =>
      match isRow ti.d with
      | true =>
        match i, (segDrop l o).bind fun r => segTake r ti.size with
        | 0, some r => s.one (.and p q) (.sa (.agg r))
        | _, _ => none
      | false =>
        match segDrop l o with
        | some (.ints k f n :: _) => s.one (.and p (.and q (.p (i < n)))) (sc (.int k (f i)))
        | some (.rows k r n :: _) => s.one (.and p (.and q (.p (i < n)))) (sc (.im (r i).nl k (r i).f (r i).n))
        | some (.one v :: r) =>
          match i with
          | 0 => s.one (.and p q) (sc v)
          | j + 1 => match segDrop r j with
            | some (.one v :: _) => s.one (.and p q) (sc v)
            | _ => none
        | _ => none
    | some (q, .ro k f n) =>
      match ti.d with
      | .int _ => s.one (.and p (.and q (.p (o + i < n)))) (sc (.int k (f (o + i))))
      | _ => none
    | _ => none
  | _, _ => none

def actStore (T : TypeId → Option TyI) (s : St) (ty : TypeId) (x y : Operand) : Option Res :=
  match T ty, s.ev1 x, s.ev1 y with
  | some ti, some (p, .sc (.ptr t o i)), some (q, v) =>
    match s.hp t with
    | some (g, .own bt l m) =>
      match v with
      | .agg new =>
        match i, segSplice l o ti.size new with
        | 0, some l' => match Nat.beq (segsLen new) ti.size with | true => s.wr (.and p (.and q g)) none [(t, .own bt l' m)] | false => none
        | _, _ => none
      | .sc c =>
        match Nat.beq ti.size 1 with
        | true =>
          match segDrop l o with
          | some (.ints k f n :: _) =>
            match c with
            | .int k' z => match kEq k k' with | true => (segPut l o (.ints k (upd f i z) n)).bind fun l' => s.wr (.and p (.and q (.and g (.p (i < n))))) none [(t, .own bt l' m)] | false => none
            | _ => none
          | some (.one _ :: _) =>
            match i with
            | 0 => (segSplice l o 1 [.one c]).bind fun l' => s.wr (.and p (.and q g)) none [(t, .own bt l' m)]
            | _ => none
          | _ => none
        | false => none
    | _ => none
  | _, _, _ => none

def actSlice (T : TypeId → Option TyI) (s : St) (t : TypeId) (x : Operand) (lo hi mx : Option Operand) : Option Res :=
  match mx with
  | some y =>
    match T t, s.ev1 x, lo, s.evHi hi, s.evI y with
    | some ⟨.slice _ _ _, _, _⟩, some (p, .sc v), none, some (r, some b), some (r', m) =>
      match isNl v with
      | some nl => s.one (.and p (.and r (.and r' (.p (b = 0 ∧ m = 0))))) (sc (.sl nl false true 999999 0 0 0 0))
      | none => none
    | _, _, _, _, _ => none
  | none =>
    match T t, s.ev1 x, s.evLo lo, s.evHi hi with
    | some ⟨.slice _ _ _, _, _⟩, some (p, .sc (.sl nl ex _ t o f n c)), some (q, a), some (r, h) =>
      match h with
      | none => s.one (.and p (.and q (.and r (.p (0 ≤ a ∧ a ≤ (n : Int)))))) (sc (.sl nl (ex && (a == 0)) false t o (f + a.toNat) (n - a.toNat) (c - a.toNat)))
      | some b => s.one (.and p (.and q (.and r (.p (0 ≤ a ∧ a ≤ b ∧ b ≤ (c : Int) ∧ (b ≤ (n : Int) ∨ ex = true)))))) (sc (.sl nl (ex && (a == 0)) false t o (f + a.toNat) (b.toNat - a.toNat) (c - a.toNat)))
    | some ⟨.slice _ _ _, _, _⟩, some (p, .sc (.im nl k f n)), some (q, a), some (r, h) =>
      match h with
      | none => s.one (.and p (.and q (.and r (.p (0 ≤ a ∧ a ≤ (n : Int)))))) (sc (.im nl k (fun j => f (a.toNat + j)) (n - a.toNat)))
      | some b => s.one (.and p (.and q (.and r (.p (0 ≤ a ∧ a ≤ b ∧ b ≤ (n : Int)))))) (sc (.im nl k (fun j => f (a.toNat + j)) (b.toNat - a.toNat)))
    | some ⟨.array n _, _, _⟩, some (p, .sc (.ptr t 0 0)), some (q, a), some (r, h) =>
      match getA s.heap t with
      | some (.own _ l false) =>
        match Nat.beq (segsLen l) n && Nat.ble n 65536 with
        | true =>
          match h with
          | none => s.one (.and p (.and q (.and r (.p (0 ≤ a ∧ a ≤ (n : Int)))))) (sc (.sl false (a == 0) false t 0 a.toNat (n - a.toNat) (n - a.toNat)))
          | some b => s.one (.and p (.and q (.and r (.p (0 ≤ a ∧ a ≤ b ∧ b ≤ (n : Int)))))) (sc (.sl false (a == 0) false t 0 a.toNat (b.toNat - a.toNat) (n - a.toNat)))
        | false => none
      | _ => none
    | some ⟨.str, _, _⟩, some (p, .sc (.str b)), some (q, a), some (r, h) =>
      match h with
      | none => s.one (.and p (.and q (.and r (.p (0 ≤ a ∧ a ≤ (b.size : Int)))))) (sc (.str (b.extract a.toNat b.size)))
      | some e => s.one (.and p (.and q (.and r (.p (0 ≤ a ∧ a ≤ e ∧ e ≤ (b.size : Int)))))) (sc (.str (b.extract a.toNat e.toNat)))
    | _, _, _, _ => none

def actAppend (T : TypeId → Option TyI) (s : St) (x y : Operand) (tx ty : TypeId) : Option Res :=
  match T tx, T ty, s.ev1 x, s.ev1 y with
  | some ⟨.slice e b (.ints k _ _), _, _⟩, some tyi, some (p, .sc (.sl nl ex z t o f n _)), some (q, src) =>
    match s.appDst nl ex z t o f n e k, s.appSrc k tyi src with
    | some (p', g, dl), some (q', h, m) =>
      s.newS (.and p (.and q (.and p' (.and q' (.p (n + m ≤ 9223372036854775807 ∧ (n + m) * b ≤ 140737488355328)))))) (nl && Nat.beq m 0) ex z (n + m) (n + m)
        (.gd (appG nl ex n m) (.own e [.ints k (put_ g n m h) (n + m)] true)) dl
    | _, _ => none
  | some ⟨.slice e b (.one _), _, _⟩, some ⟨.slice _ _ _, _, _⟩, some (p, .sc (.sl nl ex z t o f n _)), some (q, .sc src) =>
    match s.appDstO nl ex z t o f n e, s.srcO src with
    | some (p', l, dl), some (q', l', m) =>
      s.newS (.and p (.and q (.and p' (.and q' (.p (n + m ≤ 9223372036854775807 ∧ (n + m) * b ≤ 140737488355328)))))) (nl && Nat.beq m 0) ex z (n + m) (n + m)
        (.gd (appG nl ex n m) (.own e (joinS l l') true)) dl
    | _, _ => none
  | _, _, _, _ => none

/-- One operation, without its guard. -/
def act (T : TypeId → Option TyI) (C : FuncId → Option Summary) (s : St) (op : Oper) : Option Res :=
  match op.op with
  | .move x | .assign x => (s.ev x).bind fun v => s.one .tt v
  | .pick c a b =>
    match s.ev1 c, s.ev a, s.ev b with
    | some (p, .sc (.bool cb)), some (.sa (.sc (.bool x))), some (.sa (.sc (.bool y))) => s.one p (sc (.bool (cond cb x y)))
    | some (p, .sc (.bool cb)), some (.gd g (.sc (.bool x))), some (.sa (.sc (.bool y))) => s.one (.and p (.p (cb = true → g = true))) (sc (.bool (cond cb x y)))
    | some (p, .sc (.bool cb)), some (.sa (.sc (.bool x))), some (.gd g (.sc (.bool y))) => s.one (.and p (.p (cb = false → g = true))) (sc (.bool (cond cb x y)))
    | _, _, _ => none
  | .binOp bop xt x y _ => actBin T s bop xt x y
  | .unOp u _ x =>
    match u, s.ev1 x with
    | .not, some (p, .sc (.bool b)) => s.one p (sc (.bool (!b)))
    | .neg, some (p, .sc (.int k n)) => s.one p (sc (.int k (k.wrap (0 - n))))
    | .xor, some (p, .sc (.int k n)) => s.one p (sc (.int k (bits .xor k (if k.signed then -1 else k.max) n)))
    | _, _ => none
  | .convert src dst x =>
    match T dst, s.ev1 x with
    | some ⟨.int k, _, _⟩, some (p, .sc (.int _ n)) => match T src with | some _ => s.one p (sc (.int k (k.wrap n))) | none => none
    | some ⟨.str, _, _⟩, some (p, .sc v) => match T src with
      | some ⟨.slice _ _ (.ints .u8 _ _), _, _⟩ => (match s.src .u8 v with
        | some (q, g, n) => s.one (.and p q) (sc (.str (strI g n)))
        | none => none)
      | _ => none
    | some ⟨.slice _ 1 (.ints .u8 _ _), _, _⟩, some (p, .sc (.str b)) =>
      match T src with
      | some ⟨.str, _, _⟩ => s.newS (.and p (.p (b.size ≤ 9223372036854775807))) false true false b.size b.size (.ro .u8 (bytesI b) b.size) []
      | _ => none
    | some ⟨.slice _ 1 (.ints .u8 _ _), _, _⟩, some (p, .sc (.sl false true z t 0 0 n c)) =>
      match Nat.beq src dst, s.hp t with
      | true, some (q, .own _ [.ints .u8 g m] false) => s.wr (.and p q) (some (sc (.sl false true z t 0 0 n c))) [(t, .ro .u8 g m)]
      | _, _ => none
    | _, _ => none
  | .alloc t =>
    match T t with
    | some ⟨_, _, z⟩ => s.newP .tt (.own t z false)
    | none => none
  | .box t x =>
    match s.ev1 x with
    | some (p, .sc v) => s.newP p (.own t [.one v] false)
    | some (p, .agg l) => s.newP p (.own t l false)
    | _ => none
  | .build t parts =>
    match T t, evAll s parts.toList with
    | some ⟨.array n _, _, [.ints k _ _]⟩, some (p, l) => (partsI k l 0 []).bind fun xs => match Nat.ble xs.length n with | true => s.one p (.sa (.agg [.ints k (listI xs) n])) | false => none
    | some ⟨.struct fs, _, z⟩, some (p, l) => (partsS fs l z).bind fun r => s.one p (.sa (.agg r))
    | _, _ => none
  | .buildSlice t len parts =>
    match T t, evAll s parts.toList with
    | some ⟨.slice e _ (.ints k _ _), _, _⟩, some (p, l) =>
      (partsI k l 0 []).bind fun xs => match Nat.ble xs.length len && Nat.ble len 16777216 with | true => s.newS p false true true len len (.own e [.ints k (listI xs) len] false) [] | false => none
    | some ⟨.slice e _ (.one _), _, _⟩, some (p, l) =>
      match Nat.beq l.length len && Nat.ble len 16777216 with
      | true =>
        (partsO l 0).bind fun xs => s.newS p false true true len len (.own e xs false) []
      | false => none
    | _, _ => none
  | .makeSlice t x y =>
    match T t, s.ev1 x, s.ev1 y with
    | some ⟨.slice e b (.ints k _ _), _, _⟩, some (p, .sc (.int .i64 n)), some (q, .sc (.int .i64 c)) =>
      match Nat.ble 1 b with
      | true => s.newS (.and p (.and q (.p (0 ≤ n ∧ n ≤ c ∧ (b : Int) * c ≤ 140737488355328)))) false true false n.toNat c.toNat (.own e [.ints k (fun _ => 0) c.toNat] false) []
      | false => none
    | _, _, _ => none
  | .nilCheck x =>
    match s.ev1 x with
    | some (p, .sc (.ptr t o i)) => s.one p (sc (.ptr t o i))
    | some (p, .sc (.adr c)) => s.one p (sc (.adr c))
    | _ => none
  | .fieldAddr t x f =>
    match T t, s.ev1 x with
    | some ⟨.struct fs, _, _⟩, some (p, .sc (.ptr t o 0)) =>
      match fs[f]? with
      | some (off, _) => s.one p (sc (.ptr t (o + off) 0))
      | none => none
    | _, _ => none
  | .indexAddr t x i =>
    match T t, s.ev1 x, s.ev1 i with
    | some ⟨.slice _ _ _, _, _⟩, some (p, .sc (.sl _ _ _ t o f n _)), some (q, .sc (.int _ i)) => s.one (.and p (.and q (.p (0 ≤ i ∧ i < (n : Int))))) (sc (.ptr t o (f + i.toNat)))
    | some ⟨.slice _ _ _, _, _⟩, some (p, .sc (.im _ k f n)), some (q, .sc (.int _ i)) => s.one (.and p (.and q (.p (0 ≤ i ∧ i < (n : Int))))) (sc (.adr (.int k (f i.toNat))))
    | some ⟨.slice _ _ _, _, _⟩, some (p, .sc (.rows _ k r n)), some (q, .sc (.int _ i)) => s.one (.and p (.and q (.p (0 ≤ i ∧ i < (n : Int))))) (sc (.adr (.im (r i.toNat).nl k (r i.toNat).f (r i.toNat).n)))
    | some ⟨.array n _, _, _⟩, some (p, .sc (.ptr t o 0)), some (q, .sc (.int _ i)) => s.one (.and p (.and q (.p (0 ≤ i ∧ i < (n : Int))))) (sc (.ptr t o i.toNat))
    | _, _, _ => none
  | .index t x i =>
    match T t, s.ev1 x, s.ev1 i with
    | some ⟨.array m _, _, [.ints _ _ _]⟩, some (p, .agg [.ints k f n]), some (q, .sc (.int _ i)) => match Nat.beq n m with | true => s.one (.and p (.and q (.p (0 ≤ i ∧ i < (n : Int))))) (sc (.int k (f i.toNat))) | false => none
    | some ⟨.str, _, _⟩, some (p, .sc (.str b)), some (q, .sc (.int _ i)) => s.one (.and p (.and q (.p (0 ≤ i ∧ i < (b.size : Int))))) (sc (.int .u8 (bytesI b i.toNat)))
    | _, _, _ => none
  | .load ty x => actLoad T s ty x
  | .store ty x y => actStore T s ty x y
  | .slice t x lo hi mx => actSlice T s t x lo hi mx
  | .extract x i =>
    match s.ev x with
    | some (.tup l) => (l[i]?).bind fun v => s.one .tt (.sa v)
    | _ => none
  | .makeFunc fn x1 x2 =>
    match fn, x1.toList, x2.toList with
    | .func f, [], [x] =>
      match s.ev1 x with
      | some (p, .sc (.ptr t 0 0)) => s.one p (sc (.fn f t))
      | _ => none
    | _, _, _ => none
  | .call c =>
    match c.callee with
    | .builtin .len =>
      match c.args.toList, c.argTypes.toList with
      | [x], [t] =>
        match T t, s.ev1 x with
        | some ⟨.slice _ _ _, _, _⟩, some (p, .sc (.sl _ _ _ _ _ _ n _)) => s.one p (sc (.int .i64 n))
        | some ⟨.slice _ _ _, _, _⟩, some (p, .sc (.im _ _ _ n)) => s.one p (sc (.int .i64 n))
        | some ⟨.slice _ _ _, _, _⟩, some (p, .sc (.rows _ _ _ n)) => s.one p (sc (.int .i64 n))
        | some ⟨.str, _, _⟩, some (p, .sc (.str b)) => s.one p (sc (.int .i64 b.size))
        | _, _ => none
      | _, _ => none
    | .builtin .min =>
      match c.args.toList with
      | [x, y] =>
        match s.ev1 x, s.ev1 y with
        | some (p, .sc (.int k a)), some (q, .sc (.int _ b)) => s.one (.and p q) (sc (.int k (if b < a then b else a)))
        | _, _ => none
      | _ => none
    | .builtin .max =>
      match c.args.toList with
      | [x, y] =>
        match s.ev1 x, s.ev1 y with
        | some (p, .sc (.int k a)), some (q, .sc (.int _ b)) => s.one (.and p q) (sc (.int k (if b > a then b else a)))
        | _, _ => none
      | _ => none
    | .builtin .append =>
      match c.args.toList, c.argTypes.toList with
      | [x, y], [tx, ty] => actAppend T s x y tx ty
      | _, _ => none
    | .builtin .copy =>
      match c.args.toList, c.argTypes.toList with
      | [x, y], [tx, ty] =>
        match T tx, T ty, s.ev1 x, s.ev1 y with
        | some ⟨.slice _ _ _, _, _⟩, some ⟨.slice _ _ _, _, _⟩, some (p, .sc (.sl false _ _ t o f n _)), some (q, .sc src) =>
          match s.hp t with
          | some (u, .own bt l m) =>
            match segDrop l o with
            | some (.ints k g z :: _) =>
              match s.src k src with
              | some (r, h, n') =>
                (segSplice l o z [.ints k (put_ g f (min n' n) h) z]).bind fun l' =>
                  s.wr (.and p (.and q (.and u (.and r (.p (f + n ≤ z)))))) (some (sc (.int .i64 (min n' n : Nat)))) [(t, .own bt l' m)]
              | none => none
            | _ => none
          | _ => none
        | _, _, _, _ => none
      | _, _ => none
    | .value (.func f) =>
      match C f, evArgs s c.args.toList with
      | some S, some (p, l) => match S l s with
        | some ⟨rp, rv, rd, rn⟩ => some ⟨.and p rp, rv, rd, rn⟩
        | none => none
      | _, _ => none
    | .value x =>
      match s.ev1 x with
      | some (p, .sc (.fn f t)) =>
        match C f, evArgs s c.args.toList with
        | some S, some (q, l) => match S (l ++ [.sc (.ptr t 0 0)]) s with
          | some ⟨rp, rv, rd, rn⟩ => some ⟨.and p (.and q rp), rv, rd, rn⟩
          | none => none
        | _, _ => none
      | _ => none
    | _ => none
  | _ => none

def St.put (s : St) (d : Option Nat) (v : Option SV) : Option St :=
  match d, v with
  | none, _ => some s
  | some i, some v => match Nat.ble (i + 1) s.size with
    | true => match s with | ⟨sz, fr, hp, nx⟩ => some ⟨sz, (i, v) :: fr, hp, nx⟩
    | false => none
  | some _, none => none
/-- The Bool by which a guarded operation is carried out. -/
def St.guard (s : St) (ops : List Oper) (g : Nat × Bool) : Option Bool :=
  match (ops[g.1]?).bind (·.dst) with
  | none => none
  | some d =>
    match getA s.frame d with
    | some (.sa (.sc (.bool b))) => match g.2 with | true => some b | false => some (!b)
    | some (.gd h (.sc (.bool b))) => match g.2 with | true => some (h && b) | false => some (h && !b)
    | _ => none
def newOnly (hp : List (Nat × SB)) (n m : Nat) : List (Nat × SB) → Bool
  | [] => true
  | (t, b) :: r => (match Nat.ble n t && Nat.ble (t + 1) m with
    | true => true
    | false => match b, getA hp t with
      | .dead, some _ => true
      | _, _ => false) && newOnly hp n m r
def gdAll (g : Bool) : List (Nat × SB) → List (Nat × SB)
  | [] => []
  | (t, b) :: r => (t, .gd g b) :: gdAll g r

/-- A value that is there if b. -/
def gdR (b : Bool) : Option SV → Option SV
  | some (.sa v) => some (.gd b v)
  | some (.gd h v) => some (.gd (b && h) v)
  | _ => none
/-- One operation: its condition, the state behind it. -/
def St.step (T : TypeId → Option TyI) (C : FuncId → Option Summary) (ops : List Oper) (s : St) (op : Oper) : Option (Cd × St) :=
  match op.guard with
  | none =>
    match act T C s op with
    | some ⟨rp, rv, rd, rn⟩ =>
      match Nat.ble s.next rn with
      | true => match s.put op.dst rv with
        | some ⟨sz, fr, hp, _⟩ => catK rd hp fun hp' => some (rp, ⟨sz, fr, hp', rn⟩)
        | none => none
      | false => none
    | none => none
  | some g =>
    match s.guard ops g, act T C s op with
    | some b, some ⟨rp, rv, rd, rn⟩ =>
      match gdR b rv with
      | some v =>
        match newOnly s.heap s.next rn rd && (Nat.ble s.next rn && Nat.ble rn (s.next + 16)) with
        | true => match s.put op.dst (some v) with
          | some ⟨sz, fr, hp, _⟩ => catK (gdAll b rd) hp fun hp' => some (.imp b rp, ⟨sz, fr, hp', rn⟩)
          | none => none
        | false =>
          match Nat.ble s.next rn with
          | true => match s.put op.dst rv with
            | some ⟨sz, fr, hp, _⟩ => catK rd hp fun hp' => some (.and (.p (b = true)) rp, ⟨sz, fr, hp', rn⟩)
            | none => none
          | false => none
      | none => none
    | _, _ => none

/-- A list of operations, one behind the other. -/
def St.steps (T : TypeId → Option TyI) (C : FuncId → Option Summary) (ops : List Oper) : List Oper → St → (St → Prop) → Prop
  | [], s, K => K s
  | o :: r, s, K =>
    match s.step T C ops o with
    | some (p, s') => p.then (St.steps T C ops r s' K)
    | none => False

end Go.Sx

/- The symbolic evaluator: what its values and blocks say of the model's own. Definitions and lemmas on memory; no condition. -/
namespace Go.Sx
open Go.RowKit
set_option linter.unusedSimpArgs false
set_option linter.unusedVariables false

/-- Where a tag lies: its block, its first cell, the block's cells. -/
structure Pl where
  b : Nat
  f : Nat
  n : Nat
/-- Where the tags lie; the cells that nobody writes; the values that are handed on. -/
structure Rho where
  pl : Nat → Option Pl
  im : Addr → Option Value
  oq : Nat → Value
instance : CoeFun Rho (fun _ => Nat → Option Pl) := ⟨Rho.pl⟩

def RelRow (ρ : Rho) (k : IntKind) (r : Row) (v : Value) : Prop :=
  (r.nl = true ∧ v = .slice none 0 0 ∧ r.n = 0) ∨
  (r.nl = false ∧ ∃ A cap, v = .slice (some A) r.n cap ∧ r.n ≤ cap ∧ cap ≤ maxLen ∧ ∀ j, j < r.n → ρ.im (A.add j) = some (.int k (r.f j)))
def Rel1 (ρ : Rho) : SC → Value → Prop
  | .any, v => v.oneCell' = true
  | .int k n, v => v = .int k n
  | .bool b, v => v = .bool b
  | .str s, v => v = .string s
  | .nilp, v => v = .pointer none
  | .ptr t o i, v => ∃ pl, ρ t = some pl ∧ v = .pointer (some ⟨pl.b, pl.f + (o + i), none⟩)
  | .sl nl ex z t o i n c, v =>
    (nl = true ∧ v = .slice none 0 0 ∧ n = 0 ∧ c = 0) ∨
    (nl = false ∧ ∃ A cap, v = .slice (some A) n cap ∧ n ≤ c ∧ c ≤ cap ∧ cap ≤ maxLen ∧
      ((0 < n ∨ ex = true) → ∃ pl, ρ t = some pl ∧ A = ⟨pl.b, pl.f + (o + i), none⟩ ∧ pl.f + (o + i) + cap = pl.n) ∧ (z = true → n = 0 → cap = 0))
  | .im nl k f n, v => RelRow ρ k ⟨nl, f, n⟩ v
  | .rows nl k r n, v =>
    (nl = true ∧ v = .slice none 0 0 ∧ n = 0) ∨
    (nl = false ∧ ∃ A cap, v = .slice (some A) n cap ∧ n ≤ cap ∧ cap ≤ maxLen ∧ ∀ j, j < n → ∃ u, ρ.im (A.add j) = some u ∧ RelRow ρ k (r j) u)
  | .adr c, v => ∃ A u, v = .pointer (some A) ∧ ρ.im A = some u ∧ Rel1 ρ c u
  | .opq i, v => v = ρ.oq i ∧ v.oneCell' = true
  | .fn f t, v => ∃ pl, ρ t = some pl ∧ v = .func (.func f) #[] #[.pointer (some ⟨pl.b, pl.f, none⟩)]

def intsV (k : IntKind) (f : Nat → Int) (n : Nat) : List Value := (List.range n).map fun j => .int k (f j)
def RelS (ρ : Rho) : List Seg → List Value → Prop
  | [], vs => vs = []
  | .one c :: r, vs => ∃ v vs', vs = v :: vs' ∧ Rel1 ρ c v ∧ RelS ρ r vs'
  | .ints k f n :: r, vs => ∃ vs', vs = intsV k f n ++ vs' ∧ RelS ρ r vs'
  | .rows k g n :: r, vs => ∃ us vs', vs = us ++ vs' ∧ us.length = n ∧ (∀ j u, us[j]? = some u → RelRow ρ k (g j) u) ∧ RelS ρ r vs'
def RelA (ρ : Rho) : SA → Value → Prop
  | .sc c, v => Rel1 ρ c v
  | .agg l, v => ∃ vs, v = .agg vs.toArray ∧ RelS ρ l vs
def RelL (ρ : Rho) : List SA → List Value → Prop
  | [], vs => vs = []
  | a :: r, vs => ∃ v vs', vs = v :: vs' ∧ RelA ρ a v ∧ RelL ρ r vs'
def RelV (ρ : Rho) : SV → Value → Prop
  | .sa a, v => RelA ρ a v
  | .tup l, v => ∃ vs, v = .tuple vs.toArray ∧ RelL ρ l vs
  | .gd g a, v => (g = true → RelA ρ a v) ∧ (g = false → v = undef)

def Sat (ρ : Rho) (w : World) : SB → Nat → Prop
  | .own ty l more, t => ∃ pl vs post, ρ t = some pl ∧ pl.f = 0 ∧ w.heap[pl.b]? = some (.cells (vs ++ post).toArray ty (0, 0)) ∧ (vs ++ post).length = pl.n ∧ RelS ρ l vs ∧ (more = false → post = [])
  | .ro k f n, t => ∃ pl, ρ t = some pl ∧ ∀ j, j < n → w.cell? ⟨pl.b, pl.f + j, none⟩ = some (.int k (f j))
  | .dead, _ => True
  | .gd g b, t => g = true → Sat ρ w b t

structure Ext (ρ ρ' : Rho) : Prop where
  tag : ∀ t pl, ρ t = some pl → ρ' t = some pl
  im : ρ'.im = ρ.im
  oq : ρ'.oq = ρ.oq
instance {ρ ρ' : Rho} : CoeFun (Ext ρ ρ') (fun _ => ∀ t pl, ρ t = some pl → ρ' t = some pl) := ⟨Ext.tag⟩
theorem Ext.refl (ρ : Rho) : Ext ρ ρ := ⟨fun _ _ h => h, rfl, rfl⟩
theorem Ext.trans {a b c : Rho} (h : Ext a b) (k : Ext b c) : Ext a c := ⟨fun t pl e => k t pl (h t pl e), k.im.trans h.im, k.oq.trans h.oq⟩

section
variable {ρ ρ' : Rho}
theorem RelRow.ext (h : Ext ρ ρ') {k : IntKind} {r : Row} {v : Value} (hr : RelRow ρ k r v) : RelRow ρ' k r v := by
  unfold RelRow at hr ⊢
  rw [h.im]; exact hr
theorem Rel1.ext (h : Ext ρ ρ') : ∀ {c : SC} {v : Value}, Rel1 ρ c v → Rel1 ρ' c v
  | .any, _, r => r
  | .int _ _, _, r => r
  | .bool _, _, r => r
  | .str _, _, r => r
  | .nilp, _, r => r
  | .ptr _ _ _, _, ⟨pl, e, r⟩ => ⟨pl, h _ _ e, r⟩
  | .sl _ _ _ _ _ _ _ _, _, r => r.imp id fun ⟨a, A, cap, b, c, d, e, f, z⟩ => ⟨a, A, cap, b, c, d, e, fun g => let ⟨pl, x, y⟩ := f g; ⟨pl, h _ _ x, y⟩, z⟩
  | .im _ _ _ _, _, r => RelRow.ext h r
  | .rows _ _ _ _, _, r => r.imp id fun ⟨a, A, cap, b, c, d, e⟩ => ⟨a, A, cap, b, c, d, fun j hj => let ⟨u, x, y⟩ := e j hj; ⟨u, by rw [h.im]; exact x, y.ext h⟩⟩
  | .adr c, _, ⟨A, u, a, b, d⟩ => ⟨A, u, a, by rw [h.im]; exact b, Rel1.ext h (c := c) d⟩
  | .opq _, _, r => by simp only [Rel1] at r ⊢; rw [h.oq]; exact r
  | .fn _ _, _, ⟨pl, e, r⟩ => ⟨pl, h _ _ e, r⟩
theorem RelS.ext (h : Ext ρ ρ') : ∀ {l : List Seg} {vs : List Value}, RelS ρ l vs → RelS ρ' l vs
  | [], _, r => r
  | .one _ :: _, _, ⟨v, vs', a, b, c⟩ => ⟨v, vs', a, b.ext h, c.ext h⟩
  | .ints _ _ _ :: _, _, ⟨vs', a, b⟩ => ⟨vs', a, b.ext h⟩
  | .rows _ _ _ :: _, _, ⟨us, vs', a, b, c, d⟩ => ⟨us, vs', a, b, fun j u hj => (c j u hj).ext h, d.ext h⟩
theorem RelA.ext (h : Ext ρ ρ') : ∀ {a : SA} {v : Value}, RelA ρ a v → RelA ρ' a v
  | .sc _, _, r => Rel1.ext h r
  | .agg _, _, ⟨vs, a, b⟩ => ⟨vs, a, b.ext h⟩
theorem RelL.ext (h : Ext ρ ρ') : ∀ {l : List SA} {vs : List Value}, RelL ρ l vs → RelL ρ' l vs
  | [], _, r => r
  | _ :: _, _, ⟨v, vs', a, b, c⟩ => ⟨v, vs', a, b.ext h, c.ext h⟩
theorem RelV.ext (h : Ext ρ ρ') : ∀ {a : SV} {v : Value}, RelV ρ a v → RelV ρ' a v
  | .sa _, _, r => RelA.ext h r
  | .tup _, _, ⟨vs, a, b⟩ => ⟨vs, a, b.ext h⟩
  | .gd _ _, _, r => ⟨fun g => RelA.ext h (r.1 g), r.2⟩

theorem RelRow.one {k : IntKind} {r : Row} {v : Value} (h : RelRow ρ k r v) : v.oneCell' = true := by
  rcases h with ⟨_, rfl, _⟩ | ⟨_, _, _, rfl, _⟩ <;> rfl
theorem Rel1.one {c : SC} {v : Value} (r : Rel1 ρ c v) (hf : ∀ f t, c ≠ .fn f t) : v.oneCell' = true := by
  cases c <;> simp only [Rel1] at r
  case any => exact r
  case ptr => obtain ⟨_, _, rfl⟩ := r; rfl
  case sl => rcases r with ⟨_, rfl, _⟩ | ⟨_, _, _, rfl, _⟩ <;> rfl
  case im => exact r.one
  case rows => rcases r with ⟨_, rfl, _⟩ | ⟨_, _, _, rfl, _⟩ <;> rfl
  case adr => obtain ⟨_, _, rfl, _⟩ := r; rfl
  case opq => exact r.2
  case fn f t => exact absurd rfl (hf f t)
  all_goals (subst r; rfl)

theorem relS_append : ∀ {l l' : List Seg} {vs : List Value}, RelS ρ (l ++ l') vs ↔ ∃ a b, vs = a ++ b ∧ RelS ρ l a ∧ RelS ρ l' b
  | [], l', vs => ⟨fun h => ⟨[], vs, rfl, rfl, h⟩, fun ⟨a, b, e, ha, hb⟩ => by simp only [RelS] at ha; subst ha; simp at e; subst e; exact hb⟩
  | .one c :: r, l', vs => by
    simp only [List.cons_append, RelS]
    constructor
    · rintro ⟨v, vs', rfl, h1, h2⟩
      obtain ⟨a, b, rfl, ha, hb⟩ := relS_append.1 h2
      exact ⟨v :: a, b, rfl, ⟨v, a, rfl, h1, ha⟩, hb⟩
    · rintro ⟨a, b, rfl, ⟨v, a', rfl, h1, ha⟩, hb⟩
      exact ⟨v, a' ++ b, rfl, h1, relS_append.2 ⟨a', b, rfl, ha, hb⟩⟩
  | .ints k f n :: r, l', vs => by
    simp only [List.cons_append, RelS]
    constructor
    · rintro ⟨vs', rfl, h2⟩
      obtain ⟨a, b, rfl, ha, hb⟩ := relS_append.1 h2
      exact ⟨intsV k f n ++ a, b, by simp, ⟨a, rfl, ha⟩, hb⟩
    · rintro ⟨a, b, rfl, ⟨a', rfl, ha⟩, hb⟩
      exact ⟨a' ++ b, by simp, relS_append.2 ⟨a', b, rfl, ha, hb⟩⟩
  | .rows k f n :: r, l', vs => by
    simp only [List.cons_append, RelS]
    constructor
    · rintro ⟨us, vs', rfl, h0, h1, h2⟩
      obtain ⟨a, b, rfl, ha, hb⟩ := relS_append.1 h2
      exact ⟨us ++ a, b, by simp, ⟨us, a, rfl, h0, h1, ha⟩, hb⟩
    · rintro ⟨a, b, rfl, ⟨us, a', rfl, h0, h1, ha⟩, hb⟩
      exact ⟨us, a' ++ b, by simp, h0, h1, relS_append.2 ⟨a', b, rfl, ha, hb⟩⟩
theorem intsV_length (k : IntKind) (f : Nat → Int) (n : Nat) : (intsV k f n).length = n := by simp [intsV]
theorem intsV_get (k : IntKind) (f : Nat → Int) (n j : Nat) (h : j < n) : (intsV k f n)[j]? = some (.int k (f j)) := by simp [intsV, h]
theorem relS_len : ∀ {l : List Seg} {vs : List Value}, RelS ρ l vs → vs.length = segsLen l
  | [], _, h => by simp only [RelS] at h; subst h; rfl
  | .one c :: r, _, ⟨v, vs', e, _, h⟩ => by subst e; have := relS_len h; simp only [List.length_cons, segsLen, Seg.len]; omega
  | .ints k f n :: r, _, ⟨vs', e, h⟩ => by subst e; have := relS_len h; simp only [List.length_append, intsV_length, segsLen, Seg.len]; omega
  | .rows k f n :: r, _, ⟨us, vs', e, hl, _, h⟩ => by subst e; have := relS_len h; simp only [List.length_append, hl, segsLen, Seg.len]; omega
end

theorem segsLen_append (a b : List Seg) : segsLen (a ++ b) = segsLen a + segsLen b := by
  induction a with
  | nil => simp [segsLen]
  | cons g r ih => simp only [List.cons_append, segsLen, ih]; omega
theorem segDrop_spec : ∀ {l : List Seg} {o : Nat} {r : List Seg}, segDrop l o = some r → ∃ a, l = a ++ r ∧ segsLen a = o
  | [], o, r, h => by
    simp only [segDrop] at h
    split at h
    · rename_i e; simp only [Nat.beq_eq] at e; subst e; injection h with h; subst h; exact ⟨[], rfl, rfl⟩
    · cases h
  | g :: l, o, r, h => by
    simp only [segDrop] at h
    split at h
    · rename_i e; simp only [Nat.beq_eq] at e; subst e; injection h with h; subst h; exact ⟨[], rfl, rfl⟩
    · split at h
      · rename_i e
        have := Nat.le_of_ble_eq_true e
        obtain ⟨a, rfl, ha⟩ := segDrop_spec h
        exact ⟨g :: a, rfl, by simp only [segsLen]; omega⟩
      · cases h
theorem segTake_spec : ∀ {l : List Seg} {o : Nat} {r : List Seg}, segTake l o = some r → ∃ b, l = r ++ b ∧ segsLen r = o
  | [], o, r, h => by
    simp only [segTake] at h
    split at h
    · rename_i e; simp only [Nat.beq_eq] at e; subst e; injection h with h; subst h; exact ⟨[], rfl, rfl⟩
    · cases h
  | g :: l, o, r, h => by
    simp only [segTake] at h
    split at h
    · rename_i e; simp only [Nat.beq_eq] at e; subst e; injection h with h; subst h; exact ⟨g :: l, rfl, rfl⟩
    · split at h
      · rename_i e
        have := Nat.le_of_ble_eq_true e
        split at h
        · rename_i r' h'
          injection h with h
          subst h
          obtain ⟨b, rfl, hb⟩ := segTake_spec h'
          exact ⟨b, rfl, by simp only [segsLen]; omega⟩
        · cases h
      · cases h
/-- Two parts of one list of stretches that are of one length are one. -/
theorem app_inj {a b c d : List Seg} (h : a ++ b = c ++ d) (hl : a.length = c.length) : a = c ∧ b = d := List.append_inj h hl

/-- A splice: what stood, part by part. -/
theorem segSplice_spec {ρ : Rho} {l new l' : List Seg} {o m : Nat} (h : segSplice l o m new = some l') {vs : List Value} (hv : RelS ρ l vs) :
    ∃ a x b, vs = a ++ (x ++ b) ∧ a.length = o ∧ x.length = m ∧ ∀ y, RelS ρ new y → RelS ρ l' (a ++ (y ++ b)) := by
  unfold segSplice at h
  split at h
  · rename_i la lb h1 h2
    split at h
    rotate_left
    · cases h
    rename_i lc h3
    simp only [catK_eq] at h
    injection h with h
    subst h
    obtain ⟨b1, e1, n1⟩ := segTake_spec h1
    obtain ⟨a2, e2, n2⟩ := segDrop_spec h2
    obtain ⟨a3, e3, n3⟩ := segDrop_spec h3
    have hv1 := hv
    rw [e1] at hv1
    obtain ⟨va, vb, rfl, ra, rb⟩ := relS_append.1 hv1
    rw [e2, e3] at hv
    obtain ⟨va2, vb2, e4, ra2, rb2⟩ := relS_append.1 hv
    obtain ⟨vx, vc, rfl, rx, rc⟩ := relS_append.1 rb2
    have hla : va.length = o := (relS_len ra).trans n1
    have hla2 : va2.length = o := (relS_len ra2).trans n2
    obtain ⟨rfl, rfl⟩ := List.append_inj e4 (hla.trans hla2.symm)
    exact ⟨va, vx, vc, rfl, hla, (relS_len rx).trans n3, fun y hy => relS_append.2 ⟨va, y ++ vc, rfl, ra, relS_append.2 ⟨y, vc, rfl, hy, rc⟩⟩⟩
  · cases h

section
variable {ρ ρ' : Rho} {w w' : World}
theorem Sat.ext (h : Ext ρ ρ') : ∀ {b : SB} {t : Nat}, Sat ρ w b t → Sat ρ' w b t
  | .own _ _ _, _, ⟨pl, vs, post, a, b, c, d, e, f⟩ => ⟨pl, vs, post, h _ _ a, b, c, d, e.ext h, f⟩
  | .ro _ _ _, _, ⟨pl, a, b⟩ => ⟨pl, h _ _ a, b⟩
  | .dead, _, _ => trivial
  | .gd _ _, _, r => fun g => Sat.ext h (r g)
/-- What stands in a block that has not turned. -/
theorem Sat.keep : ∀ {b : SB} {t : Nat}, (∀ pl, ρ t = some pl → w'.heap[pl.b]? = w.heap[pl.b]?) → Sat ρ w b t → Sat ρ w' b t
  | .own _ _ _, _, k, ⟨pl, vs, post, a, b, c, d, e, f⟩ => ⟨pl, vs, post, a, b, (k pl a).trans c, d, e, f⟩
  | .ro _ _ _, _, k, ⟨pl, a, b⟩ => ⟨pl, a, fun j hj => (World.cell?_of_block (a := ⟨pl.b, pl.f + j, none⟩) (k pl a)).trans (b j hj)⟩
  | .dead, _, _, _ => trivial
  | .gd _ _, _, k, r => fun g => Sat.keep k (r g)
end

theorem block_lt {w : World} {A : Addr} {v : Value} (h : w.cell? A = some v) : A.block < w.heap.size := by
  unfold World.cell? at h
  cases hq : w.heap[A.block]? with
  | none => rw [hq] at h; cases h
  | some o => exact (Array.getElem?_eq_some_iff.1 hq).1

/-- What a call may turn: the world behind it. -/
structure Chg (W : Nat → Prop) (w w' : World) : Prop where
  os : w'.os = w.os
  tape : w'.tape = w.tape
  output : w'.output = w.output
  size : w.heap.size ≤ w'.heap.size
  block : ∀ i, i < w.heap.size → ¬ W i → w'.heap[i]? = w.heap[i]?
theorem Chg.refl (W : Nat → Prop) (w : World) : Chg W w w := ⟨rfl, rfl, rfl, Nat.le_refl _, fun _ _ _ => rfl⟩
theorem Chg.trans {W : Nat → Prop} {a b c : World} (h : Chg W a b) (k : Chg W b c) : Chg W a c :=
  ⟨k.os.trans h.os, k.tape.trans h.tape, k.output.trans h.output, Nat.le_trans h.size k.size, fun i hi hn => (k.block i (Nat.lt_of_lt_of_le hi h.size) hn).trans (h.block i hi hn)⟩
theorem Chg.trans' {W : Nat → Prop} {a b c : World} (h : Chg W a b) (k : c.os = b.os ∧ c.tape = b.tape ∧ c.output = b.output ∧ b.heap.size ≤ c.heap.size) (kb : ∀ i, i < a.heap.size → ¬ W i → c.heap[i]? = b.heap[i]?) : Chg W a c :=
  ⟨k.1.trans h.os, k.2.1.trans h.tape, k.2.2.1.trans h.output, Nat.le_trans h.size k.2.2.2, fun i hi hn => (kb i hi hn).trans (h.block i hi hn)⟩
theorem Chg.mono {W W' : Nat → Prop} {a b : World} (h : Chg W a b) (hW : ∀ i, i < a.heap.size → W i → W' i) : Chg W' a b :=
  ⟨h.os, h.tape, h.output, h.size, fun i hi hn => h.block i hi (fun x => hn (hW i hi x))⟩

def SB.isOwn : SB → Bool
  | .own _ _ _ => true
  | .gd _ b => b.isOwn
  | _ => false
def SB.live : SB → Bool
  | .dead => false
  | .gd _ b => b.live
  | _ => true
theorem SB.live_of_own : ∀ {b : SB}, b.isOwn = true → b.live = true
  | .own _ _ _, _ => rfl
  | .gd _ b, h => SB.live_of_own (b := b) h

/-- What is fixed while a function runs: the caller's blocks that it may write; where its first tags lie. -/
structure Env where
  wr : Nat → Prop
  base : Rho
  lim : Nat

/-- The state of the evaluator speaks of the frame and the world; F: the tags in use. -/
structure R (W : Env) (w0 : World) (F : Nat → Prop) (ρ : Rho) (s : St) (a : Act) (w : World) : Prop where
  size : a.tmps.size = s.size
  defers : a.defers = []
  frame : ∀ i v, getA s.frame i = some v → RelV ρ v (a.tmps.getD i undef)
  heap : ∀ t b, getA s.heap t = some b → Sat ρ w b t
  dom : ∀ t pl, ρ t = some pl → F t ∧ pl.b < w.heap.size
  inj : ∀ t t' b b', t ≠ t' → getA s.heap t = some b → getA s.heap t' = some b' → b.isOwn = true → b'.live = true → ∀ pl pl', ρ t = some pl → ρ t' = some pl' → pl.b ≠ pl'.b
  mine : ∀ t b pl, getA s.heap t = some b → b.isOwn = true → ρ t = some pl → w0.heap.size ≤ pl.b ∨ W.wr pl.b
  tags : ∀ t b, getA s.heap t = some b → F t
  chg : Chg W.wr w0 w
  free : ∀ t, s.next ≤ t → t < s.next + 16 → ¬ F t
  base : ∀ t, t < W.lim → F t ∧ ρ t = W.base t
  imm : ∀ A v, ρ.im A = some v → w.cell? A = some v
  isep : ∀ t b pl, getA s.heap t = some b → b.isOwn = true → ρ t = some pl → ∀ A : Addr, A.block = pl.b → ρ.im A = none
  same : ρ.im = W.base.im ∧ ρ.oq = W.base.oq

/-- What an operation does to memory: the blocks d; its new tags lie from next to next'. -/
structure Eff (ρ ρ' : Rho) (hp : List (Nat × SB)) (next : Nat) (d : List (Nat × SB)) (next' : Nat) (w w' : World) : Prop where
  ext : Ext ρ ρ'
  le : next ≤ next'
  top : next' ≤ next + 16
  size : w.heap.size ≤ w'.heap.size
  os : w'.os = w.os
  tape : w'.tape = w.tape
  output : w'.output = w.output
  /-- a new tag's block is new, or that of an own block that died -/
  new : ∀ t pl, ρ' t = some pl → ρ t = some pl ∨ (next ≤ t ∧ t < next' ∧ pl.b < w'.heap.size ∧ (∀ b, getA d t = some b → b.live = true → w.heap.size ≤ pl.b ∨ ∃ t0 b0 pl0, getA d t0 = some .dead ∧ getA hp t0 = some b0 ∧ b0.isOwn = true ∧ ρ t0 = some pl0 ∧ pl0.b = pl.b))
  sat : ∀ t b, getA d t = some b → Sat ρ' w' b t
  /-- an old tag is written if it was own -/
  old : ∀ t b, getA d t = some b → (next ≤ t ∧ t < next') ∨ ∃ b0, getA hp t = some b0 ∧ b0.isOwn = true
  /-- what has not been written stands -/
  block : ∀ i, i < w.heap.size → (∀ t b pl, getA d t = some b → ρ t = some pl → pl.b ≠ i) → w'.heap[i]? = w.heap[i]?
  inj : ∀ t t' b b', t ≠ t' → next ≤ t → t < next' → next ≤ t' → t' < next' → getA d t = some b → getA d t' = some b' → b.isOwn = true → b'.live = true → ∀ pl pl', ρ' t = some pl → ρ' t' = some pl' → pl.b ≠ pl'.b

theorem getA_append {α : Type} : ∀ (d h : List (Nat × α)) (t : Nat), getA (d ++ h) t = match getA d t with | some b => some b | none => getA h t
  | [], h, t => rfl
  | (j, v) :: r, h, t => by
    simp only [List.cons_append, getA]
    split
    · rfl
    · exact getA_append r h t

theorem Sat.of_dead {ρ : Rho} {w : World} : ∀ {b : SB} {t : Nat}, b.live = false → Sat ρ w b t
  | .dead, _, _ => trivial
  | .gd _ b, t, h => fun _ => Sat.of_dead (b := b) h
  | .own _ _ _, _, h => by cases h
  | .ro _ _ _, _, h => by cases h

/-- The tags in use behind an operation. -/
def used (F : Nat → Prop) (next next' : Nat) (t : Nat) : Prop := F t ∨ (next ≤ t ∧ t < next')

theorem R.eff {W : Env} {w0 w w' : World} {F : Nat → Prop} {ρ ρ' : Rho} {s : St} {a : Act} {d : List (Nat × SB)} {n next' next'' : Nat} (h : R W w0 F ρ s a w) (e : Eff ρ ρ' s.heap n d next' w w')
    (hn : ∀ t, n ≤ t → t < n + 16 → ¬ F t) (hfree : ∀ t, next'' ≤ t → t < next'' + 16 → ¬ used F n next' t) :
    R W w0 (used F n next') ρ' { s with heap := d ++ s.heap, next := next'' } a w' := by
  have notNew : ∀ t, F t → ¬ (n ≤ t ∧ t < next') := fun t hF ⟨h1, h2⟩ => hn t h1 (Nat.lt_of_lt_of_le h2 e.top) hF
  -- of an old tag in d ++ heap: it was own, it was live, before
  have wasOwn : ∀ t b, getA (d ++ s.heap) t = some b → F t → b.isOwn = true → ∃ b0, getA s.heap t = some b0 ∧ b0.isOwn = true := by
    intro t b hb ht ho
    rw [getA_append] at hb
    cases hd : getA d t with
    | none => rw [hd] at hb; exact ⟨b, hb, ho⟩
    | some b1 => exact (e.old t b1 hd).resolve_left (notNew t ht)
  have wasLive : ∀ t b, getA (d ++ s.heap) t = some b → F t → b.live = true → ∃ b0, getA s.heap t = some b0 ∧ b0.live = true := by
    intro t b hb ht ho
    rw [getA_append] at hb
    cases hd : getA d t with
    | none => rw [hd] at hb; exact ⟨b, hb, ho⟩
    | some b1 => obtain ⟨b0, h0, h1⟩ := (e.old t b1 hd).resolve_left (notNew t ht); exact ⟨b0, h0, SB.live_of_own h1⟩
  have oldPl : ∀ t pl, ρ' t = some pl → F t → ρ t = some pl := by
    intro t pl hp ht
    rcases e.new t pl hp with h1 | ⟨h1, h2, _⟩
    · exact h1
    · exact absurd ⟨h1, h2⟩ (notNew t ht)
  have isUsed : ∀ t b, getA (d ++ s.heap) t = some b → F t ∨ (¬ F t ∧ n ≤ t ∧ t < next' ∧ getA d t = some b) := by
    intro t b hb
    rw [getA_append] at hb
    cases hd : getA d t with
    | none => rw [hd] at hb; exact .inl (h.tags t b hb)
    | some b1 =>
      rw [hd] at hb
      injection hb with hb
      subst hb
      rcases e.old t b1 hd with h1 | ⟨b0, h0, _⟩
      · exact .inr ⟨fun hF => notNew t hF h1, h1.1, h1.2, rfl⟩
      · exact .inl (h.tags t b0 h0)
  have newPl : ∀ t pl, ρ' t = some pl → ¬ F t → ∀ b, getA d t = some b → b.live = true → w.heap.size ≤ pl.b ∨ ∃ t0 b0 pl0, getA d t0 = some .dead ∧ getA s.heap t0 = some b0 ∧ b0.isOwn = true ∧ ρ t0 = some pl0 ∧ pl0.b = pl.b := by
    intro t pl hp ht b hb hl
    rcases e.new t pl hp with h1 | ⟨_, _, _, h1⟩
    · exact absurd (h.dom t pl h1).1 ht
    · exact h1 b hb hl
  have notDead : ∀ t b t0, getA (d ++ s.heap) t = some b → b.live = true → getA d t0 = some .dead → t ≠ t0 := by
    rintro t b t0 hb hl h0 rfl
    rw [getA_append, h0] at hb
    injection hb with hb
    subst hb
    cases hl
  refine ⟨h.size, h.defers, fun i v hv => (h.frame i v hv).ext e.ext, ?_, ?_, ?_, ?_, ?_, ?_, hfree, fun t ht => ⟨.inl (h.base t ht).1, ?_⟩, ?_, ?_, ⟨e.ext.im.trans h.same.1, e.ext.oq.trans h.same.2⟩⟩
  · intro t b hb
    have hb' := hb
    rw [getA_append] at hb
    cases hd : getA d t with
    | some b1 => rw [hd] at hb; injection hb with hb; subst hb; exact e.sat t b1 hd
    | none =>
      rw [hd] at hb
      cases hl : b.live with
      | false => exact Sat.of_dead hl
      | true =>
        refine (Sat.keep (fun pl hp => ?_) (h.heap t b hb)).ext e.ext
        refine e.block _ (h.dom t pl hp).2 (fun t1 b1 pl1 h1 hp1 => ?_)
        obtain ⟨b0, h0, ho⟩ := (e.old t1 b1 h1).resolve_left (notNew t1 (h.dom t1 pl1 hp1).1)
        refine h.inj t1 t b0 b ?_ h0 hb ho hl pl1 pl hp1 hp
        rintro rfl
        rw [hd] at h1; cases h1
  · intro t pl hp
    rcases e.new t pl hp with h1 | ⟨h0, h1, h2, _⟩
    · have := h.dom t pl h1
      exact ⟨.inl this.1, Nat.lt_of_lt_of_le this.2 e.size⟩
    · exact ⟨.inr ⟨h0, h1⟩, h2⟩
  · intro t t' b b' hne hb hb' ho hl pl pl' hp hp'
    rcases isUsed t b hb with ht | ⟨ht, r1, r2, r3⟩ <;> rcases isUsed t' b' hb' with ht' | ⟨ht', r1', r2', r3'⟩
    · obtain ⟨b0, h0, ho0⟩ := wasOwn t b hb ht ho
      obtain ⟨b0', h0', hl0⟩ := wasLive t' b' hb' ht' hl
      exact h.inj t t' b0 b0' hne h0 h0' ho0 hl0 pl pl' (oldPl t pl hp ht) (oldPl t' pl' hp' ht')
    · have hp0 := oldPl t pl hp ht
      rcases newPl t' pl' hp' ht' b' r3' hl with h1 | ⟨t0, b0, pl0, h1, h2, h3, h4, h5⟩
      · have := (h.dom t pl hp0).2; omega
      · obtain ⟨b1, g1, go1⟩ := wasOwn t b hb ht ho
        rw [← h5]
        exact h.inj t t0 b1 b0 (notDead t b t0 hb (SB.live_of_own ho) h1) g1 h2 go1 (SB.live_of_own h3) pl pl0 hp0 h4
    · have hp0 := oldPl t' pl' hp' ht'
      rcases newPl t pl hp ht b r3 (SB.live_of_own ho) with h1 | ⟨t0, b0, pl0, h1, h2, h3, h4, h5⟩
      · have := (h.dom t' pl' hp0).2; omega
      · obtain ⟨b1, g1, go1⟩ := wasLive t' b' hb' ht' hl
        rw [← h5]
        exact h.inj t0 t' b0 b1 (Ne.symm (notDead t' b' t0 hb' hl h1)) h2 g1 h3 go1 pl0 pl' h4 hp0
    · exact e.inj t t' b b' hne r1 r2 r1' r2' r3 r3' ho hl pl pl' hp hp'
  · intro t b pl hb ho hp
    rcases isUsed t b hb with ht | ⟨ht, r1, r2, r3⟩
    · obtain ⟨b0, h0, ho0⟩ := wasOwn t b hb ht ho
      exact h.mine t b0 pl h0 ho0 (oldPl t pl hp ht)
    · rcases newPl t pl hp ht b r3 (SB.live_of_own ho) with h1 | ⟨t0, b0, pl0, h1, h2, h3, h4, h5⟩
      · exact .inl (Nat.le_trans h.chg.size h1)
      · rw [← h5]; exact h.mine t0 b0 pl0 h2 h3 h4
  · intro t b hb
    rcases isUsed t b hb with ht | ⟨_, r1, r2, _⟩
    · exact .inl ht
    · exact .inr ⟨r1, r2⟩
  · refine h.chg.trans' ⟨e.os, e.tape, e.output, e.size⟩ (fun i hi hn' => e.block i (Nat.lt_of_lt_of_le hi h.chg.size) (fun t b pl hb hp => ?_))
    obtain ⟨b0, h0, ho⟩ := (e.old t b hb).resolve_left (notNew t (h.dom t pl hp).1)
    rcases h.mine t b0 pl h0 ho hp with h1 | h1
    · omega
    · rintro rfl; exact hn' h1
  · obtain ⟨hF, hb⟩ := h.base t ht
    cases hq : ρ t with
    | some pl => rw [e.ext t pl hq, ← hb, hq]
    | none =>
      cases hq' : ρ' t with
      | none => rw [← hb, hq]
      | some pl =>
        rcases e.new t pl hq' with h1 | ⟨h1, h2, _⟩
        · rw [hq] at h1; cases h1
        · exact absurd ⟨h1, h2⟩ (notNew t hF)
  · intro A v hv
    rw [e.ext.im] at hv
    have hc := h.imm A v hv
    rw [← hc]
    refine World.cell?_of_block (e.block _ (block_lt hc) fun t b pl hb hp hpl => ?_)
    obtain ⟨b0, h0, ho⟩ := (e.old t b hb).resolve_left (notNew t (h.dom t pl hp).1)
    rw [h.isep t b0 pl h0 ho hp A hpl.symm] at hv
    cases hv
  · intro t b pl hb ho hp A hA
    rw [e.ext.im]
    rcases isUsed t b hb with ht | ⟨ht, r1, r2, r3⟩
    · obtain ⟨b0, h0, ho0⟩ := wasOwn t b hb ht ho
      exact h.isep t b0 pl h0 ho0 (oldPl t pl hp ht) A hA
    · rcases newPl t pl hp ht b r3 (SB.live_of_own ho) with h1 | ⟨t0, b0, pl0, h1, h2, h3, h4, h5⟩
      · cases hi : ρ.im A with
        | none => rfl
        | some v => have := block_lt (h.imm A v hi); omega
      · exact h.isep t0 b0 pl0 h2 h3 h4 A (hA.trans h5.symm)

/-- One frame entry more. -/
theorem Act.getD_put {a : Act} {i j : Nat} {v : Value} (hi : i < a.tmps.size) : (a.put (some i) v).tmps.getD j undef = if i = j then v else a.tmps.getD j undef := by
  simp only [Act.put, Array.getD_eq_getD_getElem?, Array.getElem?_setIfInBounds]
  by_cases h : i = j
  · subst h; simp [hi]
  · rw [if_neg h, if_neg h]

end Go.Sx

/- The symbolic evaluator: its operations are the model's (the simple ones). Plain lemmas, no condition. -/
namespace Go.Sx
open Go.RowKit
set_option linter.unusedSimpArgs false
set_option linter.unusedVariables false

/-- What the table of types must say. -/
def TyD.ok (P : Program) (t : TypeId) (zero : List Seg) (size : Nat) : TyD → Prop
  | .int k => P.underlying t = some (.int k)
  | .bool => P.underlying t = some .bool
  | .str => P.underlying t = some .string
  | .slice e bytes z => P.underlying t = some (.slice e) ∧ ∃ ie ze, P.info? e = some ie ∧ ie.size = 1 ∧ ie.bytes = bytes ∧ ie.zero = some ze ∧ ze.oneCell' = true ∧
      (match z with | .ints k _ _ => ze = .int k 0 ∧ P.underlying e = some (.int k) | .one c => (∀ ρ, Rel1 ρ c ze) | .rows _ _ _ => False)
  | .array n e => P.underlying t = some (.array n e) ∧ (∃ ie, P.info? e = some ie ∧ ie.size = 1) ∧ P.eqGuardType P.depth t = false ∧ (∀ k f m, zero = [.ints k f m] → P.underlying e = some (.int k) ∧ m = n ∧ ∀ j, f j = 0) ∧ size = n
  | .struct fs => ∃ F, P.underlying t = some (.struct F) ∧ F.size = fs.length ∧ ∀ (i : Nat) x, fs[i]? = some x → ∃ f, F[i]? = some f ∧ f.offset = x.1 ∧ ∃ jf, P.info? f.type = some jf ∧ jf.size = x.2 ∧ jf.size ≠ 0
  | .ptr => ∃ e, P.underlying t = some (.pointer e)
def TOk (P : Program) (T : TypeId → Option TyI) : Prop :=
  ∀ t ti, T t = some ti → ti.d.ok P t ti.zero ti.size ∧ ∃ i z, P.info? t = some i ∧ i.size = ti.size ∧ i.zero = some z ∧ ∀ ρ, RelS ρ ti.zero z.cells.toList

section
variable {P : Program} {W : Env} {w0 w : World} {F : Nat → Prop} {ρ : Rho} {s : St} {a : Act} {op : Oper}

/-- The operation does what r says. -/
def Ok (P : Program) (ρ : Rho) (s : St) (a : Act) (w : World) (op : Oper) (r : Res) : Prop :=
  ∀ (K : Act → World → Prop) (Q : Exit → Act → World → Prop),
    (∀ v w' ρ', Eff ρ ρ' s.heap s.next r.d r.next w w' → (∀ sv, r.v = some sv → RelV ρ' sv v) → K (a.put op.dst v) w') → op.wp P a w K Q

theorem Eff.refl (ρ : Rho) (hp : List (Nat × SB)) (next : Nat) (w : World) : Eff ρ ρ hp next [] next w w :=
  ⟨Ext.refl _, Nat.le_refl _, by omega, Nat.le_refl _, rfl, rfl, rfl, fun _ _ h => .inl h, fun _ _ h => (by cases h), fun _ _ h => (by cases h), fun _ _ _ => rfl, fun _ _ _ _ _ _ _ _ _ h => (by cases h)⟩

/-- It only reads. -/
theorem ok_pure {p : Cd} {sv : SV} {v : Value} (hr : (execOp a.eval op).run P w = .ok (.value v) w) (hv : RelV ρ sv v) : Ok P ρ s a w op ⟨p, some sv, [], s.next⟩ := by
  intro K Q hK
  unfold Oper.wp
  rw [hr]
  exact hK v w ρ (Eff.refl _ _ _ _) (fun sv' h => by injection h with h; subst h; exact hv)

def Rho.set (ρ : Rho) (t : Nat) (pl : Pl) : Rho := { ρ with pl := fun u => if u = t then some pl else ρ u }
theorem Rho.set_ext {t : Nat} {pl : Pl} (h : ρ t = none) : Ext ρ (ρ.set t pl) := ⟨fun u p hu => by
  simp only [Rho.set]
  split
  · rename_i e; subst e; rw [h] at hu; cases hu
  · exact hu, rfl, rfl⟩
theorem Rho.set_same {t : Nat} {pl : Pl} : ρ.set t pl t = some pl := by simp [Rho.set]
theorem R.fresh (h : R W w0 F ρ s a w) : ρ s.next = none := by
  cases e : ρ s.next with
  | none => rfl
  | some pl => exact absurd (h.dom _ pl e).1 (h.free _ (Nat.le_refl _) (by omega))
theorem R.ne_next (h : R W w0 F ρ s a w) {t : Nat} {b : SB} (hb : getA s.heap t = some b) : t ≠ s.next := fun e => absurd (h.tags t b hb) (e ▸ h.free _ (Nat.le_refl _) (by omega))

/-- w' is w with one block more. -/
structure Push (w w' : World) (o : Obj) : Prop where
  heap : w'.heap = w.heap.push o
  os : w'.os = w.os
  tape : w'.tape = w.tape
  output : w'.output = w.output
theorem push_alloc (w : World) (o : Obj) : Push w (w.alloc o) o := ⟨rfl, rfl, rfl, rfl⟩
theorem Push.at {w' : World} {o : Obj} (h : Push w w' o) : w'.heap[w.heap.size]? = some o := by rw [h.heap]; simp
theorem Push.old {w' : World} {o : Obj} (h : Push w w' o) {i : Nat} (hi : i < w.heap.size) : w'.heap[i]? = w.heap[i]? := by rw [h.heap, Array.getElem?_push, if_neg (by omega)]
theorem Push.size {w' : World} {o : Obj} (h : Push w w' o) : w'.heap.size = w.heap.size + 1 := by rw [h.heap]; simp

theorem sat_new {l : List Seg} {vs post : List Value} {ty : TypeId} {t : Nat} {w' : World} {m : Bool} (h : R W w0 F ρ s a w) (hw : Push w w' (.cells (vs ++ post).toArray ty)) (hl : RelS ρ l vs) (ht : t = s.next) (hm : m = false → post = []) :
    Sat (ρ.set t ⟨w.heap.size, 0, (vs ++ post).length⟩) w' (.own ty l m) t :=
  ⟨_, vs, post, Rho.set_same, rfl, hw.at, rfl, hl.ext (Rho.set_ext (ht ▸ h.fresh)), hm⟩

/-- A new block, and nothing else. -/
theorem eff_new (h : R W w0 F ρ s a w) {w' : World} {o : Obj} {pl : Pl} {b : SB} (hw : Push w w' o) (hpl : pl.b = w.heap.size) (hs : Sat (ρ.set s.next pl) w' b s.next) :
    Eff ρ (ρ.set s.next pl) s.heap s.next [(s.next, b)] (s.next + 1) w w' := by
  have hget : ∀ t b', getA [(s.next, b)] t = some b' → t = s.next ∧ b' = b := by
    intro t b' hb
    simp only [getA] at hb
    split at hb
    · rename_i e; simp only [Nat.beq_eq] at e; injection hb with hb; exact ⟨e.symm, hb.symm⟩
    · cases hb
  refine ⟨Rho.set_ext h.fresh, by omega, by omega, by rw [hw.size]; omega, hw.os, hw.tape, hw.output, ?_, ?_, ?_, ?_, ?_⟩
  · intro t p hp
    simp only [Rho.set] at hp
    split at hp
    · rename_i e
      injection hp with hp
      subst hp
      exact .inr ⟨by omega, by omega, by rw [hpl, hw.size]; omega, fun _ _ _ => .inl (by omega)⟩
    · exact .inl hp
  · intro t b' hb
    obtain ⟨rfl, rfl⟩ := hget t b' hb
    exact hs
  · intro t b' hb
    obtain ⟨rfl, rfl⟩ := hget t b' hb
    exact .inl ⟨Nat.le_refl _, by omega⟩
  · intro i hi _
    exact hw.old hi
  · intro t t' b1 b2 hne _ _ _ _ h1 h2
    exact absurd ((hget t b1 h1).1.trans (hget t' b2 h2).1.symm) hne

/-- An operation that makes one block. -/
theorem ok_new (h : R W w0 F ρ s a w) {w' : World} {o : Obj} {pl : Pl} {b : SB} {p : Cd} {sv : SV} {v : Value} (hr : (execOp a.eval op).run P w = .ok (.value v) w') (hw : Push w w' o) (hpl : pl.b = w.heap.size)
    (hs : Sat (ρ.set s.next pl) w' b s.next) (hv : RelV (ρ.set s.next pl) sv v) : Ok P ρ s a w op ⟨p, some sv, [(s.next, b)], s.next + 1⟩ := by
  intro K Q hK
  unfold Oper.wp
  rw [hr]
  exact hK v w' _ (eff_new h hw hpl hs) (fun sv' h => by injection h with h; subst h; exact hv)

theorem ev_ok (h : R W w0 F ρ s a w) {x : Operand} {v : SV} (e : s.ev x = some v) : RelV ρ v (a.eval x) := by
  cases x with
  | tmp t => exact h.frame t v e
  | const c =>
    simp only [St.ev] at e
    unfold ofConst at e
    split at e <;> first | (injection e with e; subst e; first | rfl | exact .inl ⟨rfl, rfl, rfl, rfl⟩) | cases e
  | global g => cases e
  | func f => cases e
theorem ev1_ok (h : R W w0 F ρ s a w) {x : Operand} {p : Cd} {v : SA} (e : s.ev1 x = some (p, v)) (hp : p.holds) : RelA ρ v (a.eval x) := by
  unfold St.ev1 at e
  split at e
  · rename_i u hu; injection e with e; injection e with e1 e2; subst e2; exact ev_ok h hu
  · rename_i g u hu; injection e with e; injection e with e1 e2; subst e1; subst e2; exact (ev_ok h hu).1 hp
  · cases e

end
end Go.Sx

/- The symbolic evaluator: its operations are the model's, one by one. Plain lemmas, no condition. -/
namespace Go.Sx
open Go.RowKit
set_option linter.unusedSimpArgs false

set_option linter.unusedVariables false
section
variable {P : Program} {W : Env} {w0 w : World} {F : Nat → Prop} {ρ : Rho} {s : St} {a : Act} {op : Oper} {T : TypeId → Option TyI} {C : FuncId → Option Summary} {r : Res}

theorem kEq_spec {k k' : IntKind} (h : kEq k k' = true) : k = k' := by
  cases k <;> cases k' <;> first | rfl | (exact absurd h (by decide))

theorem one_inj {p : Cd} {v : SV} (h : s.one p v = some r) : r = ⟨p, some v, [], s.next⟩ := by
  cases s; unfold St.one at h; injection h with h; exact h.symm

theorem run_part_ints (e : TypeId) (k : IntKind) (he : P.underlying e = some (.int k)) (f : Nat → Int) (n i : Nat) (hi : i < n) :
    (part e (intsV k f n).toArray i).run P w = .ok (.int k (f i)) w := by
  have hg := intsV_get k f n i hi
  simp [part, isAgg, run_underlying he, hg]
theorem run_equalIn_int (d : Nat) (e : TypeId) (k : IntKind) (he : P.underlying e = some (.int k)) (x y : Int) :
    (Op.equalIn (d + 1) e (.int k x) (.int k y)).run P w = .ok (x == y) w := by
  simp [Op.equalIn, run_underlying he]
theorem run_equalIn_ints (d : Nat) (t e : TypeId) (n : Nat) (k : IntKind) (ht : P.underlying t = some (.array n e)) (he : P.underlying e = some (.int k))
    (hs : (sizeOf e).run P w = .ok 1 w) (f g : Nat → Int) :
    (Op.equalIn (d + 2) t (.agg (intsV k f n).toArray) (.agg (intsV k g n).toArray)).run P w = .ok (eqI n f g) w := by
  rw [Op.equalIn]
  simp only [Sem.run_bind, run_underlying ht, Result.andThen_ok, hs]
  simp only [Std.Legacy.Range.forIn_eq_forIn_range']
  have hl : ∀ l : List Nat, (∀ i ∈ l, i < n) → Sem.run P
          (forIn l (none, ()) fun i (__s : Option Bool × Unit) => do
            let __do_lift ← part e (intsV k f n).toArray (i * 1)
            let __do_lift_1 ← part e (intsV k g n).toArray (i * 1)
            let __do_lift ← Op.equalIn (d + 1) e __do_lift __do_lift_1
            if (!__do_lift) = true then pure (ForInStep.done (some false, ())) else pure (ForInStep.yield (none, ()))) w
        = .ok (if (l.all fun i => f i == g i) then (none, ()) else (some false, ())) w := by
    intro l
    induction l with
    | nil => intro _; simp
    | cons i l ih =>
      intro hi
      have hin := hi i (by simp)
      have ih' := ih (fun j hj => hi j (by simp [hj]))
      simp only [List.forIn_cons, Sem.run_bind, Nat.mul_one, run_part_ints e k he f n i hin, run_part_ints e k he g n i hin, Result.andThen_ok, run_equalIn_int d e k he]
      simp only [Nat.mul_one] at ih'
      by_cases hx : f i = g i
      · simp only [hx, beq_self_eq_true, Bool.not_true, Bool.false_eq_true, if_false, Sem.run_pure, Result.andThen_ok, List.all_cons, Bool.true_and]
        exact ih'
      · have hb : (f i == g i) = false := by simp [hx]
        simp [hb]
  rw [hl _ (by intro i hi; simp at hi; omega)]
  have hr : List.range' 0 [:n].size = List.range n := by simp [List.range_eq_range']
  rw [hr]
  simp only [Result.andThen_ok, eqI]
  cases (List.range n).all fun j => f j == g j <;> rfl

theorem act_move (h : R W w0 F ρ s a w) {x : Operand} (ho : op.op = .move x ∨ op.op = .assign x) (e : act T C s op = some r) : Ok P ρ s a w op r := by
  have e' : (s.ev x).bind (fun v => s.one .tt v) = some r := by rcases ho with ho | ho <;> simpa only [act, ho] using e
  rw [Option.bind_eq_some_iff] at e'
  obtain ⟨v, hv, e'⟩ := e'
  rw [one_inj e']
  refine ok_pure (v := a.eval x) ?_ (ev_ok h hv)
  rcases ho with ho | ho <;> simp only [execOp, ho] <;> rfl

theorem run_binI (bop : BinOp) (xt : TypeId) (k k' : IntKind) (x y : Int) (hk : isShift bop = true ∨ k = k') (hp : (binI bop k x y).1.holds) (X Y : Operand) :
    ∃ v, Sem.run P (do eqGuard bop xt X Y (.int k x) (.int k' y); binOp bop xt (.int k x) (.int k' y)) w = .ok v w ∧ Rel1 ρ (binI bop k x y).2 v := by
  rw [eqGuard_at_int]
  cases bop <;> simp only [isShift, Bool.false_eq_true, false_or] at hk <;> (try subst hk) <;> simp only [binI, Cd.holds] at hp <;>
    simp [binI, Rel1, go_sem, Op.intArith, Op.intDiv, hp]

theorem kEq_refl_iff {k k' : IntKind} : kEq k k' = true ↔ k = k' := ⟨kEq_spec, fun h => by subst h; cases k <;> rfl⟩

/-- From the operation's run as the walk writes it to its value. -/
theorem ok_run {p : Cd} {sv : SV} {v : Value} {m : Sem Value} (he : execOp a.eval op = (do pure (Next.value (← m)))) (hr : m.run P w = .ok v w) (hv : RelV ρ sv v) : Ok P ρ s a w op ⟨p, some sv, [], s.next⟩ := by
  refine ok_pure (v := v) ?_ hv
  rw [he]
  simp [hr]

theorem binOp_match {k k' : IntKind} {bop : BinOp} (h : (isShift bop || kEq k k') = true) : isShift bop = true ∨ k = k' := by
  simp only [Bool.or_eq_true] at h
  exact h.imp id kEq_spec

theorem run_equalPtr (xt : TypeId) {e : TypeId} (hu : P.underlying xt = some (.pointer e)) (A : Option Addr) : (Op.equal xt (.pointer A) (.pointer none)).run P w = .ok A.isNone w := by
  have h : ∀ d : Nat, (Op.equalIn (d + 1) xt (.pointer A) (.pointer none)).run P w = .ok A.isNone w := fun d => by
    cases A <;> simp [Op.equalIn, run_underlying hu]
  exact h 9999
theorem run_equalSlice (xt : TypeId) {e : TypeId} (hu : P.underlying xt = some (.slice e)) (A : Option Addr) (n c n' c' : Nat) : (Op.equal xt (.slice A n c) (.slice none n' c')).run P w = .ok A.isNone w := by
  have h : ∀ d : Nat, (Op.equalIn (d + 1) xt (.slice A n c) (.slice none n' c')).run P w = .ok A.isNone w := fun d => by
    cases A <;> simp [Op.equalIn, run_underlying hu]
  exact h 9999
theorem run_eqlBool (xt : TypeId) (hu : P.underlying xt = some .bool) (x y : Bool) (X Y : Operand) :
    (Sem.run P (do eqGuard .eql xt X Y (.bool x) (.bool y); binOp .eql xt (.bool x) (.bool y)) w = .ok (.bool (x == y)) w) ∧
    (Sem.run P (do eqGuard .neq xt X Y (.bool x) (.bool y); binOp .neq xt (.bool x) (.bool y)) w = .ok (.bool (!(x == y))) w) := by
  have he : (Op.equal xt (.bool x) (.bool y)).run P w = .ok (x == y) w := by
    have h : ∀ d : Nat, (Op.equalIn (d + 1) xt (.bool x) (.bool y)).run P w = .ok (x == y) w := fun d => by simp [Op.equalIn, run_underlying hu]
    exact h 9999
  rw [eqGuard_at_bool, eqGuard_at_bool]
  constructor <;> simp only [binOp, Sem.run_bind, Sem.run_pure, Result.andThen_ok, he]
theorem run_eqlPtr (xt : TypeId) {e : TypeId} (hu : P.underlying xt = some (.pointer e)) (A : Option Addr) (X Y : Operand) :
    (Sem.run P (do eqGuard .eql xt X Y (.pointer A) (.pointer none); binOp .eql xt (.pointer A) (.pointer none)) w = .ok (.bool A.isNone) w) ∧
    (Sem.run P (do eqGuard .neq xt X Y (.pointer A) (.pointer none); binOp .neq xt (.pointer A) (.pointer none)) w = .ok (.bool (!A.isNone)) w) := by
  rw [eqGuard_at_pointer, eqGuard_at_pointer]
  have he := run_equalPtr (w := w) xt hu A
  constructor <;> simp only [binOp, Sem.run_bind, Sem.run_pure, Result.andThen_ok, he]
theorem run_eqlSlice (xt : TypeId) {e : TypeId} (hu : P.underlying xt = some (.slice e)) (A : Option Addr) (n c n' c' : Nat) (X Y : Operand) :
    (Sem.run P (do eqGuard .eql xt X Y (.slice A n c) (.slice none n' c'); binOp .eql xt (.slice A n c) (.slice none n' c')) w = .ok (.bool A.isNone) w) ∧
    (Sem.run P (do eqGuard .neq xt X Y (.slice A n c) (.slice none n' c'); binOp .neq xt (.slice A n c) (.slice none n' c')) w = .ok (.bool (!A.isNone)) w) := by
  rw [eqGuard_at_slice, eqGuard_at_slice]
  have he := run_equalSlice (w := w) xt hu A n c n' c'
  constructor <;> simp only [binOp, Sem.run_bind, Sem.run_pure, Result.andThen_ok, he]


theorem act_pick (h : R W w0 F ρ s a w) {c x y : Operand} (ho : op.op = .pick c x y) (e : act T C s op = some r) (hp : r.p.holds) : Ok P ρ s a w op r := by
  have hx : ∀ v, (asBool (a.eval c)).run P w = .ok v w → (execOp a.eval op).run P w = .ok (.value (if v = true then a.eval x else a.eval y)) w := by
    intro v hv
    simp only [execOp, ho, Sem.run_bind, hv, Result.andThen_ok, Sem.run_pure]
  simp only [act, ho] at e
  split at e
  · rename_i p cb bx by_ h1 h2 h3
    rw [one_inj e] at hp ⊢
    have r1 := ev1_ok h h1 hp
    have r2 := ev_ok h h2
    have r3 := ev_ok h h3
    simp only [RelV, RelA, Rel1] at r1 r2 r3
    refine ok_pure (hx cb (by rw [r1]; rfl)) ?_
    rw [r2, r3]
    cases cb <;> rfl
  · rename_i p cb g bx by_ h1 h2 h3
    rw [one_inj e] at hp ⊢
    have r1 := ev1_ok h h1 hp.1
    have r2 := ev_ok h h2
    have r3 := ev_ok h h3
    simp only [RelV, RelA, Rel1] at r1 r2 r3
    refine ok_pure (hx cb (by rw [r1]; rfl)) ?_
    cases cb
    · exact r3
    · exact r2.1 (hp.2 rfl)
  · rename_i p cb bx g by_ h1 h2 h3
    rw [one_inj e] at hp ⊢
    have r1 := ev1_ok h h1 hp.1
    have r2 := ev_ok h h2
    have r3 := ev_ok h h3
    simp only [RelV, RelA, Rel1] at r1 r2 r3
    refine ok_pure (hx cb (by rw [r1]; rfl)) ?_
    cases cb
    · exact r3.1 (hp.2 rfl)
    · exact r2
  · cases e

theorem act_unOp (h : R W w0 F ρ s a w) {u : UnOp} {t : TypeId} {x : Operand} (ho : op.op = .unOp u t x) (e : act T C s op = some r) (hp : r.p.holds) : Ok P ρ s a w op r := by
  have hx : execOp a.eval op = (do pure (Next.value (← Op.unary u (a.eval x)))) := by simp only [execOp, ho]
  simp only [act, ho] at e
  split at e
  · rename_i p b h1
    rw [one_inj e] at hp ⊢
    have r1 := ev1_ok h h1 hp
    simp only [RelA, Rel1] at r1
    refine ok_run (v := .bool (!b)) hx ?_ rfl
    rw [r1]; rfl
  · rename_i p k n h1
    rw [one_inj e] at hp ⊢
    have r1 := ev1_ok h h1 hp
    simp only [RelA, Rel1] at r1
    refine ok_run (v := .int k (k.wrap (0 - n))) hx ?_ rfl
    rw [r1]; rfl
  · rename_i p k n h1
    rw [one_inj e] at hp ⊢
    have r1 := ev1_ok h h1 hp
    simp only [RelA, Rel1] at r1
    refine ok_run (v := .int k _) hx ?_ rfl
    rw [r1]; rfl
  · cases e

theorem sl_none {nl ex z : Bool} {t o i n c : Nat} {v : Value} (hr : Rel1 ρ (.sl nl ex z t o i n c) v) : ∃ A cap, v = .slice A n cap ∧ A.isNone = nl := by
  rcases hr with ⟨h1, h2, h3, h4⟩ | ⟨h1, A, cap, h2, _⟩
  · subst h1; subst h3; exact ⟨none, 0, h2, rfl⟩
  · subst h1; exact ⟨some A, cap, h2, rfl⟩

theorem nl_none {c : SC} {nl : Bool} {v : Value} (h : isNl c = some nl) (hr : Rel1 ρ c v) : ∃ A n cap, v = .slice A n cap ∧ A.isNone = nl := by
  cases c <;> simp only [isNl, reduceCtorEq, Option.some.injEq] at h
  · subst h; obtain ⟨A, cap, e, h⟩ := sl_none hr; exact ⟨A, _, cap, e, h⟩
  · subst h
    rcases hr with ⟨h1, h2, _⟩ | ⟨h1, A, cap, h2, _⟩
    · simp only at h1; subst h1; exact ⟨none, 0, 0, h2, rfl⟩
    · simp only at h1; subst h1; exact ⟨some A, _, cap, h2, rfl⟩
  · subst h
    rcases hr with ⟨h1, h2, _⟩ | ⟨h1, A, cap, h2, _⟩
    · subst h1; exact ⟨none, 0, 0, h2, rfl⟩
    · subst h1; exact ⟨some A, _, cap, h2, rfl⟩

theorem act_binOp (h : R W w0 F ρ s a w) (hT : TOk P T) {bop : BinOp} {xt yt : TypeId} {x y : Operand} (ho : op.op = .binOp bop xt x y yt) (e : act T C s op = some r) (hp : r.p.holds) : Ok P ρ s a w op r := by
  have hx : execOp a.eval op = (do pure (Next.value (← (do eqGuard bop xt x y (a.eval x) (a.eval y); binOp bop xt (a.eval x) (a.eval y))))) := by simp only [execOp, ho]
  simp only [act, ho] at e
  unfold actBin at e
  split at e
  · rename_i p k m q k' n h1 h2
    split at e
    · rename_i c v' hk hb
      rw [one_inj e] at hp ⊢
      have r1 := ev1_ok h h1 hp.1
      have r2 := ev1_ok h h2 hp.2.1
      simp only [RelA, Rel1] at r1 r2
      obtain ⟨v, hv, hr⟩ := run_binI (P := P) (w := w) (ρ := ρ) bop xt k k' m n (binOp_match hk) (by rw [hb]; exact hp.2.2) x y
      rw [hb] at hr
      refine ok_run (v := v) hx ?_ hr
      rw [r1, r2]; exact hv
    · cases e
  · rename_i p b q c h1 h2
    have done_ : ∀ (p' : Cd) (sv : SV) (v : Value), p.holds → q.holds → binOp bop xt (.string b) (.string c) = pure v → RelV ρ sv v → Ok P ρ s a w op ⟨p', some sv, [], s.next⟩ := by
      intro p' sv v hp1 hq1 hv hR
      have r1 := ev1_ok h h1 hp1
      have r2 := ev1_ok h h2 hq1
      simp only [RelA, Rel1] at r1 r2
      refine ok_run (v := v) hx ?_ hR
      rw [r1, r2, eqGuard_at_string, hv]; rfl
    cases bop <;> simp only [reduceCtorEq] at e
    · rw [one_inj e] at hp ⊢
      refine done_ _ _ (.string (b ++ c)) hp.1 hp.2.1 ?_ rfl
      have h2 : b.size + c.size ≤ 9223372036854775807 := hp.2.2
      show Op.stringOp .add b c = _
      simp only [Op.stringOp]
      rw [if_neg (by simp [IntKind.max, IntKind.bits, IntKind.signed]; omega)]
    · rw [one_inj e] at hp ⊢
      exact done_ _ _ (.bool (b.toList == c.toList)) hp.1 hp.2 rfl rfl
    · rw [one_inj e] at hp ⊢
      exact done_ _ _ (.bool (!(b.toList == c.toList))) hp.1 hp.2 rfl rfl
  · rename_i p b q c h1 h2
    split at e
    all_goals first | (cases e; done) | skip
    all_goals
      rename_i z1 z2 hz
      have hu : P.underlying xt = some .bool := (hT _ _ hz).1
      rw [one_inj e] at hp ⊢
      have r1 := ev1_ok h h1 hp.1
      have r2 := ev1_ok h h2 hp.2
      simp only [RelA, Rel1] at r1 r2
    · refine ok_run (v := .bool (b == c)) hx ?_ rfl
      rw [r1, r2]; exact (run_eqlBool xt hu b c x y).1
    · refine ok_run (v := .bool (!(b == c))) hx ?_ rfl
      rw [r1, r2]; exact (run_eqlBool xt hu b c x y).2
  · rename_i p q h1 h2
    split at e
    all_goals first | (cases e; done) | skip
    all_goals
      rename_i z1 z2 hz
      obtain ⟨et, hu⟩ := (hT _ _ hz).1
      rw [one_inj e] at hp ⊢
      have r1 := ev1_ok h h1 hp.1
      have r2 := ev1_ok h h2 hp.2
      simp only [RelA, Rel1] at r1 r2
    · refine ok_run (v := .bool true) hx ?_ rfl
      rw [r1, r2]; exact (run_eqlPtr xt hu none x y).1
    · refine ok_run (v := .bool false) hx ?_ rfl
      rw [r1, r2]; exact (run_eqlPtr xt hu none x y).2
  · rename_i p t0 o0 i0 q h1 h2
    split at e
    all_goals first | (cases e; done) | skip
    all_goals
      rename_i z1 z2 hz
      obtain ⟨et, hu⟩ := (hT _ _ hz).1
      rw [one_inj e] at hp ⊢
      have r1 := ev1_ok h h1 hp.1
      have r2 := ev1_ok h h2 hp.2
      simp only [RelA, Rel1] at r1 r2
      obtain ⟨pl, _, r1⟩ := r1
    · refine ok_run (v := .bool false) hx ?_ rfl
      rw [r1, r2]; exact (run_eqlPtr xt hu (some _) x y).1
    · refine ok_run (v := .bool true) hx ?_ rfl
      rw [r1, r2]; exact (run_eqlPtr xt hu (some _) x y).2
  · rename_i p vv q b1 b2 b3 b4 b5 b6 b7 h1 h2
    split at e
    all_goals first | (cases e; done) | skip
    all_goals
      rename_i z1 z2 z3 z4 z5 nl hz hnl
      obtain ⟨hu, _⟩ := (hT _ _ hz).1
      rw [one_inj e] at hp ⊢
      obtain ⟨A, nn, cap, e1, rfl⟩ := nl_none hnl (ev1_ok h h1 hp.1)
      obtain ⟨A2, cap2, e2, hA2⟩ := sl_none (ev1_ok h h2 hp.2)
      have hA2 : A2 = none := by cases A2 <;> simp_all
      subst hA2
    · refine ok_run (v := .bool A.isNone) hx ?_ rfl
      rw [e1, e2]; exact (run_eqlSlice xt hu A _ _ _ _ x y).1
    · refine ok_run (v := .bool (!A.isNone)) hx ?_ rfl
      rw [e1, e2]; exact (run_eqlSlice xt hu A _ _ _ _ x y).2
  · rename_i p k f n q k' g n' h1 h2
    split at e
    · rename_i m el sz k'' f'' m'' hz
      split at e
      · rename_i hk
        simp only [Bool.and_eq_true, Nat.beq_eq] at hk
        obtain ⟨hk1, hk2, hk3, hk4⟩ := hk
        obtain rfl := kEq_spec hk1
        obtain rfl := kEq_spec hk2
        subst hk3
        subst hk4
        obtain ⟨hu, ⟨ie, hie, his⟩, hg, hz0, _⟩ := (hT _ _ hz).1
        obtain ⟨hel, _⟩ := hz0 _ _ _ rfl
        have hso : (sizeOf el).run P w = .ok 1 w := by simp [sizeOf, typeInfo, hie, his]
        have done_ : ∀ (p' : Cd) (sv : SV) (b : Bool), p.holds → q.holds → (bop = .eql ∧ b = eqI n f g ∨ bop = .neq ∧ b = !(eqI n f g)) → RelV ρ sv (.bool b) → Ok P ρ s a w op ⟨p', some sv, [], s.next⟩ := by
          intro p' sv b hp1 hq1 hb hR
          obtain ⟨va, ra, vb, rb, rc⟩ := ev1_ok h h1 hp1
          obtain ⟨va', ra', vb', rb', rc'⟩ := ev1_ok h h2 hq1
          simp only [RelS] at rc rc'
          subst rc; subst rc'; subst rb; subst rb'
          refine ok_run (v := .bool b) hx ?_ hR
          rw [ra, ra']
          have hq := run_equalIn_ints (P := P) (w := w) 9998 xt el n k hu hel hso f g
          have hq' : (Op.equal xt (.agg (intsV k f n).toArray) (.agg (intsV k g n).toArray)).run P w = .ok (eqI n f g) w := hq
          rcases hb with ⟨rfl, rfl⟩ | ⟨rfl, rfl⟩
          · simp [eqGuard, hg, binOp, hq']
          · simp [eqGuard, hg, binOp, hq']
        split at e
        · rw [one_inj e] at hp ⊢
          exact done_ _ _ _ hp.1 hp.2 (.inl ⟨rfl, rfl⟩) rfl
        · rw [one_inj e] at hp ⊢
          exact done_ _ _ _ hp.1 hp.2 (.inr ⟨rfl, rfl⟩) rfl
        · cases e
      · cases e
    · cases e
  · cases e

end
end Go.Sx

/- The symbolic evaluator: its operations are the model's: those that read, and those that make one block. Plain lemmas, no condition. -/
namespace Go.Sx
open Go.RowKit
set_option linter.unusedSimpArgs false

set_option linter.unusedVariables false
section
variable {P : Program} {W : Env} {w0 w : World} {F : Nat → Prop} {ρ : Rho} {s : St} {a : Act} {op : Oper} {T : TypeId → Option TyI} {C : FuncId → Option Summary} {r : Res}

theorem hp_ok (h : R W w0 F ρ s a w) {t : Nat} {p : Cd} {b : SB} (e : s.hp t = some (p, b)) (hp : p.holds) : Sat ρ w b t := by
  unfold St.hp at e
  split at e
  · rename_i g g' b' hb; injection e with e; injection e with e1 e2; subst e1; subst e2; exact h.heap _ _ hb hp.1 hp.2
  · rename_i g b' _ hb; injection e with e; injection e with e1 e2; subst e1; subst e2; exact h.heap _ _ hb hp
  · rename_i b' _ _ hb; injection e with e; injection e with e1 e2; subst e2; exact h.heap _ _ hb
  · cases e

/-- The cells of a stretch of an own block. -/
theorem sat_seg {ty : TypeId} {l r' : List Seg} {m : Bool} {t o : Nat} {g : Seg} (h : Sat ρ w (.own ty l m) t) (e : segDrop l o = some (g :: r')) :
    ∃ pl va vb post, ρ t = some pl ∧ pl.f = 0 ∧ w.heap[pl.b]? = some (.cells (va ++ (vb ++ post)).toArray ty (0, 0)) ∧ (va ++ (vb ++ post)).length = pl.n ∧ va.length = o ∧ RelS ρ (g :: r') vb := by
  obtain ⟨pl, vs, post, h1, h2, h3, h4, h5, h6⟩ := h
  obtain ⟨x, rfl, hx⟩ := segDrop_spec e
  obtain ⟨va, vb, rfl, ra, rb⟩ := relS_append.1 h5
  exact ⟨pl, va, vb, post, h1, h2, by simpa using h3, by simpa using h4, (relS_len ra).trans hx, rb⟩
theorem cell_in {w : World} {b : Nat} {vs : List Value} {ty : TypeId} {fr : Nat × Nat} (h : w.heap[b]? = some (.cells vs.toArray ty fr)) (j : Nat) : w.cell? ⟨b, j, none⟩ = vs[j]? := by
  rw [cell_of_row w b j _ ty fr h]; simp
theorem get_mid (va vb post : List Value) (i : Nat) (h : i < vb.length) : (va ++ (vb ++ post))[va.length + i]? = vb[i]? := by
  rw [List.getElem?_append_right (by omega), Nat.add_sub_cancel_left, List.getElem?_append_left h]
/-- An integer of a stretch of integers. -/
theorem cell_ints {ty : TypeId} {l r' : List Seg} {m : Bool} {t o : Nat} {k : IntKind} {f : Nat → Int} {n i : Nat} (h : Sat ρ w (.own ty l m) t) (e : segDrop l o = some (.ints k f n :: r')) (hi : i < n) :
    ∃ pl, ρ t = some pl ∧ w.cell? ⟨pl.b, pl.f + (o + i), none⟩ = some (.int k (f i)) := by
  obtain ⟨pl, va, vb, post, h1, h2, h3, h4, h5, vb', h6, h7⟩ := sat_seg h e
  refine ⟨pl, h1, ?_⟩
  rw [h2, Nat.zero_add, cell_in h3, ← h5, get_mid _ _ _ _ (by rw [h6, List.length_append, intsV_length]; omega), h6, List.getElem?_append_left (by rw [intsV_length]; exact hi)]
  exact intsV_get k f n i hi
theorem cell_one {ty : TypeId} {l r' : List Seg} {m : Bool} {t o : Nat} {c : SC} (h : Sat ρ w (.own ty l m) t) (e : segDrop l o = some (.one c :: r')) :
    ∃ pl v, ρ t = some pl ∧ w.cell? ⟨pl.b, pl.f + o, none⟩ = some v ∧ Rel1 ρ c v := by
  obtain ⟨pl, va, vb, post, h1, h2, h3, h4, h5, v, vb', h6, h7, h8⟩ := sat_seg h e
  refine ⟨pl, v, h1, ?_, h7⟩
  rw [h2, Nat.zero_add, cell_in h3, ← h5]
  have := get_mid va vb post 0 (by rw [h6]; simp)
  rw [Nat.add_zero] at this
  rw [this, h6]; rfl

/-- A row of a stretch of rows. -/
theorem cell_rows {ty : TypeId} {l r' : List Seg} {m : Bool} {t o : Nat} {k : IntKind} {f : Nat → Row} {n i : Nat} (h : Sat ρ w (.own ty l m) t) (e : segDrop l o = some (.rows k f n :: r')) (hi : i < n) :
    ∃ pl v, ρ t = some pl ∧ w.cell? ⟨pl.b, pl.f + (o + i), none⟩ = some v ∧ RelRow ρ k (f i) v := by
  obtain ⟨pl, va, vb, post, h1, h2, h3, h4, h5, us, vb', h6, hul, hrow, h7⟩ := sat_seg h e
  have hin : i < us.length := by omega
  refine ⟨pl, us[i], h1, ?_, hrow i _ (by simp [hin])⟩
  rw [h2, Nat.zero_add, cell_in h3, ← h5, get_mid _ _ _ _ (by rw [h6, List.length_append]; omega), h6, List.getElem?_append_left hin]
  simp [hin]

theorem run_loadVar_sc {ty : TypeId} (hagg : (isAgg ty).run P w = .ok false w) {A : Addr} {v : Value} (hc : w.cell? A = some v) : (Instr.loadAt ty (.pointer (some A))).run P w = .ok v w := by
  simp [Instr.loadAt, Instr.sureAddr, loadVar, hagg, load, Sem.run, hc]

theorem isAgg_false {t : TypeId} {ti : TyI} (hT : TOk P T) (e : T t = some ti) (hd : isRow ti.d = false) : (isAgg t).run P w = .ok false w := by
  have h := (hT t ti e).1
  cases hq : ti.d <;> rw [hq] at h hd <;> simp only [TyD.ok] at h
  case int => simp [isAgg, run_underlying h]
  case bool => simp [isAgg, run_underlying h]
  case str => simp [isAgg, run_underlying h]
  case slice => simp [isAgg, run_underlying h.1]
  case array => cases hd
  case struct => cases hd
  case ptr => obtain ⟨e', h⟩ := h; simp [isAgg, run_underlying h]

theorem row_of {t : TypeId} {ti : TyI} (hT : TOk P T) (e : T t = some ti) (hd : isRow ti.d = true) : ∃ d, P.underlying t = some d ∧ d.isRow = true := by
  have h := (hT t ti e).1
  cases hq : ti.d <;> rw [hq] at h hd <;> first | (cases hd; done) | skip
  case array => exact ⟨_, h.1, rfl⟩
  case struct => obtain ⟨F, h, _⟩ := h; exact ⟨_, h, rfl⟩

theorem load_agg (h : R W w0 F ρ s a w) (hT : TOk P T) {ty : TypeId} {x : Operand} {ti : TyI} {p q : Cd} {t o : Nat} {bt : TypeId} {l rr : List Seg} {m : Bool} (ho : op.op = .load ty x) (hti : T ty = some ti)
    (hd : isRow ti.d = true) (h1 : s.ev1 x = some (p, .sc (.ptr t o 0))) (hb : s.hp t = some (q, .own bt l m))
    (hseg : ((segDrop l o).bind fun r => segTake r ti.size) = some rr) (e : s.one (.and p q) (.sa (.agg rr)) = some r) (hp : r.p.holds) : Ok P ρ s a w op r := by
  have hx : execOp a.eval op = (do pure (Next.value (← Instr.loadAt ty (a.eval x)))) := by simp only [execOp, ho]
  rw [one_inj e] at hp ⊢
  obtain ⟨pl, e1, e2⟩ := ev1_ok h h1 hp.1
  have hsat := hp_ok h hb hp.2
  rw [Option.bind_eq_some_iff] at hseg
  obtain ⟨lr, hs1, hs2⟩ := hseg
  obtain ⟨pl', vs, post, g1, g2, g3, g4, g5, g6⟩ := hsat
  rw [e1] at g1; injection g1 with g1; subst g1
  obtain ⟨la, rfl, hla⟩ := segDrop_spec hs1
  obtain ⟨lc, rfl, hlc⟩ := segTake_spec hs2
  obtain ⟨va, vb, rfl, ra, rb⟩ := relS_append.1 g5
  obtain ⟨vc, vd, rfl, rc, rd⟩ := relS_append.1 rb
  refine ok_run (v := .agg vc.toArray) hx ?_ ⟨vc, rfl, rc⟩
  rw [e2]
  obtain ⟨hdok, inf, z, hi1, hi2, _⟩ := hT _ _ hti
  obtain ⟨d, hu, hrow⟩ := row_of hT hti hd
  have hrange : w.rangeAt pl.b (pl.f + (o + 0)) vc := by
    intro j v hv
    have hj : j < vc.length := (List.getElem?_eq_some_iff.1 hv).1
    have hva : va.length = o := (relS_len ra).trans hla
    rw [g2, Nat.zero_add, Nat.add_zero, cell_in g3, ← hva, List.append_assoc, List.append_assoc, get_mid va vc _ j hj]
    exact hv
  exact run_loadAt_mid w pl.b _ ty vc d hrange hu hrow (by rw [hi1]; simp [hi2, relS_len rc, hlc])

theorem load_sc (h : R W w0 F ρ s a w) (hT : TOk P T) {ty : TypeId} {x : Operand} {ti : TyI} {p : Cd} {t o i : Nat} {sv : SC} {p' : Cd} (ho : op.op = .load ty x) (hti : T ty = some ti)
    (hd : isRow ti.d = false) (h1 : s.ev1 x = some (p, .sc (.ptr t o i))) (hp : p.holds)
    (hc : ∃ pl v, ρ t = some pl ∧ w.cell? ⟨pl.b, pl.f + (o + i), none⟩ = some v ∧ Rel1 ρ sv v) : Ok P ρ s a w op ⟨p', some (Sx.sc sv), [], s.next⟩ := by
  have hx : execOp a.eval op = (do pure (Next.value (← Instr.loadAt ty (a.eval x)))) := by simp only [execOp, ho]
  obtain ⟨pl, v, e1, e2, e3⟩ := hc
  obtain ⟨pl', g1, g2⟩ := ev1_ok h h1 hp
  rw [e1] at g1; injection g1 with g1; subst g1
  refine ok_run (v := v) hx ?_ e3
  rw [g2]
  exact run_loadVar_sc (isAgg_false hT hti hd) e2

theorem load_adr (h : R W w0 F ρ s a w) (hT : TOk P T) {ty : TypeId} {x : Operand} {ti : TyI} {p : Cd} {c : SC} {p' : Cd} (ho : op.op = .load ty x) (hti : T ty = some ti)
    (hd : isRow ti.d = false) (h1 : s.ev1 x = some (p, .sc (.adr c))) (hp : p.holds) : Ok P ρ s a w op ⟨p', some (Sx.sc c), [], s.next⟩ := by
  have hx : execOp a.eval op = (do pure (Next.value (← Instr.loadAt ty (a.eval x)))) := by simp only [execOp, ho]
  obtain ⟨A, u, g1, g2, g3⟩ := ev1_ok h h1 hp
  refine ok_run (v := u) hx ?_ g3
  rw [g1]
  exact run_loadVar_sc (isAgg_false hT hti hd) (h.imm A u g2)

theorem act_load (h : R W w0 F ρ s a w) (hT : TOk P T) {ty : TypeId} {x : Operand} (ho : op.op = .load ty x) (e : act T C s op = some r) (hp : r.p.holds) : Ok P ρ s a w op r := by
  simp only [act, ho] at e
  unfold actLoad at e
  split at e
  · rename_i ti p c hti h1
    split at e
    · cases e
    · rename_i hd
      rw [one_inj e] at hp ⊢
      exact load_adr h hT ho hti hd h1 hp
  · rename_i ti p t o i hti h1
    split at e
    · rename_i q bt l m hb
      split at e
      · rename_i hd
        split at e
        · rename_i rr hseg
          exact load_agg h hT ho hti hd h1 hb hseg e hp
        · cases e
      · rename_i hd
        split at e
        · rename_i k f n r' hs
          rw [one_inj e] at hp ⊢
          obtain ⟨pl, c1, c2⟩ := cell_ints (hp_ok h hb hp.2.1) hs hp.2.2
          exact load_sc h hT ho hti hd h1 hp.1 ⟨pl, _, c1, c2, rfl⟩
        · rename_i k f n r' hs
          rw [one_inj e] at hp ⊢
          obtain ⟨pl, v, c1, c2, c3⟩ := cell_rows (hp_ok h hb hp.2.1) hs hp.2.2
          exact load_sc h hT ho hti hd h1 hp.1 ⟨pl, v, c1, c2, c3⟩
        · rename_i c r' hs
          split at e
          · rw [one_inj e] at hp ⊢
            obtain ⟨pl, v, c1, c2, c3⟩ := cell_one (hp_ok h hb hp.2) hs
            exact load_sc h hT ho hti hd h1 hp.1 ⟨pl, v, c1, c2, c3⟩
          · rename_i i j
            split at e
            · rename_i c' r'' hs'
              rw [one_inj e] at hp ⊢
              obtain ⟨pl, va, vb, post, c1, c2, c3, c4, c5, v, vb', rfl, c7, c8⟩ := sat_seg (hp_ok h hb hp.2) hs
              obtain ⟨x2, rfl, hx2⟩ := segDrop_spec hs'
              obtain ⟨vc, vd, rfl, rc, v', vd', rfl, c9, c10⟩ := relS_append.1 c8
              have hl : vc.length = j := (relS_len rc).trans hx2
              refine load_sc h hT ho hti hd h1 hp.1 ⟨pl, v', c1, ?_, c9⟩
              rw [c2, Nat.zero_add, cell_in c3, ← c5, get_mid _ _ _ _ (by simp; omega)]
              rw [show Nat.succ j = j + 1 from rfl, List.getElem?_cons_succ, ← hl, List.getElem?_append_right (Nat.le_refl _), Nat.sub_self]
              rfl
            · cases e
        · cases e
    · rename_i q k f n hb
      split at e
      · rename_i k' hd
        rw [one_inj e] at hp ⊢
        obtain ⟨pl, c1, c2⟩ := hp_ok h hb hp.2.1
        exact load_sc h hT ho hti (by rw [hd]; rfl) h1 hp.1 ⟨pl, _, c1, c2 _ hp.2.2, rfl⟩
      · cases e
    · cases e
  · cases e


theorem act_nilCheck (h : R W w0 F ρ s a w) {x : Operand} (ho : op.op = .nilCheck x) (e : act T C s op = some r) (hp : r.p.holds) : Ok P ρ s a w op r := by
  simp only [act, ho] at e
  split at e
  · rename_i p t o i h1
    rw [one_inj e] at hp ⊢
    have r1 := ev1_ok h h1 hp
    obtain ⟨pl, e1, e2⟩ := r1
    refine ok_pure (v := a.eval x) ?_ ⟨pl, e1, e2⟩
    simp only [execOp, ho, e2]; rfl
  · rename_i p c h1
    rw [one_inj e] at hp ⊢
    have r1 := ev1_ok h h1 hp
    obtain ⟨A, u, e1, e2, e3⟩ := r1
    refine ok_pure (v := a.eval x) ?_ ⟨A, u, e1, e2, e3⟩
    simp only [execOp, ho, e1]; rfl
  · cases e

theorem act_fieldAddr (h : R W w0 F ρ s a w) (hT : TOk P T) {t : TypeId} {x : Operand} {f : Nat} (ho : op.op = .fieldAddr t x f) (e : act T C s op = some r) (hp : r.p.holds) : Ok P ρ s a w op r := by
  have hx : execOp a.eval op = (do pure (Next.value (← Instr.fieldAt t (a.eval x) f))) := by simp only [execOp, ho]
  simp only [act, ho] at e
  split at e
  · rename_i fs sz z p tg o hti h1
    split at e
    · rename_i off csz hf
      rw [one_inj e] at hp ⊢
      obtain ⟨pl, e1, e2⟩ := ev1_ok h h1 hp
      obtain ⟨F, hu, hF, hall⟩ := (hT _ _ hti).1
      obtain ⟨fd, g1, g2, jf, g3, g4, g5⟩ := hall f _ hf
      refine ok_run (v := .pointer (some ⟨pl.b, pl.f + (o + off + 0), none⟩)) hx ?_ ⟨pl, e1, rfl⟩
      rw [e2]
      simp only [] at g2
      simp [Instr.fieldAt, run_underlying hu, g1, Instr.sureAddr, fieldPlace, sizeOf, typeInfo, g3, g5, g2, Addr.add_mid, Nat.add_assoc]
    · cases e
  · cases e

theorem elem_one {t e : TypeId} {b : Nat} {z : Seg} {sz : Nat} {zr : List Seg} (hT : TOk P T) (hti : T t = some ⟨.slice e b z, sz, zr⟩) : P.underlying t = some (.slice e) ∧ (sizeOf e).run P w = .ok 1 w := by
  obtain ⟨hu, ie, ze, h1, h2, _⟩ := (hT _ _ hti).1
  exact ⟨hu, by simp [sizeOf, typeInfo, h1, h2]⟩

theorem act_indexAddr (h : R W w0 F ρ s a w) (hT : TOk P T) {t : TypeId} {x y : Operand} (ho : op.op = .indexAddr t x y) (e : act T C s op = some r) (hp : r.p.holds) : Ok P ρ s a w op r := by
  have hx : execOp a.eval op = (do pure (Next.value (← Instr.indexAt t (a.eval x) (a.eval y)))) := by simp only [execOp, ho]
  simp only [act, ho] at e
  split at e
  · rename_i el b z sz zr p nl ex zz tg o f n c q k i hti h1 h2
    rw [one_inj e] at hp ⊢
    obtain ⟨hp1, hp2, hp3, hp4⟩ := hp
    obtain ⟨hu, hs⟩ := elem_one (w := w) hT hti
    have r2 := ev1_ok h h2 hp2
    simp only [RelA, Rel1] at r2
    rcases ev1_ok h h1 hp1 with ⟨_, e2, e3, _⟩ | ⟨_, A, cap, e2, _, _, _, e3⟩
    · omega
    · obtain ⟨pl, g1, g2, _⟩ := e3.1 (.inl (by omega))
      refine ok_run (v := .pointer (some ⟨pl.b, pl.f + (o + (f + i.toNat)), none⟩)) hx ?_ ⟨pl, g1, rfl⟩
      rw [e2, r2, g2]
      simp only [Instr.indexAt, asIntOf, Sem.run_bind, Sem.run_pure, Result.andThen_ok, run_underlying hu]
      rw [if_pos ⟨hp3, hp4⟩]
      simp only [Sem.run_bind, hs, Result.andThen_ok, Sem.run_pure, Addr.add_mid, Nat.mul_one, Nat.add_assoc]
  · rename_i el b z sz zr p nl k f n q k' i hti h1 h2
    rw [one_inj e] at hp ⊢
    obtain ⟨hp1, hp2, hp3, hp4⟩ := hp
    obtain ⟨hu, hs⟩ := elem_one (w := w) hT hti
    have r2 := ev1_ok h h2 hp2
    simp only [RelA, Rel1] at r2
    rcases ev1_ok h h1 hp1 with ⟨_, e2, e3⟩ | ⟨_, A, cap, e2, _, _, e3⟩
    · simp only at e3; omega
    · refine ok_run (v := .pointer (some (A.add i.toNat))) hx ?_ ⟨_, _, rfl, e3 i.toNat (by simp only; omega), rfl⟩
      rw [e2, r2]
      simp only [Instr.indexAt, asIntOf, Sem.run_bind, Sem.run_pure, Result.andThen_ok, run_underlying hu]
      rw [if_pos ⟨hp3, hp4⟩]
      simp only [Sem.run_bind, hs, Result.andThen_ok, Sem.run_pure, Nat.mul_one]
  · rename_i el b z sz zr p nl k f n q k' i hti h1 h2
    rw [one_inj e] at hp ⊢
    obtain ⟨hp1, hp2, hp3, hp4⟩ := hp
    obtain ⟨hu, hs⟩ := elem_one (w := w) hT hti
    have r2 := ev1_ok h h2 hp2
    simp only [RelA, Rel1] at r2
    rcases ev1_ok h h1 hp1 with ⟨_, e2, e3⟩ | ⟨_, A, cap, e2, _, _, e3⟩
    · omega
    · obtain ⟨u, g1, g2⟩ := e3 i.toNat (by omega)
      refine ok_run (v := .pointer (some (A.add i.toNat))) hx ?_ ⟨_, u, rfl, g1, g2⟩
      rw [e2, r2]
      simp only [Instr.indexAt, asIntOf, Sem.run_bind, Sem.run_pure, Result.andThen_ok, run_underlying hu]
      rw [if_pos ⟨hp3, hp4⟩]
      simp only [Sem.run_bind, hs, Result.andThen_ok, Sem.run_pure, Nat.mul_one]
  · rename_i n el sz zr p tg o q k i hti h1 h2
    rw [one_inj e] at hp ⊢
    obtain ⟨hp1, hp2, hp3, hp4⟩ := hp
    obtain ⟨hu, ⟨ie, hi1, hi2⟩, _⟩ := (hT _ _ hti).1
    have hs : (sizeOf el).run P w = .ok 1 w := by simp [sizeOf, typeInfo, hi1, hi2]
    have r2 := ev1_ok h h2 hp2
    simp only [RelA, Rel1] at r2
    obtain ⟨pl, g1, g2⟩ := ev1_ok h h1 hp1
    refine ok_run (v := .pointer (some ⟨pl.b, pl.f + (o + i.toNat), none⟩)) hx ?_ ⟨pl, g1, rfl⟩
    rw [g2, r2]
    simp only [Instr.indexAt, asIntOf, Sem.run_bind, Sem.run_pure, Result.andThen_ok, run_underlying hu, Instr.sureAddr]
    rw [if_pos ⟨hp3, hp4⟩]
    simp only [Sem.run_bind, hs, Result.andThen_ok, Sem.run_pure, Addr.add_mid, Nat.mul_one, Nat.add_assoc, Nat.add_zero]
  · cases e

theorem act_extract (h : R W w0 F ρ s a w) {x : Operand} {i : Nat} (ho : op.op = .extract x i) (e : act T C s op = some r) (hp : r.p.holds) : Ok P ρ s a w op r := by
  have hx : execOp a.eval op = (do pure (Next.value (← Instr.extract (a.eval x) i))) := by simp only [execOp, ho]
  simp only [act, ho] at e
  split at e
  · rename_i l h1
    rw [Option.bind_eq_some_iff] at e
    obtain ⟨v, hv, e⟩ := e
    rw [one_inj e] at hp ⊢
    obtain ⟨vs, e1, e2⟩ := ev_ok h h1
    have key : ∀ (l : List SA) (vs : List Value) (i : Nat) (v : SA), RelL ρ l vs → l[i]? = some v → ∃ u, vs[i]? = some u ∧ RelA ρ v u := by
      intro l
      induction l with
      | nil => intro vs i v _ h; simp at h
      | cons g l ih =>
        rintro vs i v ⟨u, vs', rfl, h1, h2⟩ h
        cases i with
        | zero => simp at h; subst h; exact ⟨u, rfl, h1⟩
        | succ i => simp at h; obtain ⟨u', g1, g2⟩ := ih vs' i v h2 h; exact ⟨u', by simpa using g1, g2⟩
    obtain ⟨u, g1, g2⟩ := key _ _ _ _ e2 hv
    refine ok_run (v := u) hx ?_ g2
    rw [e1]
    simp [Instr.extract, g1]
  · cases e

theorem act_makeFunc (h : R W w0 F ρ s a w) {fn : Fn} {x1 x2 : Array Operand} (ho : op.op = .makeFunc fn x1 x2) (e : act T C s op = some r) (hp : r.p.holds) : Ok P ρ s a w op r := by
  have hx : execOp a.eval op = (do pure (Next.value (← Instr.makeFunc fn (x1.map a.eval) (x2.map a.eval)))) := by simp only [execOp, ho]
  simp only [act, ho] at e
  split at e
  · rename_i f x h1 h2
    have e1 : x1 = #[] := by cases x1; simp at h1; subst h1; rfl
    have e2 : x2 = #[x] := by cases x2; simp at h2; subst h2; rfl
    subst e1; subst e2
    split at e
    · rename_i p t h1
      rw [one_inj e] at hp ⊢
      obtain ⟨pl, g1, g2⟩ := ev1_ok h h1 hp
      refine ok_run (v := .func (.func f) #[] #[.pointer (some ⟨pl.b, pl.f, none⟩)]) hx ?_ ⟨pl, g1, rfl⟩
      have g3 : a.eval x = .pointer (some ⟨pl.b, pl.f, none⟩) := by rw [g2]; rfl
      simp [Instr.makeFunc, g3]
    · cases e
  · cases e

end
end Go.Sx

/- The symbolic evaluator: its operations are the model's: conversions, slicing, new blocks. Plain lemmas, no condition. -/
namespace Go.Sx
open Go.RowKit
set_option linter.unusedSimpArgs false

set_option linter.unusedVariables false
section
variable {P : Program} {W : Env} {w0 w : World} {F : Nat → Prop} {ρ : Rho} {s : St} {a : Act} {op : Oper} {T : TypeId → Option TyI} {C : FuncId → Option Summary} {r : Res}

theorem some_und (hT : TOk P T) {t : TypeId} (h : (T t).isSome = true) : (P.underlying t).isSome = true := by
  obtain ⟨ti, e⟩ := Option.isSome_iff_exists.1 h
  have := (hT t ti e).1
  cases hq : ti.d <;> rw [hq] at this <;> simp only [TyD.ok] at this
  case int => rw [this]; rfl
  case bool => rw [this]; rfl
  case str => rw [this]; rfl
  case slice => rw [this.1]; rfl
  case array => rw [this.1]; rfl
  case struct => obtain ⟨F, h, _⟩ := this; rw [h]; rfl
  case ptr => obtain ⟨F, h⟩ := this; rw [h]; rfl

theorem strI_foldl (f : Nat → Int) (n : Nat) : (((List.range n).map f).foldl (fun (r : ByteArray) x => r.push (UInt8.ofNat x.toNat)) ByteArray.empty) = strI f n := by
  have h : ∀ (l : List Int) (b : ByteArray), l.foldl (fun (r : ByteArray) x => r.push (UInt8.ofNat x.toNat)) b = ⟨b.data ++ (l.map fun x => UInt8.ofNat x.toNat).toArray⟩ := by
    intro l
    induction l with
    | nil => intro b; simp
    | cons x l ih =>
      intro b
      rw [List.foldl_cons, ih]
      simp [ByteArray.push]
  rw [h]
  simp [strI, ByteArray.empty, ByteArray.emptyWithCapacity, Function.comp_def]
  rfl

theorem add_add (A : Addr) (l j : Nat) : (A.add l).add j = A.add (l + j) := by
  unfold Addr.add
  by_cases h1 : l = 0
  · subst h1; simp
  · by_cases h2 : j = 0
    · subst h2; simp [h1]
    · simp [h1, h2, Nat.add_assoc]

/-- The integers that a slice holds, as cells. -/
theorem srcT_ok (h : R W w0 F ρ s a w) {k : IntKind} {nl ex z : Bool} {t o f n c : Nat} {q : Cd} {g : Nat → Int} {v : Value} (e : s.srcT k nl t o f n = some (q, g)) (hq : q.holds) (hv : Rel1 ρ (.sl nl ex z t o f n c) v) :
    (v = .slice none 0 0 ∧ n = 0) ∨ ∃ A cap, v = .slice (some A) n cap ∧ (n ≤ cap ∧ cap ≤ maxLen) ∧ ∀ j, j < n → w.cell? (A.add j) = some (.int k (g j)) := by
  rcases hv with ⟨_, h2, h3, _⟩ | ⟨hnl, A, cap, h2, hnc, hcc, hcap, h3, _⟩
  · exact .inl ⟨h2, h3⟩
  · refine .inr ⟨A, cap, h2, ⟨by omega, hcap⟩, fun j hj => ?_⟩
    obtain ⟨pl, g1, g2, _⟩ := h3 (.inl (by omega))
    subst g2
    rw [Addr.add_mid]
    unfold St.srcT at e
    split at e
    · rename_i q' bt l m hb
      split at e
      · rename_i k' g' m' r' hs
        split at e
        · rename_i hk
          obtain rfl := kEq_spec hk
          injection e with e; injection e with e1 e2
          subst e1; subst e2
          have hq' : 0 < n → q'.holds ∧ f + n ≤ m' := hq
          obtain ⟨hq1, hq2⟩ := hq' (by omega)
          obtain ⟨pl', c1, c2⟩ := cell_ints (i := f + j) (hp_ok h hb hq1) hs (by omega)
          rw [g1] at c1; injection c1 with c1; subst c1
          rw [← c2]; congr 2; omega
        · cases e
      · cases e
    · rename_i q' k' g' m hb
      split at e
      · rename_i hk
        obtain rfl := kEq_spec hk
        injection e with e; injection e with e1 e2
        subst e1; subst e2
        have hq' : 0 < n → q'.holds ∧ o + f + n ≤ m := hq
        obtain ⟨hq1, hq2⟩ := hq' (by omega)
        obtain ⟨pl', c1, c2⟩ := hp_ok h hb hq1
        rw [g1] at c1; injection c1 with c1; subst c1
        rw [← c2 (o + f + j) (by omega)]; congr 2; omega
      · cases e
    · subst hnl; cases e
theorem src_ok (h : R W w0 F ρ s a w) {k : IntKind} {c : SC} {n : Nat} {q : Cd} {g : Nat → Int} {v : Value} (e : s.src k c = some (q, g, n)) (hq : q.holds) (hv : Rel1 ρ c v) :
    (v = .slice none 0 0 ∧ n = 0) ∨ ∃ A cap, v = .slice (some A) n cap ∧ (n ≤ cap ∧ cap ≤ maxLen) ∧ ∀ j, j < n → w.cell? (A.add j) = some (.int k (g j)) := by
  unfold St.src at e
  split at e
  · rename_i nl k' f n'
    split at e
    · rename_i hk
      obtain rfl := kEq_spec hk
      injection e with e; injection e with e1 e; injection e with e2 e3
      subst e1; subst e2; subst e3
      rcases hv with ⟨_, h2, h3⟩ | ⟨_, A, cap, h2, h3, h4, h5⟩
      · exact .inl ⟨h2, h3⟩
      · exact .inr ⟨A, cap, h2, ⟨h3, h4⟩, fun j hj => h.imm _ _ (h5 j hj)⟩
    · cases e
  · split at e
    · rename_i cc gg hs
      injection e with e; injection e with e1 e; injection e with e2 e3
      subst e1; subst e2; subst e3
      exact srcT_ok h hs hq hv
    · cases e
  · cases e

theorem heap_freeze {w : World} {b : Nat} {cs : Array Value} {ty : TypeId} {fr : Nat × Nat} (hh : w.heap[b]? = some (.cells cs ty fr)) (k : Nat) :
    (∃ fr', (w.freeze ⟨b, k, none⟩ 1).heap[b]? = some (.cells cs ty fr')) ∧ ∀ i, i ≠ b → (w.freeze ⟨b, k, none⟩ 1).heap[i]? = w.heap[i]? := by
  unfold World.freeze
  rw [if_neg (by decide)]
  refine ⟨?_, fun i hi => ?_⟩
  · simp only [Array.getElem?_modify, if_pos]
    rw [hh]
    exact ⟨_, rfl⟩
  · simp only [Array.getElem?_modify]
    rw [if_neg (fun h => hi h.symm)]
theorem run_convert_mark {t e : TypeId} (hu : P.underlying t = some (.slice e)) (he : P.underlying e = some (.int .u8)) {b : Nat} {cs : Array Value} {ty : TypeId} {fr : Nat × Nat} (hh : w.heap[b]? = some (.cells cs ty fr)) (off n c : Nat) :
    (convert t t (.slice (some ⟨b, off, none⟩) n c)).run P w = .ok (.slice (some ⟨b, off, none⟩) n c) (w.freeze ⟨b, cs.size, none⟩ 1) := by
  have hsh : w.shape? b = some (ty, cs.size) := by unfold World.shape?; rw [hh]
  simp [convert, run_underlying hu, run_underlying he, markStringish, hsh]
theorem act_convert (h : R W w0 F ρ s a w) (hT : TOk P T) {src dst : TypeId} {x : Operand} (ho : op.op = .convert src dst x) (e : act T C s op = some r) (hp : r.p.holds) : Ok P ρ s a w op r := by
  have hx : execOp a.eval op = (do pure (Next.value (← convert src dst (a.eval x)))) := by simp only [execOp, ho]
  simp only [act, ho] at e
  split at e
  · rename_i k sz z p k' n hti h1
    split at e
    · rename_i tsrc hsrc
      rw [one_inj e] at hp ⊢
      have r1 := ev1_ok h h1 hp
      simp only [RelA, Rel1] at r1
      have hd : P.underlying dst = some (.int k) := (hT _ _ hti).1
      obtain ⟨d, hs⟩ := Option.isSome_iff_exists.1 (some_und hT (by rw [hsrc]; rfl))
      refine ok_run (v := .int k (k.wrap n)) hx ?_ rfl
      rw [r1]
      simp [convert, run_underlying hs, run_underlying hd, Conv.intToInt]
    · cases e
  · rename_i sz z p sv hti h1
    split at e
    · rename_i el b k f m sz' z' hsrc
      split at e
      rotate_left
      · cases e
      rename_i q g n hs
      rw [one_inj e] at hp ⊢
      have hd : P.underlying dst = some .string := (hT _ _ hti).1
      obtain ⟨hu, ie, ze, _, _, _, _, _, _, he⟩ := (hT _ _ hsrc).1
      refine ok_run (v := .string (strI g n)) hx ?_ rfl
      have hconv : ∀ A l c', (convert src dst (.slice A l c')).run P w = (Conv.bytesToString (.slice A l c')).run P w := fun A l c' => by
        simp [convert, run_underlying hu, run_underlying hd, run_underlying he]
      rcases src_ok h hs hp.2 (ev1_ok h h1 hp.1) with ⟨e1, e2⟩ | ⟨A, cap, e1, _, e2⟩
      · subst e2
        rw [e1, hconv]; rfl
      · rw [e1, hconv]
        have hl := run_loadCells_list (P := P) w A (intsV .u8 g n) (fun j v hv => by
          have hj : j < n := by have := (List.getElem?_eq_some_iff.1 hv).1; rwa [intsV_length] at this
          rw [intsV_get _ _ _ _ hj] at hv
          injection hv with hv
          rw [← hv]; exact e2 j hj)
        rw [intsV_length] at hl
        have := run_bytesToString (P := P) w A n cap ((List.range n).map g) (by rw [hl]; simp [intsV])
        rw [strI_foldl] at this
        exact this
    · cases e
  · rename_i el f m sz z p b hti h1
    split at e
    · rename_i z1 z2 hsrc
      rw [St.newS_eq] at e
      injection e with e
      subst e
      have r1 := ev1_ok h h1 hp.1
      simp only [RelA, Rel1] at r1
      obtain ⟨hu, ie, ze, _, _, _, _, _, _, he⟩ := (hT _ _ hti).1
      have hs : P.underlying src = some .string := (hT _ _ hsrc).1
      have hrun := run_bytes_of_string (P := P) w src dst el b hs hu he
      have hb : b.size ≤ 9223372036854775807 := hp.2
      have hge := grownCap_ge w b.size 0 el
      have hle := grownCap_le_maxLen w b.size 0 el (by simp only [maxLen]; omega)
      refine ok_new h (w' := w.drew.alloc (.cells (bytesRow b (grownCap w b.size 0 el)) el ((bytesRow b (grownCap w b.size 0 el)).size, (bytesRow b (grownCap w b.size 0 el)).size + 1))) (o := .cells (bytesRow b (grownCap w b.size 0 el)) el ((bytesRow b (grownCap w b.size 0 el)).size, (bytesRow b (grownCap w b.size 0 el)).size + 1)) (pl := ⟨w.heap.size, 0, grownCap w b.size 0 el⟩)
        (v := .slice (some ⟨w.heap.size, 0, none⟩) b.size (grownCap w b.size 0 el)) ?_ ⟨rfl, rfl, rfl, rfl⟩ rfl ?_ ?_
      · rw [hx, r1]; simp only [Sem.run_bind, hrun, Result.andThen_ok, Sem.run_pure]
      · refine ⟨_, Rho.set_same, fun j hj => ?_⟩
        have hh : (w.drew.alloc (.cells (bytesRow b (grownCap w b.size 0 el)) el ((bytesRow b (grownCap w b.size 0 el)).size, (bytesRow b (grownCap w b.size 0 el)).size + 1))).heap[w.heap.size]? = some (.cells (bytesRow b (grownCap w b.size 0 el)) el ((bytesRow b (grownCap w b.size 0 el)).size, (bytesRow b (grownCap w b.size 0 el)).size + 1)) := heap_alloc_new w.drew _
        rw [cell_of_row _ _ _ _ _ _ hh, Nat.zero_add, bytesRow]
        have hj' : j < b.data.size := hj
        rw [Array.getElem?_append_left (by simpa using hj')]
        simp only [bytesI, Array.getElem?_map, Array.getD_eq_getD_getElem?, Array.getElem?_eq_getElem hj', Option.map_some, Option.getD_some]
      · exact .inr ⟨rfl, _, _, rfl, Nat.le_refl _, hge, hle, fun _ => ⟨_, Rho.set_same, rfl, by simp⟩, fun h => by cases h⟩
    · cases e
  · rename_i el f m sz z1 p z t n c hti h1
    split at e
    · rename_i q bt g m' hsd hb
      rw [St.wr_eq] at e
      injection e with e
      subst e
      have hsd := Nat.eq_of_beq_eq_true hsd
      subst hsd
      obtain ⟨hu, ie, ze, _, _, _, _, _, _, he⟩ := (hT _ _ hti).1
      have r1 := ev1_ok h h1 hp.1
      simp only [RelA, Rel1] at r1
      rcases r1 with ⟨hc, _⟩ | ⟨_, A, cap, hv, hn1, hn2, hn3, hpl, hz⟩
      · cases hc
      obtain ⟨pl, k1, k2, k3⟩ := hpl (.inr trivial)
      obtain ⟨pl', vs, post, g1, g2, g3, g4, g5, g6⟩ := hp_ok h hb hp.2
      rw [k1] at g1; injection g1 with g1; subst g1
      subst k2
      have hrun := run_convert_mark (P := P) (w := w) hu he g3 (pl.f + (0 + 0)) n cap
      have hown : ∃ b0, getA s.heap t = some b0 ∧ b0.isOwn = true := by
        unfold St.hp at hb
        split at hb
        · rename_i hb'; injection hb with hb; injection hb with e1 e2; subst e2; exact ⟨_, hb', rfl⟩
        · rename_i hb'; injection hb with hb; injection hb with e1 e2; subst e2; exact ⟨_, hb', rfl⟩
        · rename_i hb'; injection hb with hb; injection hb with e1 e2; subst e2; exact ⟨_, hb', rfl⟩
        · cases hb
      obtain ⟨⟨fr', hheap1⟩, hheap2⟩ := heap_freeze (w := w) g3 ((vs ++ post).toArray.size)
      have hget : ∀ t' b, getA [(t, SB.ro .u8 g m')] t' = some b → t' = t ∧ b = .ro .u8 g m' := by
        intro t' b hb
        simp only [getA] at hb
        split at hb
        · rename_i e; simp only [Nat.beq_eq] at e; injection hb with hb; exact ⟨e.symm, hb.symm⟩
        · cases hb
      intro K Q hK
      unfold Oper.wp
      rw [hx, hv]
      simp only [Sem.run_bind, hrun, Result.andThen_ok, Sem.run_pure]
      refine hK _ _ ρ ⟨Ext.refl _, Nat.le_refl _, (by show s.next ≤ s.next + 16; omega), by simp [World.freeze], rfl, rfl, rfl, fun _ _ h => .inl h, ?_, ?_, ?_, ?_⟩ fun sv hsv => ?_
      · intro t' b hb
        obtain ⟨rfl, rfl⟩ := hget t' b hb
        refine ⟨pl, k1, fun j hj => ?_⟩
        obtain ⟨vs', e1, e2⟩ := g5
        simp only [RelS] at e2
        subst e2
        rw [List.append_nil] at e1
        subst e1
        rw [cell_in hheap1, g2, Nat.zero_add, List.getElem?_append_left (by rw [intsV_length]; exact hj), intsV_get _ _ _ _ hj]
      · intro t' b hb
        obtain ⟨rfl, rfl⟩ := hget t' b hb
        exact .inr hown
      · intro i hi hne
        refine hheap2 i ?_
        rintro rfl
        exact hne t (.ro .u8 g m') pl (by show getA [(t, SB.ro .u8 g m')] t = _; simp [getA]) k1 rfl
      · intro t' t'' b b' hne ht' ht2 _ _ hb _ _ _ _ _ _
        exact absurd ht2 (by show ¬ t' < s.next; omega)
      · injection hsv with hsv
        subst hsv
        exact .inr ⟨rfl, _, cap, rfl, hn1, hn2, hn3, fun _ => ⟨pl, k1, rfl, k3⟩, hz⟩
    · cases e
  · cases e


theorem evI_ok (h : R W w0 F ρ s a w) {x : Operand} {p : Cd} {n : Int} (e : s.evI x = some (p, n)) (hp : p.holds) : ∃ k, a.eval x = .int k n := by
  unfold St.evI at e
  split at e
  · rename_i p' k m h1
    injection e with e; injection e with e1 e2
    subst e1; subst e2
    exact ⟨k, ev1_ok h h1 hp⟩
  · cases e
theorem lo_ok (h : R W w0 F ρ s a w) {lo : Option Operand} {q : Cd} {n : Int} (e : s.evLo lo = some (q, n)) (hq : q.holds) : (lo.map a.eval = none ∧ n = 0) ∨ ∃ k, lo.map a.eval = some (.int k n) := by
  cases lo with
  | none => simp only [St.evLo] at e; injection e with e; injection e with e1 e2; exact .inl ⟨rfl, e2.symm⟩
  | some x => obtain ⟨k, hk⟩ := evI_ok h e hq; exact .inr ⟨k, by simp [hk]⟩
theorem hi_ok (h : R W w0 F ρ s a w) {hi : Option Operand} {q : Cd} {n : Option Int} (e : s.evHi hi = some (q, n)) (hq : q.holds) : (hi.map a.eval = none ∧ n = none) ∨ ∃ k m, hi.map a.eval = some (.int k m) ∧ n = some m := by
  cases hi with
  | none => simp only [St.evHi] at e; injection e with e; injection e with e1 e2; exact .inl ⟨rfl, e2.symm⟩
  | some x =>
    simp only [St.evHi] at e
    split at e
    · rename_i p m e1
      injection e with e; injection e with e2 e3
      subst e2; subst e3
      obtain ⟨k, hk⟩ := evI_ok h e1 hq
      exact .inr ⟨k, m, by simp [hk], rfl⟩
    · cases e

/-- The bounds of a slice expression. -/
theorem run_bounds (b : Bool) (len cap : Nat) (lo hi : Option Value) (l u : Int) (hlo : (lo = none ∧ l = 0) ∨ ∃ k, lo = some (.int k l)) (hhi : (hi = none ∧ u = len) ∨ ∃ k, hi = some (.int k u))
    (h0 : 0 ≤ l) (h1 : l ≤ u) (h2 : u ≤ cap ∨ hi = none) : (Instr.sliceBounds b len cap lo hi none).run P w = .ok (l.toNat, u.toNat, cap) w := by
  have eu : (u.toNat : Int) = u := Int.toNat_of_nonneg (by omega)
  have k1 : ∀ (k : IntKind) (c : BoundsCode), (Instr.sliceBound (.int k l) u.toNat c).run P w = .ok l.toNat w := fun k c => run_sliceBound w k l _ c h0 (by omega)
  rcases hhi with ⟨rfl, rfl⟩ | ⟨kh, rfl⟩
  · have e3 : ((len : Int)).toNat = len := by simp
    rw [e3] at k1 ⊢
    rcases hlo with ⟨rfl, rfl⟩ | ⟨kl, rfl⟩
    · simp [Instr.sliceBounds]
    · simp [Instr.sliceBounds, k1]
  · have h2' : u ≤ cap := h2.elim id (fun h => by cases h)
    have k2 : ∀ (c : BoundsCode), (Instr.sliceBound (.int kh u) cap c).run P w = .ok u.toNat w := fun c => run_sliceBound w kh u _ c (by omega) h2'
    rcases hlo with ⟨rfl, rfl⟩ | ⟨kl, rfl⟩
    · simp [Instr.sliceBounds, k2]
    · simp [Instr.sliceBounds, k1, k2]

theorem run_bounds3 (len cap : Nat) (kh km : IntKind) : (Instr.sliceBounds true len cap none (some (.int kh 0)) (some (.int km 0))).run P w = .ok (0, 0, 0) w := by
  have k1 : ∀ (k : IntKind) (y : Nat) (c : BoundsCode), (Instr.sliceBound (.int k 0) y c).run P w = .ok (0 : Int).toNat w := fun k y c => run_sliceBound w k 0 _ c (by omega) (by omega)
  simp [Instr.sliceBounds, k1]

theorem act_slice (h : R W w0 F ρ s a w) (hT : TOk P T) {t : TypeId} {x : Operand} {lo hi mx : Option Operand} (ho : op.op = .slice t x lo hi mx) (e : act T C s op = some r) (hp : r.p.holds) : Ok P ρ s a w op r := by
  have hx : execOp a.eval op = (do pure (Next.value (← Instr.sliceAt t (a.eval x) (lo.map a.eval) (hi.map a.eval) (mx.map a.eval)))) := by simp only [execOp, ho]
  simp only [act, ho] at e
  unfold actSlice at e
  cases mx with
  | some m =>
    simp only at e
    split at e
    · rename_i el b z sz zr p v r' u r'' m' hti h1 h3 h4
      split at e
      rotate_left
      · cases e
      rename_i nl hnl
      rw [one_inj e] at hp ⊢
      obtain ⟨hp1, hp2, hp3, hp4⟩ := hp
      obtain ⟨hb0, hm0⟩ : u = 0 ∧ m' = 0 := hp4
      subst hb0; subst hm0
      obtain ⟨hu, hs⟩ := elem_one (w := w) hT hti
      obtain ⟨A, n, cap, e1, e2⟩ := nl_none hnl (ev1_ok h h1 hp1)
      obtain ⟨km, e4⟩ := evI_ok h h4 hp3
      rcases hi_ok h h3 hp2 with ⟨_, g2⟩ | ⟨kh, u', g1, g2⟩
      · cases g2
      · injection g2 with g2; subst g2
        refine ok_run (v := .slice A 0 0) hx ?_ ?_
        · rw [e1, g1]
          simp [Instr.sliceAt, Instr.slice, run_underlying hu, e4, run_bounds3 (P := P) (w := w), hs]
        · cases A with
          | none => exact .inl ⟨by rw [← e2]; rfl, rfl, rfl, rfl⟩
          | some A => exact .inr ⟨by rw [← e2]; rfl, A, 0, rfl, Nat.le_refl _, Nat.le_refl _, Nat.zero_le _, (fun hc => by rcases hc with hc | hc <;> cases hc), fun _ _ => rfl⟩
    · cases e
  | none =>
  simp only at e
  simp only [Option.map_none] at hx
  split at e
  · -- a slice
    rename_i el b z sz zr p nl ex zz tg o f n c q l r' hh hti h1 h2 h3
    obtain ⟨hu, hs⟩ := elem_one (w := w) hT hti
    have core : ∀ (u : Int) (p' : Cd), p.holds → q.holds → r'.holds → 0 ≤ l → l ≤ u → ((hi.map a.eval = none ∧ u = n) ∨ ((∃ k, hi.map a.eval = some (.int k u)) ∧ u ≤ (c : Int) ∧ (u ≤ (n : Int) ∨ ex = true))) →
        Ok P ρ s a w op ⟨p', some (Sx.sc (.sl nl (ex && (l == 0)) false tg o (f + l.toNat) (u.toNat - l.toNat) (c - l.toNat))), [], s.next⟩ := by
      intro u p' hp1 hq1 hr1 hl0 hlu hhu
      have hlo := lo_ok h h2 hq1
      rcases ev1_ok h h1 hp1 with ⟨e1, e2, e3, e4⟩ | ⟨e1, A, cap, e2, e3, e4, e5, e6, _⟩
      · subst e3; subst e4
        have hu0 : u = 0 := by rcases hhu with ⟨_, h⟩ | ⟨_, h⟩ <;> omega
        subst hu0
        have hl : l = 0 := by omega
        subst hl
        have hb := run_bounds (P := P) (w := w) true 0 0 (lo.map a.eval) (hi.map a.eval) 0 0 hlo (by rcases hhu with ⟨h, _⟩ | ⟨h, _⟩; exact .inl ⟨h, rfl⟩; exact .inr h) (by omega) (by omega) (by rcases hhu with ⟨h, _⟩ | ⟨h, _⟩; exact .inr h; exact .inl (by omega))
        refine ok_run (v := .slice none 0 0) hx ?_ (.inl ⟨e1, rfl, by simp, by simp⟩)
        rw [e2]
        simp [Instr.sliceAt, Instr.slice, run_underlying hu, hb, hs]
      · have hcu : u ≤ (cap : Int) := by rcases hhu with ⟨_, h⟩ | ⟨_, h⟩ <;> omega
        have hb := run_bounds (P := P) (w := w) true n cap (lo.map a.eval) (hi.map a.eval) l u hlo (by rcases hhu with ⟨h, h'⟩ | ⟨h, _⟩; exact .inl ⟨h, h'⟩; exact .inr h) hl0 hlu (.inl hcu)
        refine ok_run (v := .slice (if cap = l.toNat then some A else (some A).map (·.add (l.toNat * 1))) (u.toNat - l.toNat) (cap - l.toNat)) hx ?_ (.inr ⟨e1, (if cap = l.toNat then A else A.add (l.toNat * 1)), cap - l.toNat, ?_, ?_, ?_, ?_, ?_, fun h => by cases h⟩)
        · rw [e2]
          simp [Instr.sliceAt, Instr.slice, run_underlying hu, hb, hs]
        · split <;> rfl
        · rcases hhu with ⟨_, h⟩ | ⟨_, h⟩ <;> omega
        · omega
        · omega
        · intro hc
          have hc' : 0 < n ∨ ex = true := by
            rcases hc with hc | hc
            · rcases hhu with ⟨_, h⟩ | ⟨_, h⟩
              · exact .inl (by omega)
              · rcases h.2 with h | h
                · exact .inl (by omega)
                · exact .inr h
            · simp only [Bool.and_eq_true] at hc; exact .inr hc.1
          obtain ⟨pl, g1, g2, g3⟩ := e6 hc'
          refine ⟨pl, g1, ?_, by omega⟩
          rw [g2, Nat.mul_one, Addr.add_mid]
          split
          · rename_i hcl
            rcases hc with hc | hc
            · omega
            · simp only [Bool.and_eq_true, beq_iff_eq] at hc
              have : l.toNat = 0 := by omega
              rw [this]; rfl
          · simp only [Nat.add_assoc]
    split at e
    · have hn := hi_ok h h3
      rw [one_inj e] at hp ⊢
      obtain ⟨hp1, hp2, hp3, hp4, hp5⟩ := hp
      rcases hi_ok h h3 hp3 with ⟨g1, _⟩ | ⟨k, m, _, g2⟩
      · exact core n _ hp1 hp2 hp3 hp4 hp5 (.inl ⟨g1, rfl⟩)
      · cases g2
    · rename_i u
      rw [one_inj e] at hp ⊢
      obtain ⟨hp1, hp2, hp3, hp4, hp5, hp6, hp7⟩ := hp
      rcases hi_ok h h3 hp3 with ⟨_, g2⟩ | ⟨k, m, g1, g2⟩
      · cases g2
      · injection g2 with g2; subst g2
        exact core u _ hp1 hp2 hp3 hp4 hp5 (.inr ⟨⟨k, g1⟩, hp6, hp7⟩)
  · -- a slice that nobody writes
    rename_i el b z sz zr p nl kk f n q l r' hh hti h1 h2 h3
    obtain ⟨hu, hs⟩ := elem_one (w := w) hT hti
    have core : ∀ (u : Int) (p' : Cd), p.holds → q.holds → r'.holds → 0 ≤ l → l ≤ u → u ≤ (n : Int) → ((hi.map a.eval = none ∧ u = n) ∨ (∃ k, hi.map a.eval = some (.int k u))) →
        Ok P ρ s a w op ⟨p', some (Sx.sc (.im nl kk (fun j => f (l.toNat + j)) (u.toNat - l.toNat))), [], s.next⟩ := by
      intro u p' hp1 hq1 hr1 hl0 hlu hun hhu
      have hlo := lo_ok h h2 hq1
      rcases ev1_ok h h1 hp1 with ⟨e1, e2, e3⟩ | ⟨e1, A, cap, e2, e3, e4, e5⟩
      · simp only at e3
        subst e3
        have hu0 : u = 0 := by omega
        subst hu0
        have hl : l = 0 := by omega
        subst hl
        have hb := run_bounds (P := P) (w := w) true 0 0 (lo.map a.eval) (hi.map a.eval) 0 0 hlo (by simpa using hhu) (by omega) (by omega) (.inl (by omega))
        refine ok_run (v := .slice none 0 0) hx ?_ (.inl ⟨e1, rfl, by simp⟩)
        rw [e2]
        simp [Instr.sliceAt, Instr.slice, run_underlying hu, hb, hs]
      · simp only at e2 e3 e5
        have hb := run_bounds (P := P) (w := w) true n cap (lo.map a.eval) (hi.map a.eval) l u hlo hhu hl0 hlu (.inl (by omega))
        refine ok_run (v := .slice (if cap = l.toNat then some A else (some A).map (·.add (l.toNat * 1))) (u.toNat - l.toNat) (cap - l.toNat)) hx ?_ (.inr ⟨e1, (if cap = l.toNat then A else A.add (l.toNat * 1)), cap - l.toNat, ?_, ?_, ?_, ?_⟩)
        · rw [e2]
          simp [Instr.sliceAt, Instr.slice, run_underlying hu, hb, hs]
        · split <;> rfl
        · simp only; omega
        · omega
        · intro j hj
          simp only at hj ⊢
          rw [if_neg (by omega), Nat.mul_one, add_add]
          exact e5 _ (by omega)
    split at e
    · rw [one_inj e] at hp ⊢
      obtain ⟨hp1, hp2, hp3, hp4, hp5⟩ := hp
      rcases hi_ok h h3 hp3 with ⟨g1, _⟩ | ⟨k, m, _, g2⟩
      · exact core n _ hp1 hp2 hp3 hp4 hp5 (Int.le_refl _) (.inl ⟨g1, rfl⟩)
      · cases g2
    · rename_i u
      rw [one_inj e] at hp ⊢
      obtain ⟨hp1, hp2, hp3, hp4, hp5, hp6⟩ := hp
      rcases hi_ok h h3 hp3 with ⟨_, g2⟩ | ⟨k, m, g1, g2⟩
      · cases g2
      · injection g2 with g2; subst g2
        exact core u _ hp1 hp2 hp3 hp4 hp5 hp6 (.inr ⟨k, g1⟩)
  · -- an array
    rename_i n el sz zr p tg q l r' hh hti h1 h2 h3
    split at e
    · rename_i bt L hb
      split at e
      · rename_i hL
        simp only [Bool.and_eq_true, Nat.beq_eq] at hL
        have hn63 : n ≤ maxLen := by have := Nat.le_of_ble_eq_true hL.2; simp only [maxLen]; omega
        replace hL := hL.1
        obtain ⟨hu, ⟨ie, hi1, hi2⟩, _⟩ := (hT _ _ hti).1
        have hs : (sizeOf el).run P w = .ok 1 w := by simp [sizeOf, typeInfo, hi1, hi2]
        have core : ∀ (u : Int) (p' : Cd), p.holds → q.holds → r'.holds → 0 ≤ l → l ≤ u → u ≤ (n : Int) → ((hi.map a.eval = none ∧ u = n) ∨ (∃ k, hi.map a.eval = some (.int k u))) →
            Ok P ρ s a w op ⟨p', some (Sx.sc (.sl false (l == 0) false tg 0 l.toNat (u.toNat - l.toNat) (n - l.toNat))), [], s.next⟩ := by
          intro u p' hp1 hq1 hr1 hl0 hlu hun hhu
          have hlo := lo_ok h h2 hq1
          obtain ⟨pl, e1, e2⟩ := ev1_ok h h1 hp1
          obtain ⟨pl', vs, post, g1, g2, g3, g4, g5, g6⟩ := h.heap _ _ hb
          rw [e1] at g1; injection g1 with g1; subst g1
          have hpn : pl.n = n := by rw [← g4, g6 rfl, List.append_nil, relS_len g5, hL]
          have hb := run_bounds (P := P) (w := w) false n n (lo.map a.eval) (hi.map a.eval) l u hlo hhu hl0 hlu (.inl hun)
          refine ok_run (v := .slice (some (if n = l.toNat then ⟨pl.b, pl.f + (0 + 0), none⟩ else (⟨pl.b, pl.f + (0 + 0), none⟩ : Addr).add (l.toNat * 1))) (u.toNat - l.toNat) (n - l.toNat)) hx ?_ (.inr ⟨rfl, _, _, rfl, by omega, Nat.le_refl _, by omega, ?_, fun h => by cases h⟩)
          · rw [e2]
            simp [Instr.sliceAt, run_underlying hu, Instr.sureAddr, hb, hs]
          · intro hc
            refine ⟨pl, e1, ?_, by omega⟩
            rw [Nat.mul_one, Addr.add_mid]
            split
            · rcases hc with hc | hc
              · omega
              · simp only [beq_iff_eq] at hc
                have : l.toNat = 0 := by omega
                rw [this]
            · simp only [Nat.add_assoc, Nat.zero_add]
        split at e
        · rw [one_inj e] at hp ⊢
          obtain ⟨hp1, hp2, hp3, hp4, hp5⟩ := hp
          rcases hi_ok h h3 hp3 with ⟨g1, _⟩ | ⟨k, m, _, g2⟩
          · exact core n _ hp1 hp2 hp3 hp4 hp5 (Int.le_refl _) (.inl ⟨g1, rfl⟩)
          · cases g2
        · rename_i u
          rw [one_inj e] at hp ⊢
          obtain ⟨hp1, hp2, hp3, hp4, hp5, hp6⟩ := hp
          rcases hi_ok h h3 hp3 with ⟨_, g2⟩ | ⟨k, m, g1, g2⟩
          · cases g2
          · injection g2 with g2; subst g2
            exact core u _ hp1 hp2 hp3 hp4 hp5 hp6 (.inr ⟨k, g1⟩)
      · cases e
    · cases e
  · -- a string
    rename_i sz zr p b q l r' hh hti h1 h2 h3
    have hu : P.underlying t = some .string := (hT _ _ hti).1
    have core : ∀ (u : Int) (p' : Cd), p.holds → q.holds → r'.holds → 0 ≤ l → l ≤ u → u ≤ (b.size : Int) → ((hi.map a.eval = none ∧ u = b.size) ∨ (∃ k, hi.map a.eval = some (.int k u))) →
        Ok P ρ s a w op ⟨p', some (Sx.sc (.str (b.extract l.toNat u.toNat))), [], s.next⟩ := by
      intro u p' hp1 hq1 hr1 hl0 hlu hun hhu
      have hlo := lo_ok h h2 hq1
      have r1 := ev1_ok h h1 hp1
      simp only [RelA, Rel1] at r1
      have hb := run_bounds (P := P) (w := w) false b.size b.size (lo.map a.eval) (hi.map a.eval) l u hlo hhu hl0 hlu (.inl hun)
      refine ok_run (v := .string (b.extract l.toNat u.toNat)) hx ?_ rfl
      rw [r1]
      simp [Instr.sliceAt, Instr.slice, run_underlying hu, hb]
    split at e
    · rw [one_inj e] at hp ⊢
      obtain ⟨hp1, hp2, hp3, hp4, hp5⟩ := hp
      rcases hi_ok h h3 hp3 with ⟨g1, _⟩ | ⟨k, m, _, g2⟩
      · exact core b.size _ hp1 hp2 hp3 hp4 hp5 (Int.le_refl _) (.inl ⟨g1, rfl⟩)
      · cases g2
    · rename_i u
      rw [one_inj e] at hp ⊢
      obtain ⟨hp1, hp2, hp3, hp4, hp5, hp6⟩ := hp
      rcases hi_ok h h3 hp3 with ⟨_, g2⟩ | ⟨k, m, g1, g2⟩
      · cases g2
      · injection g2 with g2; subst g2
        exact core u _ hp1 hp2 hp3 hp4 hp5 hp6 (.inr ⟨k, g1⟩)
  · cases e

end
end Go.Sx

/- The symbolic evaluator: its operations are the model's: lengths, new blocks. Plain lemmas, no condition. -/
namespace Go.Sx
open Go.RowKit
set_option linter.unusedSimpArgs false

set_option linter.unusedVariables false
section
variable {P : Program} {W : Env} {w0 w : World} {F : Nat → Prop} {ρ : Rho} {s : St} {a : Act} {op : Oper} {T : TypeId → Option TyI} {C : FuncId → Option Summary} {r : Res}

theorem act_index (h : R W w0 F ρ s a w) (hT : TOk P T) {t : TypeId} {x y : Operand} (ho : op.op = .index t x y) (e : act T C s op = some r) (hp : r.p.holds) : Ok P ρ s a w op r := by
  have hx : execOp a.eval op = (do pure (Next.value (← Instr.index t (a.eval x) (a.eval y)))) := by simp only [execOp, ho]
  simp only [act, ho] at e
  split at e
  · rename_i m el sz k0 f0 n0 p k f n q k' i hti h1 h2
    split at e
    · rename_i hnm
      simp only [Nat.beq_eq] at hnm
      subst hnm
      rw [one_inj e] at hp ⊢
      obtain ⟨hp1, hp2, hp3, hp4⟩ := hp
      obtain ⟨hu, ⟨ie, hi1, hi2⟩, _, hz0, _⟩ := (hT _ _ hti).1
      obtain ⟨hel, _⟩ := hz0 _ _ _ rfl
      have hs : (sizeOf el).run P w = .ok 1 w := by simp [sizeOf, typeInfo, hi1, hi2]
      have r2 := ev1_ok h h2 hp2
      simp only [RelA, Rel1] at r2
      obtain ⟨va, ra, vb, rb, rc⟩ := ev1_ok h h1 hp1
      simp only [RelS] at rc
      subst rc; subst rb
      rw [List.append_nil] at ra
      refine ok_run (v := .int k (f i.toNat)) hx ?_ rfl
      rw [ra, r2]
      have hin : i.toNat < n := by omega
      have hg := intsV_get k f n i.toNat hin
      have hpart : (part el (intsV k f n).toArray (i.toNat * 1)).run P w = .ok (.int k (f i.toNat)) w := by
        have : (isAgg el).run P w = .ok false w := by simp [isAgg, run_underlying hel]
        simp [part, this, hg]
      simp only [Instr.index, asIntOf, Sem.run_bind, Sem.run_pure, Result.andThen_ok, run_underlying hu]
      rw [if_pos ⟨hp3, hp4⟩]
      simp only [Sem.run_bind, hs, Result.andThen_ok, hpart]
    · cases e
  · rename_i sz zr p b q k i hti h1 h2
    rw [one_inj e] at hp ⊢
    obtain ⟨hp1, hp2, hp3, hp4⟩ := hp
    have hu : P.underlying t = some .string := (hT _ _ hti).1
    have r1 := ev1_ok h h1 hp1
    have r2 := ev1_ok h h2 hp2
    simp only [RelA, Rel1] at r1 r2
    refine ok_run (v := .int .u8 (bytesI b i.toNat)) hx ?_ rfl
    rw [r1, r2]
    have hin : i.toNat < b.size := by omega
    have hg : b[i.toNat]? = some b[i.toNat] := by simp [hin]
    simp only [Instr.index, asIntOf, Sem.run_bind, Sem.run_pure, Result.andThen_ok, run_underlying hu]
    rw [if_pos hp3, hg]
    have hd : i.toNat < b.data.size := hin
    simp only [Sem.run_pure, bytesI, Array.getD_eq_getD_getElem?, Array.getElem?_eq_getElem hd, Option.getD_some]
    rfl
  · cases e

theorem act_alloc (h : R W w0 F ρ s a w) (hT : TOk P T) {t : TypeId} (ho : op.op = .alloc t) (e : act T C s op = some r) (hp : r.p.holds) : Ok P ρ s a w op r := by
  have hx : execOp a.eval op = (do pure (Next.value (← Instr.alloc t true (.tuple #[])))) := by simp only [execOp, ho]
  simp only [act, ho] at e
  split at e
  · rename_i td tz tzero hti
    rw [St.newP_eq] at e
    injection e with e
    subst e
    obtain ⟨_, i, z, h1, h2, h3, h4⟩ := hT _ _ hti
    refine ok_new h (w' := w.alloc (.cells z.cells t)) (o := .cells z.cells t) (pl := ⟨w.heap.size, 0, z.cells.toList.length⟩) (v := .pointer (some ⟨w.heap.size, 0, none⟩)) ?_ (push_alloc _ _) rfl ?_ ⟨_, Rho.set_same, rfl⟩
    · rw [hx]
      simp [Instr.alloc, zeroValue, typeInfo, h1, h3, newVar, newRow]
    · have := sat_new (l := tzero) (vs := z.cells.toList) (post := []) (ty := t) (t := s.next) (w' := w.alloc (.cells z.cells t)) (m := false) h (by simpa using push_alloc w (.cells z.cells t)) (h4 ρ) rfl (fun _ => rfl)
      simpa using this
  · cases e

theorem one_cells {v : Value} (h : v.oneCell' = true) : v.cells = #[v] := by
  cases v <;> first | rfl | (exact absurd h (by decide)) | (simp [Value.oneCell'] at h)
theorem rel1_cells {c : SC} {v : Value} (hr : Rel1 ρ c v) : v.cells = #[v] := by
  cases c <;> simp only [Rel1] at hr
  case any => cases v <;> first | rfl | (exact absurd hr (by decide)) | (simp [Value.oneCell'] at hr)
  case ptr => obtain ⟨_, _, rfl⟩ := hr; rfl
  case sl => rcases hr with ⟨_, rfl, _⟩ | ⟨_, _, _, rfl, _⟩ <;> rfl
  case im => rcases hr with ⟨_, rfl, _⟩ | ⟨_, _, _, rfl, _⟩ <;> rfl
  case rows => rcases hr with ⟨_, rfl, _⟩ | ⟨_, _, _, rfl, _⟩ <;> rfl
  case adr => obtain ⟨_, _, rfl, _⟩ := hr; rfl
  case opq => exact one_cells hr.2
  case fn => obtain ⟨_, _, rfl⟩ := hr; rfl
  all_goals (subst hr; rfl)

theorem act_box (h : R W w0 F ρ s a w) {t : TypeId} {x : Operand} (ho : op.op = .box t x) (e : act T C s op = some r) (hp : r.p.holds) : Ok P ρ s a w op r := by
  have hx : execOp a.eval op = (do pure (Next.value (← Instr.box t (a.eval x)))) := by simp only [execOp, ho]
  simp only [act, ho] at e
  split at e
  · rename_i p v h1
    rw [St.newP_eq] at e
    injection e with e
    subst e
    have r1 := ev1_ok h h1 hp
    refine ok_new h (w' := w.alloc (.cells #[a.eval x] t)) (o := .cells #[a.eval x] t) (pl := ⟨w.heap.size, 0, 1⟩) (v := .pointer (some ⟨w.heap.size, 0, none⟩)) ?_ (push_alloc _ _) rfl ?_ ⟨_, Rho.set_same, rfl⟩
    · rw [hx]
      simp [Instr.box, newVar, newRow, rel1_cells r1]
    · exact sat_new (l := [.one v]) (vs := [a.eval x]) (post := []) (ty := t) (t := s.next) (w' := w.alloc (.cells #[a.eval x] t)) (m := false) h (push_alloc w _) ⟨_, [], rfl, r1, rfl⟩ rfl (fun _ => rfl)
  · rename_i p l h1
    rw [St.newP_eq] at e
    injection e with e
    subst e
    obtain ⟨vs, r1, r2⟩ := ev1_ok h h1 hp
    refine ok_new h (w' := w.alloc (.cells vs.toArray t)) (o := .cells vs.toArray t) (pl := ⟨w.heap.size, 0, vs.length⟩) (v := .pointer (some ⟨w.heap.size, 0, none⟩)) ?_ (push_alloc _ _) rfl ?_ ⟨_, Rho.set_same, rfl⟩
    · rw [hx, r1]
      simp [Instr.box, newVar, newRow, Value.cells]
    · have := sat_new (l := l) (vs := vs) (post := []) (ty := t) (t := s.next) (w' := w.alloc (.cells vs.toArray t)) (m := false) h (by simpa using push_alloc w (.cells vs.toArray t)) r2 rfl (fun _ => rfl)
      simpa using this
  · cases e


/-- The operands of a list, as values. -/
def RelP (ρ : Rho) : List (Nat × SA) → List (Nat × Value) → Prop
  | [], vs => vs = []
  | (i, v) :: r, vs => ∃ u vs', vs = (i, u) :: vs' ∧ RelA ρ v u ∧ RelP ρ r vs'
theorem evAll_ok (h : R W w0 F ρ s a w) : ∀ {l : List (Nat × Operand)} {p : Cd} {m : List (Nat × SA)}, evAll s l = some (p, m) → p.holds → RelP ρ m (l.map fun x => (x.1, a.eval x.2))
  | [], p, m, e, _ => by simp only [evAll] at e; injection e with e; injection e with e1 e2; subst e2; rfl
  | (i, x) :: l, p, m, e, hp => by
    simp only [evAll] at e
    split at e
    · rename_i p1 v q l' h1 h2
      injection e with e; injection e with e1 e2
      subst e1; subst e2
      exact ⟨_, _, rfl, ev1_ok h h1 hp.1, evAll_ok h h2 hp.2⟩
    · cases e
theorem evArgs_ok (h : R W w0 F ρ s a w) : ∀ {l : List Operand} {p : Cd} {m : List SA}, evArgs s l = some (p, m) → p.holds → RelL ρ m (l.map a.eval)
  | [], p, m, e, _ => by simp only [evArgs] at e; injection e with e; injection e with e1 e2; subst e2; rfl
  | x :: l, p, m, e, hp => by
    simp only [evArgs] at e
    split at e
    · rename_i p1 v q l' h1 h2
      injection e with e; injection e with e1 e2
      subst e1; subst e2
      exact ⟨_, _, rfl, ev1_ok h h1 hp.1, evArgs_ok h h2 hp.2⟩
    · cases e

theorem fill_step {place : Nat → Option (Nat × Nat)} {cells : Array Value} {i off : Nat} {v : Value} {rest : List (Nat × Value)} (hp : place i = some (off, 1)) (hv : v.cells = #[v]) (ho : off < cells.size) :
    Instr.fill place cells ((i, v) :: rest) = Instr.fill place (cells.setIfInBounds off v) rest := by
  simp only [Instr.fill, hp, hv]
  rw [if_neg (by simp; omega)]
  rfl
/-- Integers, one behind the other from place j on, laid over cells. -/
theorem fill_ints {k : IntKind} : ∀ {l : List (Nat × SA)} {j : Nat} {acc xs : List Int} {vs : List (Nat × Value)} {pre post : List Value} (place : Nat → Option (Nat × Nat)), (∀ i, place i = some (i, 1)) →
    partsI k l j acc = some xs → RelP ρ l vs → pre.length = j → l.length ≤ post.length →
    ∃ ys, xs = acc.reverse ++ ys ∧ ys.length = l.length ∧ Instr.fill place (pre ++ post).toArray vs = some (pre ++ (ys.map (Value.int k)) ++ post.drop l.length).toArray
  | [], j, acc, xs, vs, pre, post, place, hpl, e, hr, hj, hl => by
    simp only [partsI] at e
    injection e with e
    simp only [RelP] at hr
    subst hr; subst e
    exact ⟨[], by simp, rfl, by simp [Instr.fill]⟩
  | (i, v) :: l, j, acc, xs, vs, pre, post, place, hpl, e, hr, hj, hl => by
    obtain ⟨u, vs', rfl, h1, h2⟩ := hr
    cases v with
    | agg g => simp only [partsI] at e; cases e
    | sc c =>
      cases c <;> simp only [partsI, reduceCtorEq] at e
      rename_i k' n
      split at e
      · rename_i hc
        simp only [Bool.and_eq_true, Nat.beq_eq] at hc
        obtain ⟨rfl, hk⟩ := hc
        obtain rfl := kEq_spec hk
        simp only [RelA, Rel1] at h1
        subst h1
        cases post with
        | nil => simp at hl
        | cons x post =>
          have ih := fill_ints (pre := pre ++ [Value.int k n]) (post := post) place hpl e h2 (by simp [hj]) (by simpa using hl)
          obtain ⟨ys, g1, g2, g3⟩ := ih
          refine ⟨n :: ys, by rw [g1]; simp, by simp [g2], ?_⟩
          have hset : ((pre ++ x :: post).toArray.setIfInBounds i (Value.int k n)) = (pre ++ [Value.int k n] ++ post).toArray := by
            rw [List.setIfInBounds_toArray, List.set_append_right _ _ (by omega), hj, Nat.sub_self]
            simp
          rw [fill_step (hpl i) rfl (by simp; omega), hset, g3]
          simp
      · cases e

theorem partsI_len {k : IntKind} : ∀ {l : List (Nat × SA)} {j : Nat} {acc xs : List Int}, partsI k l j acc = some xs → xs.length = acc.length + l.length
  | [], j, acc, xs, e => by simp only [partsI] at e; injection e with e; subst e; simp
  | (i, v) :: l, j, acc, xs, e => by
    cases v with
    | agg g => simp only [partsI] at e; cases e
    | sc c =>
      cases c <;> simp only [partsI, reduceCtorEq] at e
      split at e
      · rw [partsI_len e]; simp; omega
      · cases e
theorem intsV_list (k : IntKind) (xs : List Int) (n : Nat) (h : xs.length ≤ n) : intsV k (listI xs) n = xs.map (Value.int k) ++ List.replicate (n - xs.length) (.int k 0) := by
  apply List.ext_getElem?
  intro j
  by_cases hj : j < n
  · rw [intsV_get _ _ _ _ hj]
    by_cases hx : j < xs.length
    · rw [List.getElem?_append_left (by simpa using hx)]
      simp [listI, hx]
    · rw [List.getElem?_append_right (by simpa using hx)]
      simp [listI, List.getElem?_replicate]
      rw [List.getElem?_eq_none (by omega)]
      simp; omega
  · rw [List.getElem?_eq_none (by rw [intsV_length]; omega), List.getElem?_eq_none (by simp; omega)]
theorem intsV_const (k : IntKind) (f : Nat → Int) (n : Nat) (h : ∀ j, f j = 0) : intsV k f n = List.replicate n (.int k 0) := by
  apply List.ext_getElem?
  intro j
  by_cases hj : j < n
  · rw [intsV_get _ _ _ _ hj, h, List.getElem?_replicate, if_pos hj]
  · rw [List.getElem?_eq_none (by rw [intsV_length]; omega), List.getElem?_eq_none (by simp; omega)]
theorem replicate_madeCells (k : IntKind) (n : Nat) : (Array.range n).map (#[Value.int k 0][· % 1]!) = (List.replicate n (Value.int k 0)).toArray := by
  apply Array.ext
  · simp
  · intro i h1 h2
    simp [Nat.mod_one]

/-- Values of one cell, one behind the other. -/
theorem fill_one : ∀ {l : List (Nat × SA)} {j : Nat} {xs : List Seg} {vs : List (Nat × Value)} {pre post : List Value} (place : Nat → Option (Nat × Nat)), (∀ i, place i = some (i, 1)) →
    partsO l j = some xs → RelP ρ l vs → pre.length = j → l.length = post.length → ∃ ys, Instr.fill place (pre ++ post).toArray vs = some (pre ++ ys).toArray ∧ RelS ρ xs ys
  | [], j, xs, vs, pre, post, place, hpl, e, hr, hj, hl => by
    simp only [partsO] at e
    injection e with e
    simp only [RelP] at hr
    subst hr; subst e
    cases post with
    | nil => exact ⟨[], by simp [Instr.fill], rfl⟩
    | cons x post => simp at hl
  | (i, v) :: l, j, xs, vs, pre, post, place, hpl, e, hr, hj, hl => by
    obtain ⟨u, vs', rfl, h1, h2⟩ := hr
    cases v with
    | agg g => simp only [partsO] at e; cases e
    | sc c =>
      simp only [partsO] at e
      split at e
      · rename_i hi
        simp only [Nat.beq_eq] at hi
        subst hi
        split at e
        rotate_left
        · cases e
        rename_i xs' e1
        injection e with e
        subst e
        cases post with
        | nil => simp at hl
        | cons x post =>
          obtain ⟨ys, g1, g2⟩ := fill_one (pre := pre ++ [u]) (post := post) place hpl e1 h2 (by simp [hj]) (by simpa using hl)
          refine ⟨u :: ys, ?_, u, ys, rfl, h1, g2⟩
          have hset : ((pre ++ x :: post).toArray.setIfInBounds i u) = (pre ++ [u] ++ post).toArray := by
            rw [List.setIfInBounds_toArray, List.set_append_right _ _ (by omega), hj, Nat.sub_self]
            simp
          rw [fill_step (hpl i) (rel1_cells h1) (by simp; omega), hset, g1]
          simp
      · cases e

theorem foldl_set : ∀ (x : List Value) (j0 off : Nat) (a b c : List Value), a.length = off + j0 → x.length = b.length →
    (x.zipIdx j0).foldl (fun (cs : Array Value) (p : Value × Nat) => cs.setIfInBounds (off + p.2) p.1) (a ++ (b ++ c)).toArray = (a ++ (x ++ c)).toArray
  | [], j0, off, a, b, c, ha, hb => by
    cases b with
    | nil => rfl
    | cons _ _ => simp at hb
  | v :: x, j0, off, a, b, c, ha, hb => by
    cases b with
    | nil => simp at hb
    | cons u b =>
      simp only [List.zipIdx_cons, List.foldl_cons]
      have hset : ((a ++ (u :: b ++ c)).toArray.setIfInBounds (off + j0) v) = ((a ++ [v]) ++ (b ++ c)).toArray := by
        rw [List.setIfInBounds_toArray, List.set_append_right _ _ (by omega), ha, Nat.sub_self]
        simp
      rw [hset, foldl_set x (j0 + 1) off (a ++ [v]) b c (by simp; omega) (by simpa using hb)]
      simp
theorem fill_step_agg {place : Nat → Option (Nat × Nat)} {i off n : Nat} {v : Value} {x a b c : List Value} {rest : List (Nat × Value)} (hp : place i = some (off, n)) (hv : v.cells = x.toArray) (hx : x.length = n) (hb : b.length = n) (ho : a.length = off) :
    Instr.fill place (a ++ (b ++ c)).toArray ((i, v) :: rest) = Instr.fill place (a ++ (x ++ c)).toArray rest := by
  simp only [Instr.fill, hp, hv]
  rw [if_neg (by simp; omega)]
  have := foldl_set x 0 off a b c (by omega) (by omega)
  rw [← this]
  simp

end
end Go.Sx

/- Numbers of fixed width as bit vectors: how the model's operations on integer kinds read on the casts of bit vectors. Plain lemmas, no condition. -/
namespace Go.Proofs.Ytogijkmflhjhkaa
open Go.RowKit
set_option linter.unusedSimpArgs false
set_option linter.unusedVariables false

/-- A bit vector as the integer that the model keeps. -/
def U {n : Nat} (x : BitVec n) : Int := (x.toNat : Int)

theorem ofInt_toNat {n : Nat} (x : BitVec n) : BitVec.ofInt n (x.toNat : Int) = x := by
  rw [BitVec.ofInt_natCast]; simp

theorem w32_cast (n : Nat) : IntKind.u32.wrap (n : Int) = ((BitVec.ofNat 32 n).toNat : Int) := by
  rw [IntKind.wrap_u32, BitVec.toNat_ofNat]; omega
theorem w8_cast (n : Nat) : IntKind.u8.wrap (n : Int) = ((BitVec.ofNat 8 n).toNat : Int) := by
  rw [IntKind.wrap_u8, BitVec.toNat_ofNat]; omega
theorem w64_cast (n : Nat) : IntKind.u64.wrap (n : Int) = ((BitVec.ofNat 64 n).toNat : Int) := by
  simp only [IntKind.wrap, IntKind.bits, IntKind.signed, BitVec.toNat_ofNat]; simp
theorem w32_self (x : BitVec 32) : IntKind.u32.wrap (x.toNat : Int) = (x.toNat : Int) := by rw [w32_cast]; simp
theorem w32_self' (x : BitVec 32) : IntKind.u32.wrap (U x) = U x := w32_self x
theorem w8_self (x : BitVec 8) : IntKind.u8.wrap (x.toNat : Int) = (x.toNat : Int) := by rw [w8_cast]; simp
theorem w8_self' (x : BitVec 8) : IntKind.u8.wrap (U x) = U x := w8_self x
theorem w64_self (x : BitVec 64) : IntKind.u64.wrap (x.toNat : Int) = (x.toNat : Int) := by rw [w64_cast]; simp

theorem w64_self' (x : BitVec 64) : IntKind.u64.wrap (U x) = U x := w64_self x
theorem add32 (x y : BitVec 32) : IntKind.u32.wrap (U x + U y) = U (x + y) := by
  unfold U
  rw [← Int.natCast_add, w32_cast, BitVec.ofNat_add]; simp
theorem add64 (x y : BitVec 64) : IntKind.u64.wrap (U x + U y) = U (x + y) := by
  unfold U
  rw [← Int.natCast_add, w64_cast, BitVec.ofNat_add]; simp
theorem xor32 (x y : BitVec 32) : bits .xor .u32 (U x) (U y) = U (x ^^^ y) := by
  unfold U
  show IntKind.u32.wrap ((BitVec.ofInt 32 _ ^^^ BitVec.ofInt 32 _).toNat : Int) = _
  rw [ofInt_toNat, ofInt_toNat, w32_self]
theorem or32 (x y : BitVec 32) : bits .or .u32 (U x) (U y) = U (x ||| y) := by
  unfold U
  show IntKind.u32.wrap ((BitVec.ofInt 32 _ ||| BitVec.ofInt 32 _).toNat : Int) = _
  rw [ofInt_toNat, ofInt_toNat, w32_self]
theorem and32 (x y : BitVec 32) : bits .and .u32 (U x) (U y) = U (x &&& y) := by
  unfold U
  show IntKind.u32.wrap ((BitVec.ofInt 32 _ &&& BitVec.ofInt 32 _).toNat : Int) = _
  rw [ofInt_toNat, ofInt_toNat, w32_self]
theorem not32 (x : BitVec 32) : bits .xor .u32 IntKind.u32.max (U x) = U (~~~x) := by
  unfold U
  show IntKind.u32.wrap ((BitVec.ofInt 32 _ ^^^ BitVec.ofInt 32 _).toNat : Int) = _
  rw [ofInt_toNat, w32_self, show BitVec.ofInt 32 IntKind.u32.max = BitVec.allOnes 32 by decide, BitVec.allOnes_xor]
theorem shl32 (x : BitVec 32) (s : Nat) : IntKind.u32.wrap (U x * 2 ^ s) = U (x <<< s) := by
  unfold U
  rw [show ((x.toNat : Int) * 2 ^ s) = ((x.toNat * 2 ^ s : Nat) : Int) by simp, w32_cast]
  rw [BitVec.toNat_shiftLeft, BitVec.toNat_ofNat, Nat.shiftLeft_eq]
theorem shr32 (x : BitVec 32) (s : Nat) : U x / 2 ^ s = U (x >>> s) := by
  unfold U
  rw [BitVec.toNat_ushiftRight, Nat.shiftRight_eq_div_pow]; simp
theorem byte32 (x : BitVec 32) : IntKind.u8.wrap (U x) = U (x.setWidth 8) := by
  unfold U
  rw [w8_cast, BitVec.toNat_setWidth, BitVec.toNat_ofNat]
theorem byte64 (x : BitVec 64) : IntKind.u8.wrap (U x) = U (x.setWidth 8) := by
  unfold U
  rw [w8_cast, BitVec.toNat_setWidth, BitVec.toNat_ofNat]
theorem wide32 (x : BitVec 8) : IntKind.u32.wrap (U x) = U (x.setWidth 32) := by
  unfold U
  rw [w32_cast, BitVec.toNat_setWidth, BitVec.toNat_ofNat]
theorem wide64 (x : BitVec 8) : IntKind.u64.wrap (U x) = U (x.setWidth 64) := by
  unfold U
  rw [w64_cast, BitVec.toNat_setWidth, BitVec.toNat_ofNat]
theorem wide64' (x : BitVec 32) : IntKind.u64.wrap (U x) = U (x.setWidth 64) := by
  unfold U
  rw [w64_cast, BitVec.toNat_setWidth, BitVec.toNat_ofNat]
theorem xor8 (x y : BitVec 8) : bits .xor .u8 (U x) (U y) = U (x ^^^ y) := by
  unfold U
  show IntKind.u8.wrap ((BitVec.ofInt 8 _ ^^^ BitVec.ofInt 8 _).toNat : Int) = _
  rw [ofInt_toNat, ofInt_toNat, w8_self]
theorem or8 (x y : BitVec 8) : bits .or .u8 (U x) (U y) = U (x ||| y) := by
  unfold U
  show IntKind.u8.wrap ((BitVec.ofInt 8 _ ||| BitVec.ofInt 8 _).toNat : Int) = _
  rw [ofInt_toNat, ofInt_toNat, w8_self]


/-! shifts by constants, as the walk reckons them -/
theorem shl32_8 (x : BitVec 32) : IntKind.u32.wrap (U x * 256) = U (x <<< 8) := shl32 x 8
theorem shl32_16 (x : BitVec 32) : IntKind.u32.wrap (U x * 65536) = U (x <<< 16) := shl32 x 16
theorem shl32_24 (x : BitVec 32) : IntKind.u32.wrap (U x * 16777216) = U (x <<< 24) := shl32 x 24
theorem shl32_12 (x : BitVec 32) : IntKind.u32.wrap (U x * 4096) = U (x <<< 12) := shl32 x 12
theorem shl32_7 (x : BitVec 32) : IntKind.u32.wrap (U x * 128) = U (x <<< 7) := shl32 x 7
theorem shl32_20 (x : BitVec 32) : IntKind.u32.wrap (U x * 1048576) = U (x <<< 20) := shl32 x 20
theorem shl32_25 (x : BitVec 32) : IntKind.u32.wrap (U x * 33554432) = U (x <<< 25) := shl32 x 25
theorem shr32_3 (x : BitVec 32) : U x / (8 : Int) = U (x >>> 3) := shr32 x 3
theorem shr32_10 (x : BitVec 32) : U x / (1024 : Int) = U (x >>> 10) := shr32 x 10
theorem shr32_8 (x : BitVec 32) : U x / (256 : Int) = U (x >>> 8) := shr32 x 8
theorem shr32_16 (x : BitVec 32) : U x / (65536 : Int) = U (x >>> 16) := shr32 x 16
theorem shr32_24 (x : BitVec 32) : U x / (16777216 : Int) = U (x >>> 24) := shr32 x 24

/-- A rotation, by the amount that RotateLeft32 reckons. -/
def rotl (x : BitVec 32) (s : Nat) : BitVec 32 := x <<< s ||| x >>> (32 - s)

end Go.Proofs.Ytogijkmflhjhkaa

/- Words for memory: a slice that reads as a list, a block that is known whole, appends onto a row of the call's own. Plain lemmas, no condition. -/
namespace Go.Proofs.Ytogijkmflhjhkaa
open Go.RowKit
set_option linter.unusedSimpArgs false
set_option linter.unusedVariables false
theorem block_of_add (a : Addr) (n : Nat) : (a.add n).block = a.block := by unfold Addr.add; split <;> rfl
theorem add_of_add (a : Addr) (i j : Nat) : (a.add i).add j = a.add (i + j) := by
  unfold Addr.add
  by_cases hi : i = 0 <;> by_cases hj : j = 0 <;> simp [hi, hj, Nat.add_assoc]

def Reads (w : World) (B size : Nat) (A : Option Addr) (n : Nat) (xs : List Value) : Prop :=
  xs.length = n * size ∧ (0 < n → ∃ ad, A = some ad ∧ ad.block < B ∧ ∀ j u, xs[j]? = some u → w.cell? (ad.add j) = some u)

section
variable {w w' : World} {B B' size n : Nat} {A : Option Addr} {xs : List Value}
theorem Reads.none_ : Reads w B size A 0 [] := ⟨by simp, fun h => absurd h (by omega)⟩
theorem Reads.at_ {k : Nat} (h : Reads w B 1 A n xs) (hk : k < n) : ∃ ad u, A = some ad ∧ ad.block < B ∧ xs[k]? = some u ∧ w.cell? (ad.add k) = some u := by
  obtain ⟨ad, e, hb, hc⟩ := h.2 (by omega)
  have hl : k < xs.length := by have := h.1; omega
  exact ⟨ad, xs[k], e, hb, List.getElem?_eq_getElem hl, hc k _ (List.getElem?_eq_getElem hl)⟩
theorem Reads.keep (h : Reads w B size A n xs) (hk : ∀ p : Addr, p.block < B → w'.cell? p = w.cell? p) : Reads w' B size A n xs :=
  ⟨h.1, fun hn => by
    obtain ⟨ad, e, hb, hc⟩ := h.2 hn
    exact ⟨ad, e, hb, fun j u hu => (hk _ (by rw [block_of_add]; exact hb)).trans (hc j u hu)⟩⟩
theorem Reads.more (h : Reads w B size A n xs) (hB : B ≤ B') : Reads w B' size A n xs :=
  ⟨h.1, fun hn => by
    obtain ⟨ad, e, hb, hc⟩ := h.2 hn
    exact ⟨ad, e, by omega, hc⟩⟩
theorem Reads.below (h : Reads w B size A n xs) (hb : Below B w w') : Reads w' B size A n xs := h.keep fun _ hp => hb.cell hp
theorem Reads.drew (h : Reads w B size A n xs) : Reads w.drew B size A n xs := h
theorem Reads.drewN (h : Reads w B size A n xs) (k : Nat) : Reads (w.drewN k) B size A n xs := h
theorem Reads.alloc (h : Reads w B size A n xs) (hB : B ≤ w.heap.size) (o : Obj) : Reads (w.alloc o) B size A n xs := h.keep fun p hp => World.cell?_alloc_lt w o p (by omega)
theorem Reads.setCell (h : Reads w B size A n xs) {p : Addr} (hB : B ≤ p.block) (u : Value) : Reads (w.setCell p u) B size A n xs :=
  h.keep fun q hq => World.cell?_setCell_other w p q u (fun e => by subst e; omega)
theorem Reads.grown (h : Reads w B size A n xs) {row : Option Nat} (hg : w.grownBy w' row) (hB : B ≤ w.heap.size) (hr : ∀ g, row = some g → B ≤ g) : Reads w' B size A n xs :=
  h.keep fun p hp => World.cell?_of_block (hg.block p.block (by omega) (fun e => by have := hr _ e.symm; omega))
theorem Reads.cut (h : Reads w B size A n xs) {k cap : Nat} (hk : k ≤ n) (hc : n ≤ cap) :
    Reads w B size (if cap = k then A else A.map (·.add (k * size))) (n - k) (xs.drop (k * size)) := by
  refine ⟨by rw [List.length_drop, h.1, Nat.sub_mul], fun hn => ?_⟩
  obtain ⟨ad, rfl, hb, hcell⟩ := h.2 (by omega)
  rw [if_neg (by omega)]
  refine ⟨ad.add (k * size), rfl, by rw [block_of_add]; exact hb, fun j u hu => ?_⟩
  rw [add_of_add]
  exact hcell _ u (by rw [← hu, List.getElem?_drop])
theorem Reads.of_own {base : Nat} {e : TypeId} {c : Nat} (h : w.ownsRow base e size (.slice A n c) n xs) : Reads w w.heap.size size A n xs := by
  refine ⟨h.1, fun hn => ?_⟩
  obtain ⟨g, cap, hv, _, hlt⟩ := h.form hn
  have hA : A = some ⟨g, 0, none⟩ := by injection hv
  subst hA
  exact ⟨_, rfl, hlt, h.cells (g := g) rfl⟩
end

def Blk (w : World) (g : Nat) (t : TypeId) (cs : Array Value) : Prop := w.heap[g]? = some (.cells cs t (0, 0))

section
variable {w w' : World} {g : Nat} {t : TypeId} {cs : Array Value}
theorem Blk.lt (h : Blk w g t cs) : g < w.heap.size := by
  rcases Nat.lt_or_ge g w.heap.size with hlt | hge
  · exact hlt
  · unfold Blk at h; rw [Array.getElem?_eq_none hge] at h; cases h
theorem Blk.cell (h : Blk w g t cs) (i : Nat) : w.cell? ⟨g, i, none⟩ = cs[i]? := cell_of_row w g i cs t (0, 0) h
theorem Blk.frozen (h : Blk w g t cs) (i : Nat) : w.frozen? ⟨g, i, none⟩ = false := by
  unfold Blk at h
  simp [World.frozen?, h]
theorem Blk.new (w : World) (t : TypeId) (cs : Array Value) : Blk (w.alloc (.cells cs t)) w.heap.size t cs := heap_alloc_new w _
theorem Blk.drew (h : Blk w g t cs) : Blk w.drew g t cs := h
theorem Blk.drewN (h : Blk w g t cs) (n : Nat) : Blk (w.drewN n) g t cs := h
theorem Blk.alloc (h : Blk w g t cs) (o : Obj) : Blk (w.alloc o) g t cs := (Below.heap_alloc w o g h.lt).trans h
theorem Blk.set_ (h : Blk w g t cs) (i : Nat) (u : Value) : Blk (w.setCell ⟨g, i, none⟩ u) g t (cs.setIfInBounds i u) := by
  unfold Blk at h ⊢
  simp [World.setCell, Array.getElem?_modify, h]
theorem Blk.far (h : Blk w g t cs) {p : Addr} (hp : g ≠ p.block) (u : Value) : Blk (w.setCell p u) g t cs := (Below.heap_setCell w p u g hp).trans h
theorem Blk.below {B : Nat} (h : Blk w g t cs) (hb : Below B w w') (hg : g < B) : Blk w' g t cs := (hb.block g hg).trans h
theorem Blk.grown {row : Option Nat} (h : Blk w g t cs) (hb : w.grownBy w' row) (hg : some g ≠ row) : Blk w' g t cs := (hb.block g h.lt hg).trans h
theorem Blk.ne_ {g' : Nat} {t' : TypeId} {cs' : Array Value} (h : Blk w g t cs) (h' : Blk w g' t' cs') (hne : t ≠ t') : g ≠ g' := by
  rintro rfl
  unfold Blk at h h'
  rw [h] at h'
  injection h' with h'
  injection h' with _ ht
  exact hne ht
theorem own_blk_ne {base : Nat} {e : TypeId} {size n : Nat} {v : Value} {xs : List Value} (h : w.ownsRow base e size v n xs) (hg : Blk w g t cs) (hne : e ≠ t) : v.ownBlock ≠ some g := by
  rcases h.2 with ⟨rfl, _⟩ | ⟨g', cap, cur, rfl, _, hh, _⟩
  · simp [Value.ownBlock]
  · intro he
    have : g' = g := by simpa [Value.ownBlock] using he
    subst this
    exact Blk.ne_ (t := e) hh hg hne rfl
end

section
variable {P : Program} (w : World)

theorem run_append_of_nil (base : Nat) (t ty e : TypeId) (i : TypeInfo) (size : Nat) (ht : P.underlying t = some (.slice e)) (hi : P.info? e = some i)
    (v : Value) (n : Nat) (xs : List Value) (hown : w.ownsRow base e size v n xs) (c : Nat) : (Builtin.append_ #[t, t] ty #[v, .slice none 0 c]).run P w = .ok v w := by
  rcases hown.2 with ⟨rfl, rfl⟩ | ⟨g, cap, cur, rfl, _, _, hnc, _⟩
  · simp [Builtin.append_, run_underlying ht, sizeOf, typeInfo, hi, Builtin.lenOf, Builtin.firstCells]
  · simp [Builtin.append_, run_underlying ht, sizeOf, typeInfo, hi, Builtin.lenOf, Builtin.firstCells, hnc, storeCells]

theorem run_append_any (base : Nat) (t ty e : TypeId) (i : TypeInfo) (z : Value) (size bytes : Nat) (ht : P.underlying t = some (.slice e)) (hi : P.info? e = some i) (hz : i.zero = some z)
    (hsize : i.size = size) (hby : i.bytes = bytes) (hzs : z.cells.size = size) (hsz : 0 < size)
    (v : Value) (n : Nat) (xs : List Value) (hown : w.ownsRow base e size v n xs)
    (B : Nat) (A : Option Addr) (m c : Nat) (news : List Value) (hr : Reads w B size A m news) (h1 : ∀ u ∈ news, u.oneCell' = true)
    (h63 : n + m ≤ maxLen) (hbytes : (n + m) * bytes ≤ 140737488355328) (hbase : base ≤ w.heap.size) :
    ∃ v' w', (Builtin.append_ #[t, t] ty #[v, .slice A m c]).run P w = .ok v' w' ∧ w'.ownsRow base e size v' (n + m) (xs ++ news) ∧ w.grownBy w' v.ownBlock ∧
      (v'.ownBlock = v.ownBlock ∨ v'.ownBlock = some w.heap.size) := by
  rcases A with _ | ad
  · have hm : m = 0 := by
      rcases Nat.eq_zero_or_pos m with h0 | h0
      · exact h0
      · obtain ⟨ad, h, _⟩ := hr.2 h0
        cases h
    subst hm
    have hn : news = [] := List.eq_nil_of_length_eq_zero (by simpa using hr.1)
    subst hn
    exact ⟨v, w, run_append_of_nil w base t ty e i size ht hi v n xs hown c, by simpa using hown, World.grownBy.refl w _, .inl rfl⟩
  · have hcells : ∀ j u, news[j]? = some u → w.cell? (ad.add j) = some u := by
      intro j u hu
      rcases Nat.eq_zero_or_pos m with h0 | h0
      · subst h0
        have hn : news = [] := List.eq_nil_of_length_eq_zero (by simpa using hr.1)
        subst hn
        simp at hu
      · obtain ⟨ad', h, _, hc⟩ := hr.2 h0
        injection h with h
        subst h
        exact hc j u hu
    obtain ⟨v', w', hrun, h2, h3, _, h5⟩ := run_append_own_at (P := P) w base t ty e i z size bytes ht hi hz hsize hby hzs hsz v n xs hown ad m c news hr.1 hcells h1 h63 hbytes hbase
    exact ⟨v', w', hrun, h2, h3, h5⟩

theorem wp_append_any {o : Oper} {a : Act} {K : Act → World → Prop} {Q : Exit → Act → World → Prop} (s x : Operand) (t : TypeId)
    (ho : o.op = .call { callee := .builtin .append, args := #[s, x], argTypes := #[t, t] })
    (base : Nat) (e : TypeId) (i : TypeInfo) (z : Value) (size bytes : Nat) (ht : P.underlying t = some (.slice e)) (hi : P.info? e = some i) (hz : i.zero = some z)
    (hsize : i.size = size) (hby : i.bytes = bytes) (hzs : z.cells.size = size) (hsz : 0 < size)
    (v : Value) (n : Nat) (xs : List Value) (hs : a.eval s = v) (hown : w.ownsRow base e size v n xs)
    (B : Nat) (A : Option Addr) (m c : Nat) (news : List Value) (hx : a.eval x = .slice A m c) (hr : Reads w B size A m news) (h1 : ∀ u ∈ news, u.oneCell' = true)
    (h63 : n + m ≤ maxLen) (hbytes : (n + m) * bytes ≤ 140737488355328) (hbase : base ≤ w.heap.size)
    (h : ∀ v' w', w'.ownsRow base e size v' (n + m) (xs ++ news) → w.grownBy w' v.ownBlock → (v'.ownBlock = v.ownBlock ∨ v'.ownBlock = some w.heap.size) → K (a.put o.dst v') w') : o.wp P a w K Q := by
  obtain ⟨v', w', hrun, h2, h3, h4⟩ := run_append_any (P := P) w base t o.type e i z size bytes ht hi hz hsize hby hzs hsz v n xs hown B A m c news hr h1 h63 hbytes hbase
  unfold Oper.wp execOp
  simp only [ho, resolve, invoke, builtin, Sem.run_bind, Sem.run_pure, Result.andThen_ok, List.map_toArray, List.map_cons, List.map_nil, hs, hx, hrun]
  exact h v' w' h2 h3 h4

theorem wpList_append_any {ops : Array Oper} {rest : List Oper} {o : Oper} {a : Act} {Q : Exit → Act → World → Prop} (hgd : o.guard = none) (s x : Operand) (t : TypeId)
    (ho : o.op = .call { callee := .builtin .append, args := #[s, x], argTypes := #[t, t] })
    (base : Nat) (e : TypeId) (i : TypeInfo) (z : Value) (size bytes : Nat) (ht : P.underlying t = some (.slice e)) (hi : P.info? e = some i) (hz : i.zero = some z)
    (hsize : i.size = size) (hby : i.bytes = bytes) (hzs : z.cells.size = size) (hsz : 0 < size)
    (v : Value) (n : Nat) (xs : List Value) (hs : a.eval s = v) (hown : w.ownsRow base e size v n xs)
    (B : Nat) (A : Option Addr) (m c : Nat) (news : List Value) (hx : a.eval x = .slice A m c) (hr : Reads w B size A m news) (h1 : ∀ u ∈ news, u.oneCell' = true)
    (h63 : n + m ≤ maxLen) (hbytes : (n + m) * bytes ≤ 140737488355328) (hbase : base ≤ w.heap.size)
    (h : ∀ v' w', w'.ownsRow base e size v' (n + m) (xs ++ news) → w.grownBy w' v.ownBlock → (v'.ownBlock = v.ownBlock ∨ v'.ownBlock = some w.heap.size) → wpList P ops Q rest (a.put o.dst v') w') : wpList P ops Q (o :: rest) a w :=
  wpList_plain hgd fun _ hK => wp_append_any w s x t ho base e i z size bytes ht hi hz hsize hby hzs hsz v n xs hs hown B A m c news hx hr h1 h63 hbytes hbase fun v' w' h2 h3 h4 => hK _ _ (h v' w' h2 h3 h4)

theorem step_append_any {ops : Array Oper} {o : Oper} {a : Act} {K : Act → World → Prop} {Q : Exit → Act → World → Prop} {E : Prop} (hgd : o.guard = none) (s x : Operand) (t : TypeId)
    (ho : o.op = .call { callee := .builtin .append, args := #[s, x], argTypes := #[t, t] })
    (base : Nat) (e : TypeId) (i : TypeInfo) (z : Value) (size bytes : Nat) (ht : P.underlying t = some (.slice e)) (hi : P.info? e = some i) (hz : i.zero = some z)
    (hsize : i.size = size) (hby : i.bytes = bytes) (hzs : z.cells.size = size) (hsz : 0 < size)
    (v : Value) (n : Nat) (xs : List Value) (hs : a.eval s = v) (hown : w.ownsRow base e size v n xs)
    (B : Nat) (A : Option Addr) (m c : Nat) (news : List Value) (hx : a.eval x = .slice A m c) (hr : Reads w B size A m news) (h1 : ∀ u ∈ news, u.oneCell' = true)
    (h63 : n + m ≤ maxLen) (hbytes : (n + m) * bytes ≤ 140737488355328) (hbase : base ≤ w.heap.size)
    (h : ∀ v' w', w'.ownsRow base e size v' (n + m) (xs ++ news) → w.grownBy w' v.ownBlock → (v'.ownBlock = v.ownBlock ∨ v'.ownBlock = some w.heap.size) → K (a.put o.dst v') w') :
    if Region.wanted o (yielded ops a.tmps) = true then Oper.wp P o a w K Q else E := by
  have hw : Region.wanted o (yielded ops a.tmps) = true := by simp [Region.wanted, hgd]
  rw [if_pos hw]
  exact wp_append_any w s x t ho base e i z size bytes ht hi hz hsize hby hzs hsz v n xs hs hown B A m c news hx hr h1 h63 hbytes hbase h
end

theorem hide {p : Prop} (h : p) : Hid p := h
theorem unhide {p : Prop} (h : Hid p) : p := h

theorem results_tmp4 {fn : Func} {t u v x : Tmp} (h : fn.results = #[.tmp t, .tmp u, .tmp v, .tmp x]) (tmps : Array Value) (P : Program) (w : World) :
    (results fn tmps).run P w = .ok (.tuple #[tmps.getD t undef, tmps.getD u undef, tmps.getD v undef, tmps.getD x undef]) w := by simp [results, h]
theorem results_tmp5 {fn : Func} {t u v x y : Tmp} (h : fn.results = #[.tmp t, .tmp u, .tmp v, .tmp x, .tmp y]) (tmps : Array Value) (P : Program) (w : World) :
    (results fn tmps).run P w = .ok (.tuple #[tmps.getD t undef, tmps.getD u undef, tmps.getD v undef, tmps.getD x undef, tmps.getD y undef]) w := by simp [results, h]

theorem below_drewN {B : Nat} {a w : World} (h : Below B a w) (n : Nat) : Below B a (w.drewN n) := ⟨h.os, h.tape, h.output, h.size, h.block⟩
theorem rowIs_drewN {w : World} {b : Nat} {t : TypeId} {n : Nat} {f : Nat → Value} (h : w.rowIs b t n f) (k : Nat) : (w.drewN k).rowIs b t n f := h
theorem grown_trans {a b c : World} (h : Grown a b) (k : Grown b c) : Grown a c :=
  ⟨World.keptBut_trans h.1 k.1, fun x => (k.2.1 x).trans (h.2.1 x), Nat.le_trans h.2.2 k.2.2⟩

theorem only_drewN {a w : World} {row : Option Nat} (h : a.grownBy w row) (n : Nat) : a.grownBy (w.drewN n) row := ⟨h.os, h.tape, h.output, h.size, h.block⟩
theorem only_drew {a w : World} {row : Option Nat} (h : a.grownBy w row) : a.grownBy w.drew row := ⟨h.os, h.tape, h.output, h.size, h.block⟩
theorem only_alloc {a w : World} {row : Option Nat} (h : a.grownBy w row) (o : Obj) : a.grownBy (w.alloc o) row :=
  ⟨h.os, h.tape, h.output, Nat.le_trans h.size (by simp), fun i hi hne => (Below.heap_alloc w o i (Nat.lt_of_lt_of_le hi h.size)).trans (h.block i hi hne)⟩
theorem only_setCell {a w : World} {g : Nat} (h : a.grownBy w (some g)) {p : Addr} (hp : p.block = g ∨ a.heap.size ≤ p.block) (u : Value) : a.grownBy (w.setCell p u) (some g) :=
  ⟨h.os, h.tape, h.output, by simpa [World.setCell] using h.size, fun i hi hne => (Below.heap_setCell w p u i (by
    rintro rfl
    rcases hp with hp | hp
    · exact hne (by rw [hp])
    · omega)).trans (h.block i hi hne)⟩
theorem only_of_below {a w : World} (h : Below a.heap.size a w) (row : Option Nat) : a.grownBy w row := ⟨h.os, h.tape, h.output, h.size, fun i hi _ => h.block i hi⟩

theorem run_make_rowN {P : Program} (t e : TypeId) (i : TypeInfo) (z : Value) (ht : P.underlying t = some (.slice e)) (hi : P.info? e = some i) (hz : i.zero = some z)
    (kl kc : IntKind) (n c : Nat) (hnc : n ≤ c) (hbytes : i.bytes * c ≤ 281474976710656) (h63 : c ≤ 9223372036854775807) (w : World) :
    (Instr.makeSlice t (.int kl (n : Int)) (.int kc (c : Int))).run P w = .ok (.slice (some ⟨w.heap.size, 0, none⟩) n c) (w.alloc (.cells (madeCells z.cells (c * i.size)) e)) := by
  have hb : (i.bytes : Int) * (c : Int) ≤ 281474976710656 := by
    have h : ((i.bytes * c : Nat) : Int) ≤ 281474976710656 := by omega
    rwa [Int.natCast_mul] at h
  have hr := run_make (P := P) w t e i z ht hi hz kl kc n c (by omega) (by omega) hb (by omega)
  simp only [Int.toNat_natCast] at hr
  exact hr
theorem run_makeMap_hint {P : Program} (t k e : TypeId) (kd : IntKind) (n : Int) (ht : P.underlying t = some (.map k e)) (w : World) :
    (Instr.makeMap t (some (.int kd n))).run P w = .ok (.map (some w.heap.size)) (w.alloc (.map #[] 0)) := by
  simp [Instr.makeMap, run_underlying ht]; rfl

end Go.Proofs.Ytogijkmflhjhkaa

/- The symbolic evaluator: its operations are the model's: values built, slices made. Plain lemmas, no condition. -/
namespace Go.Sx
open Go.RowKit
set_option linter.unusedSimpArgs false

set_option linter.unusedVariables false
section
variable {P : Program} {W : Env} {w0 w : World} {F : Nat → Prop} {ρ : Rho} {s : St} {a : Act} {op : Oper} {T : TypeId → Option TyI} {C : FuncId → Option Summary} {r : Res}

theorem run_mapM_list {α β : Type} (f : α → Sem β) (g : α → β) : ∀ (l : List α), (∀ x ∈ l, (f x).run P w = .ok (g x) w) → (l.mapM f).run P w = .ok (l.map g) w
  | [], _ => by simp
  | x :: l, h => by
    have ih := run_mapM_list f g l (fun y hy => h y (by simp [hy]))
    simp [List.mapM_cons, h x (by simp), ih]
theorem run_mapM_arr {α β : Type} (f : α → Sem β) (g : α → β) (l : Array α) (h : ∀ x ∈ l, (f x).run P w = .ok (g x) w) : (l.mapM f).run P w = .ok (l.map g) w := by
  have ht := run_mapM_list (P := P) (w := w) f g l.toList (fun x hx => h x (by simpa using hx))
  rw [Array.mapM_eq_mapM_toList, map_eq_pure_bind]
  simp only [Sem.run_bind, ht, Result.andThen_ok, Sem.run_pure]
  congr 1
  apply Array.ext'
  simp

theorem segSplice_cells {fs : List (Nat × Nat)} {place : Nat → Option (Nat × Nat)} (hpl : ∀ i x, fs[i]? = some x → place i = some x) :
    ∀ {l : List (Nat × SA)} {acc r : List Seg} {vs : List (Nat × Value)} {cs : List Value}, partsS fs l acc = some r → RelP ρ l vs → RelS ρ acc cs → ∃ ys, Instr.fill place cs.toArray vs = some ys.toArray ∧ RelS ρ r ys
  | [], acc, r, vs, cs, e, hr, hc => by
    simp only [partsS] at e
    injection e with e
    simp only [RelP] at hr
    subst hr; subst e
    exact ⟨cs, rfl, hc⟩
  | (i, v) :: l, acc, r, vs, cs, e, hr, hc => by
    obtain ⟨u, vs', rfl, h1, h2⟩ := hr
    simp only [partsS] at e
    split at e
    · cases e
    · rename_i off sz hf
      have hp := hpl _ _ hf
      split at e
      · rename_i c
        split at e
        · rename_i hs
          simp only [Nat.beq_eq] at hs
          subst hs
          rw [Option.bind_eq_some_iff] at e
          obtain ⟨acc', e1, e2⟩ := e
          obtain ⟨x, y, z, rfl, g1, g2, g3⟩ := segSplice_spec e1 hc
          rw [fill_step_agg (x := [u]) hp (rel1_cells h1) rfl g2 g1]
          exact segSplice_cells hpl e2 h2 (g3 [u] ⟨u, [], rfl, h1, rfl⟩)
        · cases e
      · rename_i sg
        split at e
        · rename_i hs
          simp only [Nat.beq_eq] at hs
          subst hs
          rw [Option.bind_eq_some_iff] at e
          obtain ⟨acc', e1, e2⟩ := e
          obtain ⟨x, y, z, rfl, g1, g2, g3⟩ := segSplice_spec e1 hc
          obtain ⟨us, rfl, h1⟩ := h1
          rw [fill_step_agg (x := us) hp rfl (relS_len h1) g2 g1]
          exact segSplice_cells hpl e2 h2 (g3 us h1)
        · cases e

theorem act_build (h : R W w0 F ρ s a w) (hT : TOk P T) {t : TypeId} {parts : Array (Nat × Operand)} (ho : op.op = .build t parts) (e : act T C s op = some r) (hp : r.p.holds) : Ok P ρ s a w op r := by
  have hx : execOp a.eval op = (do pure (Next.value (← Instr.build t (parts.map fun (i, x) => (i, a.eval x))))) := by simp only [execOp, ho]
  simp only [act, ho] at e
  split at e
  · rename_i n el sz k f m p l hti h1
    rw [Option.bind_eq_some_iff] at e
    obtain ⟨xs, e1, e2⟩ := e
    split at e2
    · rename_i hn
      have hn := Nat.le_of_ble_eq_true hn
      rw [one_inj e2] at hp ⊢
      have hR := evAll_ok h h1 hp
      have hlen := partsI_len e1
      simp only [List.length_nil, Nat.zero_add] at hlen
      obtain ⟨⟨hu, ⟨ie, hi1, hi2⟩, _, hz0, hsz⟩, inf, z, g1, g2, g3, g4⟩ := hT _ _ hti
      obtain ⟨hel, rfl, hf0⟩ := hz0 _ _ _ rfl
      have hz := g4 ρ
      obtain ⟨vs', hz1, hz2⟩ := hz
      simp only [RelS] at hz2
      subst hz2
      rw [List.append_nil, intsV_const k f _ hf0] at hz1
      obtain ⟨ys, q1, q2, q3⟩ := fill_ints (pre := []) (post := List.replicate m (Value.int k 0)) (fun i => some (i * 1, 1)) (fun i => by simp) e1 hR rfl (by simp; omega)
      simp only [List.reverse_nil, List.nil_append] at q1 q3
      subst q1
      refine ok_run (v := .agg (intsV k (listI xs) m).toArray) hx ?_ ⟨_, rfl, [], by simp, rfl⟩
      have hzc : z.cells = (List.replicate m (Value.int k 0)).toArray := by rw [← hz1]
      have hs : (sizeOf el).run P w = .ok 1 w := by simp [sizeOf, typeInfo, hi1, hi2]
      have hzv : (zeroValue t).run P w = .ok z w := by simp [zeroValue, typeInfo, g1, g3]
      simp only [Instr.build, Sem.run_bind, hzv, Result.andThen_ok, run_underlying hu, hs, hzc]
      rw [show (parts.map fun (x : Nat × Operand) => (x.1, a.eval x.2)).toList = parts.toList.map fun x => (x.1, a.eval x.2) by simp, q3]
      rw [intsV_list k xs m hn]
      simp [q2]
    · cases e2
  · rename_i fs sz z0 p l hti h1
    rw [Option.bind_eq_some_iff] at e
    obtain ⟨rr, e1, e2⟩ := e
    rw [one_inj e2] at hp ⊢
    have hR := evAll_ok h h1 hp
    obtain ⟨⟨F, hu, hF, hall⟩, inf, z, g1, g2, g3, g4⟩ := hT _ _ hti
    have hmap : (F.mapM fun f => (do pure (f.offset, ← sizeOf f.type) : Sem (Nat × Nat))).run P w = .ok (F.map fun f => (f.offset, match P.info? f.type with | some j => j.size | none => 0)) w := by
      refine run_mapM_arr _ _ F (fun f hf => ?_)
      obtain ⟨i, hi, rfl⟩ := Array.mem_iff_getElem.1 hf
      obtain ⟨f', c1, c2, jf, c3, c4, c5⟩ := hall i (fs[i]'(by omega)) (by simp)
      have : F[i] = f' := by
        rw [Array.getElem?_eq_getElem hi] at c1; injection c1
      rw [this]
      simp [sizeOf, typeInfo, c3]
    obtain ⟨ys, q1, q2⟩ := segSplice_cells (fs := fs) (place := ((F.map fun f => (f.offset, match P.info? f.type with | some j => j.size | none => 0))[·]?)) (fun i x hi => by
      obtain ⟨f', c1, c2, jf, c3, c4, c5⟩ := hall i x hi
      simp [c1, c3, c2, c4]) e1 hR (g4 ρ)
    refine ok_run (v := .agg ys.toArray) hx ?_ ⟨_, rfl, q2⟩
    have hzv : (zeroValue t).run P w = .ok z w := by simp [zeroValue, typeInfo, g1, g3]
    simp only [Instr.build, Sem.run_bind, hzv, Result.andThen_ok, run_underlying hu, hmap]
    rw [show (parts.map fun (x : Nat × Operand) => (x.1, a.eval x.2)).toList = parts.toList.map fun x => (x.1, a.eval x.2) by simp]
    rw [show z.cells.toList.toArray = z.cells by simp] at q1
    rw [q1]
    simp
  · cases e

theorem act_buildSlice (h : R W w0 F ρ s a w) (hT : TOk P T) {t : TypeId} {len : Nat} {parts : Array (Nat × Operand)} (ho : op.op = .buildSlice t len parts) (e : act T C s op = some r) (hp : r.p.holds) : Ok P ρ s a w op r := by
  have hx : execOp a.eval op = (do pure (Next.value (← Instr.buildSlice t len (parts.map fun (i, x) => (i, a.eval x))))) := by simp only [execOp, ho]
  have hpt : (parts.map fun (x : Nat × Operand) => (x.1, a.eval x.2)).toList = parts.toList.map fun x => (x.1, a.eval x.2) := by simp
  simp only [act, ho] at e
  have core : ∀ (el : TypeId) (b : Nat) (z : Seg) (sz : Nat) (zr : List Seg) (ze : Value) (ys : List Value) (l : List Seg) (p' : Cd), T t = some ⟨.slice el b z, sz, zr⟩ → P.info? el = (P.info? el) → (∃ ie, P.info? el = some ie ∧ ie.size = 1 ∧ ie.zero = some ze) → ze.oneCell' = true → len ≤ 16777216 → len = ys.length →
      Instr.fill (fun i => some (i * 1, 1)) (List.replicate len ze).toArray (parts.toList.map fun x => (x.1, a.eval x.2)) = some ys.toArray → RelS ρ l ys →
      Ok P ρ s a w op ⟨p', some (Sx.sc (.sl false true true s.next 0 0 len len)), [(s.next, .own el l false)], s.next + 1⟩ := by
    intro el b z sz zr ze ys l p' hti _ ⟨ie, hi1, hi2, hi3⟩ hone hlen hly hf hrel
    obtain ⟨hu, _⟩ := (hT _ _ hti).1
    have hs : (sizeOf el).run P w = .ok 1 w := by simp [sizeOf, typeInfo, hi1, hi2]
    have hzv : (zeroValue el).run P w = .ok ze w := by simp [zeroValue, typeInfo, hi1, hi3]
    have hzc : ze.cells = #[ze] := by cases ze <;> first | rfl | (simp [Value.oneCell'] at hone)
    refine ok_new h (w' := w.alloc (.cells ys.toArray el)) (o := .cells ys.toArray el) (pl := ⟨w.heap.size, 0, ys.length⟩) (v := .slice (some ⟨w.heap.size, 0, none⟩) len len) ?_ (push_alloc _ _) rfl ?_ (.inr ⟨rfl, _, _, rfl, Nat.le_refl _, Nat.le_refl _, by simp only [maxLen]; omega, fun _ => ⟨_, Rho.set_same, rfl, by simp [hly]⟩, fun _ h => h⟩)
    · rw [hx]
      simp only [Instr.buildSlice, Sem.run_bind, run_underlying hu, Result.andThen_ok, hs, Nat.mul_one, hpt]
      by_cases h0 : len = 0
      · subst h0
        rw [List.replicate_zero] at hf
        have hr0 : (Array.range 0) = #[] := rfl
        simp only [show ¬ (0 > 2 ^ 24) by omega, if_false, if_true, Sem.run_bind, Sem.run_pure, Result.andThen_ok, hr0, Array.map_empty]
        have hf' : Instr.fill (fun i => some (i * 1, 1)) #[] (parts.toList.map fun x => (x.1, a.eval x.2)) = some ys.toArray := hf
        simp only [Nat.mul_one] at hf'
        rw [hf']
        simp [newRow]
      · have hrep : (Array.range len).map (#[ze][· % 1]!) = (List.replicate len ze).toArray := by
          apply Array.ext
          · simp
          · intro i h1 h2; simp [Nat.mod_one]
        simp only [show ¬ (len > 2 ^ 24) by omega, if_false, h0, Sem.run_bind, hzv, Sem.run_pure, Result.andThen_ok, hzc]
        simp only [List.size_toArray, List.length_cons, List.length_nil, Nat.zero_add]
        rw [hrep]
        simp only [Nat.mul_one] at hf
        rw [hf]
        simp [newRow]
    · have := sat_new (l := l) (vs := ys) (post := []) (ty := el) (t := s.next) (w' := w.alloc (.cells ys.toArray el)) (m := false) h (by simpa using push_alloc w (.cells ys.toArray el)) hrel rfl (fun _ => rfl)
      simpa using this
  split at e
  · rename_i el b k f m sz zr p l hti h1
    rw [Option.bind_eq_some_iff] at e
    obtain ⟨xs, e1, e2⟩ := e
    split at e2
    · rename_i hn
      simp only [Bool.and_eq_true] at hn
      have hn1 := Nat.le_of_ble_eq_true hn.1
      have hn2 := Nat.le_of_ble_eq_true hn.2
      rw [St.newS_eq] at e2
      injection e2 with e2
      subst e2
      have hR := evAll_ok h h1 hp
      have hlen := partsI_len e1
      simp only [List.length_nil, Nat.zero_add] at hlen
      obtain ⟨hu, ie, ze, c1, c2, c3, c4, c5, rfl, c7⟩ := (hT _ _ hti).1
      obtain ⟨ys, q1, q2, q3⟩ := fill_ints (pre := []) (post := List.replicate len (Value.int k 0)) (fun i => some (i * 1, 1)) (fun i => by simp) e1 hR rfl (by simp; omega)
      simp only [List.reverse_nil, List.nil_append] at q1 q3
      subst q1
      refine core el b _ sz zr (.int k 0) (intsV k (listI xs) len) _ _ hti rfl ⟨ie, c1, c2, c4⟩ rfl hn2 (by rw [intsV_length]) ?_ ⟨[], by simp, rfl⟩
      rw [q3, intsV_list k xs len hn1]
      simp [q2]
    · cases e2
  · rename_i el b c sz zr p l hti h1
    split at e
    · rename_i hn
      simp only [Bool.and_eq_true, Nat.beq_eq] at hn
      have hn2 := Nat.le_of_ble_eq_true hn.2
      rw [Option.bind_eq_some_iff] at e
      obtain ⟨xs, e1, e2⟩ := e
      rw [St.newS_eq] at e2
      injection e2 with e2
      subst e2
      have hR := evAll_ok h h1 hp
      obtain ⟨hu, ie, ze, c1, c2, c3, c4, c5, c6⟩ := (hT _ _ hti).1
      obtain ⟨ys, q1, q2⟩ := fill_one (pre := []) (post := List.replicate len ze) (fun i => some (i * 1, 1)) (fun i => by simp) e1 hR rfl (by simp [hn.1])
      simp only [List.nil_append] at q1
      have hsz := relS_len q2
      have hlen : ∀ {l : List (Nat × SA)} {j : Nat} {xs : List Seg}, partsO l j = some xs → segsLen xs = l.length := by
        intro l
        induction l with
        | nil => intro j xs hh; simp only [partsO] at hh; injection hh with hh; subst hh; rfl
        | cons x l ih =>
          intro j xs hh
          obtain ⟨i, v⟩ := x
          cases v with
          | agg g => simp only [partsO] at hh; cases hh
          | sc c =>
            simp only [partsO] at hh
            split at hh
            · split at hh
              rotate_left
              · cases hh
              rename_i xs' hh'
              injection hh with hh2
              subst hh2
              have hh := hh'
              simp only [segsLen, Seg.len, ih hh, List.length_cons]; omega
            · cases hh
      exact core el b _ sz zr ze ys xs _ hti rfl ⟨ie, c1, c2, c4⟩ c5 hn2 (by rw [hsz, hlen e1, hn.1]) q1 q2
    · cases e
  · cases e

theorem act_makeSlice (h : R W w0 F ρ s a w) (hT : TOk P T) {t : TypeId} {x y : Operand} (ho : op.op = .makeSlice t x y) (e : act T C s op = some r) (hp : r.p.holds) : Ok P ρ s a w op r := by
  have hx : execOp a.eval op = (do pure (Next.value (← Instr.makeSlice t (a.eval x) (a.eval y)))) := by simp only [execOp, ho]
  simp only [act, ho] at e
  split at e
  · rename_i el b k f m sz zr p n q c hti h1 h2
    split at e
    · rename_i hb1
      have hb1 := Nat.le_of_ble_eq_true hb1
      rw [St.newS_eq] at e
      injection e with e
      subst e
      obtain ⟨hp1, hp2, hp3, hp4, hp5⟩ := hp
      obtain ⟨hu, ie, ze, c1, c2, c3, c4, c5, rfl, c7⟩ := (hT _ _ hti).1
      have r1 := ev1_ok h h1 hp1
      have r2 := ev1_ok h h2 hp2
      simp only [RelA, Rel1] at r1 r2
      obtain ⟨N, rfl⟩ := Int.eq_ofNat_of_zero_le hp3
      obtain ⟨M, rfl⟩ := Int.eq_ofNat_of_zero_le (Int.le_trans hp3 hp4)
      have hb2 : b * M ≤ 140737488355328 := by
        have : ((b * M : Nat) : Int) ≤ 140737488355328 := by rw [Int.natCast_mul]; exact hp5
        omega
      have hM : M ≤ b * M := Nat.le_mul_of_pos_left M (by omega)
      have hrun := Go.Proofs.Ytogijkmflhjhkaa.run_make_rowN (P := P) t el ie (.int k 0) hu c1 c4 .i64 .i64 N M (by omega) (by rw [c3]; omega) (by omega) w
      rw [c2, Nat.mul_one] at hrun
      have hrow : madeCells (Value.int k 0).cells M = (List.replicate M (Value.int k 0)).toArray := replicate_madeCells k M
      rw [hrow] at hrun
      simp only [Int.toNat_natCast]
      refine ok_new h (w' := w.alloc (.cells (List.replicate M (Value.int k 0)).toArray el)) (o := .cells (List.replicate M (Value.int k 0)).toArray el) (pl := ⟨w.heap.size, 0, M⟩) (v := .slice (some ⟨w.heap.size, 0, none⟩) N M) ?_ (push_alloc _ _) rfl ?_
        (.inr ⟨rfl, _, _, rfl, by omega, Nat.le_refl _, by simp only [maxLen]; omega, fun _ => ⟨_, Rho.set_same, rfl, by simp⟩, fun h => by cases h⟩)
      · rw [hx, r1, r2]
        simp only [Sem.run_bind, hrun, Result.andThen_ok, Sem.run_pure]
      · have := sat_new (l := [.ints k (fun _ => 0) M]) (vs := List.replicate M (Value.int k 0)) (post := []) (ty := el) (t := s.next) (w' := w.alloc (.cells (List.replicate M (Value.int k 0)).toArray el)) (m := false) h (by simpa using push_alloc w (.cells (List.replicate M (Value.int k 0)).toArray el))
          ⟨[], by rw [intsV_const k _ _ (fun _ => rfl)]; simp, rfl⟩ rfl (fun _ => rfl)
        simpa using this
    · cases e
  · cases e

end
end Go.Sx

/- The symbolic evaluator: its operations are the model's: those that write a block of the call's own. Plain lemmas, no condition. -/
namespace Go.Sx
open Go.RowKit
set_option linter.unusedSimpArgs false

set_option linter.unusedVariables false
section
variable {P : Program} {W : Env} {w0 w : World} {F : Nat → Prop} {ρ : Rho} {s : St} {a : Act} {op : Oper} {T : TypeId → Option TyI} {C : FuncId → Option Summary} {r : Res}

theorem rel1_one {c : SC} {v : Value} (hr : Rel1 ρ c v) : v.oneCell' = true := by
  cases c <;> simp only [Rel1] at hr
  case any => exact hr
  case ptr => obtain ⟨_, _, rfl⟩ := hr; rfl
  case sl => rcases hr with ⟨_, rfl, _⟩ | ⟨_, _, _, rfl, _⟩ <;> rfl
  case im => exact hr.one
  case rows => rcases hr with ⟨_, rfl, _⟩ | ⟨_, _, _, rfl, _⟩ <;> rfl
  case adr => obtain ⟨_, _, rfl, _⟩ := hr; rfl
  case opq => exact hr.2
  case fn => obtain ⟨_, _, rfl⟩ := hr; rfl
  all_goals (subst hr; rfl)
theorem relS_one : ∀ {l : List Seg} {vs : List Value}, RelS ρ l vs → ∀ v ∈ vs, v.oneCell' = true
  | [], vs, h, v, hv => by simp only [RelS] at h; subst h; cases hv
  | .one c :: l, vs, ⟨u, vs', e, h1, h2⟩, v, hv => by
    subst e
    rcases List.mem_cons.1 hv with rfl | hv
    · exact rel1_one h1
    · exact relS_one h2 v hv
  | .ints k f n :: l, vs, ⟨vs', e, h2⟩, v, hv => by
    subst e
    rcases List.mem_append.1 hv with hv | hv
    · simp only [intsV, List.mem_map] at hv; obtain ⟨_, _, rfl⟩ := hv; rfl
    · exact relS_one h2 v hv
  | .rows k f n :: l, vs, ⟨us, vs', e, h0, h1, h2⟩, v, hv => by
    subst e
    rcases List.mem_append.1 hv with hv | hv
    · obtain ⟨i, hi, rfl⟩ := List.mem_iff_getElem.1 hv
      exact (h1 i _ (by simp [hi])).one
    · exact relS_one h2 v hv

theorem hp_own {t : Nat} {q : Cd} {bt : TypeId} {l : List Seg} {m : Bool} (e : s.hp t = some (q, .own bt l m)) : ∃ b0, getA s.heap t = some b0 ∧ b0.isOwn = true := by
  unfold St.hp at e
  split at e
  · rename_i g g' b' hb; injection e with e; injection e with e1 e2; subst e2; exact ⟨_, hb, rfl⟩
  · rename_i g b' _ hb; injection e with e; injection e with e1 e2; subst e2; exact ⟨_, hb, rfl⟩
  · rename_i b' _ _ hb; injection e with e; injection e with e1 e2; subst e2; exact ⟨_, hb, rfl⟩
  · cases e

/-- A block of the call's own is written. -/
theorem eff_write (h : R W w0 F ρ s a w) {t : Nat} {b0 : SB} {pl : Pl} {old vs post : List Value} {bt : TypeId} {l : List Seg} {m : Bool} (hg : getA s.heap t = some b0) (ho : b0.isOwn = true) (hρ : ρ t = some pl) (hf : pl.f = 0)
    (hh : w.heap[pl.b]? = some (.cells old.toArray bt (0, 0))) (hn : (vs ++ post).length = pl.n) (hl : RelS ρ l vs) (hm : m = false → post = []) :
    Eff ρ ρ s.heap s.next [(t, .own bt l m)] s.next w (w.setRow pl.b (vs ++ post).toArray) := by
  have hget : ∀ t' b, getA [(t, SB.own bt l m)] t' = some b → t' = t ∧ b = .own bt l m := by
    intro t' b hb
    simp only [getA] at hb
    split at hb
    · rename_i e; simp only [Nat.beq_eq] at e; injection hb with hb; exact ⟨e.symm, hb.symm⟩
    · cases hb
  refine ⟨Ext.refl _, Nat.le_refl _, by omega, by simp, rfl, rfl, rfl, fun _ _ h => .inl h, ?_, ?_, ?_, ?_⟩
  · intro t' b hb
    obtain ⟨rfl, rfl⟩ := hget t' b hb
    exact ⟨pl, vs, post, hρ, hf, setRow_heap w pl.b _ _ _ _ hh, hn, hl, hm⟩
  · intro t' b hb
    obtain ⟨rfl, rfl⟩ := hget t' b hb
    exact .inr ⟨b0, hg, ho⟩
  · intro i hi hne
    refine setRow_other w pl.b i _ ?_
    rintro rfl
    exact hne t (.own bt l m) pl (by simp [getA]) hρ rfl
  · intro t' t'' b b' hne ht' ht2 _ _ hb _ _ _ _ _ _
    omega

theorem run_storeAt_row {b off : Nat} {ty bt : TypeId} {v : Value} {x pre xo post : List Value} (hv : v.cells = x.toArray) (hi : (P.info? ty).map (·.size) = some x.length) (hh : w.heap[b]? = some (.cells (pre ++ (xo ++ post)).toArray bt (0, 0)))
    (hx : xo.length = x.length) (ho : pre.length = off) (h1 : ∀ u ∈ x, u.oneCell' = true) :
    (Instr.storeAt ty (.pointer (some ⟨b, off, none⟩)) v).run P w = .ok () (w.setRow b (pre ++ (x ++ post)).toArray) := by
  have hst := run_storeCells_at P b off bt x 0 _ w hh (by simp; omega) h1
  cases hq : P.info? ty with
  | none => simp [hq] at hi
  | some i =>
    have hs : i.size = x.length := by simpa [hq] using hi
    have hrow : (((pre ++ (xo ++ post)).take off) ++ (x ++ (pre ++ (xo ++ post)).drop (off + x.length))) = pre ++ (x ++ post) := by
      subst ho
      rw [List.take_left, List.drop_append, List.drop_eq_nil_of_le (by omega), List.nil_append, Nat.add_sub_cancel_left, ← hx, List.drop_left]
    simp only [Nat.add_zero, List.append_assoc] at hst
    rw [hrow] at hst
    simp [Instr.storeAt, Instr.sureAddr, storeVar, sizeOf, typeInfo, hq, hv, hs, hst]

theorem ok_store {x y : Operand} {ty : TypeId} {r : Res} (ho : op.op = .store ty x y) (hrv : r.v = none) {w' : World} (hr : (Instr.storeAt ty (a.eval x) (a.eval y)).run P w = .ok () w') (he : Eff ρ ρ s.heap s.next r.d r.next w w') : Ok P ρ s a w op r := by
  intro K Q hK
  have hx : execOp a.eval op = (do Instr.storeAt ty (a.eval x) (a.eval y); pure Next.skip) := by simp only [execOp, ho]
  unfold Oper.wp
  rw [hx]
  simp only [Sem.run_bind, hr, Result.andThen_ok, Sem.run_pure]
  exact hK undef w' ρ he (fun sv h => by rw [hrv] at h; cases h)

theorem intsV_upd (k : IntKind) (f : Nat → Int) (n i : Nat) (z : Int) : (intsV k f n).set i (Value.int k z) = intsV k (upd f i z) n := by
  apply List.ext_getElem?
  intro j
  rw [List.getElem?_set]
  by_cases hj : j < n
  · rw [intsV_get _ _ _ _ hj, intsV_get _ _ _ _ hj, intsV_length]
    by_cases hi : i = j
    · subst hi; simp [upd, hj]
    · rw [if_neg hi]; simp [upd, Ne.symm hi]
  · rw [intsV_length, List.getElem?_eq_none (l := intsV k f n) (by rw [intsV_length]; omega), List.getElem?_eq_none (l := intsV k (upd f i z) n) (by rw [intsV_length]; omega)]
    by_cases hi : i = j
    · subst hi; simp [hj]
    · rw [if_neg hi]
theorem intsV_split (k : IntKind) (f : Nat → Int) (n i : Nat) (h : i < n) : ∃ p q, intsV k f n = p ++ (Value.int k (f i) :: q) ∧ p.length = i ∧ ∀ v, (intsV k f n).set i v = p ++ (v :: q) := by
  refine ⟨(intsV k f n).take i, (intsV k f n).drop (i + 1), ?_, by rw [List.length_take, intsV_length]; omega, fun v => ?_⟩
  · have hl : i < (intsV k f n).length := by rw [intsV_length]; exact h
    have : (intsV k f n)[i] = .int k (f i) := by
      have := intsV_get k f n i h
      rw [List.getElem?_eq_getElem hl] at this
      injection this
    rw [← this, List.getElem_cons_drop, List.take_append_drop]
  · rw [List.set_eq_take_append_cons_drop, if_pos (by rw [intsV_length]; exact h)]

theorem act_store (h : R W w0 F ρ s a w) (hT : TOk P T) {ty : TypeId} {x y : Operand} (ho : op.op = .store ty x y) (e : act T C s op = some r) (hp : r.p.holds) : Ok P ρ s a w op r := by
  simp only [act, ho] at e
  unfold actStore at e
  split at e
  · rename_i ti p t o i q v hti h1 h2
    obtain ⟨_, inf, z, hi1, hi2, _⟩ := hT _ _ hti
    split at e
    · rename_i g bt l m hb
      obtain ⟨b0, hg0, hown⟩ := hp_own hb
      split at e
      · rename_i new
        split at e
        · rename_i l' hl'
          split at e
          · rename_i hlen
            simp only [Nat.beq_eq] at hlen
            rw [St.wr_eq] at e
            injection e with e
            subst e
            obtain ⟨hp1, hp2, hp3⟩ := hp
            obtain ⟨pl, e1, e2⟩ := ev1_ok h h1 hp1
            obtain ⟨pl', vs, post, g1, g2, g3, g4, g5, g6⟩ := hp_ok h hb hp3
            rw [e1] at g1; injection g1 with g1; subst g1
            obtain ⟨us, u1, u2⟩ := ev1_ok h h2 hp2
            obtain ⟨va, vx, vb, rfl, n1, n2, hnew⟩ := segSplice_spec hl' g5
            have hul : us.length = ti.size := (relS_len u2).trans hlen
            refine ok_store ho rfl (w' := w.setRow pl.b ((va ++ (us ++ vb)) ++ post).toArray) ?_ (eff_write h hg0 hown e1 g2 g3 (by rw [← g4]; simp; omega) (hnew us u2) (fun hm => g6 hm))
            rw [e2, u1, g2, Nat.zero_add, Nat.add_zero]
            have := run_storeAt_row (P := P) (w := w) (b := pl.b) (off := o) (ty := ty) (bt := bt) (v := .agg us.toArray) (x := us) (pre := va) (xo := vx) (post := vb ++ post) rfl (by simp [hi1, hi2, hul]) (by simpa using g3) (by omega) n1 (relS_one u2)
            simpa using this
          · cases e
        · cases e
      · rename_i c
        split at e
        · rename_i hsz
          simp only [Nat.beq_eq] at hsz
          split at e
          · rename_i k f n r' hs
            split at e
            · rename_i k' z'
              split at e
              · rename_i hk
                obtain rfl := kEq_spec hk
                rw [Option.bind_eq_some_iff] at e
                obtain ⟨l', hl0, e⟩ := e
                rw [St.wr_eq] at e
                injection e with e
                subst e
                obtain ⟨hp1, hp2, hp3, hp4⟩ := hp
                have hl' : segSplice l o n [.ints k (upd f i z') n] = some l' := segPut_splice hl0 hs rfl (Nat.lt_of_le_of_lt (Nat.zero_le _) hp4)
                obtain ⟨pl, e1, e2⟩ := ev1_ok h h1 hp1
                have hsat := hp_ok h hb hp3
                have r2 := ev1_ok h h2 hp2
                simp only [RelA, Rel1] at r2
                obtain ⟨pl', vs, post, g1, g2, g3, g4, g5, g6⟩ := hsat
                rw [e1] at g1; injection g1 with g1; subst g1
                obtain ⟨la, rfl, hla⟩ := segDrop_spec hs
                obtain ⟨va0, vb0, rfl, ra, vb1, rfl, rb⟩ := relS_append.1 g5
                obtain ⟨va, vx, vb, hsp, n1, n2, hnew⟩ := segSplice_spec hl' g5
                have hva : va0.length = va.length := by rw [n1]; exact (relS_len ra).trans hla
                obtain ⟨rfl, hsp2⟩ := List.append_inj hsp hva
                obtain ⟨rfl, rfl⟩ := List.append_inj hsp2 (by rw [intsV_length, n2])
                obtain ⟨px, qx, q1, q2, q3⟩ := intsV_split k f n i hp4
                refine ok_store ho rfl (w' := w.setRow pl.b ((va0 ++ (intsV k (upd f i z') n ++ vb1)) ++ post).toArray) ?_ (eff_write h hg0 hown e1 g2 g3 (by rw [← g4]; simp [intsV_length]) (hnew _ ⟨[], by simp, rfl⟩) (fun hm => g6 hm))
                rw [e2, r2, g2, Nat.zero_add]
                have := run_storeAt_row (P := P) (w := w) (b := pl.b) (off := o + i) (ty := ty) (bt := bt) (v := .int k z') (x := [.int k z']) (pre := va0 ++ px) (xo := [.int k (f i)]) (post := qx ++ (vb1 ++ post)) rfl (by simp [hi1, hi2, hsz])
                  (by rw [g3, q1]; simp) rfl (by simp; omega) (by simp [Value.oneCell'])
                rw [← intsV_upd, q3]
                simpa using this
              · cases e
            · cases e
          · rename_i c0 r' hs
            split at e
            · rw [Option.bind_eq_some_iff] at e
              obtain ⟨l', hl', e⟩ := e
              rw [St.wr_eq] at e
              injection e with e
              subst e
              obtain ⟨hp1, hp2, hp3⟩ := hp
              obtain ⟨pl, e1, e2⟩ := ev1_ok h h1 hp1
              have r2 := ev1_ok h h2 hp2
              obtain ⟨pl', vs, post, g1, g2, g3, g4, g5, g6⟩ := hp_ok h hb hp3
              rw [e1] at g1; injection g1 with g1; subst g1
              obtain ⟨va, vx, vb, rfl, n1, n2, hnew⟩ := segSplice_spec hl' g5
              refine ok_store ho rfl (w' := w.setRow pl.b ((va ++ ([a.eval y] ++ vb)) ++ post).toArray) ?_ (eff_write h hg0 hown e1 g2 g3 (by rw [← g4]; simp; omega) (hnew _ ⟨_, [], rfl, r2, rfl⟩) (fun hm => g6 hm))
              rw [e2, g2, Nat.zero_add, Nat.add_zero]
              have := run_storeAt_row (P := P) (w := w) (b := pl.b) (off := o) (ty := ty) (bt := bt) (v := a.eval y) (x := [a.eval y]) (pre := va) (xo := vx) (post := vb ++ post) (rel1_cells r2) (by simp [hi1, hi2, hsz]) (by simpa using g3) (by simpa using n2) n1 (by simpa using rel1_one r2)
              simpa using this
            · cases e
          · cases e
        · cases e
    · cases e
  · cases e

theorem call_arg1 {x : Operand} {c : Call} (h : c.args.toList = [x]) : c.args = #[x] := by cases hh : c.args; simp [hh] at h; subst h; rfl
theorem call_arg2 {x y : Operand} {c : Call} (h : c.args.toList = [x, y]) : c.args = #[x, y] := by cases hh : c.args; simp [hh] at h; subst h; rfl
theorem call_ty1 {x : TypeId} {c : Call} (h : c.argTypes.toList = [x]) : c.argTypes = #[x] := by cases hh : c.argTypes; simp [hh] at h; subst h; rfl
theorem call_ty2 {x y : TypeId} {c : Call} (h : c.argTypes.toList = [x, y]) : c.argTypes = #[x, y] := by cases hh : c.argTypes; simp [hh] at h; subst h; rfl

theorem act_len (h : R W w0 F ρ s a w) (hT : TOk P T) {c : Call} (ho : op.op = .call c) (hc : c.callee = .builtin .len) (e : act T C s op = some r) (hp : r.p.holds) : Ok P ρ s a w op r := by
  have hx : execOp a.eval op = (do pure (Next.value (← Builtin.len_ c.argTypes op.type (c.args.map a.eval)))) := by simp only [execOp, ho, resolve, hc, pure_bind, invoke, builtin]
  simp only [act, ho, hc] at e
  split at e
  · rename_i x t h1 h2
    rw [call_arg1 h1, call_ty1 h2] at hx
    split at e
    · rename_i el b z sz zr p nl ex zz tg o f n c' hti h3
      rw [one_inj e] at hp ⊢
      obtain ⟨hu, _⟩ := (hT _ _ hti).1
      obtain ⟨A, cap, e1, _⟩ := sl_none (ev1_ok h h3 hp)
      refine ok_run (v := .int .i64 n) hx ?_ rfl
      simp [e1, Builtin.len_, run_underlying hu]; rfl
    · rename_i el b z sz zr p nl k f n hti h3
      rw [one_inj e] at hp ⊢
      obtain ⟨hu, _⟩ := (hT _ _ hti).1
      have hv : ∃ A cap, a.eval x = .slice A n cap := by
        rcases ev1_ok h h3 hp with ⟨_, e1, e2⟩ | ⟨_, A, cap, e1, _⟩
        · simp only at e2; subst e2; exact ⟨_, _, e1⟩
        · exact ⟨_, _, e1⟩
      obtain ⟨A, cap, e1⟩ := hv
      refine ok_run (v := .int .i64 n) hx ?_ rfl
      simp [e1, Builtin.len_, run_underlying hu]; rfl
    · rename_i el b z sz zr p nl k f n hti h3
      rw [one_inj e] at hp ⊢
      obtain ⟨hu, _⟩ := (hT _ _ hti).1
      have hv : ∃ A cap, a.eval x = .slice A n cap := by
        rcases ev1_ok h h3 hp with ⟨_, e1, e2⟩ | ⟨_, A, cap, e1, _⟩
        · subst e2; exact ⟨_, _, e1⟩
        · exact ⟨_, _, e1⟩
      obtain ⟨A, cap, e1⟩ := hv
      refine ok_run (v := .int .i64 n) hx ?_ rfl
      simp [e1, Builtin.len_, run_underlying hu]; rfl
    · rename_i sz zr p b hti h3
      rw [one_inj e] at hp ⊢
      have hu : P.underlying t = some .string := (hT _ _ hti).1
      have r1 := ev1_ok h h3 hp
      simp only [RelA, Rel1] at r1
      refine ok_run (v := .int .i64 b.size) hx ?_ rfl
      simp [r1, Builtin.len_, run_underlying hu]; rfl
    · cases e
  · cases e

theorem act_min (h : R W w0 F ρ s a w) {c : Call} (ho : op.op = .call c) (hc : c.callee = .builtin .min) (e : act T C s op = some r) (hp : r.p.holds) : Ok P ρ s a w op r := by
  have hx : execOp a.eval op = (do pure (Next.value (← Builtin.min_ c.argTypes op.type (c.args.map a.eval)))) := by simp only [execOp, ho, resolve, hc, pure_bind, invoke, builtin]
  simp only [act, ho, hc] at e
  split at e
  · rename_i x y h1
    rw [call_arg2 h1] at hx
    split at e
    · rename_i p k m q k' n h3 h4
      rw [one_inj e] at hp ⊢
      have r1 := ev1_ok h h3 hp.1
      have r2 := ev1_ok h h4 hp.2
      simp only [RelA, Rel1] at r1 r2
      refine ok_run (v := .int k (if n < m then n else m)) hx ?_ rfl
      simp [r1, r2, Builtin.min_, Builtin.min2]
    · cases e
  · cases e

theorem act_max (h : R W w0 F ρ s a w) {c : Call} (ho : op.op = .call c) (hc : c.callee = .builtin .max) (e : act T C s op = some r) (hp : r.p.holds) : Ok P ρ s a w op r := by
  have hx : execOp a.eval op = (do pure (Next.value (← Builtin.max_ c.argTypes op.type (c.args.map a.eval)))) := by simp only [execOp, ho, resolve, hc, pure_bind, invoke, builtin]
  simp only [act, ho, hc] at e
  split at e
  · rename_i x y h1
    rw [call_arg2 h1] at hx
    split at e
    · rename_i p k m q k' n h3 h4
      rw [one_inj e] at hp ⊢
      have r1 := ev1_ok h h3 hp.1
      have r2 := ev1_ok h h4 hp.2
      simp only [RelA, Rel1] at r1 r2
      refine ok_run (v := .int k (if n > m then n else m)) hx ?_ rfl
      simp [r1, r2, Builtin.max_, Builtin.max2]
    · cases e
  · cases e

theorem put_put (f g : Nat → Int) (i m : Nat) (k : IntKind) (z : Nat) (h : i + m ≤ z) : ∃ p q o, intsV k f z = p ++ (o ++ q) ∧ p.length = i ∧ o.length = m ∧ intsV k (put_ f i m g) z = p ++ (intsV k g m ++ q) := by
  refine ⟨(intsV k f z).take i, (intsV k f z).drop (i + m), ((intsV k f z).drop i).take m, ?_, by rw [List.length_take, intsV_length]; omega, by rw [List.length_take, List.length_drop, intsV_length]; omega, ?_⟩
  · rw [← List.drop_drop, List.take_append_drop, List.take_append_drop]
  · apply List.ext_getElem?
    intro j
    by_cases hj : j < z
    · rw [intsV_get _ _ _ _ hj]
      by_cases h1 : j < i
      · rw [List.getElem?_append_left (by rw [List.length_take, intsV_length]; omega), List.getElem?_take_of_lt h1, intsV_get _ _ _ _ hj]
        simp only [put_]; rw [if_neg (by omega)]
      · rw [List.getElem?_append_right (by rw [List.length_take, intsV_length]; omega), List.length_take, intsV_length, Nat.min_eq_left (by omega)]
        by_cases h2 : j < i + m
        · rw [List.getElem?_append_left (by rw [intsV_length]; omega), intsV_get _ _ _ _ (by omega)]
          simp only [put_]; rw [if_pos (by omega)]
        · rw [List.getElem?_append_right (by rw [intsV_length]; omega), intsV_length, List.getElem?_drop, intsV_get _ _ _ _ (by omega)]
          simp only [put_]; rw [if_neg (by omega)]
          congr 3; omega
    · rw [List.getElem?_eq_none (by rw [intsV_length]; omega), List.getElem?_eq_none (by simp only [List.length_append, List.length_take, List.length_drop, intsV_length]; omega)]

theorem act_copy (h : R W w0 F ρ s a w) (hT : TOk P T) {c : Call} (ho : op.op = .call c) (hc : c.callee = .builtin .copy) (e : act T C s op = some r) (hp : r.p.holds) : Ok P ρ s a w op r := by
  have hx : execOp a.eval op = (do pure (Next.value (← Builtin.copy_ c.argTypes op.type (c.args.map a.eval)))) := by simp only [execOp, ho, resolve, hc, pure_bind, invoke, builtin]
  simp only [act, ho, hc] at e
  split at e
  · rename_i x y tx ty h1 h2
    rw [call_arg2 h1, call_ty2 h2] at hx
    split at e
    · rename_i el b zz sz zr el2 b2 zz2 sz2 zr2 p ex z0 t o f n cc q src0 hti hty h3 h4
      split at e
      · rename_i u bt l m hb
        obtain ⟨b0, hg0, hown⟩ := hp_own hb
        split at e
        · rename_i k g z r' hs
          split at e
          · rename_i rp src n' hsrc
            rw [Option.bind_eq_some_iff] at e
            obtain ⟨l', hl', e⟩ := e
            rw [St.wr_eq] at e
            injection e with e
            subst e
            obtain ⟨hp1, hp2, hp3, hp4, hp5⟩ := hp
            have hp5 : f + n ≤ z := hp5
            obtain ⟨hu, ie, ze, c1, c2, _⟩ := (hT _ _ hti).1
            rcases ev1_ok h h3 hp1 with ⟨hcon, _⟩ | ⟨_, A, cap, e1, e2, e3, e4, e5, _⟩
            · cases hcon
            have hsat := hp_ok h hb hp3
            obtain ⟨pl, vs, post, g1, g2, g3, g4, g5, g6⟩ := hsat
            obtain ⟨la, rfl, hla⟩ := segDrop_spec hs
            obtain ⟨va0, vb0, rfl, ra, vb1, rfl, rb⟩ := relS_append.1 g5
            obtain ⟨va, vx, vb, hsp, n1, n2, hnew⟩ := segSplice_spec hl' g5
            have hva : va0.length = va.length := by rw [n1]; exact (relS_len ra).trans hla
            obtain ⟨rfl, hsp2⟩ := List.append_inj hsp hva
            obtain ⟨rfl, rfl⟩ := List.append_inj hsp2 (by rw [intsV_length, n2])
            obtain ⟨px, qx, ox, q1, q2, q3, q4⟩ := put_put g src f (min n' n) k z (by omega)
            have heff := eff_write (l := l') (m := m) (vs := va0 ++ (intsV k (put_ g f (min n' n) src) z ++ vb1)) (post := post) h hg0 hown g1 g2 g3 (by rw [← g4]; simp [intsV_length]) (hnew _ ⟨[], by simp, rfl⟩) (fun hm => g6 hm)
            have hnoop : min n' n = 0 → w.setRow pl.b ((va0 ++ (intsV k (put_ g f (min n' n) src) z ++ vb1)) ++ post).toArray = w := by
              intro h0
              rw [h0] at q3 q4
              have : ox = [] := List.eq_nil_of_length_eq_zero q3
              subst this
              rw [h0, q4, show intsV k src 0 = [] from rfl, ← q1]
              exact setRow_self w pl.b _ _ _ g3
            intro K Q hK
            unfold Oper.wp
            rw [hx]
            have fin : (Builtin.copy_ #[tx, ty] op.type #[a.eval x, a.eval y]).run P w = .ok (.int .i64 (min n' n : Nat)) (w.setRow pl.b ((va0 ++ (intsV k (put_ g f (min n' n) src) z ++ vb1)) ++ post).toArray) := by
              rcases src_ok h hsrc hp4 (ev1_ok h h4 hp2) with ⟨s1, s2⟩ | ⟨A', cap', s1, _, s2⟩
              · subst s2
                rw [hnoop (Nat.zero_min n), e1, s1, run_copy_nil (P := P) w tx ty op.type el A n cap hu (by simp [c1])]
                simp only [Nat.zero_min]; rfl
              · by_cases h0 : min n' n = 0
                · rw [hnoop h0, e1, s1, run_copy_none (P := P) w tx ty op.type el (some A) (some A') n cap n' cap' hu (by simp [c1, c2]) h0, h0]; rfl
                · obtain ⟨pl', k1, k2, k3⟩ := e5 (.inl (by omega))
                  rw [g1] at k1; injection k1 with k1; subst k1
                  have hrow := run_copy_row (P := P) w tx ty op.type el pl.b (o + f) n cap A' n' cap' _ bt (intsV k src (min n' n)) hu (by simp [c1, c2]) g3 (by rw [intsV_length])
                    (fun j v hv => by
                      have hj : j < min n' n := by have := (List.getElem?_eq_some_iff.1 hv).1; rwa [intsV_length] at this
                      rw [intsV_get _ _ _ _ hj] at hv
                      injection hv with hv
                      rw [← hv]; exact s2 j (by omega))
                    (by rw [intsV_length]; simp [intsV_length, n1]; omega) (fun v hv => by simp only [intsV, List.mem_map] at hv; obtain ⟨_, _, rfl⟩ := hv; rfl)
                  rw [e1, s1, k2, g2, Nat.zero_add, hrow, intsV_length]
                  congr 2
                  rw [q4, q1, show ((va0 ++ (px ++ (ox ++ qx) ++ vb1) ++ post)).toArray.toList = (va0 ++ px) ++ (ox ++ (qx ++ (vb1 ++ post))) by simp]
                  rw [List.take_left' (by simp; omega), ← List.append_assoc (va0 ++ px) ox, List.drop_left' (by simp; omega)]
                  simp
            simp only [List.map_toArray, List.map_cons, List.map_nil, Sem.run_bind, fin, Result.andThen_ok, Sem.run_pure]
            exact hK _ _ ρ heff (fun sv hsv => by injection hsv with hsv; subst hsv; rfl)
          · cases e
        · cases e
      · cases e
    · cases e
  · cases e

end
end Go.Sx
