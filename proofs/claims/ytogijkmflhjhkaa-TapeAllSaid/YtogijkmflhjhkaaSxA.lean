/- A symbolic evaluator of the model's operations: its types and its steps. Plain definitions; no condition. -/
import Derived.WalkKit
import Derived.KernelRfl
namespace Go.Sx
set_option linter.unusedSimpArgs false
set_option linter.unusedVariables false

/-- A condition. -/
inductive Cd where
  | tt
  | ff
  | p (P : Prop)
  | and (a b : Cd)
  | imp (g : Bool) (c : Cd)
def Cd.holds : Cd → Prop
  | .tt => True
  | .ff => False
  | .p P => P
  | .and a b => a.holds ∧ b.holds
  | .imp g c => g = true → c.holds
/-- The same without what is plain. -/
def Cd.norm : Cd → Cd
  | .and a b => match a.norm with
    | .tt => b.norm
    | a' => match b.norm with
      | .tt => a'
      | b' => .and a' b'
  | .imp g c => match c.norm with
    | .tt => .tt
    | c' => .imp g c'
  | c => c
/-- The condition, then K. -/
def Cd.then : Cd → Prop → Prop
  | .tt, K => K
  | .ff, _ => False
  | .p P, K => P ∧ K
  | .and a b, K => a.then (b.then K)
  | .imp g c, K => match c.norm with
    | .tt => K
    | _ => (g = true → c.then True) ∧ K
theorem Cd.norm_iff : ∀ c : Cd, c.norm.holds ↔ c.holds
  | .tt => Iff.rfl
  | .ff => Iff.rfl
  | .p _ => Iff.rfl
  | .and a b => by
    have ha := norm_iff a
    have hb := norm_iff b
    simp only [Cd.norm]
    split
    · rename_i h; rw [h] at ha; simp only [Cd.holds, true_iff] at ha ⊢; rw [hb]; exact ⟨fun h => ⟨ha, h⟩, fun h => h.2⟩
    · split
      · rename_i h; rw [h] at hb; simp only [Cd.holds, true_iff] at hb ⊢; rw [ha]; exact ⟨fun h => ⟨h, hb⟩, fun h => h.1⟩
      · simp only [Cd.holds]; rw [ha, hb]
  | .imp g c => by
    have hc := norm_iff c
    simp only [Cd.norm]
    split
    · rename_i h; rw [h] at hc; simp only [Cd.holds, true_iff] at hc ⊢; exact fun _ => hc
    · simp only [Cd.holds]; rw [hc]
theorem Cd.then_iff : ∀ (c : Cd) (K : Prop), c.then K ↔ c.holds ∧ K
  | .tt, K => by simp [Cd.then, Cd.holds]
  | .ff, K => by simp [Cd.then, Cd.holds]
  | .p P, K => by simp [Cd.then, Cd.holds]
  | .and a b, K => by simp only [Cd.then, Cd.holds]; rw [then_iff a, then_iff b, and_assoc]
  | .imp g c, K => by
    have hc := Cd.norm_iff c
    have ih := then_iff c True
    simp only [Cd.then]
    split
    · rename_i h; rw [h] at hc; simp only [Cd.holds, true_iff] at hc ⊢; exact ⟨fun h => ⟨fun _ => hc, h⟩, fun h => h.2⟩
    · simp only [Cd.holds, ih, and_true]

/-- A slice of integers that is only read. -/
structure Row where
  nl : Bool
  f : Nat → Int
  n : Nat

/-- A value of one cell, as the evaluator knows it. -/
inductive SC where
  | any
  | int (k : IntKind) (n : Int)
  | bool (b : Bool)
  | str (s : ByteArray)
  | nilp
  /-- cell 'o + i' behind the address of the tag t -/
  | ptr (t : Nat) (o : Nat) (i : Nat)
  /-- a slice: is it nil; is its place known though it be empty; has it no room where it is empty; its first cell is 'o + i' behind the tag's address; its length; what its capacity is at least -/
  | sl (nl ex z : Bool) (t : Nat) (o : Nat) (i n c : Nat)
  /-- a slice of integers that nobody writes -/
  | im (nl : Bool) (k : IntKind) (f : Nat → Int) (n : Nat)
  /-- a slice of such slices -/
  | rows (nl : Bool) (k : IntKind) (r : Nat → Row) (n : Nat)
  /-- the address of a cell that nobody writes -/
  | adr (c : SC)
  /-- a value that is handed on -/
  | opq (i : Nat)
  /-- a closure that captured one variable -/
  | fn (f : FuncId) (t : Nat)

/-- A stretch of a block: one cell; n integers; n slices that nobody writes. -/
inductive Seg where
  | one (v : SC)
  | ints (k : IntKind) (f : Nat → Int) (n : Nat)
  | rows (k : IntKind) (r : Nat → Row) (n : Nat)

/-- A value. -/
inductive SA where
  | sc (v : SC)
  | agg (l : List Seg)

/-- What a temporary holds: a value, several, a value if g. -/
inductive SV where
  | sa (v : SA)
  | tup (l : List SA)
  | gd (g : Bool) (v : SA)

/-- A block: own (it may be written): its type, its stretches from the head on, whether more cells may lie behind them; n integers that are only read; one of which nothing is known any more; one that is there if g. -/
inductive SB where
  | own (ty : TypeId) (l : List Seg) (more : Bool)
  | ro (k : IntKind) (f : Nat → Int) (n : Nat)
  | dead
  | gd (g : Bool) (b : SB)

structure St where
  size : Nat
  frame : List (Nat × SV)
  heap : List (Nat × SB)
  next : Nat

/-- What is known of a type. -/
inductive TyD where
  | int (k : IntKind)
  | bool
  | str
  | slice (e : TypeId) (bytes : Nat) (zero : Seg)
  | array (n : Nat) (e : TypeId)
  /-- fields: offset -/
  | struct (fs : List (Nat × Nat))
  | ptr
structure TyI where
  d : TyD
  size : Nat
  zero : List Seg

def getA {α : Type} (l : List (Nat × α)) (i : Nat) : Option α :=
  match l with
  | [] => none
  | (j, v) :: r => match Nat.beq j i with | true => some v | false => getA r i

def Seg.len : Seg → Nat
  | .one _ => 1
  | .ints _ _ n => n
  | .rows _ _ n => n
def segsLen : List Seg → Nat
  | [] => 0
  | g :: r => g.len + segsLen r

/-- What is left behind o cells, where a stretch ends there. -/
def segDrop : List Seg → Nat → Option (List Seg)
  | [], o => match Nat.beq o 0 with | true => some [] | false => none
  | g :: r, o => match Nat.beq o 0 with | true => some (g :: r) | false => match Nat.ble g.len o with | true => segDrop r (o - g.len) | false => none
def segTake : List Seg → Nat → Option (List Seg)
  | [], o => match Nat.beq o 0 with | true => some [] | false => none
  | g :: r, o => match Nat.beq o 0 with | true => some [] | false => match Nat.ble g.len o with
    | true => (match segTake r (o - g.len) with | some l => some (g :: l) | none => none)
    | false => none
/-- A list, its spine worked out. -/
def forceL {α β : Type} : List α → (List α → β) → β
  | [], k => k []
  | x :: r, k => forceL r fun r' => k (x :: r')
theorem forceL_eq {α β : Type} : ∀ (l : List α) (k : List α → β), forceL l k = k l
  | [], _ => rfl
  | _ :: r, _ => forceL_eq r _
def catK {α β : Type} : List α → List α → (List α → β) → β
  | [], b, k => k b
  | x :: r, b, k => catK r b fun r' => k (x :: r')
theorem catK_eq {α β : Type} : ∀ (l b : List α) (k : List α → β), catK l b k = k (l ++ b)
  | [], _, _ => rfl
  | _ :: r, b, _ => catK_eq r b _
def segSplice (l : List Seg) (o m : Nat) (new : List Seg) : Option (List Seg) :=
  match segTake l o, segDrop l o with
  | some a, some b => match segDrop b m with
    | some c => catK new c fun d => catK a d fun e => some e
    | none => none
  | _, _ => none

/-- A stretch in place of the one of its length that lies at o. -/
def segPut : List Seg → Nat → Seg → Option (List Seg)
  | [], _, _ => none
  | g :: r, o, x => match Nat.beq o 0 with
    | true => some (x :: r)
    | false => match Nat.ble g.len o with
      | true => (match segPut r (o - g.len) x with | some l => some (g :: l) | none => none)
      | false => none
theorem segPut_spec {x : Seg} : ∀ {l : List Seg} {o : Nat} {l' : List Seg}, segPut l o x = some l' → ∃ a g r, segTake l o = some a ∧ segDrop l o = some (g :: r) ∧ l' = a ++ x :: r
  | [], _, _, h => by cases h
  | b :: r, o, l', h => by
    unfold segPut at h
    split at h
    · rename_i e
      injection h with h
      exact ⟨[], b, r, by unfold segTake; rw [e], by unfold segDrop; rw [e], h.symm⟩
    · rename_i e
      split at h
      · rename_i e2
        split at h
        · rename_i l0 e3
          injection h with h
          obtain ⟨a, g, r', h1, h2, h3⟩ := segPut_spec e3
          refine ⟨b :: a, g, r', ?_, ?_, by rw [← h, h3]; rfl⟩
          · unfold segTake; rw [e, e2]; simp only [h1]
          · unfold segDrop; rw [e, e2]; exact h2
        · cases h
      · cases h
theorem segDrop_0 (l : List Seg) : segDrop l 0 = some l := by cases l <;> rfl
theorem segPut_splice {x g : Seg} {l r l' : List Seg} {o n : Nat} (h : segPut l o x = some l') (hd : segDrop l o = some (g :: r)) (hg : g.len = n) (hn : 0 < n) : segSplice l o n [x] = some l' := by
  obtain ⟨a, g', r', h1, h2, h3⟩ := segPut_spec h
  rw [hd] at h2
  injection h2 with h2
  injection h2 with h4 h5
  subst h4; subst h5
  have e : segDrop (g :: r) n = some r := by
    unfold segDrop
    rw [show Nat.beq n 0 = false from (by cases n with | zero => omega | succ n => rfl), show Nat.ble g.len n = true by rw [hg]; exact Nat.ble_eq_true_of_le (Nat.le_refl _), hg, Nat.sub_self]
    exact segDrop_0 r
  unfold segSplice
  rw [h1, hd]
  simp only [e, catK_eq]
  rw [h3]
  rfl

def upd (f : Nat → Int) (i : Nat) (v : Int) (j : Nat) : Int := if j = i then v else f j
/-- m numbers g from place i on. -/
def put_ (f : Nat → Int) (i m : Nat) (g : Nat → Int) (j : Nat) : Int := if i ≤ j ∧ j < i + m then g (j - i) else f j
/-- m rows g behind n rows f. -/
def putR (f : Nat → Row) (n : Nat) (g : Nat → Row) (j : Nat) : Row := if j < n then f j else g (j - n)
def listI (l : List Int) (j : Nat) : Int := l.getD j 0
def kEq (a b : IntKind) : Bool := Nat.beq a.ctorIdx b.ctorIdx
/-- A string's bytes; the string of bytes. -/
def bytesI (s : ByteArray) (j : Nat) : Int := ((s.data.getD j 0).toNat : Int)
def strI (f : Nat → Int) (n : Nat) : ByteArray := ⟨((List.range n).map fun j => UInt8.ofNat (f j).toNat).toArray⟩
def eqI (n : Nat) (f g : Nat → Int) : Bool := (List.range n).all fun j => f j == g j

/-- A tag that no block has. -/
def noTagN : Nat := 999999

def ofConst : Value → Option SV
  | .int k n => some (.sa (.sc (.int k n)))
  | .bool b => some (.sa (.sc (.bool b)))
  | .string s => some (.sa (.sc (.str s)))
  | .pointer none => some (.sa (.sc .nilp))
  | .slice none 0 0 => some (.sa (.sc (.sl true false true 999999 0 0 0 0)))
  | _ => none

def St.ev (s : St) : Operand → Option SV
  | .tmp t => getA s.frame t
  | .const v => ofConst v
  | _ => none
/-- An operand, with what must hold that it is there. -/
def St.ev1 (s : St) (x : Operand) : Option (Cd × SA) :=
  match s.ev x with
  | some (.sa v) => some (.tt, v)
  | some (.gd g v) => some (.p (g = true), v)
  | _ => none
def St.hp (s : St) (t : Nat) : Option (Cd × SB) :=
  match getA s.heap t with
  | some (.gd g (.gd h b)) => some (.and (.p (g = true)) (.p (h = true)), b)
  | some (.gd g b) => some (.p (g = true), b)
  | some b => some (.tt, b)
  | none => none

def St.evI (s : St) (x : Operand) : Option (Cd × Int) :=
  match s.ev1 x with
  | some (p, .sc (.int _ a)) => some (p, a)
  | _ => none
def St.evLo (s : St) : Option Operand → Option (Cd × Int)
  | none => some (.tt, 0)
  | some x => s.evI x
def St.evHi (s : St) : Option Operand → Option (Cd × Option Int)
  | none => some (.tt, none)
  | some x => match s.evI x with
    | some (p, a) => some (p, some a)
    | none => none
/-- The n integers of kind k that a slice holds, which lie from place o + f on behind the tag t. -/
def St.srcT (s : St) (k : IntKind) (nl : Bool) (t o f n : Nat) : Option (Cd × (Nat → Int)) :=
  match s.hp t with
  | some (q, .own _ l _) =>
    match segDrop l o with
    | some (.ints k' g m :: _) => match kEq k k' with | true => some (.p (0 < n → q.holds ∧ f + n ≤ m), fun j => g (f + j)) | false => none
    | _ => none
  | some (q, .ro k' g m) => match kEq k k' with | true => some (.p (0 < n → q.holds ∧ o + f + n ≤ m), fun j => g (o + f + j)) | false => none
  | _ => match nl with
    | true => some (.tt, fun _ => 0)
    | _ => none
/-- The integers that a slice holds. -/
def St.src (s : St) (k : IntKind) : SC → Option (Cd × (Nat → Int) × Nat)
  | .im _ k' f n => match kEq k k' with | true => some (.tt, f, n) | false => none
  | .sl nl _ _ t o f n _ => match s.srcT k nl t o f n with
    | some (c, g) => some (c, g, n)
    | none => none
  | _ => none
def isNl : SC → Option Bool
  | .im nl _ _ _ => some nl
  | .rows nl _ _ _ => some nl
  | .sl nl _ _ _ _ _ _ _ => some nl
  | _ => none

/-- What an operation does: its condition, its value, the blocks that it makes or writes, the next new tag. -/
structure Res where
  p : Cd
  v : Option SV
  d : List (Nat × SB)
  next : Nat

abbrev sc (v : SC) : SV := .sa (.sc v)
def St.one (s : St) (p : Cd) (v : SV) : Option Res := match s with | ⟨_, _, _, nx⟩ => some ⟨p, some v, [], nx⟩
/-- A new block: its address; a slice of all of it. -/
def St.newP (s : St) (p : Cd) (b : SB) : Option Res := match s with | ⟨_, _, _, nx⟩ => some ⟨p, some (.sa (.sc (.ptr nx 0 0))), [(nx, b)], nx + 1⟩
theorem St.newP_eq (s : St) (p : Cd) (b : SB) : s.newP p b = some ⟨p, some (sc (.ptr s.next 0 0)), [(s.next, b)], s.next + 1⟩ := by cases s; rfl
def St.newS (s : St) (p : Cd) (nl ex z : Bool) (n c : Nat) (b : SB) (d : List (Nat × SB)) : Option Res := match s with | ⟨_, _, _, nx⟩ => some ⟨p, some (.sa (.sc (.sl nl ex z nx 0 0 n c))), (nx, b) :: d, nx + 1⟩
theorem St.newS_eq (s : St) (p : Cd) (nl ex z : Bool) (n c : Nat) (b : SB) (d : List (Nat × SB)) : s.newS p nl ex z n c b d = some ⟨p, some (sc (.sl nl ex z s.next 0 0 n c)), (s.next, b) :: d, s.next + 1⟩ := by cases s; rfl
/-- A block written. -/
def St.wr (s : St) (p : Cd) (v : Option SV) (d : List (Nat × SB)) : Option Res := match s with | ⟨_, _, _, nx⟩ => some ⟨p, v, d, nx⟩
theorem St.wr_eq (s : St) (p : Cd) (v : Option SV) (d : List (Nat × SB)) : s.wr p v d = some ⟨p, v, d, s.next⟩ := by cases s; rfl
def binI (op : BinOp) (k : IntKind) (x : Int) (y : Int) : Cd × SC :=
  match op with
  | .add => (.tt, .int k (k.wrap (x + y)))
  | .sub => (.tt, .int k (k.wrap (x - y)))
  | .mul => (.tt, .int k (k.wrap (x * y)))
  | .quo => (.p (y ≠ 0), .int k (k.wrap (x.tdiv y)))
  | .rem => (.p (y ≠ 0), .int k (x.tmod y))
  | .and => (.tt, .int k (bits .and k x y))
  | .or => (.tt, .int k (bits .or k x y))
  | .xor => (.tt, .int k (bits .xor k x y))
  | .andNot => (.tt, .int k (bits .andNot k x y))
  | .shl => (.p (0 ≤ y), .int k (k.wrap (x * 2 ^ min y.toNat k.bits)))
  | .shr => (.p (0 ≤ y), .int k (x / 2 ^ min y.toNat k.bits))
  | .eql => (.tt, .bool (x == y))
  | .neq => (.tt, .bool (x != y))
  | .lss => (.tt, .bool (decide (x < y)))
  | .leq => (.tt, .bool (decide (x ≤ y)))
  | .gtr => (.tt, .bool (decide (x > y)))
  | .geq => (.tt, .bool (decide (x ≥ y)))

def isShift : BinOp → Bool
  | .shl | .shr => true
  | _ => false

/-- The parts of a new array or slice of integers, at their places 0, 1, ..: a list, what is not named is 0. -/
def partsI (k : IntKind) : List (Nat × SA) → Nat → List Int → Option (List Int)
  | [], _, acc => some acc.reverse
  | (i, .sc (.int k' n)) :: r, j, acc => match Nat.beq i j && kEq k k' with | true => partsI k r (j + 1) (n :: acc) | false => none
  | _, _, _ => none

/-- The parts of a struct: each at its field's offset, over the zero value. -/
def partsS (fs : List (Nat × Nat)) : List (Nat × SA) → List Seg → Option (List Seg)
  | [], acc => some acc
  | (i, v) :: r, acc =>
    match fs[i]? with
    | none => none
    | some (off, sz) =>
      match v with
      | .sc c => match Nat.beq sz 1 with | true => (segSplice acc off 1 [.one c]).bind fun acc' => partsS fs r acc' | false => none
      | .agg l => match Nat.beq sz (segsLen l) with | true => (segSplice acc off (segsLen l) l).bind fun acc' => partsS fs r acc' | false => none
/-- The parts of a new slice of one-cell values, all named. -/
def partsO : List (Nat × SA) → Nat → Option (List Seg)
  | [], _ => some []
  | (i, .sc v) :: r, j => match Nat.beq i j with | true => (match partsO r (j + 1) with | some l => some (.one v :: l) | none => none) | false => none
  | _, _ => none

def evAll (s : St) : List (Nat × Operand) → Option (Cd × List (Nat × SA))
  | [] => some (.tt, [])
  | (i, x) :: r =>
    match s.ev1 x, evAll s r with
    | some (p, v), some (q, l) => some (.and p q, (i, v) :: l)
    | _, _ => none
def evArgs (s : St) : List Operand → Option (Cd × List SA)
  | [] => some (.tt, [])
  | x :: r =>
    match s.ev1 x, evArgs s r with
    | some (p, v), some (q, l) => some (.and p q, v :: l)
    | _, _ => none

/-- Is the block of what append gives there? -/
def appG (nl ex : Bool) (n m : Nat) : Bool := match ex with | true => decide (0 < n + m) || !nl | false => decide (0 < n + m)
/-- append's first argument: its condition. -/
def appC (nl ex z : Bool) (n M : Nat) (q : Cd) : Cd :=
  match ex with
  | true => .p (nl = false → q.holds ∧ n ≤ M)
  | false => match z with
    | true => .p (0 < n → q.holds ∧ n ≤ M)
    | false => .p (nl = false → q.holds ∧ n ≤ M ∧ 0 < n)
/-- .. its integers, what dies. -/
def St.appDst (s : St) (nl ex z : Bool) (t o f n : Nat) (e : TypeId) (k : IntKind) : Option (Cd × (Nat → Int) × List (Nat × SB)) :=
  match o, f, s.hp t with
  | 0, 0, some (q', .own e' [.ints k' g m] _) => match Nat.beq e e' && kEq k k' with | true => some (appC nl ex z n m q', g, [(t, .dead)]) | false => none
  | _, _, none => match nl with
    | true => some (.tt, (fun _ => 0), [])
    | _ => none
  | _, _, _ => none
/-- append's second argument. -/
def St.appSrc (s : St) (k : IntKind) (tyi : TyI) (src : SA) : Option (Cd × (Nat → Int) × Nat) :=
  match tyi.d, src with
  | .slice _ _ _, .sc v => s.src k v
  | .str, .sc (.str b) => match kEq k .u8 with | true => some (.tt, bytesI b, b.size) | false => none
  | _, _ => none
/-- Stretches one behind the other; slices that nobody writes are taken together. -/
def joinS : List Seg → List Seg → List Seg
  | [], [.one (.im nl k f n)] => [.rows k (fun _ => ⟨nl, f, n⟩) 1]
  | [.rows k r n], [.one (.im nl k' f m)] => match kEq k k' with | true => [.rows k (putR r n (fun _ => ⟨nl, f, m⟩)) (n + 1)] | false => [.rows k r n, .one (.im nl k' f m)]
  | [.rows k r n], [.rows k' r' m] => match kEq k k' with | true => [.rows k (putR r n r') (n + m)] | false => [.rows k r n, .rows k' r' m]
  | a, b => a ++ b
/-- append's first argument, of one-cell values. -/
def St.appDstO (s : St) (nl ex z : Bool) (t o f n : Nat) (e : TypeId) : Option (Cd × List Seg × List (Nat × SB)) :=
  match o, f, s.hp t with
  | 0, 0, some (q', .own e' l _) => match Nat.beq e e' with | true => some (.and (appC nl ex z n n q') (.p (n = segsLen l)), l, [(t, .dead)]) | false => none
  | _, _, none => match nl with
    | true => some (.tt, [], [])
    | _ => none
  | _, _, _ => none
/-- .. its second argument: its stretches. -/
def St.srcO (s : St) : SC → Option (Cd × List Seg × Nat)
  | .rows _ k r n => some (.tt, [.rows k r n], n)
  | .sl nl _ _ t o f n _ =>
    match o, f, s.hp t with
    | 0, 0, some (q, .own _ l _) => some (.and (.p (0 < n → q.holds)) (.p (n = segsLen l)), l, n)
    | _, _, none => match nl with
      | true => some (.tt, [], n)
      | _ => none
    | _, _, _ => none
  | _ => none

/-- What a called function does with its arguments, the blocks and the next new tag. -/
abbrev Summary := List SA → St → Option Res

def isRow : TyD → Bool
  | .array _ _ => true
  | .struct _ => true
  | _ => false

def actBin (T : TypeId → Option TyI) (s : St) (bop : BinOp) (xt : TypeId) (x y : Operand) : Option Res :=
  match s.ev1 x, s.ev1 y with
  | some (p, .sc (.int k a)), some (q, .sc (.int k' b)) => match isShift bop || kEq k k', binI bop k a b with | true, (c, v) => s.one (.and p (.and q c)) (sc v) | false, _ => none
  | some (p, .sc (.str a)), some (q, .sc (.str b)) =>
    match bop with
    | .eql => s.one (.and p q) (sc (.bool (a.toList == b.toList)))
    | .neq => s.one (.and p q) (sc (.bool (!(a.toList == b.toList))))
    | .add => s.one (.and p (.and q (.p (a.size + b.size ≤ 9223372036854775807)))) (sc (.str (a ++ b)))
    | _ => none
  | some (p, .sc (.bool a)), some (q, .sc (.bool b)) => match bop, T xt with | .eql, some ⟨.bool, _, _⟩ => s.one (.and p q) (sc (.bool (a == b))) | .neq, some ⟨.bool, _, _⟩ => s.one (.and p q) (sc (.bool (!(a == b)))) | _, _ => none
  | some (p, .sc .nilp), some (q, .sc .nilp) => match bop, T xt with | .eql, some ⟨.ptr, _, _⟩ => s.one (.and p q) (sc (.bool true)) | .neq, some ⟨.ptr, _, _⟩ => s.one (.and p q) (sc (.bool false)) | _, _ => none
  | some (p, .sc (.ptr _ _ _)), some (q, .sc .nilp) => match bop, T xt with | .eql, some ⟨.ptr, _, _⟩ => s.one (.and p q) (sc (.bool false)) | .neq, some ⟨.ptr, _, _⟩ => s.one (.and p q) (sc (.bool true)) | _, _ => none
  | some (p, .sc v), some (q, .sc (.sl true _ _ _ _ _ _ _)) => match bop, T xt, isNl v with | .eql, some ⟨.slice _ _ _, _, _⟩, some nl => s.one (.and p q) (sc (.bool nl)) | .neq, some ⟨.slice _ _ _, _, _⟩, some nl => s.one (.and p q) (sc (.bool (!nl))) | _, _, _ => none
  | some (p, .agg [.ints k f n]), some (q, .agg [.ints k' g n']) =>
    match T xt with
    | some ⟨.array m _, _, [.ints k'' _ _]⟩ =>
      match kEq k k' && (kEq k k'' && (Nat.beq n n' && Nat.beq n m)) with
      | true =>
        match bop with
        | .eql => s.one (.and p q) (sc (.bool (eqI n f g)))
        | .neq => s.one (.and p q) (sc (.bool (!(eqI n f g))))
        | _ => none
      | false => none
    | _ => none
  | _, _ => none

def actLoad (T : TypeId → Option TyI) (s : St) (ty : TypeId) (x : Operand) : Option Res :=
  match T ty, s.ev1 x with
  | some ti, some (p, .sc (.adr c)) => match isRow ti.d with | true => none | false => s.one p (sc c)
  | some ti, some (p, .sc (.ptr t o i)) =>
    match s.hp t with
    | some (q, .own _ l _) =>
      match isRow ti.d with
      | true =>
        match i, (segDrop l o).bind fun r => segTake r ti.size with
        | 0, some r => s.one (.and p q) (.sa (.agg r))
        | _, _ => none
      | false =>
        match segDrop l o with
        | some (.ints k f n :: _) => s.one (.and p (.and q (.p (i < n)))) (sc (.int k (f i)))
        | some (.rows k r n :: _) => s.one (.and p (.and q (.p (i < n)))) (sc (.im (r i).nl k (r i).f (r i).n))
        | some (.one v :: r) =>
          match i with
          | 0 => s.one (.and p q) (sc v)
          | j + 1 => match segDrop r j with
            | some (.one v :: _) => s.one (.and p q) (sc v)
            | _ => none
        | _ => none
    | some (q, .ro k f n) =>
      match ti.d with
      | .int _ => s.one (.and p (.and q (.p (o + i < n)))) (sc (.int k (f (o + i))))
      | _ => none
    | _ => none
  | _, _ => none

def actStore (T : TypeId → Option TyI) (s : St) (ty : TypeId) (x y : Operand) : Option Res :=
  match T ty, s.ev1 x, s.ev1 y with
  | some ti, some (p, .sc (.ptr t o i)), some (q, v) =>
    match s.hp t with
    | some (g, .own bt l m) =>
      match v with
      | .agg new =>
        match i, segSplice l o ti.size new with
        | 0, some l' => match Nat.beq (segsLen new) ti.size with | true => s.wr (.and p (.and q g)) none [(t, .own bt l' m)] | false => none
        | _, _ => none
      | .sc c =>
        match Nat.beq ti.size 1 with
        | true =>
          match segDrop l o with
          | some (.ints k f n :: _) =>
            match c with
            | .int k' z => match kEq k k' with | true => (segPut l o (.ints k (upd f i z) n)).bind fun l' => s.wr (.and p (.and q (.and g (.p (i < n))))) none [(t, .own bt l' m)] | false => none
            | _ => none
          | some (.one _ :: _) =>
            match i with
            | 0 => (segSplice l o 1 [.one c]).bind fun l' => s.wr (.and p (.and q g)) none [(t, .own bt l' m)]
            | _ => none
          | _ => none
        | false => none
    | _ => none
  | _, _, _ => none

def actSlice (T : TypeId → Option TyI) (s : St) (t : TypeId) (x : Operand) (lo hi mx : Option Operand) : Option Res :=
  match mx with
  | some y =>
    match T t, s.ev1 x, lo, s.evHi hi, s.evI y with
    | some ⟨.slice _ _ _, _, _⟩, some (p, .sc v), none, some (r, some b), some (r', m) =>
      match isNl v with
      | some nl => s.one (.and p (.and r (.and r' (.p (b = 0 ∧ m = 0))))) (sc (.sl nl false true 999999 0 0 0 0))
      | none => none
    | _, _, _, _, _ => none
  | none =>
    match T t, s.ev1 x, s.evLo lo, s.evHi hi with
    | some ⟨.slice _ _ _, _, _⟩, some (p, .sc (.sl nl ex _ t o f n c)), some (q, a), some (r, h) =>
      match h with
      | none => s.one (.and p (.and q (.and r (.p (0 ≤ a ∧ a ≤ (n : Int)))))) (sc (.sl nl (ex && (a == 0)) false t o (f + a.toNat) (n - a.toNat) (c - a.toNat)))
      | some b => s.one (.and p (.and q (.and r (.p (0 ≤ a ∧ a ≤ b ∧ b ≤ (c : Int) ∧ (b ≤ (n : Int) ∨ ex = true)))))) (sc (.sl nl (ex && (a == 0)) false t o (f + a.toNat) (b.toNat - a.toNat) (c - a.toNat)))
    | some ⟨.slice _ _ _, _, _⟩, some (p, .sc (.im nl k f n)), some (q, a), some (r, h) =>
      match h with
      | none => s.one (.and p (.and q (.and r (.p (0 ≤ a ∧ a ≤ (n : Int)))))) (sc (.im nl k (fun j => f (a.toNat + j)) (n - a.toNat)))
      | some b => s.one (.and p (.and q (.and r (.p (0 ≤ a ∧ a ≤ b ∧ b ≤ (n : Int)))))) (sc (.im nl k (fun j => f (a.toNat + j)) (b.toNat - a.toNat)))
    | some ⟨.array n _, _, _⟩, some (p, .sc (.ptr t 0 0)), some (q, a), some (r, h) =>
      match getA s.heap t with
      | some (.own _ l false) =>
        match Nat.beq (segsLen l) n && Nat.ble n 65536 with
        | true =>
          match h with
          | none => s.one (.and p (.and q (.and r (.p (0 ≤ a ∧ a ≤ (n : Int)))))) (sc (.sl false (a == 0) false t 0 a.toNat (n - a.toNat) (n - a.toNat)))
          | some b => s.one (.and p (.and q (.and r (.p (0 ≤ a ∧ a ≤ b ∧ b ≤ (n : Int)))))) (sc (.sl false (a == 0) false t 0 a.toNat (b.toNat - a.toNat) (n - a.toNat)))
        | false => none
      | _ => none
    | some ⟨.str, _, _⟩, some (p, .sc (.str b)), some (q, a), some (r, h) =>
      match h with
      | none => s.one (.and p (.and q (.and r (.p (0 ≤ a ∧ a ≤ (b.size : Int)))))) (sc (.str (b.extract a.toNat b.size)))
      | some e => s.one (.and p (.and q (.and r (.p (0 ≤ a ∧ a ≤ e ∧ e ≤ (b.size : Int)))))) (sc (.str (b.extract a.toNat e.toNat)))
    | _, _, _, _ => none

def actAppend (T : TypeId → Option TyI) (s : St) (x y : Operand) (tx ty : TypeId) : Option Res :=
  match T tx, T ty, s.ev1 x, s.ev1 y with
  | some ⟨.slice e b (.ints k _ _), _, _⟩, some tyi, some (p, .sc (.sl nl ex z t o f n _)), some (q, src) =>
    match s.appDst nl ex z t o f n e k, s.appSrc k tyi src with
    | some (p', g, dl), some (q', h, m) =>
      s.newS (.and p (.and q (.and p' (.and q' (.p (n + m ≤ 9223372036854775807 ∧ (n + m) * b ≤ 140737488355328)))))) (nl && Nat.beq m 0) ex z (n + m) (n + m)
        (.gd (appG nl ex n m) (.own e [.ints k (put_ g n m h) (n + m)] true)) dl
    | _, _ => none
  | some ⟨.slice e b (.one _), _, _⟩, some ⟨.slice _ _ _, _, _⟩, some (p, .sc (.sl nl ex z t o f n _)), some (q, .sc src) =>
    match s.appDstO nl ex z t o f n e, s.srcO src with
    | some (p', l, dl), some (q', l', m) =>
      s.newS (.and p (.and q (.and p' (.and q' (.p (n + m ≤ 9223372036854775807 ∧ (n + m) * b ≤ 140737488355328)))))) (nl && Nat.beq m 0) ex z (n + m) (n + m)
        (.gd (appG nl ex n m) (.own e (joinS l l') true)) dl
    | _, _ => none
  | _, _, _, _ => none

/-- One operation, without its guard. -/
def act (T : TypeId → Option TyI) (C : FuncId → Option Summary) (s : St) (op : Oper) : Option Res :=
  match op.op with
  | .move x | .assign x => (s.ev x).bind fun v => s.one .tt v
  | .pick c a b =>
    match s.ev1 c, s.ev a, s.ev b with
    | some (p, .sc (.bool cb)), some (.sa (.sc (.bool x))), some (.sa (.sc (.bool y))) => s.one p (sc (.bool (cond cb x y)))
    | some (p, .sc (.bool cb)), some (.gd g (.sc (.bool x))), some (.sa (.sc (.bool y))) => s.one (.and p (.p (cb = true → g = true))) (sc (.bool (cond cb x y)))
    | some (p, .sc (.bool cb)), some (.sa (.sc (.bool x))), some (.gd g (.sc (.bool y))) => s.one (.and p (.p (cb = false → g = true))) (sc (.bool (cond cb x y)))
    | _, _, _ => none
  | .binOp bop xt x y _ => actBin T s bop xt x y
  | .unOp u _ x =>
    match u, s.ev1 x with
    | .not, some (p, .sc (.bool b)) => s.one p (sc (.bool (!b)))
    | .neg, some (p, .sc (.int k n)) => s.one p (sc (.int k (k.wrap (0 - n))))
    | .xor, some (p, .sc (.int k n)) => s.one p (sc (.int k (bits .xor k (if k.signed then -1 else k.max) n)))
    | _, _ => none
  | .convert src dst x =>
    match T dst, s.ev1 x with
    | some ⟨.int k, _, _⟩, some (p, .sc (.int _ n)) => match T src with | some _ => s.one p (sc (.int k (k.wrap n))) | none => none
    | some ⟨.str, _, _⟩, some (p, .sc v) => match T src with
      | some ⟨.slice _ _ (.ints .u8 _ _), _, _⟩ => (match s.src .u8 v with
        | some (q, g, n) => s.one (.and p q) (sc (.str (strI g n)))
        | none => none)
      | _ => none
    | some ⟨.slice _ 1 (.ints .u8 _ _), _, _⟩, some (p, .sc (.str b)) =>
      match T src with
      | some ⟨.str, _, _⟩ => s.newS (.and p (.p (b.size ≤ 9223372036854775807))) false true false b.size b.size (.ro .u8 (bytesI b) b.size) []
      | _ => none
    | some ⟨.slice _ 1 (.ints .u8 _ _), _, _⟩, some (p, .sc (.sl false true z t 0 0 n c)) =>
      match Nat.beq src dst, s.hp t with
      | true, some (q, .own _ [.ints .u8 g m] false) => s.wr (.and p q) (some (sc (.sl false true z t 0 0 n c))) [(t, .ro .u8 g m)]
      | _, _ => none
    | _, _ => none
  | .alloc t =>
    match T t with
    | some ⟨_, _, z⟩ => s.newP .tt (.own t z false)
    | none => none
  | .box t x =>
    match s.ev1 x with
    | some (p, .sc v) => s.newP p (.own t [.one v] false)
    | some (p, .agg l) => s.newP p (.own t l false)
    | _ => none
  | .build t parts =>
    match T t, evAll s parts.toList with
    | some ⟨.array n _, _, [.ints k _ _]⟩, some (p, l) => (partsI k l 0 []).bind fun xs => match Nat.ble xs.length n with | true => s.one p (.sa (.agg [.ints k (listI xs) n])) | false => none
    | some ⟨.struct fs, _, z⟩, some (p, l) => (partsS fs l z).bind fun r => s.one p (.sa (.agg r))
    | _, _ => none
  | .buildSlice t len parts =>
    match T t, evAll s parts.toList with
    | some ⟨.slice e _ (.ints k _ _), _, _⟩, some (p, l) =>
      (partsI k l 0 []).bind fun xs => match Nat.ble xs.length len && Nat.ble len 16777216 with | true => s.newS p false true true len len (.own e [.ints k (listI xs) len] false) [] | false => none
    | some ⟨.slice e _ (.one _), _, _⟩, some (p, l) =>
      match Nat.beq l.length len && Nat.ble len 16777216 with
      | true =>
        (partsO l 0).bind fun xs => s.newS p false true true len len (.own e xs false) []
      | false => none
    | _, _ => none
  | .makeSlice t x y =>
    match T t, s.ev1 x, s.ev1 y with
    | some ⟨.slice e b (.ints k _ _), _, _⟩, some (p, .sc (.int .i64 n)), some (q, .sc (.int .i64 c)) =>
      match Nat.ble 1 b with
      | true => s.newS (.and p (.and q (.p (0 ≤ n ∧ n ≤ c ∧ (b : Int) * c ≤ 140737488355328)))) false true false n.toNat c.toNat (.own e [.ints k (fun _ => 0) c.toNat] false) []
      | false => none
    | _, _, _ => none
  | .nilCheck x =>
    match s.ev1 x with
    | some (p, .sc (.ptr t o i)) => s.one p (sc (.ptr t o i))
    | some (p, .sc (.adr c)) => s.one p (sc (.adr c))
    | _ => none
  | .fieldAddr t x f =>
    match T t, s.ev1 x with
    | some ⟨.struct fs, _, _⟩, some (p, .sc (.ptr t o 0)) =>
      match fs[f]? with
      | some (off, _) => s.one p (sc (.ptr t (o + off) 0))
      | none => none
    | _, _ => none
  | .indexAddr t x i =>
    match T t, s.ev1 x, s.ev1 i with
    | some ⟨.slice _ _ _, _, _⟩, some (p, .sc (.sl _ _ _ t o f n _)), some (q, .sc (.int _ i)) => s.one (.and p (.and q (.p (0 ≤ i ∧ i < (n : Int))))) (sc (.ptr t o (f + i.toNat)))
    | some ⟨.slice _ _ _, _, _⟩, some (p, .sc (.im _ k f n)), some (q, .sc (.int _ i)) => s.one (.and p (.and q (.p (0 ≤ i ∧ i < (n : Int))))) (sc (.adr (.int k (f i.toNat))))
    | some ⟨.slice _ _ _, _, _⟩, some (p, .sc (.rows _ k r n)), some (q, .sc (.int _ i)) => s.one (.and p (.and q (.p (0 ≤ i ∧ i < (n : Int))))) (sc (.adr (.im (r i.toNat).nl k (r i.toNat).f (r i.toNat).n)))
    | some ⟨.array n _, _, _⟩, some (p, .sc (.ptr t o 0)), some (q, .sc (.int _ i)) => s.one (.and p (.and q (.p (0 ≤ i ∧ i < (n : Int))))) (sc (.ptr t o i.toNat))
    | _, _, _ => none
  | .index t x i =>
    match T t, s.ev1 x, s.ev1 i with
    | some ⟨.array m _, _, [.ints _ _ _]⟩, some (p, .agg [.ints k f n]), some (q, .sc (.int _ i)) => match Nat.beq n m with | true => s.one (.and p (.and q (.p (0 ≤ i ∧ i < (n : Int))))) (sc (.int k (f i.toNat))) | false => none
    | some ⟨.str, _, _⟩, some (p, .sc (.str b)), some (q, .sc (.int _ i)) => s.one (.and p (.and q (.p (0 ≤ i ∧ i < (b.size : Int))))) (sc (.int .u8 (bytesI b i.toNat)))
    | _, _, _ => none
  | .load ty x => actLoad T s ty x
  | .store ty x y => actStore T s ty x y
  | .slice t x lo hi mx => actSlice T s t x lo hi mx
  | .extract x i =>
    match s.ev x with
    | some (.tup l) => (l[i]?).bind fun v => s.one .tt (.sa v)
    | _ => none
  | .makeFunc fn x1 x2 =>
    match fn, x1.toList, x2.toList with
    | .func f, [], [x] =>
      match s.ev1 x with
      | some (p, .sc (.ptr t 0 0)) => s.one p (sc (.fn f t))
      | _ => none
    | _, _, _ => none
  | .call c =>
    match c.callee with
    | .builtin .len =>
      match c.args.toList, c.argTypes.toList with
      | [x], [t] =>
        match T t, s.ev1 x with
        | some ⟨.slice _ _ _, _, _⟩, some (p, .sc (.sl _ _ _ _ _ _ n _)) => s.one p (sc (.int .i64 n))
        | some ⟨.slice _ _ _, _, _⟩, some (p, .sc (.im _ _ _ n)) => s.one p (sc (.int .i64 n))
        | some ⟨.slice _ _ _, _, _⟩, some (p, .sc (.rows _ _ _ n)) => s.one p (sc (.int .i64 n))
        | some ⟨.str, _, _⟩, some (p, .sc (.str b)) => s.one p (sc (.int .i64 b.size))
        | _, _ => none
      | _, _ => none
    | .builtin .min =>
      match c.args.toList with
      | [x, y] =>
        match s.ev1 x, s.ev1 y with
        | some (p, .sc (.int k a)), some (q, .sc (.int _ b)) => s.one (.and p q) (sc (.int k (if b < a then b else a)))
        | _, _ => none
      | _ => none
    | .builtin .max =>
      match c.args.toList with
      | [x, y] =>
        match s.ev1 x, s.ev1 y with
        | some (p, .sc (.int k a)), some (q, .sc (.int _ b)) => s.one (.and p q) (sc (.int k (if b > a then b else a)))
        | _, _ => none
      | _ => none
    | .builtin .append =>
      match c.args.toList, c.argTypes.toList with
      | [x, y], [tx, ty] => actAppend T s x y tx ty
      | _, _ => none
    | .builtin .copy =>
      match c.args.toList, c.argTypes.toList with
      | [x, y], [tx, ty] =>
        match T tx, T ty, s.ev1 x, s.ev1 y with
        | some ⟨.slice _ _ _, _, _⟩, some ⟨.slice _ _ _, _, _⟩, some (p, .sc (.sl false _ _ t o f n _)), some (q, .sc src) =>
          match s.hp t with
          | some (u, .own bt l m) =>
            match segDrop l o with
            | some (.ints k g z :: _) =>
              match s.src k src with
              | some (r, h, n') =>
                (segSplice l o z [.ints k (put_ g f (min n' n) h) z]).bind fun l' =>
                  s.wr (.and p (.and q (.and u (.and r (.p (f + n ≤ z)))))) (some (sc (.int .i64 (min n' n : Nat)))) [(t, .own bt l' m)]
              | none => none
            | _ => none
          | _ => none
        | _, _, _, _ => none
      | _, _ => none
    | .value (.func f) =>
      match C f, evArgs s c.args.toList with
      | some S, some (p, l) => match S l s with
        | some ⟨rp, rv, rd, rn⟩ => some ⟨.and p rp, rv, rd, rn⟩
        | none => none
      | _, _ => none
    | .value x =>
      match s.ev1 x with
      | some (p, .sc (.fn f t)) =>
        match C f, evArgs s c.args.toList with
        | some S, some (q, l) => match S (l ++ [.sc (.ptr t 0 0)]) s with
          | some ⟨rp, rv, rd, rn⟩ => some ⟨.and p (.and q rp), rv, rd, rn⟩
          | none => none
        | _, _ => none
      | _ => none
    | _ => none
  | _ => none

def St.put (s : St) (d : Option Nat) (v : Option SV) : Option St :=
  match d, v with
  | none, _ => some s
  | some i, some v => match Nat.ble (i + 1) s.size with
    | true => match s with | ⟨sz, fr, hp, nx⟩ => some ⟨sz, (i, v) :: fr, hp, nx⟩
    | false => none
  | some _, none => none
/-- The Bool by which a guarded operation is carried out. -/
def St.guard (s : St) (ops : List Oper) (g : Nat × Bool) : Option Bool :=
  match (ops[g.1]?).bind (·.dst) with
  | none => none
  | some d =>
    match getA s.frame d with
    | some (.sa (.sc (.bool b))) => match g.2 with | true => some b | false => some (!b)
    | some (.gd h (.sc (.bool b))) => match g.2 with | true => some (h && b) | false => some (h && !b)
    | _ => none
def newOnly (hp : List (Nat × SB)) (n m : Nat) : List (Nat × SB) → Bool
  | [] => true
  | (t, b) :: r => (match Nat.ble n t && Nat.ble (t + 1) m with
    | true => true
    | false => match b, getA hp t with
      | .dead, some _ => true
      | _, _ => false) && newOnly hp n m r
def gdAll (g : Bool) : List (Nat × SB) → List (Nat × SB)
  | [] => []
  | (t, b) :: r => (t, .gd g b) :: gdAll g r

/-- A value that is there if b. -/
def gdR (b : Bool) : Option SV → Option SV
  | some (.sa v) => some (.gd b v)
  | some (.gd h v) => some (.gd (b && h) v)
  | _ => none
/-- One operation: its condition, the state behind it. -/
def St.step (T : TypeId → Option TyI) (C : FuncId → Option Summary) (ops : List Oper) (s : St) (op : Oper) : Option (Cd × St) :=
  match op.guard with
  | none =>
    match act T C s op with
    | some ⟨rp, rv, rd, rn⟩ =>
      match Nat.ble s.next rn with
      | true => match s.put op.dst rv with
        | some ⟨sz, fr, hp, _⟩ => catK rd hp fun hp' => some (rp, ⟨sz, fr, hp', rn⟩)
        | none => none
      | false => none
    | none => none
  | some g =>
    match s.guard ops g, act T C s op with
    | some b, some ⟨rp, rv, rd, rn⟩ =>
      match gdR b rv with
      | some v =>
        match newOnly s.heap s.next rn rd && (Nat.ble s.next rn && Nat.ble rn (s.next + 16)) with
        | true => match s.put op.dst (some v) with
          | some ⟨sz, fr, hp, _⟩ => catK (gdAll b rd) hp fun hp' => some (.imp b rp, ⟨sz, fr, hp', rn⟩)
          | none => none
        | false =>
          match Nat.ble s.next rn with
          | true => match s.put op.dst rv with
            | some ⟨sz, fr, hp, _⟩ => catK rd hp fun hp' => some (.and (.p (b = true)) rp, ⟨sz, fr, hp', rn⟩)
            | none => none
          | false => none
      | none => none
    | _, _ => none

/-- A list of operations, one behind the other. -/
def St.steps (T : TypeId → Option TyI) (C : FuncId → Option Summary) (ops : List Oper) : List Oper → St → (St → Prop) → Prop
  | [], s, K => K s
  | o :: r, s, K =>
    match s.step T C ops o with
    | some (p, s') => p.then (St.steps T C ops r s' K)
    | none => False

end Go.Sx
