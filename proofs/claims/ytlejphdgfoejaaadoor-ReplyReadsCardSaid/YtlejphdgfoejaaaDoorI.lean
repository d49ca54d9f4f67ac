/- THE ABSTRACT MACHINE: values without addresses, objects by number, code as a function of what comes behind it. Definitions alone, over any program. -/
import Derived.Test.YtlejphdgfoejaaaDoorU
namespace Go.Dor

/-! ### types of data -/
inductive T where
  | int (k : IntKind) | bool | str | flt (k : FloatKind) | unit | pair (a b : T) | arr (n : Nat) (e : T) | sl (e : T)
  deriving DecidableEq

@[reducible] def den : T → Type
  | .int _ => Int
  | .bool => Bool
  | .str => List UInt8
  | .flt _ => Nat
  | .unit => Unit
  | .pair a b => den a × den b
  | .arr n e => Vector (den e) n
  | .sl e => List (den e)

def wid : T → Nat
  | .unit => 0
  | .pair a b => wid a + wid b
  | .arr n e => n * wid e
  | _ => 1

def dflt : (t : T) → den t
  | .int _ => (0 : Int)
  | .bool => false
  | .str => ([] : List UInt8)
  | .flt _ => (0 : Nat)
  | .unit => ()
  | .pair a b => (dflt a, dflt b)
  | .arr n e => Vector.replicate n (dflt e)
  | .sl _ => []

/-- is there no slice in it? -/
def flat : T → Bool
  | .pair a b => flat a && flat b
  | .arr _ e => flat e
  | .sl _ => false
  | _ => true

/-! ### values -/
inductive L where
  | i (k : IntKind) (n : Int)
  | b (x : Bool)
  | s (l : List UInt8)
  | f (k : FloatKind) (n : Nat)
  | arr (t : T) (n : Nat) (x : Vector (den t) n)
  | ro (t : T) (xs : List (den t))
  | nil
  | own (id : Nat)
  | ptr (id off : Nat)
  | np
  | fn (f : Nat) (ids : List Nat)
  | nf
  | sub (id off n : Nat) (lo hi : Int)

inductive V where
  | one (x : L)
  | ag (ls : List L)
  | tup (vs : List (L ⊕ List L))
  | epR (t : T) (x : den t) (off : Nat)
  | epO (id z : Nat) (i : Int) (off : Nat)
  | epB (id off n z : Nat) (i : Int) (k : Nat)
  | toA (t : T) (n : Nat) (xs : List (den t))
  | sk
  | u

inductive Ob where
  | blk (ty : TypeId) (ls : List L)
  | arr (ty : TypeId) (t : T) (xs : List (den t))
  | fix (ty : TypeId) (t : T) (xs : List (den t))
  | rd (ty : TypeId) (ls : List L)
  | gone

def rdLs : Option Ob → Option (TypeId × List L)
  | some (.blk ty ls) => some (ty, ls)
  | some (.rd ty ls) => some (ty, ls)
  | _ => none

def widL : L → Nat
  | .arr t n _ => n * wid t
  | _ => 1
def widLs : List L → Nat
  | [] => 0
  | x :: l => widL x + widLs l

def enc : (t : T) → den t → List L
  | .int k, n => [.i k n]
  | .bool, x => [.b x]
  | .str, l => [.s l]
  | .flt k, n => [.f k n]
  | .unit, _ => []
  | .pair a b, x => enc a x.1 ++ enc b x.2
  | .arr n e, x => [.arr e n x]
  | .sl e, xs => [.ro e xs]

def castL (t u : T) (xs : List (den t)) : Option (List (den u)) := if h : t = u then some (h ▸ xs) else none
def castV (t u : T) (n m : Nat) (x : Vector (den t) n) : Option (Vector (den u) m) := if h : t = u ∧ n = m then some (h.1 ▸ h.2 ▸ x) else none

abbrev Hm := List Ob
abbrev Ev := List (Nat × V)

def getE : Ev → Nat → V
  | [], _ => .u
  | (d, v) :: e, t => bif Nat.beq d t then v else getE e t
def putE (e : Ev) : Option Nat → V → Ev
  | some d, v => (d, v) :: e
  | none, _ => e

def skipL : List L → Nat → Option (List L × List L)
  | [], n => bif Nat.beq n 0 then some ([], []) else none
  | x :: l, n => bif Nat.beq n 0 then some ([], x :: l) else
    bif Nat.ble (widL x) n then
      (match skipL l (n - widL x) with
      | some (a, b) => some (x :: a, b)
      | none => none)
    else none

/-- what a part of an array in a variable holds -/
def subD (e : T) (ls : List L) (off n : Nat) (lo hi : Int) : Option (List (den e)) :=
  match skipL ls off with
  | some (_, .arr u n' x :: _) => bif Nat.beq n n' && Nat.beq (wid u) 1 then castL u e (sub_ x.toList lo hi) else none
  | _ => none

/-- one leaf of data; the numbers of the slices of the call's own that are read as they stand -/
def decL : (t : T) → List L → Hm → Option (den t × List L × List Nat)
  | .int k, .i k' n :: l, _ => if k = k' then some (n, l, []) else none
  | .bool, .b x :: l, _ => some (x, l, [])
  | .str, .s x :: l, _ => some (x, l, [])
  | .flt k, .f k' n :: l, _ => if k = k' then some (n, l, []) else none
  | .unit, l, _ => some ((), l, [])
  | .pair a b, l, h =>
    match decL a l h with
    | some (x, l, f) =>
      match decL b l h with
      | some (y, l, g) => some ((x, y), l, f ++ g)
      | none => none
    | none => none
  | .arr n e, .arr t m x :: l, _ =>
    match castV t e m n x with
    | some y => some (y, l, [])
    | none => none
  | .sl e, .ro t xs :: l, _ =>
    match castL t e xs with
    | some ys => some (ys, l, [])
    | none => none
  | .sl _, .nil :: l, _ => some ([], l, [])
  | .sl e, .own id :: l, h =>
    match h[id]? with
    | some (.arr _ t xs) =>
      match castL t e xs with
      | some ys => some (ys, l, [id])
      | none => none
    | _ => none
  | .sl e, .sub id off n lo hi :: l, h =>
    match h[id]? with
    | some (.blk _ ls) => (match subD e ls off n lo hi with | some ys => some (ys, l, [id]) | none => none)
    | some (.rd _ ls) => (match subD e ls off n lo hi with | some ys => some (ys, l, []) | none => none)
    | _ => none
  | _, _, _ => none

def freeze (h : Hm) : List Nat → Hm
  | [] => h
  | i :: l => freeze (h.set i .gone) l


/-- the leaves between, and what stands ahead and behind -/
def cutL (ls : List L) (off n : Nat) : Option (List L × List L × List L) :=
  match skipL ls off with
  | some (pre, l) =>
    match skipL l n with
    | some (mid, post) => some (pre, mid, post)
    | none => none
  | none => none

/-! ### types of a program -/
def mkT : List T → T
  | [] => .unit
  | [a] => a
  | a :: b :: l => .pair a (mkT (b :: l))

def codeT (P : Program) : Nat → TypeId → Option T
  | 0, _ => none
  | n + 1, t =>
    match P.underlying t with
    | some (.int k) => some (.int k)
    | some .bool => some .bool
    | some .string => some .str
    | some (.float k) => some (.flt k)
    | some (.array m e) => (match codeT P n e with | some c => some (.arr m c) | none => none)
    | some (.slice e) => (match codeT P n e with | some c => some (.sl c) | none => none)
    | some (.struct fs) => (match fs.toList.foldr (fun f acc => match codeT P n f.type, acc with | some a, some l => some (a :: l) | _, _ => none) (some []) with | some l => some (mkT l) | none => none)
    | _ => none
abbrev depth : Nat := 12

/-- the zero value's leaves; slices are objects of their own from number o on -/
def zeroL (P : Program) : Nat → TypeId → Nat → Option (List L × Hm)
  | 0, _, _ => none
  | n + 1, t, o =>
    match P.underlying t with
    | some (.int k) => some ([.i k 0], [])
    | some .bool => some ([.b false], [])
    | some .string => some ([.s []], [])
    | some (.float k) => some ([.f k 0], [])
    | some (.array m e) => (match codeT P n e with | some c => (bif flat c then some ([.arr c m (Vector.replicate m (dflt c))], []) else none) | none => none)
    | some (.slice e) => (match codeT P n e with | some c => some ([.own o], [.arr e c []]) | none => none)
    | some (.pointer _) => some ([.np], [])
    | some (.func ..) => some ([.nf], [])
    | some (.struct fs) => fs.toList.foldl (fun acc f => match acc with
        | some (ls, h) => (match zeroL P n f.type (o + h.length) with | some (ls', h') => some (ls ++ ls', h ++ h') | none => none)
        | none => none) (some ([], []))
    | _ => none

/-! ### descriptions: the shape of a state, its data left open -/
inductive Ld where
  | im (t : T) | own (i : Nat) | ptr (i off : Nat) | np | nil | fn (f : Nat) (is : List Nat) | nf | lb (b : Bool)
inductive Vd where
  | one (x : Ld) | ag (ls : List Ld) | st (t : T)
inductive Od where
  | blk (ty : TypeId) (ls : List Ld) | blkT (ty : TypeId) (t : T) | arr (ty : TypeId) (t : T) | fix (ty : TypeId) (t : T) | rd (ty : TypeId) (ls : List Ld) | rdT (ty : TypeId) (t : T) | gone

structure Ds where
  vals : List Vd
  objs : List Od

def Ld.ts : Ld → List T
  | .im t => [t]
  | _ => []
def Lds.ts : List Ld → List T
  | [] => []
  | x :: l => x.ts ++ Lds.ts l
def Vd.ts : Vd → List T
  | .one x => x.ts
  | .ag ls => Lds.ts ls
  | .st t => [t]
def Vds.ts : List Vd → List T
  | [] => []
  | x :: l => x.ts ++ Vds.ts l
def Od.ts : Od → List T
  | .blk _ ls => Lds.ts ls
  | .blkT _ t => [t]
  | .arr _ t => [.sl t]
  | .fix _ t => [.sl t]
  | .rd _ ls => Lds.ts ls
  | .rdT _ t => [t]
  | .gone => []
def Ods.ts : List Od → List T
  | [] => []
  | x :: l => x.ts ++ Ods.ts l
def Ds.ts (d : Ds) : List T := Vds.ts d.vals ++ Ods.ts d.objs

/-- data of so many types -/
@[reducible] def HL : List T → Type
  | [] => Unit
  | [t] => den t
  | t :: u :: l => den t × HL (u :: l)

abbrev Dt := (t : T) × den t

def toL : (ts : List T) → HL ts → List Dt
  | [], _ => []
  | [t], x => [⟨t, x⟩]
  | t :: u :: l, x => ⟨t, x.1⟩ :: toL (u :: l) x.2

def castD (t : T) (d : Dt) : Option (den t) := if h : d.1 = t then some (h ▸ d.2) else none

def ofL : (ts : List T) → List Dt → Option (HL ts)
  | [], [] => some ()
  | [t], [d] => castD t d
  | t :: u :: l, d :: ds =>
    match castD t d with
    | some x => (match ofL (u :: l) ds with | some y => some (x, y) | none => none)
    | none => none
  | _, _ => none

/-! #### given -/
def giveL : Dt → L
  | ⟨.int k, n⟩ => .i k n
  | ⟨.bool, x⟩ => .b x
  | ⟨.str, x⟩ => .s x
  | ⟨.flt k, n⟩ => .f k n
  | ⟨.arr n e, x⟩ => .arr e n x
  | ⟨.sl e, xs⟩ => .ro e xs
  | _ => .nf

def giveLd (f : Nat → Nat) : Ld → List Dt → L × List Dt
  | .im _, d :: l => (giveL d, l)
  | .im _, [] => (.nf, [])
  | .own i, l => (.own (f i), l)
  | .ptr i off, l => (.ptr (f i) off, l)
  | .np, l => (.np, l)
  | .nil, l => (.nil, l)
  | .fn g is, l => (.fn g (is.map f), l)
  | .nf, l => (.nf, l)
  | .lb b, l => (.b b, l)
def giveLds (f : Nat → Nat) : List Ld → List Dt → List L × List Dt
  | [], l => ([], l)
  | x :: xs, l =>
    match giveLd f x l with
    | (y, l) => match giveLds f xs l with | (ys, l) => (y :: ys, l)
def giveVd (f : Nat → Nat) : Vd → List Dt → V × List Dt
  | .one x, l => (match giveLd f x l with | (y, l) => (.one y, l))
  | .ag ls, l => (match giveLds f ls l with | (ys, l) => (.ag ys, l))
  | .st _, d :: l => (.ag (enc d.1 d.2), l)
  | .st _, [] => (.u, [])
def giveVds (f : Nat → Nat) : List Vd → List Dt → List V × List Dt
  | [], l => ([], l)
  | x :: xs, l =>
    match giveVd f x l with
    | (y, l) => match giveVds f xs l with | (ys, l) => (y :: ys, l)
def giveOd (f : Nat → Nat) : Od → List Dt → Ob × List Dt
  | .blk ty ls, l => (match giveLds f ls l with | (ys, l) => (.blk ty ys, l))
  | .blkT ty _, d :: l => (.blk ty (enc d.1 d.2), l)
  | .rd ty ls, l => (match giveLds f ls l with | (ys, l) => (.rd ty ys, l))
  | .rdT ty _, d :: l => (.rd ty (enc d.1 d.2), l)
  | .arr ty _, ⟨.sl e, xs⟩ :: l => (.arr ty e xs, l)
  | .fix ty _, ⟨.sl e, xs⟩ :: l => (.fix ty e xs, l)
  | _, l => (.gone, l)
def giveOds (f : Nat → Nat) : List Od → List Dt → Hm × List Dt
  | [], l => ([], l)
  | x :: xs, l =>
    match giveOd f x l with
    | (y, l) => match giveOds f xs l with | (ys, l) => (y :: ys, l)

/-- data of one leaf -/
def leafT : T → Bool
  | .unit => false
  | .pair .. => false
  | _ => true

/-! #### taken -/
structure Tk where
  r : List (Nat × Nat)     -- described number, number
  fz : List Nat

def findN : List (Nat × Nat) → Nat → Option Nat
  | [], _ => none
  | (a, b) :: l, i => bif Nat.beq a i then some b else findN l i
def usedN : List (Nat × Nat) → Nat → Bool
  | [], _ => false
  | (_, b) :: l, i => bif Nat.beq b i then true else usedN l i
def bindN (k : Tk) (i id : Nat) : Option Tk :=
  match findN k.r i with
  | some id' => bif Nat.beq id' id then some k else none
  | none => bif usedN k.r id then none else some ⟨(i, id) :: k.r, k.fz⟩
def bindNs : Tk → List Nat → List Nat → Option Tk
  | k, [], [] => some k
  | k, i :: is, id :: ids => (match bindN k i id with | some k => bindNs k is ids | none => none)
  | _, _, _ => none

def takeLd (h : Hm) (k : Tk) : Ld → List L → Option (List Dt × List L × Tk)
  | .im t, l =>
    bif leafT t then
      match decL t l h with
      | some (x, l, f) => some ([⟨t, x⟩], l, ⟨k.r, k.fz ++ f⟩)
      | none => none
    else none
  | .own i, .own id :: l => (match bindN k i id with | some k => some ([], l, k) | none => none)
  | .ptr i off, .ptr id off' :: l => bif Nat.beq off off' then (match bindN k i id with | some k => some ([], l, k) | none => none) else none
  | .np, .np :: l => some ([], l, k)
  | .nil, .nil :: l => some ([], l, k)
  | .nf, .nf :: l => some ([], l, k)
  | .fn f is, .fn g ids :: l => bif Nat.beq f g then (match bindNs k is ids with | some k => some ([], l, k) | none => none) else none
  | .lb true, .b true :: l => some ([], l, k)
  | .lb false, .b false :: l => some ([], l, k)
  | _, _ => none
def takeLds (h : Hm) : Tk → List Ld → List L → Option (List Dt × List L × Tk)
  | k, [], l => some ([], l, k)
  | k, x :: xs, l =>
    match takeLd h k x l with
    | some (d, l, k) =>
      match takeLds h k xs l with
      | some (ds, l, k) => some (d ++ ds, l, k)
      | none => none
    | none => none
def takeVd (h : Hm) (k : Tk) : Vd → V → Option (List Dt × Tk)
  | .one x, .one y => (match takeLd h k x [y] with | some (d, [], k) => some (d, k) | _ => none)
  | .ag ls, .ag l => (match takeLds h k ls l with | some (d, [], k) => some (d, k) | _ => none)
  | .st t, .ag l => (match decL t l h with | some (x, [], f) => some ([⟨t, x⟩], ⟨k.r, k.fz ++ f⟩) | _ => none)
  | _, _ => none
def takeVds (h : Hm) : Tk → List Vd → List V → Option (List Dt × Tk)
  | k, [], [] => some ([], k)
  | k, x :: xs, v :: vs =>
    match takeVd h k x v with
    | some (d, k) =>
      match takeVds h k xs vs with
      | some (ds, k) => some (d ++ ds, k)
      | none => none
    | none => none
  | _, _, _ => none
def takeOd (h : Hm) (k : Tk) : Od → Ob → Option (List Dt × Tk)
  | .blk ty ls, .blk ty' l => bif Nat.beq ty ty' then (match takeLds h k ls l with | some (d, [], k) => some (d, k) | _ => none) else none
  | .blkT ty t, .blk ty' l => bif Nat.beq ty ty' then (match decL t l h with | some (x, [], f) => some ([⟨t, x⟩], ⟨k.r, k.fz ++ f⟩) | _ => none) else none
  | .arr ty t, .arr ty' t' xs => bif Nat.beq ty ty' then (match castL t' t xs with | some ys => some ([⟨.sl t, ys⟩], k) | none => none) else none
  | .fix ty t, .fix ty' t' xs => bif Nat.beq ty ty' then (match castL t' t xs with | some ys => some ([⟨.sl t, ys⟩], k) | none => none) else none
  | .rd ty ls, .blk ty' l | .rd ty ls, .rd ty' l => bif Nat.beq ty ty' then (match takeLds h k ls l with | some (d, [], k) => some (d, k) | _ => none) else none
  | .rdT ty t, .blk ty' l | .rdT ty t, .rd ty' l => bif Nat.beq ty ty' then (match decL t l h with | some (x, [], f) => some ([⟨t, x⟩], ⟨k.r, k.fz ++ f⟩) | _ => none) else none
  | .gone, _ => some ([], k)
  | _, _ => none
def takeOds (h : Hm) : Tk → Nat → List Od → Option (List Dt × Tk)
  | k, _, [] => some ([], k)
  | k, i, x :: xs =>
    match findN k.r i with
    | some id =>
      match h[id]? with
      | some o =>
        match takeOd h k x o with
        | some (d, k) =>
          match takeOds h k (i + 1) xs with
          | some (ds, k) => some (d ++ ds, k)
          | none => none
        | none => none
      | none => none
    | none => none
def takeDs (h : Hm) (k : Tk) (d : Ds) (vs : List V) : Option (List Dt × Tk) :=
  match takeVds h k d.vals vs with
  | some (x, k) =>
    match takeOds h k 0 d.objs with
    | some (y, k) => bif k.fz.any (usedN k.r) || !(k.r.all fun p => Nat.blt p.1 d.objs.length) then none else some (x ++ y, k)
    | none => none
  | none => none

/-- n objects that keep their numbers -/
def keepN : Nat → List (Nat × Nat)
  | 0 => []
  | n + 1 => (n, n) :: keepN n

/-! ### what calls come to -/
structure Entry where
  pre : Ds
  post : Ds
  fn : HL pre.ts → Option (HL post.ts)

structure Sd where
  slots : List Nat
  ds : Ds

structure Cx where
  P : Program
  D : List (Nat × Entry)
  jn : List (Nat × Sd) := []      -- ways that meet ahead of a region
  rj : List (Nat × Sd) := []      -- ways that meet behind a region
  lp : List (Nat × Sd) := []      -- the head of a loop whose first region is ..
  dr : List (Nat × List (Nat × Nat) × List (Nat × Bool) × List Nat) := []
  keep : Nat := 0                 -- objects that were lent
  nt : Nat := 0                   -- how many slots there are
  ext : List (Nat × Nat) := []    -- functions without code, by their kind
  oops : Nat → List V → Hm → Option Unit := fun _ _ _ => none     -- the printer's: a call of what is not known

def findA {α : Type} : List (Nat × α) → Nat → Option α
  | [], _ => none
  | (a, b) :: l, i => bif Nat.beq a i then some b else findA l i

section
variable {R : Type}

def givenV (d : Ds) (f : Nat → Nat) (x : HL d.ts) : List V × List Dt := giveVds f d.vals (toL d.ts x)
def givenO (d : Ds) (f : Nat → Nat) (x : HL d.ts) : Hm := (giveOds f d.objs (givenV d f x).2).1
def zipE : List Nat → List V → Ev
  | s :: ss, v :: vs => (s, v) :: zipE ss vs
  | _, _ => []
def getEs (e : Ev) : List Nat → List V
  | [] => []
  | s :: ss => getE e s :: getEs e ss

/-- on with a state of that shape -/
def resume (d : Sd) (K : Ev → Hm → Option R) (x : HL d.ds.ts) : Option R := K (zipE d.slots (givenV d.ds id x).1) (givenO d.ds id x)
/-- a state as one of that shape -/
def arrive (X : Cx) (d : Sd) (J : HL d.ds.ts → Option R) (e : Ev) (h : Hm) : Option R :=
  match takeDs h ⟨keepN X.keep, []⟩ d.ds (getEs e d.slots) with
  | some (l, _) => (match ofL d.ds.ts l with | some x => J x | none => none)
  | none => none

def loopC {α : Type} (body : (α → Option R) → α → Option R) : Nat → α → Option R
  | 0, _ => none
  | k + 1, x => body (loopC body k) x

def joinC {α : Type} (e2 : α → Option R) (f : (α → Option R) → Option R) : Option R := f e2

/-! ### operations -/
def bytesL (s : ByteArray) : List UInt8 := s.data.toList
def constV : Value → V
  | .int k n => .one (.i k n)
  | .bool b => .one (.b b)
  | .string s => .one (.s (bytesL s))
  | .float k n => .one (.f k n)
  | .pointer none => .one .np
  | .slice none 0 0 => .one .nil
  | .nilFunc => .one .nf
  | _ => .u
def opnd (e : Ev) : Operand → V
  | .tmp t => getE e t
  | .const v => constV v
  | .func f => .one (.fn f [])
  | .global _ => .u

def int1 (k : IntKind) (n : Int) : V := .one (.i k n)

def binI (op : BinOp) (k : IntKind) (x y : Int) (K : V → Option R) : Option R :=
  match op with
  | .add => K (int1 k (k.wrap (x + y)))
  | .sub => K (int1 k (k.wrap (x - y)))
  | .mul => K (int1 k (k.wrap (x * y)))
  | .quo => need (y ≠ 0) (K (int1 k (k.wrap (x.tdiv y))))
  | .rem => need (y ≠ 0) (K (int1 k (x.tmod y)))
  | .and => K (int1 k (iand k x y))
  | .or => K (int1 k (ior k x y))
  | .xor => K (int1 k (ixor k x y))
  | .andNot => K (int1 k (iandn k x y))
  | .shl => need (0 ≤ y) (K (int1 k (ishl k x y)))
  | .shr => need (0 ≤ y) (K (int1 k (ishr k x y)))
  | .eql => K (.one (.b (x == y)))
  | .neq => K (.one (.b (x != y)))
  | .lss => K (.one (.b (decide (x < y))))
  | .leq => K (.one (.b (decide (x ≤ y))))
  | .gtr => K (.one (.b (decide (x > y))))
  | .geq => K (.one (.b (decide (x ≥ y))))
def binS (op : BinOp) (x y : List UInt8) (K : V → Option R) : Option R :=
  match op with
  | .add => need (x.length + y.length ≤ 9223372036854775807) (K (.one (.s (x ++ y))))
  | .eql => K (.one (.b (x == y)))
  | .neq => K (.one (.b (!(x == y))))
  | .lss => K (.one (.b (Op.bytesLess x y)))
  | _ => none
def binB (op : BinOp) (x y : Bool) (K : V → Option R) : Option R :=
  match op with
  | .eql => K (.one (.b (x == y)))
  | .neq => K (.one (.b (!(x == y))))
  | _ => none

def eqArr (t : T) (n : Nat) (x y : Vector (den t) n) : Option Bool :=
  match t, x, y with
  | .int _, x, y => some (decide ((x : Vector Int n) = y))
  | .bool, x, y => some (decide ((x : Vector Bool n) = y))
  | .str, x, y => some (decide ((x : Vector (List UInt8) n) = y))
  | _, _, _ => none
def eqL : L → L → Option Bool
  | .i k n, .i k' m => if k = k' then some (n == m) else none
  | .b x, .b y => some (x == y)
  | .s x, .s y => some (x == y)
  | .arr t n x, .arr t' n' y => (match castV t' t n' n y with | some y => eqArr t n x y | none => none)
  | _, _ => none
def eqLs : List L → List L → Option Bool
  | [], [] => some true
  | [x], [y] => eqL x y
  | x :: x' :: l, y :: y' :: m => (match eqL x y with | some a => (match eqLs (x' :: l) (y' :: m) with | some b => some (a && b) | none => none) | none => none)
  | _, _ => none

end
end Go.Dor
