/- PART 2 OF WHAT THE ROW STANDS ON: the texts I J Na Da K M O Q V X Ya Y, one behind the other. -/
import Derived.Test.YtpbcchljlhkonaaX81
section
/- THE ABSTRACT MACHINE: values without addresses, objects by number, code as a function of what comes behind it. Definitions alone, over any program. -/
namespace Go.Dor

/-! ### types of data -/
inductive T where
  | int (k : IntKind) | bool | str | flt (k : FloatKind) | fx (k : FloatKind) | unit | pair (a b : T) | arr (n : Nat) (e : T) | sl (e : T)
  deriving DecidableEq

@[reducible] def den : T → Type
  | .int _ => Int
  | .bool => Bool
  | .str => List UInt8
  | .flt _ => Nat
  | .fx _ => Nat
  | .unit => Unit
  | .pair a b => den a × den b
  | .arr n e => Vector (den e) n
  | .sl e => List (den e)

def wid : T → Nat
  | .unit => 0
  | .pair a b => wid a + wid b
  | .arr n e => n * wid e
  | _ => 1

def dflt : (t : T) → den t
  | .int _ => (0 : Int)
  | .bool => false
  | .str => ([] : List UInt8)
  | .flt _ => (0 : Nat)
  | .fx _ => (0 : Nat)
  | .unit => ()
  | .pair a b => (dflt a, dflt b)
  | .arr n e => Vector.replicate n (dflt e)
  | .sl _ => []

/-- is there no slice in it? -/
def flat : T → Bool
  | .pair a b => flat a && flat b
  | .arr _ e => flat e
  | .sl _ => false
  | .fx _ => false
  | _ => true

/-! ### values -/
inductive L where
  | i (k : IntKind) (n : Int)
  | b (x : Bool)
  | s (l : List UInt8)
  | f (k : FloatKind) (n : Nat)
  | fx (k : FloatKind) (n : Nat)
  | arr (t : T) (n : Nat) (x : Vector (den t) n)
  | ro (t : T) (xs : List (den t))
  | nil
  | own (id : Nat)
  | ptr (id off : Nat)
  | np
  | fn (f : Nat) (ids : List Nat)
  | nf
  | sub (id off n : Nat) (lo hi : Int)
  | mp (id off : Nat)
  | ni
  | vw (id z : Nat) (lo : Int)

inductive V where
  | one (x : L)
  | ag (ls : List L)
  | tup (vs : List (L ⊕ List L))
  | epR (t : T) (x : den t) (off : Nat)
  | epO (id z : Nat) (i : Int) (off : Nat)
  | epB (id off n z : Nat) (i : Int) (k : Nat)
  | toA (t : T) (n : Nat) (xs : List (den t))
  | sk
  | u

inductive Ob where
  | blk (ty : TypeId) (ls : List L)
  | arr (ty : TypeId) (t : T) (xs : List (den t))
  | fix (ty : TypeId) (t : T) (xs : List (den t))
  | rd (ty : TypeId) (ls : List L)
  | gone

def rdLs : Option Ob → Option (TypeId × List L)
  | some (.blk ty ls) => some (ty, ls)
  | some (.rd ty ls) => some (ty, ls)
  | _ => none

def widL : L → Nat
  | .arr t n _ => n * wid t
  | _ => 1
def widLs : List L → Nat
  | [] => 0
  | x :: l => widL x + widLs l

def enc : (t : T) → den t → List L
  | .int k, n => [.i k n]
  | .bool, x => [.b x]
  | .str, l => [.s l]
  | .flt k, n => [.f k n]
  | .fx k, n => [.fx k n]
  | .unit, _ => []
  | .pair a b, x => enc a x.1 ++ enc b x.2
  | .arr n e, x => [.arr e n x]
  | .sl e, xs => [.ro e xs]

def castL (t u : T) (xs : List (den t)) : Option (List (den u)) := if h : t = u then some (h ▸ xs) else none
def castV (t u : T) (n m : Nat) (x : Vector (den t) n) : Option (Vector (den u) m) := if h : t = u ∧ n = m then some (h.1 ▸ h.2 ▸ x) else none

abbrev Hm := List Ob
abbrev Ev := List (Nat × V)

def getE : Ev → Nat → V
  | [], _ => .u
  | (d, v) :: e, t => bif Nat.beq d t then v else getE e t
def putE (e : Ev) : Option Nat → V → Ev
  | some d, v => (d, v) :: e
  | none, _ => e

def skipL : List L → Nat → Option (List L × List L)
  | [], n => bif Nat.beq n 0 then some ([], []) else none
  | x :: l, n => bif Nat.beq n 0 then some ([], x :: l) else
    bif Nat.ble (widL x) n then
      (match skipL l (n - widL x) with
      | some (a, b) => some (x :: a, b)
      | none => none)
    else none

/-- what a part of an array in a variable holds -/
def subD (e : T) (ls : List L) (off n : Nat) (lo hi : Int) : Option (List (den e)) :=
  match skipL ls off with
  | some (_, .arr u n' x :: _) => bif Nat.beq n n' && Nat.beq (wid u) 1 then castL u e (sub_ x.toList lo hi) else none
  | _ => none

/-- one leaf of data; the numbers of the slices of the call's own that are read as they stand -/
def decL : (t : T) → List L → Hm → Option (den t × List L × List Nat)
  | .int k, .i k' n :: l, _ => if k = k' then some (n, l, []) else none
  | .bool, .b x :: l, _ => some (x, l, [])
  | .str, .s x :: l, _ => some (x, l, [])
  | .flt k, .f k' n :: l, _ => if k = k' then some (n, l, []) else none
  | .fx k, .f k' n :: l, _ => if k = k' then some (n, l, []) else none
  | .fx k, .fx k' n :: l, _ => if k = k' then some (n, l, []) else none
  | .unit, l, _ => some ((), l, [])
  | .pair a b, l, h =>
    match decL a l h with
    | some (x, l, f) =>
      match decL b l h with
      | some (y, l, g) => some ((x, y), l, f ++ g)
      | none => none
    | none => none
  | .arr n e, .arr t m x :: l, _ =>
    match castV t e m n x with
    | some y => some (y, l, [])
    | none => none
  | .sl e, .ro t xs :: l, _ =>
    match castL t e xs with
    | some ys => some (ys, l, [])
    | none => none
  | .sl _, .nil :: l, _ => some ([], l, [])
  | .sl e, .own id :: l, h =>
    match h[id]? with
    | some (.arr _ t xs) =>
      match castL t e xs with
      | some ys => some (ys, l, [id])
      | none => none
    | _ => none
  | .sl e, .sub id off n lo hi :: l, h =>
    match h[id]? with
    | some (.blk _ ls) => (match subD e ls off n lo hi with | some ys => some (ys, l, [id]) | none => none)
    | some (.rd _ ls) => (match subD e ls off n lo hi with | some ys => some (ys, l, []) | none => none)
    | _ => none
  | _, _, _ => none

def freeze (h : Hm) : List Nat → Hm
  | [] => h
  | i :: l => freeze (h.set i .gone) l


/-- the leaves between, and what stands ahead and behind -/
def cutL (ls : List L) (off n : Nat) : Option (List L × List L × List L) :=
  match skipL ls off with
  | some (pre, l) =>
    match skipL l n with
    | some (mid, post) => some (pre, mid, post)
    | none => none
  | none => none

/-! ### types of a program -/
def mkT : List T → T
  | [] => .unit
  | [a] => a
  | a :: b :: l => .pair a (mkT (b :: l))

def codeT (P : Program) : Nat → TypeId → Option T
  | 0, _ => none
  | n + 1, t =>
    match P.underlying t with
    | some (.int k) => some (.int k)
    | some .bool => some .bool
    | some .string => some .str
    | some (.float k) => some (.flt k)
    | some (.array m e) => (match codeT P n e with | some c => some (.arr m c) | none => none)
    | some (.slice e) => (match codeT P n e with | some c => some (.sl c) | none => none)
    | some (.struct fs) => (match fs.toList.foldr (fun f acc => match codeT P n f.type, acc with | some a, some l => some (a :: l) | _, _ => none) (some []) with | some l => some (mkT l) | none => none)
    | _ => none
abbrev depth : Nat := 12

/-- the zero value's leaves; slices are objects of their own from number o on -/
def zeroL (P : Program) : Nat → TypeId → Nat → Option (List L × Hm)
  | 0, _, _ => none
  | n + 1, t, o =>
    match P.underlying t with
    | some (.int k) => some ([.i k 0], [])
    | some .bool => some ([.b false], [])
    | some .string => some ([.s []], [])
    | some (.float k) => some ([.f k 0], [])
    | some (.array m e) => (match codeT P n e with | some c => (bif flat c then some ([.arr c m (Vector.replicate m (dflt c))], []) else none) | none => none)
    | some (.slice e) => (match codeT P n e with | some c => some ([.own o], [.arr e c []]) | none => none)
    | some (.pointer _) => some ([.np], [])
    | some (.func ..) => some ([.nf], [])
    | some (.struct fs) => fs.toList.foldl (fun acc f => match acc with
        | some (ls, h) => (match zeroL P n f.type (o + h.length) with | some (ls', h') => some (ls ++ ls', h ++ h') | none => none)
        | none => none) (some ([], []))
    | _ => none

/-! ### descriptions: the shape of a state, its data left open -/
inductive Ld where
  | im (t : T) | own (i : Nat) | ptr (i off : Nat) | np | nil | fn (f : Nat) (is : List Nat) | nf | lb (b : Bool) | mp (i off : Nat) | ni | vw (i z : Nat)
inductive Vd where
  | one (x : Ld) | ag (ls : List Ld) | st (t : T)
inductive Od where
  | blk (ty : TypeId) (ls : List Ld) | blkT (ty : TypeId) (t : T) | arr (ty : TypeId) (t : T) | fix (ty : TypeId) (t : T) | rd (ty : TypeId) (ls : List Ld) | rdT (ty : TypeId) (t : T) | gone

structure Ds where
  vals : List Vd
  objs : List Od

def Ld.ts : Ld → List T
  | .im t => [t]
  | .vw _ _ => [.int .i64]
  | _ => []
def Lds.ts : List Ld → List T
  | [] => []
  | x :: l => x.ts ++ Lds.ts l
def Vd.ts : Vd → List T
  | .one x => x.ts
  | .ag ls => Lds.ts ls
  | .st t => [t]
def Vds.ts : List Vd → List T
  | [] => []
  | x :: l => x.ts ++ Vds.ts l
def Od.ts : Od → List T
  | .blk _ ls => Lds.ts ls
  | .blkT _ t => [t]
  | .arr _ t => [.sl t]
  | .fix _ t => [.sl t]
  | .rd _ ls => Lds.ts ls
  | .rdT _ t => [t]
  | .gone => []
def Ods.ts : List Od → List T
  | [] => []
  | x :: l => x.ts ++ Ods.ts l
def Ds.ts (d : Ds) : List T := Vds.ts d.vals ++ Ods.ts d.objs

/-- data of so many types -/
@[reducible] def HL : List T → Type
  | [] => Unit
  | [t] => den t
  | t :: u :: l => den t × HL (u :: l)

abbrev Dt := (t : T) × den t

def toL : (ts : List T) → HL ts → List Dt
  | [], _ => []
  | [t], x => [⟨t, x⟩]
  | t :: u :: l, x => ⟨t, x.1⟩ :: toL (u :: l) x.2

def castD (t : T) (d : Dt) : Option (den t) := if h : d.1 = t then some (h ▸ d.2) else none

def ofL : (ts : List T) → List Dt → Option (HL ts)
  | [], [] => some ()
  | [t], [d] => castD t d
  | t :: u :: l, d :: ds =>
    match castD t d with
    | some x => (match ofL (u :: l) ds with | some y => some (x, y) | none => none)
    | none => none
  | _, _ => none

/-! #### given -/
def giveL : Dt → L
  | ⟨.int k, n⟩ => .i k n
  | ⟨.bool, x⟩ => .b x
  | ⟨.str, x⟩ => .s x
  | ⟨.flt k, n⟩ => .f k n
  | ⟨.fx k, n⟩ => .fx k n
  | ⟨.arr n e, x⟩ => .arr e n x
  | ⟨.sl e, xs⟩ => .ro e xs
  | _ => .nf

/-- a part of a slice of the call's own, from an element on -/
def vwOf (i z : Nat) : Dt → L
  | ⟨.int .i64, lo⟩ => .vw i z lo
  | _ => .nf

def giveLd (f : Nat → Nat) : Ld → List Dt → L × List Dt
  | .im _, d :: l => (giveL d, l)
  | .im _, [] => (.nf, [])
  | .own i, l => (.own (f i), l)
  | .ptr i off, l => (.ptr (f i) off, l)
  | .np, l => (.np, l)
  | .nil, l => (.nil, l)
  | .fn g is, l => (.fn g (is.map f), l)
  | .nf, l => (.nf, l)
  | .lb b, l => (.b b, l)
  | .mp i off, l => (.mp (f i) off, l)
  | .ni, l => (.ni, l)
  | .vw i z, d :: l => (vwOf (f i) z d, l)
  | .vw _ _, [] => (.nf, [])
def giveLds (f : Nat → Nat) : List Ld → List Dt → List L × List Dt
  | [], l => ([], l)
  | x :: xs, l =>
    match giveLd f x l with
    | (y, l) => match giveLds f xs l with | (ys, l) => (y :: ys, l)
def giveVd (f : Nat → Nat) : Vd → List Dt → V × List Dt
  | .one x, l => (match giveLd f x l with | (y, l) => (.one y, l))
  | .ag ls, l => (match giveLds f ls l with | (ys, l) => (.ag ys, l))
  | .st _, d :: l => (.ag (enc d.1 d.2), l)
  | .st _, [] => (.u, [])
def giveVds (f : Nat → Nat) : List Vd → List Dt → List V × List Dt
  | [], l => ([], l)
  | x :: xs, l =>
    match giveVd f x l with
    | (y, l) => match giveVds f xs l with | (ys, l) => (y :: ys, l)
def giveOd (f : Nat → Nat) : Od → List Dt → Ob × List Dt
  | .blk ty ls, l => (match giveLds f ls l with | (ys, l) => (.blk ty ys, l))
  | .blkT ty _, d :: l => (.blk ty (enc d.1 d.2), l)
  | .rd ty ls, l => (match giveLds f ls l with | (ys, l) => (.rd ty ys, l))
  | .rdT ty _, d :: l => (.rd ty (enc d.1 d.2), l)
  | .arr ty _, ⟨.sl e, xs⟩ :: l => (.arr ty e xs, l)
  | .fix ty _, ⟨.sl e, xs⟩ :: l => (.fix ty e xs, l)
  | _, l => (.gone, l)
def giveOds (f : Nat → Nat) : List Od → List Dt → Hm × List Dt
  | [], l => ([], l)
  | x :: xs, l =>
    match giveOd f x l with
    | (y, l) => match giveOds f xs l with | (ys, l) => (y :: ys, l)

/-- data of one leaf -/
def leafT : T → Bool
  | .unit => false
  | .pair .. => false
  | _ => true

/-! #### taken -/
structure Tk where
  r : List (Nat × Nat)     -- described number, number
  fz : List Nat

def findN : List (Nat × Nat) → Nat → Option Nat
  | [], _ => none
  | (a, b) :: l, i => bif Nat.beq a i then some b else findN l i
def usedN : List (Nat × Nat) → Nat → Bool
  | [], _ => false
  | (_, b) :: l, i => bif Nat.beq b i then true else usedN l i
def bindN (k : Tk) (i id : Nat) : Option Tk :=
  match findN k.r i with
  | some id' => bif Nat.beq id' id then some k else none
  | none => bif usedN k.r id then none else some ⟨(i, id) :: k.r, k.fz⟩
def bindNs : Tk → List Nat → List Nat → Option Tk
  | k, [], [] => some k
  | k, i :: is, id :: ids => (match bindN k i id with | some k => bindNs k is ids | none => none)
  | _, _, _ => none

def takeLd (h : Hm) (k : Tk) : Ld → List L → Option (List Dt × List L × Tk)
  | .im t, l =>
    bif leafT t then
      match decL t l h with
      | some (x, l, f) => some ([⟨t, x⟩], l, ⟨k.r, k.fz ++ f⟩)
      | none => none
    else none
  | .own i, .own id :: l => (match bindN k i id with | some k => some ([], l, k) | none => none)
  | .ptr i off, .ptr id off' :: l => bif Nat.beq off off' then (match bindN k i id with | some k => some ([], l, k) | none => none) else none
  | .np, .np :: l => some ([], l, k)
  | .nil, .nil :: l => some ([], l, k)
  | .nf, .nf :: l => some ([], l, k)
  | .fn f is, .fn g ids :: l => bif Nat.beq f g then (match bindNs k is ids with | some k => some ([], l, k) | none => none) else none
  | .lb true, .b true :: l => some ([], l, k)
  | .lb false, .b false :: l => some ([], l, k)
  | .mp _ _, .np :: l => some ([], l, k)
  | .mp i off, .ptr id off' :: l => bif Nat.beq off off' then (match bindN k i id with | some k => some ([], l, k) | none => none) else none
  | .mp i off, .mp id off' :: l => bif Nat.beq off off' then (match bindN k i id with | some k => some ([], l, k) | none => none) else none
  | .ni, .ni :: l => some ([], l, k)
  | .vw i z, .vw id z' lo :: l => bif Nat.beq z z' then (match bindN k i id with | some k => some ([⟨.int .i64, lo⟩], l, k) | none => none) else none
  | _, _ => none
def takeLds (h : Hm) : Tk → List Ld → List L → Option (List Dt × List L × Tk)
  | k, [], l => some ([], l, k)
  | k, x :: xs, l =>
    match takeLd h k x l with
    | some (d, l, k) =>
      match takeLds h k xs l with
      | some (ds, l, k) => some (d ++ ds, l, k)
      | none => none
    | none => none
def takeVd (h : Hm) (k : Tk) : Vd → V → Option (List Dt × Tk)
  | .one x, .one y => (match takeLd h k x [y] with | some (d, [], k) => some (d, k) | _ => none)
  | .ag ls, .ag l => (match takeLds h k ls l with | some (d, [], k) => some (d, k) | _ => none)
  | .st t, .ag l => (match decL t l h with | some (x, [], f) => some ([⟨t, x⟩], ⟨k.r, k.fz ++ f⟩) | _ => none)
  | _, _ => none
def takeVds (h : Hm) : Tk → List Vd → List V → Option (List Dt × Tk)
  | k, [], [] => some ([], k)
  | k, x :: xs, v :: vs =>
    match takeVd h k x v with
    | some (d, k) =>
      match takeVds h k xs vs with
      | some (ds, k) => some (d ++ ds, k)
      | none => none
    | none => none
  | _, _, _ => none
def takeOd (h : Hm) (k : Tk) : Od → Ob → Option (List Dt × Tk)
  | .blk ty ls, .blk ty' l => bif Nat.beq ty ty' then (match takeLds h k ls l with | some (d, [], k) => some (d, k) | _ => none) else none
  | .blkT ty t, .blk ty' l => bif Nat.beq ty ty' then (match decL t l h with | some (x, [], f) => some ([⟨t, x⟩], ⟨k.r, k.fz ++ f⟩) | _ => none) else none
  | .arr ty t, .arr ty' t' xs => bif Nat.beq ty ty' then (match castL t' t xs with | some ys => some ([⟨.sl t, ys⟩], k) | none => none) else none
  | .fix ty t, .fix ty' t' xs => bif Nat.beq ty ty' then (match castL t' t xs with | some ys => some ([⟨.sl t, ys⟩], k) | none => none) else none
  | .rd ty ls, .blk ty' l | .rd ty ls, .rd ty' l => bif Nat.beq ty ty' then (match takeLds h k ls l with | some (d, [], k) => some (d, k) | _ => none) else none
  | .rdT ty t, .blk ty' l | .rdT ty t, .rd ty' l => bif Nat.beq ty ty' then (match decL t l h with | some (x, [], f) => some ([⟨t, x⟩], ⟨k.r, k.fz ++ f⟩) | _ => none) else none
  | .gone, _ => some ([], k)
  | _, _ => none
def takeOds (h : Hm) : Tk → Nat → List Od → Option (List Dt × Tk)
  | k, _, [] => some ([], k)
  | k, i, x :: xs =>
    match findN k.r i with
    | some id =>
      match h[id]? with
      | some o =>
        match takeOd h k x o with
        | some (d, k) =>
          match takeOds h k (i + 1) xs with
          | some (ds, k) => some (d ++ ds, k)
          | none => none
        | none => none
      | none => none
    | none => none
def takeDs (h : Hm) (k : Tk) (d : Ds) (vs : List V) : Option (List Dt × Tk) :=
  match takeVds h k d.vals vs with
  | some (x, k) =>
    match takeOds h k 0 d.objs with
    | some (y, k) => bif k.fz.any (usedN k.r) || !(k.r.all fun p => Nat.blt p.1 d.objs.length) then none else some (x ++ y, k)
    | none => none
  | none => none

/-- n objects that keep their numbers -/
def keepN : Nat → List (Nat × Nat)
  | 0 => []
  | n + 1 => (n, n) :: keepN n

/-! ### what calls come to -/
structure Entry where
  pre : Ds
  post : Ds
  fn : HL pre.ts → Option (HL post.ts)

structure Sd where
  slots : List Nat
  ds : Ds

structure Cx where
  P : Program
  D : List (Nat × Entry)
  jn : List (Nat × Sd) := []      -- ways that meet ahead of a region
  rj : List (Nat × Sd) := []      -- ways that meet behind a region
  lp : List (Nat × Sd) := []      -- the head of a loop whose first region is ..
  dr : List (Nat × List (Nat × Nat) × List (Nat × Bool) × List Nat × Tr) := []
  keep : Nat := 0                 -- objects that were lent
  nt : Nat := 0                   -- how many slots there are
  ext : List (Nat × Nat) := []    -- functions without code, by their kind
  oops : Nat → List V → Hm → Option Unit := fun _ _ _ => none     -- the printer's: a call of what is not known

def findA {α : Type} : List (Nat × α) → Nat → Option α
  | [], _ => none
  | (a, b) :: l, i => bif Nat.beq a i then some b else findA l i

section
variable {R : Type}

def givenV (d : Ds) (f : Nat → Nat) (x : HL d.ts) : List V × List Dt := giveVds f d.vals (toL d.ts x)
def givenO (d : Ds) (f : Nat → Nat) (x : HL d.ts) : Hm := (giveOds f d.objs (givenV d f x).2).1
def zipE : List Nat → List V → Ev
  | s :: ss, v :: vs => (s, v) :: zipE ss vs
  | _, _ => []
def getEs (e : Ev) : List Nat → List V
  | [] => []
  | s :: ss => getE e s :: getEs e ss

/-- on with a state of that shape -/
def resume (d : Sd) (K : Ev → Hm → Option R) (x : HL d.ds.ts) : Option R := K (zipE d.slots (givenV d.ds id x).1) (givenO d.ds id x)
def renL (f : Nat → Nat) : L → L
  | .own i => .own (f i)
  | .ptr i off => .ptr (f i) off
  | .fn q is => .fn q (is.map f)
  | .sub i off n lo hi => .sub (f i) off n lo hi
  | .mp i off => .mp (f i) off
  | .vw i z lo => .vw (f i) z lo
  | x => x
def renO (f : Nat → Nat) : Ob → Ob
  | .blk ty ls => .blk ty (ls.map (renL f))
  | .rd ty ls => .rd ty (ls.map (renL f))
  | o => o
def renW (f : Nat → Nat) : V → V
  | .one x => .one (renL f x)
  | .ag ls => .ag (ls.map (renL f))
  | _ => .u
/-- a slice that was lent becomes one with a number of its own -/
def renew (i : Nat) (vs : List V) (h : Hm) : List V × Hm :=
  match h[i]? with
  | some (.arr ty t xs) => (vs.map (renW fun j => bif Nat.beq j i then h.length else j), (h.map (renO fun j => bif Nat.beq j i then h.length else j)).set i .gone ++ [.arr ty t xs])
  | _ => (vs, h)
def renewAll : List Nat → List V → Hm → List V × Hm
  | [], vs, h => (vs, h)
  | i :: is, vs, h => renewAll is (renew i vs h).1 (renew i vs h).2
/-- what was lent and is not given back -/
def goneN : Nat → Nat → List Od → List Nat
  | i, n + 1, .gone :: os => i :: goneN (i + 1) n os
  | i, n + 1, _ :: os => goneN (i + 1) n os
  | _, _, _ => []
/-- a state as one of that shape -/
def arrive (X : Cx) (d : Sd) (J : HL d.ds.ts → Option R) (e : Ev) (h : Hm) : Option R :=
  match takeDs (renewAll (goneN 0 X.keep d.ds.objs) (getEs e d.slots) h).2 ⟨keepN X.keep, []⟩ d.ds (renewAll (goneN 0 X.keep d.ds.objs) (getEs e d.slots) h).1 with
  | some (l, _) => (match ofL d.ds.ts l with | some x => J x | none => none)
  | none => none

def loopC {α : Type} (body : (α → Option R) → α → Option R) : Nat → α → Option R
  | 0, _ => none
  | k + 1, x => body (loopC body k) x

def joinC {α : Type} (e2 : α → Option R) (f : (α → Option R) → Option R) : Option R := f e2

/-! ### operations -/
def bytesL (s : ByteArray) : List UInt8 := s.data.toList
def constV : Value → V
  | .int k n => .one (.i k n)
  | .bool b => .one (.b b)
  | .string s => .one (.s (bytesL s))
  | .float k n => .one (.f k n)
  | .pointer none => .one .np
  | .slice none 0 0 => .one .nil
  | .nilFunc => .one .nf
  | .nilIface => .one .ni
  | _ => .u
def opnd (e : Ev) : Operand → V
  | .tmp t => getE e t
  | .const v => constV v
  | .func f => .one (.fn f [])
  | .global _ => .u

def int1 (k : IntKind) (n : Int) : V := .one (.i k n)

def binI (op : BinOp) (k : IntKind) (x y : Int) (K : V → Option R) : Option R :=
  match op with
  | .add => K (int1 k (k.wrap (x + y)))
  | .sub => K (int1 k (k.wrap (x - y)))
  | .mul => K (int1 k (k.wrap (x * y)))
  | .quo => need (y ≠ 0) (K (int1 k (k.wrap (x.tdiv y))))
  | .rem => need (y ≠ 0) (K (int1 k (x.tmod y)))
  | .and => K (int1 k (iand k x y))
  | .or => K (int1 k (ior k x y))
  | .xor => K (int1 k (ixor k x y))
  | .andNot => K (int1 k (iandn k x y))
  | .shl => need (0 ≤ y) (K (int1 k (ishl k x y)))
  | .shr => need (0 ≤ y) (K (int1 k (ishr k x y)))
  | .eql => K (.one (.b (x == y)))
  | .neq => K (.one (.b (x != y)))
  | .lss => K (.one (.b (decide (x < y))))
  | .leq => K (.one (.b (decide (x ≤ y))))
  | .gtr => K (.one (.b (decide (x > y))))
  | .geq => K (.one (.b (decide (x ≥ y))))
def binS (op : BinOp) (x y : List UInt8) (K : V → Option R) : Option R :=
  match op with
  | .add => need (x.length + y.length ≤ 9223372036854775807) (K (.one (.s (x ++ y))))
  | .eql => K (.one (.b (x == y)))
  | .neq => K (.one (.b (!(x == y))))
  | .lss => K (.one (.b (Op.bytesLess x y)))
  | _ => none
def binFl (op : BinOp) (k : FloatKind) (a b : Nat) (K : V → Option R) : Option R :=
  match op with
  | .add => (flOp 0 k a b).bind fun r => K (.one (.f k r))
  | .sub => (flOp 1 k a b).bind fun r => K (.one (.f k r))
  | .mul => (flOp 2 k a b).bind fun r => K (.one (.f k r))
  | .quo => (flOp 3 k a b).bind fun r => K (.one (.f k r))
  | .eql => K (.one (.b (flEq k a b)))
  | .neq => K (.one (.b (!(flEq k a b))))
  | .lss => K (.one (.b (flLt k a b)))
  | .leq => K (.one (.b (flLt k a b || flEq k a b)))
  | .gtr => K (.one (.b (flGt k a b)))
  | .geq => K (.one (.b (flGt k a b || flEq k a b)))
  | _ => none
/-- where a NaN may come of it -/
def binFx (op : BinOp) (k : FloatKind) (a b : Nat) (K : V → Option R) : Option R :=
  match op with
  | .add => K (.one (.fx k (flOpX 0 k a b)))
  | .sub => K (.one (.fx k (flOpX 1 k a b)))
  | .mul => K (.one (.fx k (flOpX 2 k a b)))
  | .quo => K (.one (.fx k (flOpX 3 k a b)))
  | _ => none
def binFc (op : BinOp) (k : FloatKind) (a b : Nat) (K : V → Option R) : Option R :=
  match op with
  | .eql => K (.one (.b (flEq k a b)))
  | .neq => K (.one (.b (!(flEq k a b))))
  | .lss => K (.one (.b (flLt k a b)))
  | .leq => K (.one (.b (flLt k a b || flEq k a b)))
  | .gtr => K (.one (.b (flGt k a b)))
  | .geq => K (.one (.b (flGt k a b || flEq k a b)))
  | _ => none
def isCmp : BinOp → Bool
  | .eql | .neq | .lss | .leq | .gtr | .geq => true
  | _ => false
/-- a float, be it known or not -/
def fltOf : V → Option (FloatKind × Nat)
  | .one (.f k n) => some (k, n)
  | .one (.fx k n) => some (k, n)
  | _ => none
def binB (op : BinOp) (x y : Bool) (K : V → Option R) : Option R :=
  match op with
  | .eql => K (.one (.b (x == y)))
  | .neq => K (.one (.b (!(x == y))))
  | _ => none

end
end Go.Dor
end

section
/- THE ABSTRACT MACHINE: operations, calls, code. Definitions alone, over any program. -/
namespace Go.Dor
def liveO : Option Ob → Bool
  | some (.blk ..) | some (.arr ..) | some (.fix ..) => true
  | _ => false
section
variable {R : Type}

/-- the slices of the call's own in a list of leaves become read for good: data -/
def toD (t : T) (ls : List L) (h : Hm) (K : den t → Hm → Option R) : Option R :=
  match decL t ls h with
  | some (x, [], f) => K x (freeze h f)
  | _ => none

def leaves : V → Option (List L)
  | .one x => some [x]
  | .ag ls => some ls
  | _ => none

def mkV (P : Program) (T : TypeId) (ls : List L) : Option V :=
  bif isScal P T then (match ls with | [x] => bif Nat.beq (widL x) 1 then some (.one x) else none | _ => none)
  else match aggOf P T with
    | some n => bif Nat.beq (widLs ls) n then some (.ag ls) else none
    | none => none
def widT (P : Program) (T : TypeId) : Option Nat := (P.info? T).map (·.size)
def zIs (P : Program) (T : TypeId) (z : Nat) : Bool :=
  match widT P T with
  | some y => Nat.beq y z
  | none => false

/-! zero values, held against the program's own -/
def cellsD : (t : T) → den t → Option (List Value)
  | .int k, n => some [.int k n]
  | .bool, x => some [.bool x]
  | .str, l => some [sv l]
  | .flt k, n => some [.float k n]
  | .fx _, _ => none
  | .unit, _ => some []
  | .pair a b, x => (match cellsD a x.1, cellsD b x.2 with | some c, some c' => some (c ++ c') | _, _ => none)
  | .arr _ e, x => x.toList.foldr (fun y acc => match cellsD e y, acc with | some c, some c' => some (c ++ c') | _, _ => none) (some [])
  | .sl _, _ => none
def zcell : L → Option (List Value)
  | .i k n => some [.int k n]
  | .b x => some [.bool x]
  | .s l => some [sv l]
  | .f k n => some [.float k n]
  | .arr t n x => cellsD (.arr n t) x
  | .own _ => some [.slice none 0 0]
  | .np => some [.pointer none]
  | .nf => some [.nilFunc]
  | _ => none
def eqZ : Value → Value → Bool
  | .int k n, .int k' m => decide (k = k') && decide (n = m)
  | .bool a, .bool b => a == b
  | .float k n, .float k' m => decide (k = k') && Nat.beq n m
  | .string a, .string b => decide (a.data.toList = b.data.toList)
  | .pointer none, .pointer none => true
  | .slice none a b, .slice none c d => Nat.beq a c && Nat.beq b d
  | .nilFunc, .nilFunc => true
  | _, _ => false
def eqZs : List Value → List Value → Bool
  | [], [] => true
  | a :: l, b :: m => eqZ a b && eqZs l m
  | _, _ => false
def zcells : List L → Option (List Value)
  | [] => some []
  | x :: l => (match zcell x, zcells l with | some c, some c' => some (c ++ c') | _, _ => none)
/-- leaves with slices of the call's own that are nil, numbered from o on -/
def nilsOk (o : Nat) (hs : Hm) (ls : List L) : Bool :=
  hs.all (fun x => match x with | .arr _ _ [] => true | _ => false) && ls.all fun x => match x with | .own id => Nat.ble o id && Nat.blt id (o + hs.length) | _ => true
def zeroCk (P : Program) (T : TypeId) (o : Nat) (ls : List L) (hs : Hm) : Bool :=
  nilsOk o hs ls && match zeroOf P T, zcells ls with
    | some cs, some c => eqZs cs.toList c
    | _, _ => false

/-- a variable that begins with a pointer to such a variable, ahead of a slice: that pointer is nil, or its own -/
def selfP (P : Program) (T : TypeId) : Bool :=
  match P.underlying T with
  | some (.struct fs) =>
    match fs.toList with
    | [a, b] =>
      match P.underlying a.type, P.underlying b.type with
      | some (.pointer t), some (.slice _) => Nat.beq t T
      | _, _ => false
    | _ => false
  | _ => false
def bldL (c : Bool) (id : Nat) : List L → List L
  | .np :: l => bif c then .mp id 0 :: l else .np :: l
  | l => l
def loadOp (P : Program) (T : TypeId) (p : V) (h : Hm) (K : V → Hm → Option R) : Option R :=
  match p with
  | .one (.ptr id off) =>
    match rdLs h[id]? with
    | some (_, ls) =>
      match widT P T with
      | some n =>
        match cutL ls off n with
        | some (_, mid, _) => (match mkV P T mid with | some v => K v h | none => none)
        | none => none
      | none => none
    | none => none
  | .epR t x off =>
    match widT P T with
    | some n =>
      match cutL (enc t x) off n with
      | some (_, mid, _) => (match mkV P T mid with | some v => K v h | none => none)
      | none => none
    | none => none
  | .epO id z i off =>
    match h[id]?, widT P T with
    | some (.arr _ t xs), some n | some (.fix _ t xs), some n =>
      bif Nat.beq z (wid t) then
        match cutL (enc t (at_ (dflt t) xs i)) off n with
        | some (_, mid, _) => (match mkV P T mid with | some v => K v h | none => none)
        | none => none
      else none
    | _, _ => none
  | .epB id off n z i k =>
    match rdLs h[id]?, widT P T with
    | some (_, ls), some m =>
      match skipL ls off with
      | some (_, .arr t n' x :: _) =>
        bif Nat.beq n n' && Nat.beq z (wid t) then
          match cutL (enc t (at_ (dflt t) x.toList i)) k m with
          | some (_, mid, _) => (match mkV P T mid with | some v => K v h | none => none)
          | none => none
        else none
      | _ => none
    | _, _ => none
  | .toA t n xs => bif Nat.beq (wid t) 1 then (match mkV P T [.arr t n (vecOf n (dflt t) xs)] with | some v => K v h | none => none) else none
  | _ => none

def storeOp (P : Program) (T : TypeId) (p v : V) (h : Hm) (K : Hm → Option R) : Option R :=
  match leaves v, widT P T with
  | some new, some n =>
    bif Nat.beq (widLs new) n then
      match p with
      | .one (.ptr id off) =>
        match h[id]? with
        | some (.blk ty ls) =>
          match cutL ls off n with
          | some (pre, _, post) => K (h.set id (.blk ty (pre ++ new ++ post)))
          | none => none
        | _ => none
      | .epO id z i off =>
        match h[id]? with
        | some (.arr ty t xs) =>
          bif Nat.beq z (wid t) then
            match cutL (enc t (at_ (dflt t) xs i)) off n with
            | some (pre, _, post) => toD t (pre ++ new ++ post) h fun y h => bif liveO h[id]? then K (h.set id (.arr ty t (lset xs i y))) else none
            | none => none
          else none
        | _ => none
      | .epB id off m z i k =>
        match h[id]? with
        | some (.blk ty ls) =>
          match skipL ls off with
          | some (pre, .arr t m' x :: post) =>
            bif Nat.beq m m' && Nat.beq z (wid t) then
              match cutL (enc t (at_ (dflt t) x.toList i)) k n with
              | some (a, _, b) => toD t (a ++ new ++ b) h fun y h => bif liveO h[id]? then K (h.set id (.blk ty (pre ++ .arr t m' (vset x i y) :: post))) else none
              | none => none
            else none
          | _ => none
        | _ => none
      | _ => none
    else none
  | _, _ => none

/-- a nil slice is a slice of the call's own -/
def nilOp (P : Program) (T : TypeId) (v : V) (h : Hm) (K : V → Hm → Option R) : Option R :=
  match v with
  | .one .nil =>
    match P.underlying T with
    | some (.slice e) => (match codeT P depth e with | some c => K (.one (.own h.length)) (h ++ [.arr e c []]) | none => none)
    | _ => none
  | v => K v h

def fieldOp (P : Program) (T : TypeId) (x : V) (f : Nat) (h : Hm) (K : V → Option R) : Option R :=
  match fieldOf P T f with
  | some (fo, _ + 1) =>
    match x with
    | .one (.ptr id off) => K (.one (.ptr id (off + fo)))
    | .epR t x off => K (.epR t x (off + fo))
    | .epO id z i off => (match h[id]? with | some (.arr ..) => K (.epO id z i (off + fo)) | _ => none)
    | .epB id off n z i k => K (.epB id off n z i (k + fo))
    | _ => none
  | _ => none

def idxAddr (P : Program) (T : TypeId) (x y : V) (h : Hm) (K : V → Option R) : Option R :=
  match y with
  | .one (.i _ i) =>
    match P.underlying T with
    | some (.slice e) =>
      match widT P e with
      | some z =>
        match x with
        | .one (.ro t xs) => bif Nat.beq (wid t) z then need (0 ≤ i ∧ i < (xs.length : Int)) (K (.epR t (at_ (dflt t) xs i) 0)) else none
        | .one (.own id) =>
          match h[id]? with
          | some (.arr _ t xs) | some (.fix _ t xs) => bif Nat.beq (wid t) z then need (0 ≤ i ∧ i < (xs.length : Int)) (K (.epO id z i 0)) else none
          | _ => none
        | .one (.sub id off n lo hi) => bif Nat.beq z 1 then need (0 ≤ i ∧ i < hi - lo) (K (.epB id off n z (lo + i) 0)) else none
        | .one (.vw id z' lo) =>
          match h[id]? with
          | some (.arr _ t xs) => bif Nat.beq (wid t) z && Nat.beq z' z then need (0 ≤ i ∧ i < (xs.length : Int) - lo) (K (.epO id z (lo + i) 0)) else none
          | _ => none
        | _ => none
      | none => none
    | some (.array n e) =>
      match widT P e with
      | some z =>
        match x with
        | .one (.ptr id off) => need (0 ≤ i ∧ i < (n : Int)) (K (.epB id off n z i 0))
        | _ => none
      | none => none
    | _ => none
  | _ => none

def idxOp (P : Program) (T : TypeId) (x y : V) (K : V → Option R) : Option R :=
  match y with
  | .one (.i _ i) =>
    match x with
    | .one (.s l) => (match P.underlying T with | some .string => need (0 ≤ i ∧ i < (l.length : Int)) (K (int1 .u8 (bat l i))) | _ => none)
    | .ag [.arr t n v] =>
      match P.underlying T with
      | some (.array n' e) => bif isScal P e && Nat.beq (wid t) 1 && Nat.beq n n' then need (0 ≤ i ∧ i < (n : Int)) (match enc t (at_ (dflt t) v.toList i) with | [z] => K (.one z) | _ => none) else none
      | _ => none
    | _ => none
  | _ => none

def asInt1 : V → Option Int
  | .one (.i _ n) => some n
  | _ => none
def bound (e : Ev) (o : Option Operand) (d : Int) : Option Int :=
  match o with
  | none => some d
  | some x => asInt1 (opnd e x)

/-- a part of what no one writes, or of an array in a variable -/
def sliceP (P : Program) (T : TypeId) (x : V) (lo hi : Option Operand) (e : Ev) (K : V → Option R) : Option R :=
  match x with
  | .one (.s l) =>
    match P.underlying T, bound e lo 0, bound e hi l.length with
    | some .string, some a, some b => need (0 ≤ a ∧ a ≤ b ∧ b ≤ (l.length : Int)) (K (.one (.s (sub_ l a b))))
    | _, _, _ => none
  | .one (.ro t xs) =>
    match P.underlying T, bound e lo 0, bound e hi xs.length with
    | some (.slice el), some a, some b => bif zIs P el (wid t) then need (0 ≤ a ∧ a ≤ b ∧ b ≤ (xs.length : Int)) (K (.one (.ro t (sub_ xs a b)))) else none
    | _, _, _ => none
  | .one (.ptr id off) =>
    match P.underlying T with
    | some (.array n el) =>
      match bound e lo 0, bound e hi n with
      | some a, some b => bif zIs P el 1 then need (0 ≤ a ∧ a ≤ b ∧ b ≤ (n : Int)) (K (.one (.sub id off n a b))) else none
      | _, _ => none
    | _ => none
  | .epR t x off =>
    match P.underlying T, skipL (enc t x) off with
    | some (.array n el), some (_, .arr u n' v :: _) =>
      match bound e lo 0, bound e hi n with
      | some a, some b => bif Nat.beq n n' && Nat.beq (wid u) 1 && zIs P el 1 then need (0 ≤ a ∧ a ≤ b ∧ b ≤ (n : Int)) (K (.one (.ro u (sub_ v.toList a b)))) else none
      | _, _ => none
    | _, _ => none
  | _ => none

def sliceOp (P : Program) (T : TypeId) (x : V) (lo hi mx : Option Operand) (e : Ev) (h : Hm) (K : V → Hm → Option R) : Option R :=
  match mx with
  | some _ => none
  | none =>
    match x with
    | .one (.own id) =>
      match h[id]? with
      | some (.arr ty t xs) =>
        match P.underlying T, bound e lo 0, bound e hi xs.length with
        | some (.slice el), some a, some b =>
          bif zIs P el (wid t) then
            match lo with
            | none => need (0 ≤ a ∧ a ≤ b ∧ b ≤ (xs.length : Int)) (K (.one (.own h.length)) (h.set id .gone ++ [.arr ty t (xs.take b.toNat)]))
            | some _ => need (0 ≤ a ∧ a ≤ b ∧ b ≤ (xs.length : Int)) (K (.one (.ro t (sub_ xs a b))) (h.set id .gone))
          else none
        | _, _, _ => none
      | _ => none
    | x => sliceP P T x lo hi e fun v => K v h

/-- a part of a slice of the call's own, seen while the slice goes on -/
def viewOp (P : Program) (T : TypeId) (x : V) (lo hi : Option Operand) (e : Ev) (h : Hm) (K : V → Hm → Option R) : Option R :=
  match x, hi with
  | .one (.own id), none =>
    match h[id]?, P.underlying T, bound e lo 0 with
    | some (.arr _ t xs), some (.slice el), some a => bif zIs P el (wid t) then need (0 ≤ a ∧ a ≤ (xs.length : Int)) (K (.one (.vw id (wid t) a)) h) else none
    | _, _, _ => none
  | _, _ => none
def isVw (x : V) (lo hi mx : Option Operand) : Bool :=
  match x, lo, hi, mx with
  | .one (.own _), some _, none, none => true
  | _, _, _, _ => false

/-- what a slice reads as: its element's type, its elements -/
def readS (h : Hm) : V → Option ((t : T) × List (den t))
  | .one (.ro t xs) => some ⟨t, xs⟩
  | .one (.own id) =>
    match h[id]? with
    | some (.arr _ t xs) | some (.fix _ t xs) => some ⟨t, xs⟩
    | _ => none
  | .one (.sub id off n lo hi) =>
    match rdLs h[id]? with
    | some (_, ls) =>
      match skipL ls off with
      | some (_, .arr t n' x :: _) => bif Nat.beq n n' && Nat.beq (wid t) 1 then some ⟨t, sub_ x.toList lo hi⟩ else none
      | _ => none
    | none => none
  | _ => none

def lenOp (P : Program) (T : TypeId) (x : V) (h : Hm) (K : V → Option R) : Option R :=
  match x with
  | .one (.s l) => (match P.underlying T with | some .string => K (int1 .i64 l.length) | _ => none)
  | .one .nil => (match P.underlying T with | some (.slice _) => K (int1 .i64 0) | _ => none)
  | .one (.sub _ _ _ lo hi) => (match P.underlying T with | some (.slice _) => K (int1 .i64 (hi - lo)) | _ => none)
  | .one (.vw id _ lo) => (match h[id]?, P.underlying T with | some (.arr _ _ xs), some (.slice _) => K (int1 .i64 ((xs.length : Int) - lo)) | _, _ => none)
  | x =>
    match readS h x, P.underlying T with
    | some ⟨_, xs⟩, some (.slice _) => K (int1 .i64 xs.length)
    | _, _ => none

/-- one of both, where it is open which -/
noncomputable def bothC (a b : Option R) : Option R := open Classical in if a = b then a else none
def isNil : V → Bool
  | .one .nil => true
  | _ => false
/-- a slice held against nil: an empty one may be it or not -/
noncomputable def nilEq (P : Program) (T : TypeId) (x : V) (h : Hm) (K : Bool → Option R) : Option R :=
  match P.underlying T with
  | some (.slice _) =>
    match x with
    | .one .nil => K true
    | .one (.sub ..) => K false
    | x => (match readS h x with | some ⟨_, xs⟩ => bif xs.isEmpty then bothC (K true) (K false) else K false | none => none)
  | _ => none

def isNp : V → Bool
  | .one .np => true
  | _ => false
/-- a pointer held against nil -/
noncomputable def npEq (P : Program) (T : TypeId) (x : V) (K : Bool → Option R) : Option R :=
  match P.underlying T, x with
  | some (.pointer _), .one (.ptr _ _) => K false
  | some (.pointer _), .one .np => K true
  | _, _ => none

/-- the source of an append or a copy, as elements of type t -/
def source (P : Program) (t : T) (T : TypeId) (y : V) (h : Hm) : Option (List (den t)) :=
  match P.underlying T with
  | some .string =>
    match y, t with
    | .one (.s l), .int .u8 => some (numsOf l)
    | _, _ => none
  | some (.slice _) =>
    match y with
    | .one .nil => some []
    | y => (match readS h y with | some ⟨u, ys⟩ => castL u t ys | none => none)
  | _ => none

def appendOp (P : Program) (T U : TypeId) (x y : V) (h : Hm) (K : V → Hm → Option R) : Option R :=
  nilOp P T x h fun x h =>
  match x with
  | .one (.own id) =>
    match h[id]?, P.underlying T with
    | some (.arr ty t xs), some (.slice e) =>
      match elemOf P e, source P t U y h with
      | some (z, b), some ys => bif Nat.beq e ty && Nat.beq z (wid t) then
          need ((xs.length + ys.length) * b ≤ 140737488355328) (K (.one (.own h.length)) (h.set id .gone ++ [.arr ty t (xs ++ ys)]))
        else none
      | _, _ => none
    | _, _ => none
  | _ => none

def copyOp (P : Program) (T U : TypeId) (x y : V) (h : Hm) (K : V → Hm → Option R) : Option R :=
  match x, P.underlying T with
  | .one (.sub id off n lo hi), some (.slice e) =>
    match h[id]?, widT P e with
    | some (.blk ty ls), some 1 =>
      match skipL ls off with
      | some (pre, .arr t n' x :: post) =>
        match source P t U y h with
        | some ys => bif Nat.beq n n' && Nat.beq (wid t) 1 && flat t then need ((ys.length : Int) ≤ hi - lo) (K (int1 .i64 ys.length) (h.set id (.blk ty (pre ++ .arr t n' (vcopy x lo ys) :: post)))) else none
        | none => none
      | _ => none
    | _, _ => none
  | _, _ => none

def convOp (P : Program) (c : Bool) (S T : TypeId) (x : V) (h : Hm) (K : V → Hm → Option R) : Option R :=
  match P.underlying S, P.underlying T, x with
  | some (.int _), some (.int k), .one (.i _ n) => K (int1 k (k.wrap n)) h
  | some .string, some .string, .one (.s l) => K (.one (.s l)) h
  | some (.int _), some (.float k), .one (.i _ n) => K (.one (.f k (flNear k n))) h
  | some (.float _), some (.int q), .one (.f k n) => (flInt k n q).bind fun z => K (int1 q z) h
  | some (.float _), some (.float k), .one (.f k' n) => if k' = k then K (.one (.f k' n)) h else none
  | some (.float _), some (.float k), .one (.fx k' n) => if k' = k then K (.one (.fx k' n)) h else none
  | some (.slice e), some .string, x =>
    match P.underlying e, x with
    | some (.int .u8), .one .nil => K (.one (.s [])) h
    | some (.int .u8), x => (match readS h x with | some ⟨.int .u8, xs⟩ => K (.one (.s (bytesOf xs))) h | _ => none)
    | _, _ => none
  | some .string, some (.slice e), .one (.s l) =>
    match P.underlying e with
    | some (.int .u8) => need (l.length * 1 ≤ 140737488355328) (bif c then K (.one (.ro (.int .u8) (numsOf l))) (h ++ [.gone]) else K (.one (.own h.length)) (h ++ [.arr e (.int .u8) (numsOf l)]))
    | _ => none
  | _, _, _ => none

/-- parts laid into leaves -/
def fillL (pl : List (Nat × Nat)) : List (Nat × List L) → List L → Option (List L)
  | [], ls => some ls
  | (i, new) :: r, ls =>
    match pl[i]? with
    | some (off, n) =>
      bif Nat.beq (widLs new) n then
        match cutL ls off n with
        | some (pre, _, post) => fillL pl r (pre ++ new ++ post)
        | none => none
      else none
    | none => none

def allLeaves (e : Ev) : List (Nat × Operand) → Option (List (Nat × List L))
  | [] => some []
  | (i, x) :: l =>
    match leaves (opnd e x), allLeaves e l with
    | some a, some r => some ((i, a) :: r)
    | _, _ => none

def scalT : T → Bool
  | .int _ => true
  | .bool => true
  | .str => true
  | .flt _ => true
  | _ => false

/-- parts of an array of single cells -/
def arrParts (t : T) (e : Ev) : List (Nat × Operand) → Option (List (Nat × den t))
  | [] => some []
  | (i, x) :: l =>
    match opnd e x with
    | .one y =>
      match decL t [y] [], arrParts t e l with
      | some (z, [], _), some r => some ((i, z) :: r)
      | _, _ => none
    | _ => none

def buildOp (P : Program) (T : TypeId) (parts : List (Nat × Operand)) (e : Ev) (h : Hm) (K : V → Hm → Option R) : Option R :=
  match P.underlying T with
  | some (.struct _) =>
    match allLeaves e parts, placesOf P T, zeroL P depth T h.length with
    | some ps, some pl, some (ls, hs) => bif zeroCk P T h.length ls hs then (match fillL pl ps ls with | some ls => K (.ag ls) (h ++ hs) | none => none) else none
    | _, _, _ => none
  | some (.array n el) =>
    match codeT P depth el with
    | some t =>
      bif isScal P el && scalT t && zeroCk P T h.length [.arr t n (Vector.replicate n (dflt t))] [] then
        match arrParts t e parts with
        | some xs => bif xs.all (fun p => Nat.blt p.1 n) then K (.ag [.arr t n (bparts n (dflt t) xs)]) h else none
        | none => none
      else none
    | none => none
  | _ => none

/-- the elements of a slice that is built, in their order -/
def elems (t : T) : Nat → List (Nat × List L) → Hm → (List (den t) → Hm → Option R) → Option R
  | _, [], h, K => K [] h
  | i, (j, ls) :: l, h, K => bif Nat.beq i j then toD t ls h fun x h => elems t (i + 1) l h fun xs h => K (x :: xs) h else none

def buildSl (P : Program) (T : TypeId) (len : Nat) (parts : List (Nat × Operand)) (e : Ev) (h : Hm) (K : V → Hm → Option R) : Option R :=
  match allLeaves e parts, P.underlying T with
  | some ps, some (.slice el) =>
    match codeT P depth el, elemOf P el with
    | some t, some (z, _) => bif Nat.beq z (wid t) && Nat.beq ps.length len && Nat.ble (len * z) 16777216 then
        elems t 0 ps h fun xs h => K (.one (.own h.length)) (h ++ [.arr el t xs])
      else none
    | _, _ => none
  | _, _ => none

/-- two values of one type held against each other -/
def eqTy (P : Program) : Nat → TypeId → List L → List L → Option Bool
  | 0, _, _, _ => none
  | k + 1, t, x, y =>
    match P.underlying t with
    | some (.int _) => (match x, y with | [.i k n], [.i k' m] => bif isScal P t then (if k = k' then some (n == m) else none) else none | _, _ => none)
    | some .bool => (match x, y with | [.b a], [.b b] => bif isScal P t then some (a == b) else none | _, _ => none)
    | some .string => (match x, y with | [.s a], [.s b] => bif isScal P t then some (a == b) else none | _, _ => none)
    | some (.array n el) =>
      match x, y with
      | [.arr u n1 v], [.arr u' n2 v'] =>
        match castV u' u n2 n1 v' with
        | some v' =>
          match P.underlying el, u, v, v' with
          | some (.int _), .int _, v, v' => bif isScal P el && Nat.beq n n1 then some (decide ((v : Vector Int n1) = v')) else none
          | some .bool, .bool, v, v' => bif isScal P el && Nat.beq n n1 then some (decide ((v : Vector Bool n1) = v')) else none
          | some .string, .str, v, v' => bif isScal P el && Nat.beq n n1 then some (decide ((v : Vector (List UInt8) n1) = v')) else none
          | _, _, _, _ => none
        | none => none
      | _, _ => none
    | some (.struct fs) =>
      bif !(P.stoodInHeld t) && fs.toList.all (fun f => !(f.name == "_")) then
        fs.toList.foldr (fun f acc =>
          match widT P f.type, acc with
          | some n, some b =>
            match cutL x f.offset n, cutL y f.offset n with
            | some (_, a, _), some (_, c, _) => (match eqTy P k f.type a c with | some q => some (q && b) | none => none)
            | _, _ => none
          | _, _ => none) (some true)
      else none
    | _ => none

/-- a slice made -/
def makeOp (P : Program) (T : TypeId) (x y : V) (h : Hm) (K : V → Hm → Option R) : Option R :=
  match x, y, P.underlying T with
  | .one (.i _ n), .one (.i _ m), some (.slice el) =>
    match codeT P depth el, elemOf P el with
    | some t, some (z, b) =>
      match zeroOf P el, cellsD t (dflt t) with
      | some cs, some c => bif Nat.beq z (wid t) && flat t && eqZs cs.toList c then
          need (n = m ∧ 0 ≤ n ∧ n * b ≤ 281474976710656) (K (.one (.own h.length)) (h ++ [.arr el t (List.replicate n.toNat (dflt t))])) else none
      | _, _ => none
    | _, _ => none
  | _, _, _ => none

/-! ### calls -/
def ptrsOf : List Nat → List V
  | [] => []
  | i :: l => .one (.ptr i 0) :: ptrsOf l
def opndS (e : Ev) : List Operand → List V
  | [] => []
  | x :: l => opnd e x :: opndS e l

def Vd.flat : Vd → Bool
  | .st t => Dor.flat t
  | x => x.ts.all Dor.flat
def Od.flat : Od → Bool
  | .arr _ t => Dor.flat t
  | .fix _ t => Dor.flat t
  | .gone => true
  | x => x.ts.all Dor.flat
def Ds.flat (d : Ds) : Bool := d.vals.all Vd.flat && d.objs.all Od.flat

/-- the objects behind a call: those that were lent at their numbers, new ones behind all -/
def asRd : Ob → Ob
  | .blk ty ls => .rd ty ls
  | .rd ty ls => .rd ty ls
  | _ => .gone
/-- what was lent: new content, or, where it was read alone, as it was (fl: nothing that is told lies in it) -/
def putOld (f : Nat → Nat) (fl : Bool) : Nat → List Od → Hm → Hm → Hm
  | j, .rd .. :: ps, _ :: os, h | j, .rdT .. :: ps, _ :: os, h => putOld f fl (j + 1) ps os (bif fl then h else h.modify (f j) asRd)
  | j, _ :: ps, o :: os, h => putOld f fl (j + 1) ps os (h.set (f j) o)
  | _, _, _, h => h
def putBack (f : Nat → Nat) (fl : Bool) (ps : List Od) (os : Hm) (h : Hm) : Hm := putOld f fl 0 ps os h ++ os.drop ps.length
def backN (k : List (Nat × Nat)) (n m : Nat) (j : Nat) : Nat := bif Nat.blt j n then (findN k j).getD 0 else m + (j - n)

def unone : V → L ⊕ List L
  | .one x => .inl x
  | .ag l => .inr l
  | _ => .inl .nf
def resV : List V → V
  | [v] => v
  | vs => .tup (vs.map unone)

def ownOkL (ps : Hm) : L → Bool
  | .own id => liveO ps[id]?
  | _ => true
def ownOkV (ps : Hm) : V → Bool
  | .one x => ownOkL ps x
  | .ag ls => ls.all (ownOkL ps)
  | _ => false
def ownOkO (ps : Hm) : Ob → Bool
  | .blk _ ls => ls.all (ownOkL ps)
  | .arr .. => true
  | .gone => true
  | _ => false
def odLive : Od → Bool
  | .blk .. | .blkT .. | .arr .. | .fix .. => true
  | _ => false
/-- an object that may not be written is not told -/
def goneOk : List Od → Hm → Bool
  | [], _ => true
  | p :: ps, o :: os => (odLive p || !liveO (some o)) && goneOk ps os
  | _ :: _, [] => false
def okBack (pre : List Od) (ps : Hm) (vs : List V) : Bool := goneOk pre ps && vs.all (ownOkV ps) && ps.all (ownOkO ps)

def enterE (en : Entry) (vs : List V) (h : Hm) (K : V → Hm → Option R) : Option R :=
  match takeDs h ⟨[], []⟩ en.pre vs with
  | some (l, k) =>
    match ofL en.pre.ts l with
    | some x => (en.fn x).bind fun y =>
        bif okBack en.pre.objs (givenO en.post id y) (givenV en.post id y).1 then
          K (resV (givenV en.post (backN k.r en.pre.objs.length h.length) y).1) (putBack (backN k.r en.pre.objs.length h.length) en.post.flat en.pre.objs (givenO en.post (backN k.r en.pre.objs.length h.length) y) (bif en.post.flat then h else freeze h k.fz))
        else none
    | none => none
  | none => none

/-- does a shape fit? -/
def fits (en : Entry) (vs : List V) (h : Hm) : Bool :=
  match takeDs h ⟨[], []⟩ en.pre vs with
  | some (l, _) => (ofL en.pre.ts l).isSome
  | none => false

def callF (oops : Nat → List V → Hm → Option Unit) (D : List (Nat × Entry)) (f : Nat) (vs : List V) (h : Hm) (K : V → Hm → Option R) : Option R :=
  match D with
  | [] => (oops f vs h).bind fun _ => none
  | (g, en) :: D => bif Nat.beq g f && fits en vs h then enterE en vs h K else callF oops D f vs h K

/-- functions without code -/
def extOp (kind : Nat) (vs : List V) (K : V → Option R) : Option R :=
  match kind, vs with
  | 0, [.one (.s a), .one (.i .u8 c)] => K (int1 .i64 (indexByteOf a c))
  | 1, [.one (.s a), .one (.i .u8 c)] => K (int1 .i64 (countByteOf a c))
  | 2, [.one (.f .f64 a)] => K (int1 .u64 (a : Int))
  | 3, [.one (.i .u64 a)] => K (.one (.f .f64 a.toNat))
  | _, _ => none

/-- a part of a slice of the call's own, cleared -/
def clearOp (P : Program) (T : TypeId) (x : V) (h : Hm) (K : V → Hm → Option R) : Option R :=
  match x with
  | .one (.vw id z lo) =>
    match h[id]?, P.underlying T with
    | some (.arr ty t xs), some (.slice el) =>
      match elemOf P el, zeroOf P el, cellsD t (dflt t) with
      | some (z', _), some cs, some c => bif Nat.beq z (wid t) && Nat.beq z' (wid t) && eqZs cs.toList c then K .u (h.set id (.arr ty t (xs.take lo.toNat ++ List.replicate (xs.length - lo.toNat) (dflt t)))) else none
      | _, _, _ => none
    | _, _ => none
  | _ => none

def callOp (X : Cx) (c : Call) (e : Ev) (h : Hm) (K : V → Hm → Option R) : Option R :=
  match c.callee with
  | .value f =>
    match opnd e f with
    | .one (.fn g ids) =>
      match findA X.ext g with
      | some kind => (match ids with | [] => extOp kind (opndS e c.args.toList) fun v => K v h | _ => none)
      | none => bif callable X.P g then callF X.oops X.D g (opndS e c.args.toList ++ ptrsOf ids) h K else none
    | _ => none
  | .builtin b =>
    match b, opndS e c.args.toList, c.argTypes.toList with
    | .len, [x], [T] => lenOp X.P T x h fun v => K v h
    | .append, [x, y], [T, U] => appendOp X.P T U x y h K
    | .copy, [x, y], [T, U] => copyOp X.P T U x y h K
    | .clear, [x], [T] => clearOp X.P T x h K
    | .max, [.one (.i k x), .one (.i k' y)], _ => if k = k' then K (int1 k (max x y)) h else none
    | .min, [.one (.i k x), .one (.i k' y)], _ => if k = k' then K (int1 k (min x y)) h else none
    | .max, [.one (.f k x), .one (.f k' y)], _ => if k = k' then (flMax k x y).bind fun z => K (.one (.f k z)) h else none
    | .min, [.one (.f k x), .one (.f k' y)], _ => if k = k' then (flMin k x y).bind fun z => K (.one (.f k z)) h else none
    | .max, [.one (.fx k x), b], _ =>
      match fltOf b with
      | some (k', y) => if k = k' then (flMax k x y).bind fun z => K (.one (.f k z)) h else none
      | none => none
    | _, _, _ => none
  | _ => none

/-- the head of a slice as an array -/
def toArrQ (P : Program) (T : TypeId) (x : V) (K : V → Option R) : Option R :=
  match P.underlying T, x with
  | some (.array n _), .one (.ro t xs) => bif Nat.blt 0 n then need (n ≤ xs.length) (K (.toA t n xs)) else none
  | _, _ => none
def toArrOp (P : Program) (T : TypeId) (x : V) (h : Hm) (K : V → Hm → Option R) : Option R :=
  match x with
  | .one (.own id) =>
    match h[id]?, P.underlying T with
    | some (.arr _ t xs), some (.array n _) => bif Nat.blt 0 n then need (n ≤ xs.length) (K (.toA t n xs) (freeze h [id])) else none
    | _, _ => none
  | x => toArrQ P T x fun v => K v h

def idsOf (e : Ev) : List Operand → Option (List Nat)
  | [] => some []
  | x :: l =>
    match opnd e x, idsOf e l with
    | .one (.ptr id 0), some r => some (id :: r)
    | _, _ => none

noncomputable def stepOp (X : Cx) (op : Op) (T : TypeId) (e : Ev) (h : Hm) (K : V → Hm → Option R) : Option R :=
  match op with
  | .move x | .assign x => nilOp X.P T (opnd e x) h K
  | .pick c x y =>
    match opnd e c with
    | .one (.b b) => bif b then nilOp X.P T (opnd e x) h K else nilOp X.P T (opnd e y) h K
    | _ => none
  | .extract t i =>
    match opnd e t with
    | .tup vs => (match vs[i]? with | some (.inl x) => K (.one x) h | some (.inr l) => K (.ag l) h | none => none)
    | _ => none
  | .makeFunc (.func f) first caps => (match first.toList, idsOf e caps.toList with | [], some ids => K (.one (.fn f ids)) h | _, _ => none)
  | .binOp op t x y _ =>
    match opnd e x, opnd e y with
    | .one (.i k a), .one (.i k' b) =>
      match op with
      | .shl | .shr => binI op k a b fun v => K v h
      | op => if k = k' then binI op k a b fun v => K v h else none
    | .one (.s a), .one (.s b) => binS op a b fun v => K v h
    | .one (.f k a), .one (.f k' b) => if k = k' then (bif (findA X.lp 999998).isSome && !isCmp op then binFx op k a b fun v => K v h else binFl op k a b fun v => K v h) else none
    | .one (.fx k a), b =>
      match fltOf b with
      | some (k', b) => if k = k' then (bif isCmp op then binFc op k a b fun v => K v h else binFx op k a b fun v => K v h) else none
      | none => none
    | .one (.f k a), .one (.fx k' b) => if k = k' then (bif isCmp op then binFc op k a b fun v => K v h else binFx op k a b fun v => K v h) else none
    | .one (.b a), .one (.b b) => (match X.P.underlying t with | some .bool => binB op a b fun v => K v h | _ => none)
    | .ag l, .ag m =>
      bif X.P.eqGuardType X.P.depth t || isScal X.P t then none else
        match eqTy X.P depth t l m, op with
        | some b, .eql => K (.one (.b b)) h
        | some b, .neq => K (.one (.b (!b))) h
        | _, _ => none
    | a, b =>
      bif isNil b then
        match op with
        | .eql => nilEq X.P t a h fun b => K (.one (.b b)) h
        | .neq => nilEq X.P t a h fun b => K (.one (.b (!b))) h
        | _ => none
      else bif isNp b then
        match op with
        | .eql => npEq X.P t a fun b => K (.one (.b b)) h
        | .neq => npEq X.P t a fun b => K (.one (.b (!b))) h
        | _ => none
      else none
  | .unOp u _ x =>
    match u, opnd e x with
    | .not, .one (.b b) => K (.one (.b (!b))) h
    | .neg, .one (.i k n) => K (int1 k (k.wrap (0 - n))) h
    | .xor, .one (.i k n) => K (int1 k (inot k n)) h
    | .neg, .one (.f k n) => K (.one (.f k (flNeg k n))) h
    | _, _ => none
  | .convert S U x => convOp X.P (findA X.lp 999999).isSome S U (opnd e x) h K
  | .index t x y => idxOp X.P t (opnd e x) (opnd e y) fun v => K v h
  | .slice t x lo hi mx => bif (findA X.lp 999997).isSome && isVw (opnd e x) lo hi mx then viewOp X.P t (opnd e x) lo hi e h K else sliceOp X.P t (opnd e x) lo hi mx e h K
  | .fieldAddr t x f => fieldOp X.P t (opnd e x) f h fun v => K v h
  | .indexAddr t x y => idxAddr X.P t (opnd e x) (opnd e y) h fun v => K v h
  | .load t x => loadOp X.P t (opnd e x) h K
  | .box t x => nilOp X.P t (opnd e x) h fun v h => (match leaves v with | some ls => K (.one (.ptr h.length 0)) (h ++ [.blk t ls]) | none => none)
  | .alloc t => (match zeroL X.P depth t h.length with | some (ls, hs) => bif zeroCk X.P t h.length ls hs then K (.one (.ptr (h ++ hs).length 0)) (h ++ hs ++ [.blk t (bldL (selfP X.P t) (h ++ hs).length ls)]) else none | none => none)
  | .store t p v => nilOp X.P t (opnd e v) h fun v h => storeOp X.P t (opnd e p) v h fun h => K .u h
  | .build t ps => buildOp X.P t ps.toList e h K
  | .buildSlice t n ps => buildSl X.P t n ps.toList e h K
  | .sliceToArrayPointer t x => toArrOp X.P t (opnd e x) h K
  | .nilCheck x => (match opnd e x with | .one (.ptr id off) => K (.one (.ptr id off)) h | _ => none)
  | .makeSlice t x y => makeOp X.P t (opnd e x) (opnd e y) h K
  | .call c => callOp X c e h K
  | _ => none

/-! ### code -/
inductive Want where
  | yes | no | ask (t : Nat) (x want : Bool) | bad

def wantV (ops : List Oper) (o : Oper) (e : Ev) : Want :=
  match o.guard with
  | none => .yes
  | some (g, want) =>
    match (ops[g]?).bind (·.dst) with
    | some t =>
      match getE e t with
      | .one (.b x) => .ask t x want
      | .sk => .no
      | _ => .bad
    | none => .bad

/-- operations one behind the other -/
noncomputable def runL (X : Cx) (ops : List Oper) : List Oper → Ev → Hm → (Ev → Hm → Option R) → Option R
  | [], e, h, K => K e h
  | o :: l, e, h, K =>
    match wantV ops o e with
    | .yes => stepOp X o.op o.type e h fun v h => runL X ops l (putE e o.dst v) h K
    | .no => runL X ops l (putE e o.dst .sk) h K
    | .ask t x want =>
      bif x then (bif want then stepOp X o.op o.type (putE e (some t) (.one (.b true))) h fun v h => runL X ops l (putE (putE e (some t) (.one (.b true))) o.dst v) h K
                  else runL X ops l (putE (putE e (some t) (.one (.b true))) o.dst .sk) h K)
      else (bif want then runL X ops l (putE (putE e (some t) (.one (.b false))) o.dst .sk) h K
            else stepOp X o.op o.type (putE e (some t) (.one (.b false))) h fun v h => runL X ops l (putE (putE e (some t) (.one (.b false))) o.dst v) h K)
    | .bad => none

/-- values that have no address in them -/
def detL : L → Bool
  | .i .. | .b _ | .s _ | .f .. | .nil | .np | .nf | .ni => true
  | .arr t _ _ => flat t
  | _ => false
def detV : V → Bool
  | .one (.arr ..) => false
  | .one x => detL x
  | .ag ls => ls.all detL
  | _ => false
/-- a call that changes nothing and tells data without slices -/
def enterQ (en : Entry) (vs : List V) (h : Hm) (K : V → Option R) : Option R :=
  match takeDs h ⟨[], []⟩ en.pre vs with
  | some (l, _) =>
    match ofL en.pre.ts l with
    | some x => bif en.pre.objs.all (fun o => !odLive o) then (en.fn x).bind fun y => bif (givenV en.post id y).1.all detV then K (resV (givenV en.post id y).1) else none else none
    | none => none
  | none => none
def callQ (oops : Nat → List V → Hm → Option Unit) (D : List (Nat × Entry)) (f : Nat) (vs : List V) (h : Hm) (K : V → Option R) : Option R :=
  match D with
  | [] => (oops f vs h).bind fun _ => none
  | (g, en) :: D => bif Nat.beq g f && fits en vs h then enterQ en vs h K else callQ oops D f vs h K

def notNil (v : V) (K : V → Option R) : Option R := bif isNil v then none else K v

/-- a struct that is built of parts, all of whose zeros are data -/
def buildQ (P : Program) (T : TypeId) (parts : List (Nat × Operand)) (e : Ev) (h : Hm) (K : V → Option R) : Option R :=
  match P.underlying T with
  | some (.struct _) =>
    match allLeaves e parts, placesOf P T, zeroL P depth T h.length with
    | some ps, some pl, some (ls, []) => bif zeroCk P T h.length ls [] && ls.all detL then (match fillL pl ps ls with | some ls => K (.ag ls) | none => none) else none
    | _, _, _ => none
  | _ => none

/-- an operation that leaves memory alone; fl: 3 a call that asks nothing of memory, 2 it does not look at it either, 1 it reads, 0 it may call -/
noncomputable def stepQ (X : Cx) (fl : Nat) (op : Op) (e : Ev) (h : Hm) (K : V → Option R) : Option R :=
  match op with
  | .move x | .assign x => notNil (opnd e x) K
  | .pick c x y =>
    match opnd e c with
    | .one (.b b) => bif b then notNil (opnd e x) K else notNil (opnd e y) K
    | _ => none
  | .extract t i =>
    match opnd e t with
    | .tup vs => (match vs[i]? with | some (.inl x) => K (.one x) | some (.inr l) => K (.ag l) | none => none)
    | _ => none
  | .makeFunc (.func f) first caps => (match first.toList, idsOf e caps.toList with | [], some ids => K (.one (.fn f ids)) | _, _ => none)
  | .binOp op t x y _ =>
    match opnd e x, opnd e y with
    | .one (.i k a), .one (.i k' b) =>
      match op with
      | .shl | .shr => binI op k a b K
      | op => if k = k' then binI op k a b K else none
    | .one (.s a), .one (.s b) => binS op a b K
    | .one (.f k a), .one (.f k' b) => if k = k' then (bif (findA X.lp 999998).isSome && !isCmp op then none else binFl op k a b K) else none
    | .one (.fx k a), b =>
      match fltOf b with
      | some (k', b) => if k = k' then binFc op k a b K else none
      | none => none
    | .one (.f k a), .one (.fx k' b) => if k = k' then binFc op k a b K else none
    | .one (.b a), .one (.b b) => (match X.P.underlying t with | some .bool => binB op a b K | _ => none)
    | .ag l, .ag m =>
      bif X.P.eqGuardType X.P.depth t || isScal X.P t then none else
        match eqTy X.P depth t l m, op with
        | some b, .eql => K (.one (.b b))
        | some b, .neq => K (.one (.b (!b)))
        | _, _ => none
    | _, _ => none
  | .unOp u _ x =>
    match u, opnd e x with
    | .not, .one (.b b) => K (.one (.b (!b)))
    | .neg, .one (.i k n) => K (int1 k (k.wrap (0 - n)))
    | .xor, .one (.i k n) => K (int1 k (inot k n))
    | .neg, .one (.f k n) => K (.one (.f k (flNeg k n)))
    | _, _ => none
  | .convert A B x =>
    match X.P.underlying A, X.P.underlying B, opnd e x with
    | some (.int _), some (.int k), .one (.i _ n) => K (int1 k (k.wrap n))
    | some .string, some .string, .one (.s l) => K (.one (.s l))
    | some (.int _), some (.float k), .one (.i _ n) => K (.one (.f k (flNear k n)))
    | some (.float _), some (.int q), .one (.f k n) => (flInt k n q).bind fun z => K (int1 q z)
    | some (.float _), some (.float k), .one (.f k' n) => if k' = k then K (.one (.f k' n)) else none
    | some (.float _), some (.float k), .one (.fx k' n) => if k' = k then K (.one (.fx k' n)) else none
    | some (.slice el), some .string, x =>
      match X.P.underlying el, readS h x with
      | some (.int .u8), some ⟨.int .u8, xs⟩ => bif Nat.ble fl 1 then K (.one (.s (bytesOf xs))) else none
      | _, _ => none
    | _, _, _ => none
  | .index t x y => idxOp X.P t (opnd e x) (opnd e y) K
  | .slice t x lo hi none => sliceP X.P t (opnd e x) lo hi e K
  | .fieldAddr t x f => fieldOp X.P t (opnd e x) f h K
  | .indexAddr t x y => idxAddr X.P t (opnd e x) (opnd e y) h K
  | .load t x => bif Nat.ble fl 1 then loadOp X.P t (opnd e x) h (fun v _ => K v) else none
  | .build t ps => buildQ X.P t ps.toList e h K
  | .sliceToArrayPointer t x => toArrQ X.P t (opnd e x) K
  | .nilCheck x => (match opnd e x with | .one (.ptr id off) => K (.one (.ptr id off)) | _ => none)
  | .call c =>
    match c.callee with
    | .value f =>
      match opnd e f with
      | .one (.fn g ids) =>
        match findA X.ext g with
        | some kind => (match ids with | [] => extOp kind (opndS e c.args.toList) K | _ => none)
        | none => bif callable X.P g then (bif Nat.beq fl 0 then callQ X.oops X.D g (opndS e c.args.toList ++ ptrsOf ids) h K else bif Nat.beq fl 3 && (opndS e c.args.toList ++ ptrsOf ids).all detV then callQ X.oops X.D g (opndS e c.args.toList ++ ptrsOf ids) [] K else none) else none
      | _ => none
    | .builtin b =>
      match b, c.args.toList, c.argTypes.toList with
      | .len, [x], [T] => lenOp X.P T (opnd e x) h K
      | .max, [x, y], _ => (match opnd e x, opnd e y with | .one (.i k a), .one (.i k' b) => if k = k' then K (int1 k (max a b)) else none | _, _ => none)
      | .min, [x, y], _ => (match opnd e x, opnd e y with | .one (.i k a), .one (.i k' b) => if k = k' then K (int1 k (min a b)) else none | _, _ => none)
      | _, _, _ => none
    | _ => none
  | _ => none

noncomputable def runH (X : Cx) (ops : List Oper) : List (Oper × Nat) → Ev → Hm → (Ev → Option R) → Option R
  | [], e, _, K => K e
  | (o, fl) :: l, e, h, K =>
    match wantV ops o e with
    | .yes => stepQ X fl o.op e h fun v => runH X ops l (putE e o.dst v) h K
    | .no => runH X ops l (putE e o.dst .sk) h K
    | .ask t x want =>
      bif x then (bif want then stepQ X fl o.op (putE e (some t) (.one (.b true))) h fun v => runH X ops l (putE (putE e (some t) (.one (.b true))) o.dst v) h K
                  else runH X ops l (putE (putE e (some t) (.one (.b true))) o.dst .sk) h K)
      else (bif want then runH X ops l (putE (putE e (some t) (.one (.b false))) o.dst .sk) h K
            else stepQ X fl o.op (putE e (some t) (.one (.b false))) h fun v => runH X ops l (putE (putE e (some t) (.one (.b false))) o.dst v) h K)
    | .bad => none

def dstOk (n : Nat) (o : Oper) : Bool :=
  match o.dst with
  | some d => Nat.blt d n
  | none => true

/-! a tail beside heads: it runs over what it may write alone -/
def memN : List Nat → Nat → Bool
  | [], _ => false
  | a :: l, i => bif Nat.beq a i then true else memN l i
/-- of a state's objects those alone that may be written -/
def lockH (xs : List Nat) : Nat → Hm → Hm
  | _, [] => []
  | i, o :: h => (bif memN xs i then o else .gone) :: lockH xs (i + 1) h
def dropH (xs : List Nat) : Nat → Hm → Hm
  | _, [] => []
  | i, o :: h => (bif memN xs i then .gone else o) :: dropH xs (i + 1) h
def unlockH (xs : List Nat) : Nat → Hm → Hm → Hm
  | _, [], h' => h'
  | _, h, [] => h
  | i, o :: h, o' :: h' => (bif memN xs i then o' else o) :: unlockH xs (i + 1) h h'
def okL (bad : Nat → Bool) : L → Bool
  | .own id => !bad id
  | _ => true
def okV (bad : Nat → Bool) : V → Bool
  | .one x => okL bad x
  | .ag ls => ls.all (okL bad)
  | .tup vs => vs.all fun x => match x with | .inl x => okL bad x | .inr ls => ls.all (okL bad)
  | .epO id _ _ _ => !bad id
  | _ => true
def okO (bad : Nat → Bool) : Ob → Bool
  | .blk _ ls => ls.all (okL bad)
  | .rd _ ls => ls.all (okL bad)
  | .fix .. => false
  | _ => true
def ptrIds (e : Ev) : List Nat → Option (List Nat)
  | [] => some []
  | s :: l =>
    match getE e s, ptrIds e l with
    | .one (.ptr id _), some r => some (id :: r)
    | _, _ => none
def slotsOf (ops : List Oper) : List Oper → List Nat
  | [] => []
  | o :: l => (match o.dst with | some d => [d] | none => []) ++ (match o.guard with | some (g, _) => (match (ops[g]?).bind (·.dst) with | some t => [t] | none => []) | none => []) ++ slotsOf ops l
def mergeE (e e2 : Ev) : List Nat → Ev
  | [] => e
  | d :: l => (d, getE e2 d) :: mergeE e e2 l
def takeF : List (Nat × Bool) → List (Nat × Bool)
  | (i, true) :: l => (i, true) :: takeF l
  | _ => []
def dropF : List (Nat × Bool) → List (Nat × Bool)
  | (_, true) :: l => dropF l
  | l => l
/-- what stands still while the tail runs, and lies not in it -/
def stillB (xs : List Nat) (h : Hm) (id : Nat) : Bool := Nat.blt id h.length && !memN xs id

def allA {α : Type} : List (Nat × α) → Nat → List α
  | [], _ => []
  | (a, b) :: l, i => bif Nat.beq a i then b :: allA l i else allA l i

/-- one of two orders: both must come to the same -/
noncomputable def runTr (X : Cx) (ops : List Oper) : Tr → Ev → Hm → (Ev → Hm → Option R) → Option R
  | .done, e, h, K => K e h
  | .step i _ l, e, h, K =>
    match ops[i]? with
    | some o =>
      match wantV ops o e with
      | .yes => stepOp X o.op o.type e h fun v h => runTr X ops l (putE e o.dst v) h K
      | .no => runTr X ops l (putE e o.dst .sk) h K
      | .ask t x want =>
        bif x then (bif want then stepOp X o.op o.type (putE e (some t) (.one (.b true))) h fun v h => runTr X ops l (putE (putE e (some t) (.one (.b true))) o.dst v) h K
                    else runTr X ops l (putE (putE e (some t) (.one (.b true))) o.dst .sk) h K)
        else (bif want then runTr X ops l (putE (putE e (some t) (.one (.b false))) o.dst .sk) h K
              else stepOp X o.op o.type (putE e (some t) (.one (.b false))) h fun v h => runTr X ops l (putE (putE e (some t) (.one (.b false))) o.dst v) h K)
      | .bad => none
    | none => none
  | .alt a b, e, h, K => bothC (runTr X ops a e h K) (runTr X ops b e h K)
def opsTr (ops : List Oper) : Tr → List Oper
  | .done => []
  | .step i _ t => (match ops[i]? with | some o => [o] | none => []) ++ opsTr ops t
  | .alt a b => opsTr ops a ++ opsTr ops b
def Tr.allF : Tr → Bool
  | .done => true
  | .step _ fl t => fl && t.allF
  | .alt a b => a.allF && b.allF

/-- phase behind phase: heads in whatever order, then a tail -/
noncomputable def runPh (X : Cx) (ops : List Oper) : List (List (Nat × Nat) × List (Nat × Bool) × List Nat × Tr) → Ev → Hm → (Ev → Hm → Option R) → Option R
  | [], e, h, K => K e h
  | (H, Tl, XS, .done) :: l, e, h, K =>
    bif Tl.all (fun t => !t.2) then runH X ops (picks ops H) e h fun e => runL X ops ((picks ops Tl).map (·.1)) e h fun e h => runPh X ops l e h K
    else
      match ptrIds e XS with
      | some xs =>
        bif (dropF Tl).all (fun t => !t.2) then
          runH X ops (picks ops H) e (dropH xs 0 h) fun e1 =>
            bif (slotsOf ops ((picks ops H).map (·.1))).all (fun d => okV (memN xs) (getE e1 d)) then
              runL X ops ((picks ops (takeF Tl)).map (·.1)) (mergeE e e1 (slotsOf ops ((picks ops H).map (·.1)))) (lockH xs 0 h) fun e2 h2 =>
                bif (slotsOf ops ((picks ops (takeF Tl)).map (·.1))).all (fun d => okV (stillB xs h) (getE e2 d)) && h2.all (okO (stillB xs h)) then
                  runL X ops ((picks ops (dropF Tl)).map (·.1)) (mergeE (mergeE e e1 (slotsOf ops ((picks ops H).map (·.1)))) e2 (slotsOf ops ((picks ops (takeF Tl)).map (·.1)))) (unlockH xs 0 h h2) fun e h => runPh X ops l e h K
                else none
            else none
        else none
      | none => none
  | (H, _, XS, A) :: l, e, h, K =>
    match ptrIds e XS with
    | some xs =>
      bif A.allF then
        runH X ops (picks ops H) e (dropH xs 0 h) fun e1 =>
          bif (slotsOf ops ((picks ops H).map (·.1))).all (fun d => okV (memN xs) (getE e1 d)) then
            runTr X ops A (mergeE e e1 (slotsOf ops ((picks ops H).map (·.1)))) (lockH xs 0 h) fun e2 h2 =>
              bif (slotsOf ops (opsTr ops A)).all (fun d => okV (stillB xs h) (getE e2 d)) && h2.all (okO (stillB xs h)) then
                runPh X ops l (mergeE (mergeE e e1 (slotsOf ops ((picks ops H).map (·.1)))) e2 (slotsOf ops (opsTr ops A))) (unlockH xs 0 h h2) K
              else none
          else none
      else none
    | none => none

def treeOf (q : List (Nat × Nat) × List (Nat × Bool) × List Nat × Tr) : Tr :=
  match q.2.2.2 with
  | .done => chainT q.2.1
  | A => A

noncomputable def runRg (X : Cx) (id : Nat) (ops : List Oper) (draw : Bool) (e : Ev) (h : Hm) (K : Ev → Hm → Option R) : Option R :=
  bif ops.all (dstOk X.nt) then
    bif draw then
      bif okRegion ops ((allA X.dr id).map fun q => (q.1, treeOf q)) then runPh X ops (allA X.dr id) e h K else none
    else runL X ops ops e h K
  else none

def headId : Code → Option Nat
  | .region id _ _ => some id
  | .seq a _ => headId a
  | .block _ a => headId a
  | .loop a => headId a
  | .scope a => headId a
  | _ => none

structure KK (R : Type) where
  normal : Ev → Hm → Option R
  exit : Nat → Ev → Hm → Option R
  ret : Ev → Hm → Option R

def atA {α : Type} (l : List (Nat × α)) : Option Nat → Option α
  | some i => findA l i
  | none => none

noncomputable def exec (X : Cx) (k : Nat) : Code → KK R → Ev → Hm → Option R
  | .skip, K, e, h => K.normal e h
  | .ret, K, e, h => K.ret e h
  | .exit i, K, e, h => K.exit i e h
  | .scope c, K, e, h => exec X k c K e h
  | .label _, K, e, h => K.normal e h
  | .seq a b, K, e, h =>
    match atA X.jn (headId b) with
    | some d => joinC (resume d (exec X k b K)) fun j => exec X k a { K with normal := arrive X d j } e h
    | none => exec X k a { K with normal := exec X k b K } e h
  | .cond c a b, K, e, h =>
    match opnd e c with
    | .one (.b x) => bif x then exec X k a K e h else exec X k b K e h
    | _ => none
  | .block i c, K, e, h => exec X k c { K with exit := fun j e h => bif Nat.beq j i then K.normal e h else K.exit j e h } e h
  | .region id ops draw, K, e, h =>
    match findA X.rj id with
    | some d => joinC (resume d K.normal) fun j => runRg X id ops.toList draw e h (arrive X d j)
    | none => runRg X id ops.toList draw e h K.normal
  | .loop c, K, e, h =>
    match atA X.lp (headId c) with
    | some d => arrive X d (loopC (fun rec => resume d (exec X k c { K with normal := arrive X d rec })) k) e h
    | none => none
  | _, _, _, _ => none

def resOne (P : Program) (e : Ev) (h : Hm) : ResultVar → (V → Option R) → Option R
  | .tmp t, K => K (getE e t)
  | .cell t ty, K => loadOp P ty (getE e t) h fun v _ => K v
def resAll (P : Program) (e : Ev) (h : Hm) : List ResultVar → (List V → Option R) → Option R
  | [], K => K []
  | x :: l, K => resOne P e h x fun v => resAll P e h l fun vs => K (v :: vs)

def leave (X : Cx) (rs : List ResultVar) (post : Ds) (e : Ev) (h : Hm) : Option (HL post.ts) :=
  resAll X.P e h rs fun vs =>
  match takeDs (renewAll (goneN 0 X.keep post.objs) vs h).2 ⟨keepN X.keep, []⟩ post (renewAll (goneN 0 X.keep post.objs) vs h).1 with
  | some (l, _) => ofL post.ts l
  | none => none

def natsTo : Nat → Nat → List Nat
  | _, 0 => []
  | i, n + 1 => i :: natsTo (i + 1) n

/-- what a function comes to -/
noncomputable def runF (X : Cx) (k : Nat) (fn : Func) (pre post : Ds) (x : HL pre.ts) : Option (HL post.ts) :=
  match fn.body with
  | some c => bif Nat.beq X.keep pre.objs.length && Nat.ble pre.vals.length fn.ntmps && Nat.beq X.nt fn.ntmps && Nat.ble pre.objs.length post.objs.length then
      resume ⟨natsTo 0 pre.vals.length, pre⟩ (exec X k c ⟨leave X fn.results.toList post, fun _ _ _ => none, leave X fn.results.toList post⟩) x
    else none
  | none => none

end
end Go.Dor
end

section
/- NUMBERS: what the bit operations of unsigned kinds come to, as natural numbers. Plain lemmas, no program. -/
namespace Go.Dor

theorem wrap_u8 (n : Int) : IntKind.wrap .u8 n = n % 256 := rfl
theorem wrap_u64 (n : Int) : IntKind.wrap .u64 n = n % 18446744073709551616 := rfl
theorem wrap_i64 {n : Int} (h : -9223372036854775808 ≤ n ∧ n < 9223372036854775808) : IntKind.wrap .i64 n = n := by
  unfold IntKind.wrap
  have e1 : (2 : Int) ^ IntKind.bits .i64 = 18446744073709551616 := rfl
  have e2 : (2 : Int) ^ (IntKind.bits .i64 - 1) = 9223372036854775808 := rfl
  have e3 : IntKind.signed .i64 = true := rfl
  simp only [e1, e2, e3, Bool.true_and, decide_eq_true_eq]
  split <;> omega

section
variable {k : IntKind} {a b : Nat}
theorem bits_nat (f : ∀ {n : Nat}, BitVec n → BitVec n → BitVec n) (hk : k.signed = false) : ibits f k (a : Int) (b : Int) = ((f (BitVec.ofNat k.bits a) (BitVec.ofNat k.bits b)).toNat : Int) := by
  unfold ibits IntKind.wrap
  simp only [hk, Bool.false_and, Bool.false_eq_true, if_false]
  have h := (f (BitVec.ofInt k.bits (a : Int)) (BitVec.ofInt k.bits (b : Int))).isLt
  rw [BitVec.ofInt_natCast, BitVec.ofInt_natCast] at h ⊢
  have e : ((2 : Int) ^ k.bits) = ((2 ^ k.bits : Nat) : Int) := by simp
  rw [e, ← Int.natCast_emod, Nat.mod_eq_of_lt h]
theorem or_nat (hk : k.signed = false) (ha : a < 2 ^ k.bits) (hb : b < 2 ^ k.bits) : ior k (a : Int) (b : Int) = ((a ||| b : Nat) : Int) := by
  unfold ior
  rw [bits_nat _ hk, BitVec.toNat_or, BitVec.toNat_ofNat, BitVec.toNat_ofNat, Nat.mod_eq_of_lt ha, Nat.mod_eq_of_lt hb]
end

theorem shr_nat {k : IntKind} {a n : Nat} (hn : n ≤ k.bits) : ishr k (a : Int) (n : Int) = ((a / 2 ^ n : Nat) : Int) := by
  unfold ishr
  rw [Int.toNat_natCast, Nat.min_eq_left hn]
  have e : ((2 : Int) ^ n) = ((2 ^ n : Nat) : Int) := by simp
  rw [e, Int.fdiv_eq_ediv_of_nonneg _ (Int.natCast_nonneg _)]
  rfl
theorem shl_nat {k : IntKind} {a n : Nat} (hk : k.signed = false) (hn : n ≤ k.bits) : ishl k (a : Int) (n : Int) = ((a * 2 ^ n % 2 ^ k.bits : Nat) : Int) := by
  unfold ishl IntKind.wrap
  rw [Int.toNat_natCast, Nat.min_eq_left hn]
  simp only [hk, Bool.false_and, Bool.false_eq_true, if_false]
  have e : ((2 : Int) ^ n) = ((2 ^ n : Nat) : Int) := by simp
  have e2 : ((2 : Int) ^ k.bits) = ((2 ^ k.bits : Nat) : Int) := by simp
  rw [e, e2, ← Int.natCast_mul, ← Int.natCast_emod]

theorem or_add {a b n : Nat} (hb : b < 2 ^ n) : a * 2 ^ n ||| b = a * 2 ^ n + b := by
  have := Nat.two_pow_add_eq_or_of_lt hb a
  rw [Nat.mul_comm a, this]
end Go.Dor
namespace Go.Dor
/-- a loop that goes n rounds -/
theorem loop_count {α β : Type} {body : (α → Option β) → α → Option β} {res : Option β} : ∀ (n k : Nat) (s : Nat → α), n < k → (∀ i, i < n → ∀ rec, body rec (s i) = rec (s (i + 1))) → (∀ rec, body rec (s n) = res) → loopC body k (s 0) = res
  | 0, k + 1, s, _, _, hl => hl _
  | n + 1, k + 1, s, hk, hs, hl => by
    show body (loopC body k) (s 0) = res
    rw [hs 0 (by omega)]
    exact loop_count n k (fun i => s (i + 1)) (by omega) (fun i hi rec => hs (i + 1) (by omega) rec) hl
end Go.Dor
end

section
/- PAIRS THAT RISE BY THEIR KEYS: a pair put in, rows of pairs sorted by putting in. Plain Lean, no program. -/
set_option linter.unusedVariables false
set_option linter.unusedSimpArgs false
namespace Go.Dor.Fd
open Go.Dor
theorem need_yesF {α : Type} {c : Prop} [Decidable c] {x : Option α} (h : c) : need c x = x := if_pos h
theorem bothC_same {R : Type} (a : Option R) : bothC a a = a := if_pos rfl
theorem at_getF {α : Type} {d : α} {l : List α} {i : Nat} (h : i < l.length) : at_ d l (i : Int) = l[i] := by simp [at_, h]
theorem loopC_s {α R : Type} (F : (α → Option R) → α → Option R) (n : Nat) (y : α) : loopC F (n + 1) y = F (loopC F n) y := rfl
abbrev Ky := Vector Int 32
abbrev P := Ky × List UInt8
def lexB : List Int → List Int → Bool
  | _, [] => false
  | [], _ :: _ => true
  | a :: x, b :: y => decide (a < b) || (decide (a = b) && lexB x y)
theorem lexB_irrefl : ∀ x, lexB x x = false
  | [] => rfl
  | a :: x => by simp [lexB, lexB_irrefl x]
theorem lexB_cons {a b : Int} {x y : List Int} : lexB (a :: x) (b :: y) = true ↔ a < b ∨ (a = b ∧ lexB x y = true) := by simp [lexB]
theorem lexB_trans : ∀ {x y z : List Int}, lexB x y = true → lexB y z = true → lexB x z = true
  | [], [], _, h, _ => by simp [lexB] at h
  | _ :: _, [], _, h, _ => by simp [lexB] at h
  | _, _ :: _, [], _, h => by simp [lexB] at h
  | [], _ :: _, _ :: _, _, _ => rfl
  | a :: x, b :: y, c :: z, h1, h2 => by
    rw [lexB_cons] at h1 h2 ⊢
    rcases h1 with h1 | ⟨rfl, h1⟩
    · rcases h2 with h2 | ⟨rfl, _⟩
      · exact .inl (by omega)
      · exact .inl h1
    · rcases h2 with h2 | ⟨rfl, h2⟩
      · exact .inl h2
      · exact .inr ⟨rfl, lexB_trans h1 h2⟩
theorem lexB_total : ∀ {x y : List Int}, lexB x y = false → lexB y x = false → x = y
  | [], [], _, _ => rfl
  | [], _ :: _, h, _ => by simp [lexB] at h
  | _ :: _, [], _, h => by simp [lexB] at h
  | a :: x, b :: y, h1, h2 => by
    simp only [lexB, Bool.or_eq_false_iff, Bool.and_eq_false_iff, decide_eq_false_iff_not] at h1 h2
    have e : a = b := by omega
    subst e
    have h3 : lexB x y = false := h1.2.resolve_left fun q => q rfl
    have h4 : lexB y x = false := h2.2.resolve_left fun q => q rfl
    rw [lexB_total h3 h4]
def cmpL : List Int → List Int → Int
  | [], [] => 0
  | [], _ :: _ => -1
  | _ :: _, [] => 1
  | a :: x, b :: y => if a < b then -1 else if a > b then 1 else cmpL x y
theorem cmpL_lex : ∀ x y, decide (cmpL x y < 0) = lexB x y
  | [], [] => rfl
  | [], _ :: _ => rfl
  | _ :: _, [] => rfl
  | a :: x, b :: y => by
    unfold cmpL lexB
    by_cases h : a < b
    · simp [h]
    · by_cases h2 : a > b
      · have : ¬ a = b := by omega
        simp [h, h2, this]
      · have : a = b := by omega
        subst this
        simp [cmpL_lex x y]
def cmpN (a b : Int) : Int := if a < b then -1 else if a > b then 1 else 0
theorem cmpL_self : ∀ x, cmpL x x = 0
  | [] => rfl
  | a :: x => by simp [cmpL, cmpL_self x]
theorem cmpL_zero : ∀ {x y : List Int}, cmpL x y = 0 → x = y
  | [], [], _ => rfl
  | [], _ :: _, h => by simp [cmpL] at h
  | _ :: _, [], h => by simp [cmpL] at h
  | a :: x, b :: y, h => by
    unfold cmpL at h
    by_cases h1 : a < b
    · simp [h1] at h
    · by_cases h2 : a > b
      · simp [h1, h2] at h
      · simp only [h1, h2, if_false] at h
        have e : a = b := by omega
        rw [e, cmpL_zero h]
/-- is a key ahead of another one? -/
def klt (a b : Ky) : Bool := lexB a.toList b.toList
def kcmp (a b : Ky) : Int := cmpL a.toList b.toList
theorem kcmp_lt (a b : Ky) : decide (kcmp a b < 0) = klt a b := cmpL_lex _ _
theorem kcmp_eq {a b : Ky} : kcmp a b = 0 ↔ a = b :=
  ⟨fun h => Vector.toArray_inj.1 (Array.toList_inj.1 (cmpL_zero h)), fun h => by subst h; exact cmpL_self _⟩
theorem klt_irr (a : Ky) : klt a a = false := lexB_irrefl _
theorem klt_trans {a b c : Ky} (h1 : klt a b = true) (h2 : klt b c = true) : klt a c = true := lexB_trans h1 h2
theorem klt_total {a b : Ky} (h1 : klt a b = false) (h2 : klt b a = false) : a = b := Vector.toArray_inj.1 (Array.toList_inj.1 (lexB_total h1 h2))
/-- a pair put in: ahead of the first pair that is not ahead of it, in the place of one with its key -/
def putP : List P → P → List P
  | [], x => [x]
  | y :: l, x => if klt y.1 x.1 = true then y :: putP l x else if y.1 = x.1 then x :: l else x :: y :: l
/-- how many are ahead of a key -/
def cnt (l : List P) (k : Ky) : Nat := (l.takeWhile fun y => klt y.1 k).length
def has (l : List P) (k : Ky) : Bool := decide ((l[cnt l k]?).map Prod.fst = some k)
theorem cnt_le (l : List P) (k : Ky) : cnt l k ≤ l.length := by
  unfold cnt
  exact (List.takeWhile_prefix _).length_le
theorem cnt_pos {l : List P} {y : P} {k : Ky} (hy : klt y.1 k = true) : cnt (y :: l) k = cnt l k + 1 := by simp [cnt, List.takeWhile_cons, hy]
theorem cnt_neg {l : List P} {y : P} {k : Ky} (hy : ¬ klt y.1 k = true) : cnt (y :: l) k = 0 := by simp [cnt, List.takeWhile_cons, hy]
theorem cnt_lt {l : List P} {k : Ky} {i : Nat} (h : i < cnt l k) (hi : i < l.length) : klt l[i].1 k = true := by
  induction l generalizing i with
  | nil => simp at hi
  | cons y l ih =>
    by_cases hy : klt y.1 k = true
    · rw [cnt_pos hy] at h
      cases i with
      | zero => exact hy
      | succ i => exact ih (i := i) (by omega) (by simpa using hi)
    · rw [cnt_neg hy] at h
      omega
theorem cnt_at {l : List P} {k : Ky} (h : cnt l k < l.length) : klt l[cnt l k].1 k = false := by
  induction l with
  | nil => simp at h
  | cons y l ih =>
    by_cases hy : klt y.1 k = true
    · have e : cnt (y :: l) k = cnt l k + 1 := cnt_pos hy
      have h' : cnt l k < l.length := by rw [e] at h; simpa using h
      have := ih h'
      simp only [e, List.getElem_cons_succ]
      exact this
    · have e : cnt (y :: l) k = 0 := cnt_neg hy
      simp only [e, List.getElem_cons_zero]
      cases q : klt y.1 k
      · rfl
      · exact absurd q hy
theorem putP_eq : ∀ (l : List P) (x : P), putP l x = l.take (cnt l x.1) ++ x :: l.drop (cnt l x.1 + (if has l x.1 = true then 1 else 0))
  | [], x => by simp [putP, cnt]
  | y :: l, x => by
    unfold putP
    by_cases hy : klt y.1 x.1 = true
    · have e : cnt (y :: l) x.1 = cnt l x.1 + 1 := cnt_pos hy
      have e2 : has (y :: l) x.1 = has l x.1 := by unfold has; rw [e]; simp
      rw [if_pos hy, putP_eq l x, e, e2, List.take_succ_cons, List.cons_append]
      have : cnt l x.1 + 1 + (if has l x.1 = true then 1 else 0) = cnt l x.1 + (if has l x.1 = true then 1 else 0) + 1 := by omega
      rw [this, List.drop_succ_cons]
    · have e : cnt (y :: l) x.1 = 0 := cnt_neg hy
      have e2 : has (y :: l) x.1 = decide (y.1 = x.1) := by unfold has; rw [e]; simp
      rw [if_neg hy, e, e2]
      by_cases he : y.1 = x.1
      · rw [if_pos he, decide_eq_true he]; simp
      · rw [if_neg he, decide_eq_false he]; simp
theorem putP_len (l : List P) (x : P) : (putP l x).length ≤ l.length + 1 := by
  induction l with
  | nil => simp [putP]
  | cons y l ih =>
    unfold putP
    split
    · simp only [List.length_cons]; omega
    · split <;> simp
/-- pairs that rise -/
def Ris (l : List P) : Prop := l.Pairwise fun a b => klt a.1 b.1 = true
theorem putP_mem {l : List P} {x y : P} (h : y ∈ putP l x) : y = x ∨ y ∈ l := by
  induction l with
  | nil => simp [putP] at h; exact .inl h
  | cons z l ih =>
    unfold putP at h
    split at h
    · rcases List.mem_cons.1 h with h | h
      · exact .inr (h ▸ List.mem_cons_self)
      · rcases ih h with h | h
        · exact .inl h
        · exact .inr (List.mem_cons_of_mem _ h)
    · split at h
      · rcases List.mem_cons.1 h with h | h
        · exact .inl h
        · exact .inr (List.mem_cons_of_mem _ h)
      · rcases List.mem_cons.1 h with h | h
        · exact .inl h
        · exact .inr h
theorem putP_ris {l : List P} {x : P} (h : Ris l) : Ris (putP l x) := by
  induction l with
  | nil => simp [putP, Ris]
  | cons z l ih =>
    have hc := List.pairwise_cons.1 h
    unfold putP
    split
    · next hz =>
      refine List.pairwise_cons.2 ⟨fun a ha => ?_, ih hc.2⟩
      rcases putP_mem ha with e | ha
      · rw [e]; exact hz
      · exact hc.1 a ha
    · next hz =>
      split
      · next he => exact List.pairwise_cons.2 ⟨fun a ha => he ▸ hc.1 a ha, hc.2⟩
      · next he =>
        have hx : klt x.1 z.1 = true := by
          cases q : klt x.1 z.1
          · exact absurd (klt_total (by simpa using hz) q) he
          · rfl
        refine List.pairwise_cons.2 ⟨fun a ha => ?_, h⟩
        rcases List.mem_cons.1 ha with e | ha
        · rw [e]; exact hx
        · exact klt_trans hx (hc.1 a ha)
/-- pairs put in one by one -/
def sortP (l : List P) : List P := l.foldl putP []
theorem foldP_ris (l : List P) : ∀ s, Ris s → Ris (l.foldl putP s) := by
  induction l with
  | nil => exact fun s h => h
  | cons x l ih => exact fun s h => ih _ (putP_ris h)
theorem foldP_len (l : List P) : ∀ s, (l.foldl putP s).length ≤ s.length + l.length := by
  induction l with
  | nil => simp
  | cons x l ih =>
    intro s
    have := ih (putP s x)
    have h2 := putP_len s x
    simp only [List.foldl_cons, List.length_cons]; omega
theorem sortP_len (l : List P) : (sortP l).length ≤ l.length := by simpa [sortP] using foldP_len l []
theorem putP_last {l : List P} {x : P} (h : ∀ y ∈ l, klt y.1 x.1 = true) : putP l x = l ++ [x] := by
  induction l with
  | nil => rfl
  | cons y l ih =>
    unfold putP
    rw [if_pos (h y List.mem_cons_self), ih fun z hz => h z (List.mem_cons_of_mem _ hz)]; rfl
theorem foldP_append (l : List P) : ∀ s, Ris (s ++ l) → l.foldl putP s = s ++ l := by
  induction l with
  | nil => simp
  | cons x l ih =>
    intro s h
    have hp := List.pairwise_append.1 h
    have e := putP_last (l := s) (x := x) fun y hy => hp.2.2 y hy x List.mem_cons_self
    rw [List.foldl_cons, e, ih _ (by rw [List.append_assoc]; exact h), List.append_assoc]; rfl
theorem sortP_id {l : List P} (h : Ris l) : sortP l = l := by
  have := foldP_append l [] h
  exact this
theorem sortP_snoc (l : List P) (x : P) : sortP (l ++ [x]) = putP (sortP l) x := by
  unfold sortP
  rw [List.foldl_append]; rfl
/-- in pairs that rise: behind the place, all keys are greater -/
theorem ris_ge {l : List P} (h : Ris l) {k : Ky} {i : Nat} (hi : i < l.length) (hc : cnt l k ≤ i) : klt l[i].1 k = false := by
  have h1 := cnt_at (l := l) (k := k) (by omega)
  by_cases e : cnt l k = i
  · subst e; exact h1
  · have h2 := List.pairwise_iff_getElem.1 h (cnt l k) i (by omega) hi (by omega)
    cases q : klt l[i].1 k
    · rfl
    · rw [klt_trans h2 q] at h1; cases h1
theorem ris_iff {l : List P} (h : Ris l) {k : Ky} {i : Nat} (hi : i < l.length) : klt l[i].1 k = decide (i < cnt l k) := by
  by_cases hc : i < cnt l k
  · rw [decide_eq_true hc]; exact cnt_lt hc hi
  · rw [decide_eq_false hc]; exact ris_ge h hi (by omega)
/-- found by looking at one by one -/
def findP (l : List P) (k : Ky) : Option (List UInt8) := (l.find? fun y => decide (y.1 = k)).map Prod.snd
end Go.Dor.Fd
end

section
/- WHAT THE ABSTRACT MACHINE'S VALUES STAND FOR IN MEMORY; how that is kept. Plain lemmas over any program. -/
namespace Go.Dor
open Go.RowKit (Below)

def Al2 {α β : Type} (R : α → β → Prop) : List α → List β → Prop
  | [], [] => True
  | x :: xs, y :: ys => R x y ∧ Al2 R xs ys
  | _, _ => False

section
variable {α β : Type} {R R' : α → β → Prop}
theorem Al2.mono (h : ∀ x y, R x y → R' x y) : ∀ {xs : List α} {ys : List β}, Al2 R xs ys → Al2 R' xs ys
  | [], [], _ => trivial
  | _ :: _, _ :: _, ⟨a, b⟩ => ⟨h _ _ a, Al2.mono h b⟩
theorem Al2.length : ∀ {xs : List α} {ys : List β}, Al2 R xs ys → xs.length = ys.length
  | [], [], _ => rfl
  | _ :: _, _ :: _, ⟨_, b⟩ => congrArg (· + 1) (Al2.length b)
theorem Al2.append : ∀ {xs xs' : List α} {ys ys' : List β}, Al2 R xs ys → Al2 R xs' ys' → Al2 R (xs ++ xs') (ys ++ ys')
  | [], _, [], _, _, h => h
  | _ :: _, _, _ :: _, _, ⟨a, b⟩, h => ⟨a, Al2.append b h⟩
theorem Al2.split : ∀ {xs xs' : List α} {zs : List β}, Al2 R (xs ++ xs') zs → ∃ ys ys', zs = ys ++ ys' ∧ Al2 R xs ys ∧ Al2 R xs' ys'
  | [], _, zs, h => ⟨[], zs, rfl, trivial, h⟩
  | x :: xs, xs', z :: zs, ⟨a, b⟩ => by
    obtain ⟨ys, ys', rfl, h1, h2⟩ := Al2.split b
    exact ⟨z :: ys, ys', rfl, ⟨a, h1⟩, h2⟩
theorem Al2.get : ∀ {xs : List α} {ys : List β}, Al2 R xs ys → ∀ {i : Nat} {x : α}, xs[i]? = some x → ∃ y, ys[i]? = some y ∧ R x y
  | x :: xs, y :: ys, ⟨a, _⟩, 0, _, h => by simp at h; subst h; exact ⟨y, rfl, a⟩
  | x :: xs, y :: ys, ⟨_, b⟩, i + 1, _, h => by simp at h; exact Al2.get b (by simpa using h)
theorem Al2.take : ∀ {xs : List α} {ys : List β}, Al2 R xs ys → ∀ n, Al2 R (xs.take n) (ys.take n)
  | [], [], _, n => by simp [Al2]
  | x :: xs, y :: ys, _, 0 => by simp [Al2]
  | x :: xs, y :: ys, ⟨a, b⟩, n + 1 => by simp only [List.take_succ_cons]; exact ⟨a, Al2.take b n⟩
theorem Al2.drop : ∀ {xs : List α} {ys : List β}, Al2 R xs ys → ∀ n, Al2 R (xs.drop n) (ys.drop n)
  | [], [], _, n => by simp [Al2]
  | x :: xs, y :: ys, h, 0 => by simpa using h
  | x :: xs, y :: ys, ⟨_, b⟩, n + 1 => by simp only [List.drop_succ_cons]; exact Al2.drop b n
theorem Al2.set : ∀ {xs : List α} {ys : List β}, Al2 R xs ys → ∀ (n : Nat) {x : α} {y : β}, R x y → Al2 R (xs.set n x) (ys.set n y)
  | [], [], _, n, _, _, _ => by simp [Al2]
  | _ :: _, _ :: _, ⟨_, b⟩, 0, _, _, h => by simp only [List.set_cons_zero]; exact ⟨h, b⟩
  | _ :: _, _ :: _, ⟨a, b⟩, n + 1, _, _, h => by simp only [List.set_cons_succ]; exact ⟨a, Al2.set b n h⟩
theorem Al2.replicate {x : α} {y : β} (h : R x y) : ∀ n, Al2 R (List.replicate n x) (List.replicate n y)
  | 0 => trivial
  | n + 1 => ⟨h, Al2.replicate h n⟩
theorem Al2.nil_left {ys : List β} (h : Al2 R [] ys) : ys = [] := by cases ys with | nil => rfl | cons _ _ => exact h.elim
theorem Al2.cons_left {x : α} {xs : List α} {ys : List β} (h : Al2 R (x :: xs) ys) : ∃ y ys', ys = y :: ys' ∧ R x y ∧ Al2 R xs ys' := by
  cases ys with
  | nil => exact h.elim
  | cons y ys' => exact ⟨y, ys', rfl, h.1, h.2⟩
end

/-! ### data in memory -/
def SlR {α : Type} (w : World) (I : Nat → Prop) (z : Nat) (R : α → List Value → Prop) (xs : List α) (v : Value) : Prop :=
  ∃ ys, Rd w v z ys ∧ Al2 R xs ys ∧ ∀ b, vfoot v = some b → I b

/-- a float of so many bits, or of whatever bits a NaN may have -/
def Fl (k : FloatKind) (n m : Nat) : Prop := m = n ∨ (n = nanC ∧ (k.format.read m).isNaN = true)

def At (w : World) (I : Nat → Prop) : (t : T) → den t → List Value → Prop
  | .int k, n, c => c = [.int k n]
  | .bool, x, c => c = [.bool x]
  | .str, l, c => c = [sv l]
  | .flt k, n, c => c = [.float k n]
  | .fx k, n, c => ∃ m, c = [.float k m] ∧ Fl k n m
  | .unit, _, c => c = []
  | .pair a b, x, c => ∃ c1 c2, c = c1 ++ c2 ∧ At w I a x.1 c1 ∧ At w I b x.2 c2
  | .arr _ e, x, c => ∃ ys : List (List Value), c = ys.flatten ∧ Al2 (At w I e) x.toList ys
  | .sl e, xs, c => ∃ v, c = [v] ∧ SlR w I (wid e) (At w I e) xs v

structure Mem where
  w : World
  I : Nat → Prop
  g : Nat → Value
  live : Nat → Prop
  n : Nat

def isPtr : Value → Prop
  | .pointer (some a) => a.off = 0 ∧ a.spot = none
  | _ => False

/-- a slice's part from an element on -/
def VW (v : Value) (z : Nat) (lo : Int) (c : List Value) : Prop := ∃ a n cap, v = .slice a n cap ∧ 0 ≤ lo ∧ lo ≤ (n : Int) ∧ c = [slv v lo (n : Int) z]

def Rl (m : Mem) : L → List Value → Prop
  | .i k n, c => c = [.int k n]
  | .b x, c => c = [.bool x]
  | .s l, c => c = [sv l]
  | .f k n, c => c = [.float k n]
  | .fx k n, c => ∃ m, c = [.float k m] ∧ Fl k n m
  | .arr t n x, c => At m.w m.I (.arr n t) x c
  | .ro t xs, c => At m.w m.I (.sl t) xs c
  | .nil, c => c = [.slice none 0 0]
  | .own id, c => id < m.n ∧ ∃ v, c = [v] ∧ v.oneCell' = true ∧ v.cells = #[v] ∧ (m.live id → v = m.g id)
  | .ptr id off, c => id < m.n ∧ ∃ b, m.g id = .pointer (some ⟨b, 0, none⟩) ∧ c = [.pointer (some ⟨b, off, none⟩)]
  | .np, c => c = [.pointer none]
  | .fn f ids, c => (∀ i ∈ ids, i < m.n ∧ isPtr (m.g i)) ∧ c = [.func (.func f) #[] (ids.map m.g).toArray]
  | .nf, c => c = [.nilFunc]
  | .sub id off n lo hi, c => id < m.n ∧ 0 ≤ lo ∧ lo ≤ hi ∧ hi ≤ (n : Int) ∧ ∃ b, m.g id = .pointer (some ⟨b, 0, none⟩) ∧ c = [bsv b off n lo hi]
  | .mp id off, c => c = [.pointer none] ∨ (id < m.n ∧ ∃ b, m.g id = .pointer (some ⟨b, 0, none⟩) ∧ c = [.pointer (some ⟨b, off, none⟩)])
  | .ni, c => c = [.nilIface]
  | .vw id z lo, c => id < m.n ∧ VW (m.g id) z lo c

def Rp (m : Mem) : L ⊕ List L → Value → Prop
  | .inl x, v => Rl m x [v]
  | .inr ls, v => ∃ s, v = ag s ∧ Al2 (Rl m) ls s

def slen : Value → Nat
  | .slice _ n _ => n
  | _ => 0

def Rv (m : Mem) : V → Value → Prop
  | .one x, v => Rl m x [v]
  | .ag ls, v => ∃ s, v = ag s ∧ Al2 (Rl m) ls s
  | .tup vs, v => ∃ l : List Value, v = .tuple l.toArray ∧ Al2 (Rp m) vs l
  | .epR t x off, v => ∃ g o c, v = .pointer (some ⟨g, o + off, none⟩) ∧ m.I g ∧ At m.w m.I t x c ∧ ∀ (j : Nat) y, c[j]? = some y → m.w.cell? ⟨g, o + j, none⟩ = some y
  | .epO id z i off, v => id < m.n ∧ (m.live id → v = eptr (m.g id) (i.toNat * z + off) ∧ 0 ≤ i ∧ i < (slen (m.g id) : Int))
  | .epB id off n z i k, v => id < m.n ∧ 0 ≤ i ∧ i < (n : Int) ∧ ∃ b, m.g id = .pointer (some ⟨b, 0, none⟩) ∧ v = .pointer (some ⟨b, off + (i.toNat * z + k), none⟩)
  | .toA t n xs, v => 0 < n ∧ n ≤ xs.length ∧ ∃ u, SlR m.w m.I (wid t) (At m.w m.I t) xs u ∧ v = eptr u 0
  | .sk, v => v = undef
  | .u, _ => True

structure Mem.Le (m m' : Mem) : Prop where
  n : m.n ≤ m'.n
  g : ∀ id, id < m.n → m'.g id = m.g id
  live : ∀ id, id < m.n → m'.live id → m.live id
  imm : ∀ b, m.I b → m'.I b ∧ m'.w.heap[b]? = m.w.heap[b]?
  size : m.w.heap.size ≤ m'.w.heap.size

theorem Mem.Le.refl (m : Mem) : m.Le m := ⟨Nat.le_refl _, fun _ _ => rfl, fun _ _ h => h, fun _ h => ⟨h, rfl⟩, Nat.le_refl _⟩
theorem Mem.Le.trans {a b c : Mem} (h : a.Le b) (k : b.Le c) : a.Le c :=
  ⟨Nat.le_trans h.n k.n, fun id hi => (k.g id (Nat.lt_of_lt_of_le hi h.n)).trans (h.g id hi), fun id hi hc => h.live id hi (k.live id (Nat.lt_of_lt_of_le hi h.n) hc),
    fun b hb => ⟨(k.imm b (h.imm b hb).1).1, (k.imm b (h.imm b hb).1).2.trans (h.imm b hb).2⟩, Nat.le_trans h.size k.size⟩

section
variable {w w' : World} {I I' : Nat → Prop}

theorem SlR.mono {α : Type} {z : Nat} {R R' : α → List Value → Prop} {xs : List α} {v : Value} (hI : ∀ b, I b → I' b ∧ w'.heap[b]? = w.heap[b]?) (hR : ∀ x c, R x c → R' x c) (h : SlR w I z R xs v) : SlR w' I' z R' xs v := by
  obtain ⟨ys, h1, h2, h3⟩ := h
  exact ⟨ys, h1.kept fun b hb => (hI b (h3 b hb)).2, h2.mono hR, fun b hb => (hI b (h3 b hb)).1⟩

theorem At.mono (hI : ∀ b, I b → I' b ∧ w'.heap[b]? = w.heap[b]?) : ∀ (t : T) (x : den t) (c : List Value), At w I t x c → At w' I' t x c
  | .int _, _, _, h => h
  | .bool, _, _, h => h
  | .str, _, _, h => h
  | .flt _, _, _, h => h
  | .fx _, _, _, h => h
  | .unit, _, _, h => h
  | .pair a b, _, _, ⟨c1, c2, h, h1, h2⟩ => ⟨c1, c2, h, At.mono hI a _ _ h1, At.mono hI b _ _ h2⟩
  | .arr _ e, _, _, ⟨ys, h, h1⟩ => ⟨ys, h, h1.mono (At.mono hI e)⟩
  | .sl e, _, _, ⟨v, h, h1⟩ => ⟨v, h, h1.mono hI (At.mono hI e)⟩
end

theorem Rl.mono {m m' : Mem} (h : m.Le m') : ∀ (x : L) (c : List Value), Rl m x c → Rl m' x c := by
  intro x c hx
  cases x with
  | i | b | s | f | fx | nil | np | nf | ni => exact hx
  | arr t n x => exact At.mono h.imm _ _ _ hx
  | ro t xs => exact At.mono h.imm _ _ _ hx
  | own id =>
    obtain ⟨h1, v, h2, h3, h5, h4⟩ := hx
    exact ⟨Nat.lt_of_lt_of_le h1 h.n, v, h2, h3, h5, fun hl => by rw [h.g id h1]; exact h4 (h.live id h1 hl)⟩
  | ptr id off =>
    obtain ⟨h1, b, h2, h3⟩ := hx
    exact ⟨Nat.lt_of_lt_of_le h1 h.n, b, by rw [h.g id h1]; exact h2, h3⟩
  | fn f ids =>
    obtain ⟨h1, h2⟩ := hx
    refine ⟨fun i hi => ⟨Nat.lt_of_lt_of_le (h1 i hi).1 h.n, by rw [h.g i (h1 i hi).1]; exact (h1 i hi).2⟩, ?_⟩
    rw [h2]
    congr 3
    exact List.map_congr_left fun i hi => (h.g i (h1 i hi).1).symm
  | sub id off n lo hi =>
    obtain ⟨h1, h2, h3, h4, b, h5, h6⟩ := hx
    exact ⟨Nat.lt_of_lt_of_le h1 h.n, h2, h3, h4, b, by rw [h.g id h1]; exact h5, h6⟩
  | mp id off =>
    rcases hx with hx | ⟨h1, b, h2, h3⟩
    · exact .inl hx
    · exact .inr ⟨Nat.lt_of_lt_of_le h1 h.n, b, by rw [h.g id h1]; exact h2, h3⟩
  | vw id z lo =>
    obtain ⟨h1, h2⟩ := hx
    exact ⟨Nat.lt_of_lt_of_le h1 h.n, by rw [h.g id h1]; exact h2⟩
theorem Rls.mono {m m' : Mem} (h : m.Le m') {ls : List L} {s : List (List Value)} (k : Al2 (Rl m) ls s) : Al2 (Rl m') ls s := k.mono (Rl.mono h)
theorem Rp.mono {m m' : Mem} (h : m.Le m') : ∀ (x : L ⊕ List L) (v : Value), Rp m x v → Rp m' x v
  | .inl _, _, k => Rl.mono h _ _ k
  | .inr _, _, ⟨s, h1, h2⟩ => ⟨s, h1, Rls.mono h h2⟩
theorem Rv.mono {m m' : Mem} (h : m.Le m') : ∀ (x : V) (v : Value), Rv m x v → Rv m' x v := by
  intro x v hx
  cases x with
  | one x => exact Rl.mono h _ _ hx
  | ag ls => obtain ⟨s, h1, h2⟩ := hx; exact ⟨s, h1, Rls.mono h h2⟩
  | tup vs => obtain ⟨l, h1, h2⟩ := hx; exact ⟨l, h1, h2.mono (Rp.mono h)⟩
  | epR t x off =>
    obtain ⟨g, o, c, h1, h2, h3, h4⟩ := hx
    refine ⟨g, o, c, h1, (h.imm g h2).1, At.mono h.imm _ _ _ h3, fun j y hj => ?_⟩
    have := h4 j y hj
    simp only [World.cell?] at this ⊢
    rw [(h.imm g h2).2]; exact this
  | epO id z i off =>
    obtain ⟨h1, h2⟩ := hx
    exact ⟨Nat.lt_of_lt_of_le h1 h.n, fun hl => by rw [h.g id h1]; exact h2 (h.live id h1 hl)⟩
  | epB id off n z i k =>
    obtain ⟨h1, h2, h3, b, h4, h5⟩ := hx
    exact ⟨Nat.lt_of_lt_of_le h1 h.n, h2, h3, b, by rw [h.g id h1]; exact h4, h5⟩
  | toA t n xs =>
    obtain ⟨h0, h1, u, h2, h3⟩ := hx
    exact ⟨h0, h1, u, h2.mono h.imm (At.mono h.imm t), h3⟩
  | sk => exact hx
  | u => trivial

/-! ### objects -/
def Ho (m : Mem) (v : Value) : Ob → Prop
  | .gone => True
  | .blk ty ls => ∃ b s, v = .pointer (some ⟨b, 0, none⟩) ∧ m.w.heap[b]? = some (.cells (cells s) ty (0, 0)) ∧ Al2 (Rl m) ls s
  | .rd ty ls => ∃ b s, v = .pointer (some ⟨b, 0, none⟩) ∧ m.w.heap[b]? = some (.cells (cells s) ty (0, 0)) ∧ Al2 (Rl m) ls s ∧ m.I b
  | .arr ty t xs => ∃ ys, Own m.w v ty (wid t) ys ∧ Al2 (At m.w m.I t) xs ys
  | .fix .. => False

def foot : Value → Option Nat
  | .pointer (some a) => some a.block
  | v => vfoot v

def lives (h : Hm) (id : Nat) : Prop := liveO h[id]? = true

def ImmOf (M S : Nat → Prop) (w0 : World) (h : Hm) (g : Nat → Value) (w : World) : Nat → Prop :=
  fun b => b < w.heap.size ∧ (w0.heap.size ≤ b ∨ S b ∨ M b) ∧ ∀ id, lives h id → foot (g id) ≠ some b
def memOf (M S : Nat → Prop) (w0 : World) (h : Hm) (g : Nat → Value) (w : World) : Mem := ⟨w, ImmOf M S w0 h g w, g, lives h, h.length⟩

structure Rel (M S : Nat → Prop) (w0 : World) (h : Hm) (g : Nat → Value) (w : World) : Prop where
  os : w.os = w0.os
  tape : w.tape = w0.tape
  drawn : Dr w0 w
  output : w.output = w0.output
  size : w0.heap.size ≤ w.heap.size
  old : ∀ k, k < w0.heap.size → ¬ M k → w.heap[k]? = w0.heap[k]?
  dis : ∀ b, S b → ¬ M b
  obj : ∀ id o, h[id]? = some o → Ho (memOf M S w0 h g w) (g id) o
  mine : ∀ id, lives h id → ∀ b, foot (g id) = some b → w0.heap.size ≤ b ∨ M b
  inj : ∀ i j, lives h i → lives h j → i ≠ j → ∀ b, foot (g i) = some b → foot (g j) ≠ some b

theorem lives_lt {h : Hm} {id : Nat} (k : lives h id) : id < h.length := by
  unfold lives at k
  cases e : h[id]? with
  | none => rw [e] at k; cases k
  | some o => exact (List.getElem?_eq_some_iff.1 e).1

theorem Own.foot_lt {w : World} {v : Value} {t : TypeId} {z : Nat} {xs : List (List Value)} (h : Own w v t z xs) : ∀ b, foot v = some b → b < w.heap.size := by
  intro b hb
  refine h.rd.lt b ?_
  rcases h.2 with ⟨⟨a, rfl, _⟩, _⟩ | ⟨g, cap, cur, fz, rfl, _⟩ <;> exact hb

section
variable {M S : Nat → Prop} {w0 w : World} {h : Hm} {g : Nat → Value}

theorem Rel.foot_lt (H : Rel M S w0 h g w) {id : Nat} (hl : lives h id) {b : Nat} (hb : foot (g id) = some b) : b < w.heap.size := by
  unfold lives at hl
  cases e : h[id]? with
  | none => rw [e] at hl; cases hl
  | some o =>
    have := H.obj id o e
    cases o with
    | blk ty ls =>
      obtain ⟨b', s, h1, h2, _⟩ := this
      rw [h1] at hb; simp only [foot, Option.some.injEq] at hb; subst hb
      exact heap_lt h2
    | arr ty t xs => obtain ⟨ys, h1, _⟩ := this; exact h1.foot_lt b hb
    | fix => exact this.elim
    | rd => rw [e] at hl; cases hl
    | gone => rw [e] at hl; cases hl

/-- on to another state: what turns is named -/
theorem Rel.step (H : Rel M S w0 h g w) {h' : Hm} {g' : Nat → Value} {w' : World} (chg : Nat → Prop)
    (hn : h.length ≤ h'.length) (hg : ∀ id, id < h.length → g' id = g id) (hl : ∀ id, id < h.length → lives h' id → lives h id)
    (os : w'.os = w.os) (tape : w'.tape = w.tape) (drawn : Dr w w') (output : w'.output = w.output) (size : w.heap.size ≤ w'.heap.size)
    (hk : ∀ b, b < w.heap.size → (∀ id, lives h id → chg id → foot (g id) ≠ some b) → w'.heap[b]? = w.heap[b]?)
    (ho : (memOf M S w0 h g w).Le (memOf M S w0 h' g' w') → ∀ id o, h'[id]? = some o → (h[id]? = some o ∧ ¬ chg id) ∨ Ho (memOf M S w0 h' g' w') (g' id) o)
    (hf : ∀ id, lives h' id → ∀ b, foot (g' id) = some b → w.heap.size ≤ b ∨ ∃ j, lives h j ∧ foot (g j) = some b)
    (hi : ∀ i j, lives h' i → lives h' j → i ≠ j → ∀ b, foot (g' i) = some b → foot (g' j) ≠ some b) :
    Rel M S w0 h' g' w' ∧ (memOf M S w0 h g w).Le (memOf M S w0 h' g' w') := by
  have le : (memOf M S w0 h g w).Le (memOf M S w0 h' g' w') := by
    refine ⟨hn, hg, hl, fun b hb => ?_, size⟩
    obtain ⟨h1, h2, h3⟩ := hb
    have hs : w'.heap[b]? = w.heap[b]? := hk b h1 fun id hid _ => h3 id hid
    refine ⟨⟨Nat.lt_of_lt_of_le h1 size, h2, fun id hid hfb => ?_⟩, hs⟩
    rcases hf id hid b hfb with h4 | ⟨j, h4, h5⟩
    · omega
    · exact h3 j h4 h5
  refine ⟨⟨os.trans H.os, tape.trans H.tape, H.drawn.trans drawn, output.trans H.output, Nat.le_trans H.size size, fun k h1 h2 => ?_, H.dis, fun id o hid => ?_, fun id hid b hb => ?_, hi⟩, le⟩
  · rw [hk k (Nat.lt_of_lt_of_le h1 H.size) fun id hid _ hb => ?_]
    · exact H.old k h1 h2
    · rcases H.mine id hid k hb with h3 | h3
      · omega
      · exact h2 h3
  · rcases ho le id o hid with ⟨h1, h2⟩ | h1
    · have hlt : id < h.length := (List.getElem?_eq_some_iff.1 h1).1
      have h0 := H.obj id o h1
      have same : ∀ b, lives h id → foot (g id) = some b → w'.heap[b]? = w.heap[b]? := fun b hli hb => hk b (H.foot_lt hli hb) fun j hj hc hbj => by
        by_cases e : j = id
        · subst e; exact h2 hc
        · exact H.inj j id hj hli e b hbj hb
      rw [hg id hlt]
      cases o with
      | gone => trivial
      | blk ty ls =>
        obtain ⟨b, s, h3, h4, h5⟩ := h0
        exact ⟨b, s, h3, (same b (by simp [lives, h1, liveO]) (by rw [h3]; rfl)).trans h4, Rls.mono le h5⟩
      | rd ty ls =>
        obtain ⟨b, s, h3, h4, h5, h6⟩ := h0
        exact ⟨b, s, h3, (le.imm b h6).2.trans h4, Rls.mono le h5, (le.imm b h6).1⟩
      | arr ty t xs =>
        obtain ⟨ys, h3, h4⟩ := h0
        refine ⟨ys, h3.kept size fun b hb => same b (by simp [lives, h1, liveO]) ?_, h4.mono (At.mono le.imm t)⟩
        rcases h3.2 with ⟨⟨a, e, _⟩, _⟩ | ⟨q, cap, cur, fz, e, _⟩ <;> rw [e] at hb ⊢ <;> exact hb
      | fix => exact h0.elim
    · exact h1
  · rcases hf id hid b hb with h1 | ⟨j, h1, h2⟩
    · exact .inl (Nat.le_trans H.size h1)
    · exact H.mine j h1 b h2
end

end Go.Dor
end

section
/- LEAVES: widths, cells, data made of leaves and leaves of data. Plain lemmas over any program. -/
namespace Go.Dor
open Go.RowKit (Below)

theorem Al2.flat_len {α : Type} {R : α → List Value → Prop} {z : Nat} (hz : ∀ x c, R x c → c.length = z) : ∀ {xs : List α} {ys : List (List Value)}, Al2 R xs ys → (∀ y ∈ ys, y.length = z) ∧ ys.flatten.length = xs.length * z
  | [], [], _ => by simp
  | x :: xs, y :: ys, ⟨a, b⟩ => by
    obtain ⟨h1, h2⟩ := Al2.flat_len hz b
    have := hz _ _ a
    refine ⟨fun u hu => ?_, ?_⟩
    · rcases List.mem_cons.1 hu with rfl | hu
      · exact this
      · exact h1 u hu
    · simp only [List.flatten_cons, List.length_append, List.length_cons, h2, this, Nat.add_mul]; omega
theorem Al2.all {α : Type} {R : α → List Value → Prop} {p : Value → Prop} (hz : ∀ x c, R x c → ∀ v ∈ c, p v) : ∀ {xs : List α} {ys : List (List Value)}, Al2 R xs ys → ∀ v ∈ ys.flatten, p v
  | [], [], _, v, hv => by simp at hv
  | x :: xs, y :: ys, ⟨a, b⟩, v, hv => by
    simp only [List.flatten_cons, List.mem_append] at hv
    rcases hv with hv | hv
    · exact hz _ _ a v hv
    · exact Al2.all hz b v hv

theorem flat_one (c : List Value) : [c].flatten = c := by simp

section
variable {w : World} {I : Nat → Prop}
theorem At.len : ∀ (t : T) (x : den t) (c : List Value), At w I t x c → c.length = wid t
  | .int _, _, _, h => by rw [show _ = _ from h]; rfl
  | .bool, _, _, h => by rw [show _ = _ from h]; rfl
  | .str, _, _, h => by rw [show _ = _ from h]; rfl
  | .flt _, _, _, h => by rw [show _ = _ from h]; rfl
  | .fx _, _, _, ⟨m, h, _⟩ => by rw [h]; rfl
  | .unit, _, _, h => by rw [show _ = _ from h]; rfl
  | .pair a b, _, _, ⟨c1, c2, h, h1, h2⟩ => by rw [h, List.length_append, At.len a _ _ h1, At.len b _ _ h2]; rfl
  | .arr n e, x, _, ⟨ys, h, h1⟩ => by
    have := (h1.flat_len (At.len e)).2
    rw [h, this]; simp [wid]
  | .sl e, _, _, ⟨v, h, h1⟩ => by rw [h]; rfl
theorem At.one : ∀ (t : T) (x : den t) (c : List Value), At w I t x c → ∀ v ∈ c, v.oneCell' = true
  | .int _, _, _, h, v, hv => by rw [show _ = _ from h] at hv; simp at hv; subst hv; rfl
  | .bool, _, _, h, v, hv => by rw [show _ = _ from h] at hv; simp at hv; subst hv; rfl
  | .str, _, _, h, v, hv => by rw [show _ = _ from h] at hv; simp at hv; subst hv; rfl
  | .flt _, _, _, h, v, hv => by rw [show _ = _ from h] at hv; simp at hv; subst hv; rfl
  | .fx _, _, _, ⟨m, h, _⟩, v, hv => by rw [h] at hv; simp at hv; subst hv; rfl
  | .unit, _, _, h, v, hv => by rw [show _ = _ from h] at hv; simp at hv
  | .pair a b, _, _, ⟨c1, c2, h, h1, h2⟩, v, hv => by
    rw [h] at hv
    rcases List.mem_append.1 hv with hv | hv
    · exact At.one a _ _ h1 v hv
    · exact At.one b _ _ h2 v hv
  | .arr n e, x, _, ⟨ys, h, h1⟩, v, hv => by rw [h] at hv; exact h1.all (At.one e) v hv
  | .sl e, _, _, ⟨u, h, ys, h1, _⟩, v, hv => by rw [h] at hv; simp at hv; subst hv; exact h1.one
end

section
variable {m : Mem}
theorem Rl.len : ∀ (x : L) (c : List Value), Rl m x c → c.length = widL x := by
  intro x c h
  cases x with
  | i | b | s | f | nil | np | nf | ni => rw [show _ = _ from h]; rfl
  | fx k n => obtain ⟨q, h, _⟩ := h; rw [h]; rfl
  | mp id off => rcases h with h | ⟨_, b, _, h⟩ <;> rw [h] <;> rfl
  | vw id z lo => obtain ⟨_, a, n, cap, _, _, _, h⟩ := h; rw [h]; rfl
  | arr t n x => exact At.len _ _ _ h
  | ro t xs => exact At.len (.sl t) _ _ h
  | own id => obtain ⟨_, v, h, _⟩ := h; rw [h]; rfl
  | ptr id off => obtain ⟨_, b, _, h⟩ := h; rw [h]; rfl
  | fn f ids => rw [h.2]; rfl
  | sub id off n lo hi => obtain ⟨_, _, _, _, b, _, h⟩ := h; rw [h]; rfl
theorem Rl.one : ∀ (x : L) (c : List Value), Rl m x c → ∀ v ∈ c, v.oneCell' = true := by
  intro x c h v hv
  cases x with
  | i | b | s | f | nil | np | nf | ni => rw [show _ = _ from h] at hv; simp at hv; subst hv; rfl
  | fx k n => obtain ⟨q, h, _⟩ := h; rw [h] at hv; simp at hv; subst hv; rfl
  | mp id off => rcases h with h | ⟨_, b, _, h⟩ <;> (rw [h] at hv; simp at hv; subst hv; rfl)
  | vw id z lo => obtain ⟨_, a, n, cap, e, _, _, h⟩ := h; rw [h, e] at hv; simp at hv; subst hv; rfl
  | arr t n x => exact At.one _ _ _ h v hv
  | ro t xs => exact At.one (.sl t) _ _ h v hv
  | own id => obtain ⟨_, u, h, h2, _⟩ := h; rw [h] at hv; simp at hv; subst hv; exact h2
  | ptr id off => obtain ⟨_, b, _, h⟩ := h; rw [h] at hv; simp at hv; subst hv; rfl
  | fn f ids => rw [h.2] at hv; simp at hv; subst hv; rfl
  | sub id off n lo hi => obtain ⟨_, _, _, _, b, _, h⟩ := h; rw [h] at hv; simp at hv; subst hv; rfl
theorem Rls.len : ∀ {ls : List L} {s : List (List Value)}, Al2 (Rl m) ls s → s.flatten.length = widLs ls
  | [], [], _ => rfl
  | x :: ls, c :: s, ⟨a, b⟩ => by simp [widLs, Rl.len x c a, Rls.len b]
theorem Rls.one {ls : List L} {s : List (List Value)} (h : Al2 (Rl m) ls s) : One s := h.all Rl.one

theorem skipL_sound : ∀ (ls : List L) (n : Nat) (a b : List L), skipL ls n = some (a, b) → ls = a ++ b ∧ widLs a = n
  | [], n, a, b, h => by
    simp only [skipL, cond_eq_ite] at h
    split at h
    · rename_i h0; cases h; exact ⟨rfl, (Nat.eq_of_beq_eq_true h0).symm⟩
    · cases h
  | x :: l, n, a, b, h => by
    simp only [skipL, cond_eq_ite, Nat.ble_eq] at h
    split at h
    · rename_i h0; cases h; exact ⟨rfl, (Nat.eq_of_beq_eq_true h0).symm⟩
    · split at h
      · split at h
        · rename_i h1 _ a' b' h2
          cases h
          obtain ⟨h3, h4⟩ := skipL_sound l _ _ _ h2
          exact ⟨by rw [h3]; rfl, by simp only [widLs, h4]; omega⟩
        · cases h
      · cases h
theorem cutL_sound {ls pre mid post : List L} {off n : Nat} (h : cutL ls off n = some (pre, mid, post)) : ls = pre ++ (mid ++ post) ∧ widLs pre = off ∧ widLs mid = n := by
  unfold cutL at h
  split at h
  · rename_i p l h1
    split at h
    · rename_i a b h2
      cases h
      obtain ⟨h3, h4⟩ := skipL_sound _ _ _ _ h1
      obtain ⟨h5, h6⟩ := skipL_sound _ _ _ _ h2
      exact ⟨by rw [h3, h5], h4, h6⟩
    · cases h
  · cases h

/-- leaves of data -/
theorem At.enc : ∀ (t : T) (x : den t) (c : List Value), At m.w m.I t x c → ∃ s, c = s.flatten ∧ Al2 (Rl m) (enc t x) s
  | .int _, _, c, h => ⟨[c], by simp, h, trivial⟩
  | .bool, _, c, h => ⟨[c], by simp, h, trivial⟩
  | .str, _, c, h => ⟨[c], by simp, h, trivial⟩
  | .flt _, _, c, h => ⟨[c], by simp, h, trivial⟩
  | .fx _, _, c, h => ⟨[c], by simp, h, trivial⟩
  | .unit, _, c, h => ⟨[], by rw [show _ = _ from h]; rfl, trivial⟩
  | .pair a b, _, _, ⟨c1, c2, h, h1, h2⟩ => by
    obtain ⟨s1, e1, k1⟩ := At.enc a _ _ h1
    obtain ⟨s2, e2, k2⟩ := At.enc b _ _ h2
    exact ⟨s1 ++ s2, by rw [h, e1, e2, List.flatten_append], k1.append k2⟩
  | .arr n e, _, c, h => ⟨[c], by simp, h, trivial⟩
  | .sl e, _, c, h => ⟨[c], by simp, h, trivial⟩

theorem castL_sound {t u : T} {xs : List (den t)} {ys : List (den u)} (h : castL t u xs = some ys) : ∃ e : t = u, ys = e ▸ xs := by
  unfold castL at h
  split at h
  · rename_i e; exact ⟨e, (Option.some.inj h).symm⟩
  · cases h
theorem castV_sound {t u : T} {n k : Nat} {x : Vector (den t) n} {y : Vector (den u) k} (h : castV t u n k x = some y) : ∃ (e : t = u) (e' : n = k), y = e ▸ e' ▸ x := by
  unfold castV at h
  split at h
  · rename_i e; exact ⟨e.1, e.2, (Option.some.inj h).symm⟩
  · cases h

/-- what is known of all objects -/
structure Objs (m : Mem) (h : Hm) : Prop where
  ho : ∀ id o, h[id]? = some o → Ho m (m.g id) o
  lv : ∀ id, lives h id → m.live id

end
end Go.Dor
end

section
/- OBJECTS: new ones, written ones, ones that are read for good. Plain lemmas over any program. -/
namespace Go.Dor
open Go.RowKit (Below)

def gx (g : Nat → Value) (n : Nat) (v : Value) : Nat → Value := fun i => if i = n then v else g i
theorem gx_same (g : Nat → Value) (n : Nat) (v : Value) : gx g n v n = v := by simp [gx]
theorem gx_lt (g : Nat → Value) {n i : Nat} (v : Value) (h : i < n) : gx g n v i = g i := by simp [gx, Nat.ne_of_lt h]

section
variable {h : Hm} {o : Ob} {id : Nat}
theorem lives_app_lt (hl : id < h.length) : lives (h ++ [o]) id ↔ lives h id := by
  unfold lives; rw [List.getElem?_append_left hl]
theorem lives_app (k : lives (h ++ [o]) id) : lives h id ∨ (id = h.length ∧ liveO (some o) = true) := by
  have hlt := lives_lt k
  simp only [List.length_append, List.length_cons, List.length_nil] at hlt
  by_cases e : id < h.length
  · exact .inl ((lives_app_lt e).1 k)
  · have e : id = h.length := by omega
    subst e
    refine .inr ⟨rfl, ?_⟩
    unfold lives at k
    rw [List.getElem?_append_right (Nat.le_refl _)] at k
    simpa using k
theorem lives_set {id' : Nat} (k : lives (h.set id o) id') : (id' ≠ id ∧ lives h id') ∨ (id' = id ∧ liveO (some o) = true) := by
  unfold lives at k ⊢
  rw [List.getElem?_set] at k
  by_cases e : id = id'
  · subst e
    rw [if_pos rfl] at k
    split at k
    · exact .inr ⟨rfl, k⟩
    · cases k
  · rw [if_neg e] at k
    exact .inl ⟨Ne.symm e, k⟩
end

/-- memory grown, draws gone on -/
structure Bel (n : Nat) (w w' : World) : Prop where
  b : Below n w w'
  d : Dr w w'
theorem Bel.refl (n : Nat) (w : World) : Bel n w w := ⟨⟨rfl, rfl, rfl, Nat.le_refl _, fun _ _ => rfl⟩, .refl _⟩

section
variable {M S : Nat → Prop} {w0 w w' : World} {h : Hm} {g : Nat → Value}

theorem Rel.objs (H : Rel M S w0 h g w) : Objs (memOf M S w0 h g w) h := ⟨H.obj, fun _ k => k⟩

/-- the same objects, memory grown -/
theorem Rel.below (H : Rel M S w0 h g w) (hb : Below w.heap.size w w') (dr : Dr w w' := by first | exact .of (Nat.le_refl _) | exact .of (Nat.le_succ _) | assumption) : Rel M S w0 h g w' ∧ (memOf M S w0 h g w).Le (memOf M S w0 h g w') :=
  H.step (fun _ => False) (Nat.le_refl _) (fun _ _ => rfl) (fun _ _ k => k) hb.os hb.tape dr hb.output hb.size (fun b h1 _ => hb.block b h1) (fun _ _ _ hid => .inl ⟨hid, fun h => h⟩)
    (fun id hid _ hfb => .inr ⟨id, hid, hfb⟩) H.inj

/-- one object more -/
theorem Rel.add (H : Rel M S w0 h g w) (hb : Below w.heap.size w w') (o : Ob) (v : Value) (hf : ∀ b, foot v = some b → w.heap.size ≤ b)
    (ho : (memOf M S w0 h g w).Le (memOf M S w0 (h ++ [o]) (gx g h.length v) w') → Ho (memOf M S w0 (h ++ [o]) (gx g h.length v) w') v o) (dr : Dr w w' := by first | exact .of (Nat.le_refl _) | exact .of (Nat.le_succ _) | assumption) :
    Rel M S w0 (h ++ [o]) (gx g h.length v) w' ∧ (memOf M S w0 h g w).Le (memOf M S w0 (h ++ [o]) (gx g h.length v) w') := by
  refine H.step (fun _ => False) (by simp) (fun id hid => gx_lt g v hid) (fun id hid k => (lives_app_lt hid).1 k) hb.os hb.tape dr hb.output hb.size (fun b h1 _ => hb.block b h1) (fun le id o' hid => ?_) (fun id hid b hfb => ?_) fun i j hi hj hne b hbi hbj => ?_
  · by_cases e : id < h.length
    · rw [List.getElem?_append_left e] at hid; exact .inl ⟨hid, fun h => h⟩
    · have hlt := (List.getElem?_eq_some_iff.1 hid).1
      simp only [List.length_append, List.length_cons, List.length_nil] at hlt
      have e : id = h.length := by omega
      subst e
      rw [List.getElem?_append_right (Nat.le_refl _)] at hid
      simp at hid; subst hid
      rw [gx_same]; exact .inr (ho le)
  · rcases lives_app hid with h1 | ⟨h1, _⟩
    · rw [gx_lt g v (lives_lt h1)] at hfb; exact .inr ⟨id, h1, hfb⟩
    · subst h1; rw [gx_same] at hfb; exact .inl (hf b hfb)
  · rcases lives_app hi with h1 | ⟨h1, _⟩ <;> rcases lives_app hj with h2 | ⟨h2, _⟩
    · rw [gx_lt g v (lives_lt h1)] at hbi; rw [gx_lt g v (lives_lt h2)] at hbj
      exact H.inj i j h1 h2 hne b hbi hbj
    · subst h2; rw [gx_lt g v (lives_lt h1)] at hbi; rw [gx_same] at hbj
      have := H.foot_lt h1 hbi; have := hf b hbj; omega
    · subst h1; rw [gx_lt g v (lives_lt h2)] at hbj; rw [gx_same] at hbi
      have := H.foot_lt h2 hbj; have := hf b hbi; omega
    · subst h1; subst h2; exact hne rfl

theorem Rel.addNil (H : Rel M S w0 h g w) (ty : TypeId) (t : T) : Rel M S w0 (h ++ [.arr ty t []]) (gx g h.length (.slice none 0 0)) w ∧ (memOf M S w0 h g w).Le (memOf M S w0 (h ++ [.arr ty t []]) (gx g h.length (.slice none 0 0)) w) :=
  H.add (Below.refl _ w) _ _ (fun b hb => by simp [foot, vfoot] at hb) fun _ => ⟨[], ⟨by simp, .inl ⟨⟨none, rfl, fun _ h => by cases h⟩, rfl⟩⟩, trivial⟩

theorem Rel.alloc (H : Rel M S w0 h g w) (ty : TypeId) (ls : List L) (s : List (List Value)) (hs : Al2 (Rl (memOf M S w0 h g w)) ls s) :
    Rel M S w0 (h ++ [.blk ty ls]) (gx g h.length (.pointer (some ⟨w.heap.size, 0, none⟩))) (w.alloc (.cells (cells s) ty)) ∧
    (memOf M S w0 h g w).Le (memOf M S w0 (h ++ [.blk ty ls]) (gx g h.length (.pointer (some ⟨w.heap.size, 0, none⟩))) (w.alloc (.cells (cells s) ty))) :=
  H.add (below_alloc w _) _ _ (fun b hb => by simp [foot] at hb; omega) fun le => ⟨_, s, rfl, heap_alloc_new w _, Rls.mono le hs⟩

/-- an object is written; w' is w but for its block and new ones -/
theorem Rel.set (H : Rel M S w0 h g w) {id : Nat} (hid : lives h id) (o : Ob) (hg : w.grownBy w' (foot (g id)))
    (ho : (memOf M S w0 h g w).Le (memOf M S w0 (h.set id o) g w') → Ho (memOf M S w0 (h.set id o) g w') (g id) o) (dr : Dr w w' := by first | exact .of (Nat.le_refl _) | exact .of (Nat.le_succ _) | assumption) :
    Rel M S w0 (h.set id o) g w' ∧ (memOf M S w0 h g w).Le (memOf M S w0 (h.set id o) g w') := by
  have lv : ∀ j, lives (h.set id o) j → lives h j := fun j hj => by
    rcases lives_set hj with ⟨_, h1⟩ | ⟨h1, _⟩
    · exact h1
    · subst h1; exact hid
  refine H.step (· = id) (by simp) (fun _ _ => rfl) (fun j _ => lv j) hg.os hg.tape dr hg.output hg.size (fun b h1 h2 => hg.block b h1 fun e => h2 id hid rfl e.symm) (fun le j o' hj => ?_) (fun j hj b hfb => .inr ⟨j, lv j hj, hfb⟩) fun i j hi hj => H.inj i j (lv i hi) (lv j hj)
  rw [List.getElem?_set] at hj
  by_cases e : id = j
  · subst e
    rw [if_pos rfl, if_pos (lives_lt hid)] at hj
    cases hj
    exact .inr (ho le)
  · rw [if_neg e] at hj
    exact .inl ⟨hj, Ne.symm e⟩

/-- an object is given up -/
theorem Rel.drop (H : Rel M S w0 h g w) (id : Nat) : Rel M S w0 (h.set id .gone) g w ∧ (memOf M S w0 h g w).Le (memOf M S w0 (h.set id .gone) g w) := by
  have lv : ∀ j, lives (h.set id .gone) j → lives h j := fun j hj => by
    rcases lives_set hj with ⟨_, h1⟩ | ⟨_, h1⟩
    · exact h1
    · cases h1
  refine H.step (fun _ => False) (by simp) (fun _ _ => rfl) (fun j _ => lv j) rfl rfl (.refl _) rfl (Nat.le_refl _) (fun _ _ _ => rfl) (fun le j o' hj => ?_) (fun j hj b hfb => .inr ⟨j, lv j hj, hfb⟩) fun i j hi hj => H.inj i j (lv i hi) (lv j hj)
  rw [List.getElem?_set] at hj
  by_cases e : id = j
  · subst e
    rw [if_pos rfl] at hj
    split at hj
    · cases hj; exact .inr trivial
    · cases hj
  · rw [if_neg e] at hj
    exact .inl ⟨hj, fun h => h⟩
theorem Rel.drops (H : Rel M S w0 h g w) (f : List Nat) : Rel M S w0 (freeze h f) g w ∧ (memOf M S w0 h g w).Le (memOf M S w0 (freeze h f) g w) := by
  induction f generalizing h with
  | nil => exact ⟨H, .refl _⟩
  | cons i f ih =>
    obtain ⟨h1, h2⟩ := H.drop i
    obtain ⟨h3, h4⟩ := ih h1
    exact ⟨h3, h2.trans h4⟩
theorem freeze_gone : ∀ (f : List Nat) (h : Hm) (id : Nat), id ∈ f → ¬ lives (freeze h f) id
  | i :: f, h, id, hid => by
    have key : ∀ (f : List Nat) (h : Hm) (id : Nat), ¬ lives h id → ¬ lives (freeze h f) id := by
      intro f
      induction f with
      | nil => intro h id k; exact k
      | cons i f ih =>
        intro h id k
        refine ih _ _ fun k' => ?_
        rcases lives_set k' with ⟨_, h1⟩ | ⟨_, h1⟩
        · exact k h1
        · cases h1
    by_cases e : id = i
    · subst e
      refine key f _ _ fun k' => ?_
      rcases lives_set k' with ⟨h1, _⟩ | ⟨_, h1⟩
      · exact h1 rfl
      · cases h1
    · exact freeze_gone f _ _ ((List.mem_cons.1 hid).resolve_left e)

/-- the slices that are read for good lie in what no one writes any more -/
theorem Rel.drops_imm (H : Rel M S w0 h g w) {f : List Nat} (hf : ∀ id ∈ f, lives h id) : ∀ id ∈ f, ∀ b, foot (g id) = some b → (memOf M S w0 (freeze h f) g w).I b := by
  intro id hid b hb
  have hl := hf id hid
  refine ⟨H.foot_lt hl hb, ?_, fun j hj hbj => ?_⟩
  · rcases H.mine id hl b hb with h1 | h1
    · exact .inl h1
    · exact .inr (.inr h1)
  · have le := (H.drops f).2
    have hjn : j < h.length := by
      have := lives_lt hj
      have e : (freeze h f).length = h.length := by
        have key : ∀ (f : List Nat) (h : Hm), (freeze h f).length = h.length := by
          intro f; induction f with
          | nil => intro h; rfl
          | cons i f ih => intro h; rw [freeze, ih]; simp
        exact key f h
      omega
    have hjl : lives h j := le.live j hjn hj
    by_cases e : id = j
    · subst e; exact freeze_gone f h id hid hj
    · exact H.inj id j hl hjl e b hb hbj

/-- an object goes over into another one -/
theorem Rel.turn (H : Rel M S w0 h g w) {id : Nat} (hid : lives h id) (o : Ob) (v : Value) (hg : w.grownBy w' (foot (g id))) (hf : ∀ b, foot v = some b → foot (g id) = some b ∨ w.heap.size ≤ b)
    (ho : (memOf M S w0 h g w).Le (memOf M S w0 (h.set id .gone ++ [o]) (gx g h.length v) w') → Ho (memOf M S w0 (h.set id .gone ++ [o]) (gx g h.length v) w') v o) (dr : Dr w w' := by first | exact .of (Nat.le_refl _) | exact .of (Nat.le_succ _) | assumption) :
    Rel M S w0 (h.set id .gone ++ [o]) (gx g h.length v) w' ∧ (memOf M S w0 h g w).Le (memOf M S w0 (h.set id .gone ++ [o]) (gx g h.length v) w') := by
  have hlen : (h.set id .gone).length = h.length := by simp
  have lv : ∀ j, lives (h.set id .gone) j → j ≠ id ∧ lives h j := fun j hj => by
    rcases lives_set hj with h1 | ⟨_, h1⟩
    · exact h1
    · cases h1
  have la : ∀ j, lives (h.set id .gone ++ [o]) j → (j ≠ id ∧ lives h j) ∨ j = h.length := fun j hj => by
    rcases lives_app hj with h1 | ⟨h1, _⟩
    · exact .inl (lv j h1)
    · exact .inr (by rw [h1, hlen])
  refine H.step (· = id) (by simp) (fun j hj => gx_lt g v hj) (fun j hj k => ?_) hg.os hg.tape dr hg.output hg.size (fun b h1 h2 => hg.block b h1 fun e => h2 id hid rfl e.symm) (fun le j o' hj => ?_) (fun j hj b hfb => ?_) fun i j hi hj hne b hbi hbj => ?_
  · rcases la j k with h1 | h1
    · exact h1.2
    · omega
  · by_cases e : j < h.length
    · rw [List.getElem?_append_left (by rw [hlen]; exact e), List.getElem?_set] at hj
      by_cases e2 : id = j
      · subst e2; rw [if_pos rfl, if_pos e] at hj; cases hj; exact .inr trivial
      · rw [if_neg e2] at hj; exact .inl ⟨hj, Ne.symm e2⟩
    · have hlt := (List.getElem?_eq_some_iff.1 hj).1
      simp only [List.length_append, List.length_cons, List.length_nil, hlen] at hlt
      have e : j = h.length := by omega
      subst e
      rw [List.getElem?_append_right (by rw [hlen]; exact Nat.le_refl _), hlen] at hj
      simp at hj; subst hj
      rw [gx_same]; exact .inr (ho le)
  · rcases la j hj with h1 | h1
    · rw [gx_lt g v (lives_lt h1.2)] at hfb; exact .inr ⟨j, h1.2, hfb⟩
    · subst h1; rw [gx_same] at hfb
      rcases hf b hfb with h2 | h2
      · exact .inr ⟨id, hid, h2⟩
      · exact .inl h2
  · rcases la i hi with h1 | h1 <;> rcases la j hj with h2 | h2
    · rw [gx_lt g v (lives_lt h1.2)] at hbi; rw [gx_lt g v (lives_lt h2.2)] at hbj
      exact H.inj i j h1.2 h2.2 hne b hbi hbj
    · subst h2; rw [gx_lt g v (lives_lt h1.2)] at hbi; rw [gx_same] at hbj
      rcases hf b hbj with h3 | h3
      · exact H.inj id i hid h1.2 (Ne.symm h1.1) b h3 hbi
      · have := H.foot_lt h1.2 hbi; omega
    · subst h1; rw [gx_lt g v (lives_lt h2.2)] at hbj; rw [gx_same] at hbi
      rcases hf b hbi with h3 | h3
      · exact H.inj id j hid h2.2 (Ne.symm h2.1) b h3 hbj
      · have := H.foot_lt h2.2 hbj; omega
    · subst h1; subst h2; exact hne rfl
end
end Go.Dor
end

section
/- OPERATIONS THAT READ OR RECKON: what the machine says of them holds. Plain lemmas over any program. -/
namespace Go.Dor
open Go.RowKit (Below)

theorem oneCell_cells {v : Value} (h : v.oneCell' = true) : v.cells = #[v] := by cases v <;> first | rfl | (simp [Value.oneCell'] at h)

section
variable {P : Program} {M S : Nat → Prop} {w0 w w' : World} {h : Hm} {g : Nat → Value} {R : Type} {res : R} {K : V → Hm → Option R} {K1 : V → Option R}
  {d : Option Tmp} {ty : TypeId} {pos : String} {aft : Array Edge} {gd : Option (Nat × Bool)} {e : Ev} {r : Env}

def After (M S : Nat → Prop) (w0 : World) (h : Hm) (g : Nat → Value) (w : World) (K : V → Hm → Option R) (res : R) : Value → World → Prop := fun val w' =>
  ∃ v h' g', Rel M S w0 h' g' w' ∧ (memOf M S w0 h g w).Le (memOf M S w0 h' g' w') ∧ Rv (memOf M S w0 h' g' w') v val ∧ K v h' = some res

/-- what is so in any memory that has grown from w -/
structure Pure (P : Program) (M S : Nat → Prop) (w0 : World) (h : Hm) (g : Nat → Value) (w : World) (r : Env) (o : Oper) (K : V → Option R) (res : R) : Prop where
  out : ∃ v val, (∀ w', (execOp (ev r) o).run P w' = .ok (.value val) w') ∧ Rv (memOf M S w0 h g w) v val ∧ K v = some res

theorem Pure.step {o : Oper} (H : Rel M S w0 h g w) (k : Pure P M S w0 h g w r o (fun v => K v h) res) : Step P o r w (After M S w0 h g w K res) := by
  obtain ⟨v, val, h1, h2, h3⟩ := k
  exact .value (h1 w) ⟨v, h, g, H, .refl _, h2, h3⟩
theorem Pure.of {o : Oper} {v : V} {val : Value} (h1 : ∀ w', (execOp (ev r) o).run P w' = .ok (.value val) w') (h2 : Rv (memOf M S w0 h g w) v val) (h3 : K1 v = some res) : Pure P M S w0 h g w r o K1 res := ⟨⟨v, val, h1, h2, h3⟩⟩

theorem Pure.mk' {o : Oper} {v : V} {val : Value} (h3 : K1 v = some res) (h1 : ∀ w', (execOp (ev r) o).run P w' = .ok (.value val) w') (h2 : Rv (memOf M S w0 h g w) v val) : Pure P M S w0 h g w r o K1 res := ⟨⟨v, val, h1, h2, h3⟩⟩

/-! ### operands -/
def ER (m : Mem) (e : Ev) (r : Env) : Prop := ∀ t, Rv m (getE e t) (r t)

theorem constV_sound {m : Mem} (v : Value) : Rv m (constV v) v := by
  unfold constV
  split
  · rfl
  · rfl
  · rfl
  · rfl
  · rfl
  · rfl
  · rfl
  · rfl
  · trivial
theorem opnd_sound {m : Mem} (E : ER m e r) (x : Operand) : Rv m (opnd e x) (ev r x) := by
  cases x with
  | tmp t => exact E t
  | const v => exact constV_sound v
  | global _ => trivial
  | func f => exact ⟨fun i hi => by simp at hi, rfl⟩
theorem ER.mono {m m' : Mem} (h : m.Le m') (E : ER m e r) : ER m' e r := fun t => Rv.mono h _ _ (E t)
theorem ER.put {m : Mem} (E : ER m e r) (d : Option Nat) {v : V} {val : Value} (h : Rv m v val) : ER m (putE e d v) (putO r d val) := by
  cases d with
  | none => exact E
  | some d =>
    intro t
    simp only [putE, getE, putO, Dor.put]
    by_cases ht : t = d
    · subst ht
      simpa using h
    · have h1 : Nat.beq d t = false := Bool.eq_false_iff.2 fun e => ht (Nat.eq_of_beq_eq_true e).symm
      have h2 : Nat.beq t d = false := Bool.eq_false_iff.2 fun e => ht (Nat.eq_of_beq_eq_true e)
      rw [h1, h2]
      exact E t

/-! ### numbers, texts, truths -/
variable {m : Mem}

theorem rv_int {k : IntKind} {n : Int} {v : Value} (h : Rv m (.one (.i k n)) v) : v = .int k n := by have : [v] = _ := h; simpa using this
theorem rv_bool {b : Bool} {v : Value} (h : Rv m (.one (.b b)) v) : v = .bool b := by have : [v] = _ := h; simpa using this
theorem rv_str {l : List UInt8} {v : Value} (h : Rv m (.one (.s l)) v) : v = sv l := by have : [v] = _ := h; simpa using this
theorem rv_flt {k : FloatKind} {n : Nat} {v : Value} (h : Rv m (.one (.f k n)) v) : v = .float k n := by have : [v] = _ := h; simpa using this
theorem mk_flt {k : FloatKind} {n : Nat} : Rv m (.one (.f k n)) (.float k n) := rfl
theorem rv_fx {k : FloatKind} {n : Nat} {v : Value} (h : Rv m (.one (.fx k n)) v) : ∃ q, v = .float k q ∧ Fl k n q := by
  obtain ⟨q, e, h⟩ := h
  exact ⟨q, by simpa using e, h⟩
theorem mk_fx {k : FloatKind} {n q : Nat} (h : Fl k n q) : Rv m (.one (.fx k n)) (.float k q) := ⟨q, rfl, h⟩
theorem fltOf_sound {x : V} {k : FloatKind} {n : Nat} {v : Value} (h : fltOf x = some (k, n)) (hv : Rv m x v) : ∃ q, v = .float k q ∧ Fl k n q := by
  unfold fltOf at h
  split at h
  · cases h; exact ⟨_, rv_flt hv, .inl rfl⟩
  · cases h; exact rv_fx hv
  · cases h
theorem Fl.order {k : FloatKind} {a a' b b' : Nat} (ha : Fl k a a') (hb : Fl k b b') : k.format.order a' b' = k.format.order a b := by
  rcases ha with rfl | ⟨rfl, ha⟩
  · rcases hb with rfl | ⟨rfl, hb⟩
    · rfl
    · rw [order_nan_r hb, order_nan_r (nanC_nan k)]
  · rw [order_nan_l ha, order_nan_l (nanC_nan k)]
theorem Fl.op {n : Nat} {k : FloatKind} {a a' b b' : Nat} (ha : Fl k a a') (hb : Fl k b b') : flOp n k a' b' = flOp n k a b := by
  rcases ha with rfl | ⟨rfl, ha⟩
  · rcases hb with rfl | ⟨rfl, hb⟩
    · rfl
    · rw [flOp_nan_r hb, flOp_nan_r (nanC_nan k)]
  · rw [flOp_nan_l ha, flOp_nan_l (nanC_nan k)]
theorem Fl.max {k : FloatKind} {a a' b b' z : Nat} (ha : Fl k a a') (hb : Fl k b b') (h : flMax k a b = some z) : flMax k a' b' = some z := by
  have e : a' = a ∧ b' = b := by
    rcases ha with rfl | ⟨rfl, ha⟩
    · rcases hb with rfl | ⟨rfl, hb⟩
      · exact ⟨rfl, rfl⟩
      · unfold flMax at h; rw [order_nan_r (nanC_nan k)] at h; cases h
    · unfold flMax at h; rw [order_nan_l (nanC_nan k)] at h; cases h
  rw [e.1, e.2]
  exact h
theorem rv_nil {v : Value} (h : Rv m (.one .nil) v) : v = .slice none 0 0 := by have : [v] = _ := h; simpa using this
theorem mk_int {k : IntKind} {n : Int} : Rv m (.one (.i k n)) (.int k n) := rfl
theorem mk_bool {b : Bool} : Rv m (.one (.b b)) (.bool b) := rfl
theorem mk_str {l : List UInt8} : Rv m (.one (.s l)) (sv l) := rfl

theorem binI_sound {op : BinOp} {k k' : IntKind} {a b : Int} {x y : Operand} {t u : TypeId} (hk : binI op k a b K1 = some res) (hx : ev r x = .int k a) (hy : ev r y = .int k' b) (hkk : k = k' ∨ op = .shl ∨ op = .shr) :
    Pure P M S w0 h g w r ⟨d, .binOp op t x y u, ty, pos, aft, gd⟩ K1 res := by
  have hs : ∀ (op' : BinOp), op = op' → op' ≠ .shl → op' ≠ .shr → ev r y = .int k b := fun op' e h1 h2 => by
    rcases hkk with h | h | h
    · rw [h]; exact hy
    · exact absurd (e.symm.trans h) h1
    · exact absurd (e.symm.trans h) h2
  cases op <;> simp only [binI] at hk
  · exact .of (fun _ => ex_add hx (hs _ rfl (by simp) (by simp))) mk_int hk
  · exact .of (fun _ => ex_sub hx (hs _ rfl (by simp) (by simp))) mk_int hk
  · exact .of (fun _ => ex_mul hx (hs _ rfl (by simp) (by simp))) mk_int hk
  · obtain ⟨h0, hk⟩ := need_some hk
    exact .of (fun _ => ex_quo hx (hs _ rfl (by simp) (by simp)) h0) mk_int hk
  · obtain ⟨h0, hk⟩ := need_some hk
    exact .of (fun _ => ex_rem hx (hs _ rfl (by simp) (by simp)) h0) mk_int hk
  · exact .of (fun _ => ex_and hx (hs _ rfl (by simp) (by simp))) mk_int hk
  · exact .of (fun _ => ex_or hx (hs _ rfl (by simp) (by simp))) mk_int hk
  · exact .of (fun _ => ex_xor hx (hs _ rfl (by simp) (by simp))) mk_int hk
  · obtain ⟨h0, hk⟩ := need_some hk
    exact .of (fun _ => ex_shl hx hy h0) mk_int hk
  · obtain ⟨h0, hk⟩ := need_some hk
    exact .of (fun _ => ex_shr hx hy h0) mk_int hk
  · exact .of (fun _ => ex_andNot hx (hs _ rfl (by simp) (by simp))) mk_int hk
  · exact .of (fun _ => ex_eql hx (hs _ rfl (by simp) (by simp))) mk_bool hk
  · exact .of (fun _ => ex_neq hx (hs _ rfl (by simp) (by simp))) mk_bool hk
  · exact .of (fun _ => ex_lss hx (hs _ rfl (by simp) (by simp))) mk_bool hk
  · exact .of (fun _ => ex_leq hx (hs _ rfl (by simp) (by simp))) mk_bool hk
  · exact .of (fun _ => ex_gtr hx (hs _ rfl (by simp) (by simp))) mk_bool hk
  · exact .of (fun _ => ex_geq hx (hs _ rfl (by simp) (by simp))) mk_bool hk

theorem binS_sound {op : BinOp} {a b : List UInt8} {x y : Operand} {t u : TypeId} (hk : binS op a b K1 = some res) (hx : ev r x = sv a) (hy : ev r y = sv b) :
    Pure P M S w0 h g w r ⟨d, .binOp op t x y u, ty, pos, aft, gd⟩ K1 res := by
  cases op <;> simp only [binS] at hk <;> try (cases hk)
  · obtain ⟨h0, hk⟩ := need_some hk
    exact .of (fun _ => ex_cat hx hy h0) mk_str hk
  · exact .of (fun _ => ex_eqs hx hy) mk_bool hk
  · exact .of (fun _ => ex_nes hx hy) mk_bool hk
  · exact .of (fun _ => ex_lts hx hy) mk_bool hk

theorem binFl_sound {op : BinOp} {k : FloatKind} {a b : Nat} {x y : Operand} {t u : TypeId} (hk : binFl op k a b K1 = some res) (hx : ev r x = .float k a) (hy : ev r y = .float k b) :
    Pure P M S w0 h g w r ⟨d, .binOp op t x y u, ty, pos, aft, gd⟩ K1 res := by
  cases op <;> simp only [binFl] at hk <;> try (cases hk)
  · obtain ⟨z, h0, hk⟩ := Option.bind_eq_some_iff.1 hk
    exact .of (fun _ => ex_addf hx hy h0) mk_flt hk
  · obtain ⟨z, h0, hk⟩ := Option.bind_eq_some_iff.1 hk
    exact .of (fun _ => ex_subf hx hy h0) mk_flt hk
  · obtain ⟨z, h0, hk⟩ := Option.bind_eq_some_iff.1 hk
    exact .of (fun _ => ex_mulf hx hy h0) mk_flt hk
  · obtain ⟨z, h0, hk⟩ := Option.bind_eq_some_iff.1 hk
    exact .of (fun _ => ex_quof hx hy h0) mk_flt hk
  · exact .of (fun _ => ex_eqlf hx hy) mk_bool hk
  · exact .of (fun _ => ex_neqf hx hy) mk_bool hk
  · exact .of (fun _ => ex_lssf hx hy) mk_bool hk
  · exact .of (fun _ => ex_leqf hx hy) mk_bool hk
  · exact .of (fun _ => ex_gtrf hx hy) mk_bool hk
  · exact .of (fun _ => ex_geqf hx hy) mk_bool hk

theorem binFc_sound {op : BinOp} {k : FloatKind} {a b a' b' : Nat} {x y : Operand} {t u : TypeId} (hk : binFc op k a b K1 = some res) (hx : ev r x = .float k a') (hy : ev r y = .float k b') (ha : Fl k a a') (hb : Fl k b b') :
    Pure P M S w0 h g w r ⟨d, .binOp op t x y u, ty, pos, aft, gd⟩ K1 res := by
  have e := ha.order hb
  have e1 : flEq k a' b' = flEq k a b := by unfold flEq; rw [e]
  have e2 : flLt k a' b' = flLt k a b := by unfold flLt; rw [e]
  have e3 : flGt k a' b' = flGt k a b := by unfold flGt; rw [e]
  cases op <;> simp only [binFc] at hk <;> try (cases hk)
  · rw [← e1] at hk; exact .of (fun _ => ex_eqlf hx hy) mk_bool hk
  · rw [← e1] at hk; exact .of (fun _ => ex_neqf hx hy) mk_bool hk
  · rw [← e2] at hk; exact .of (fun _ => ex_lssf hx hy) mk_bool hk
  · rw [← e1, ← e2] at hk; exact .of (fun _ => ex_leqf hx hy) mk_bool hk
  · rw [← e3] at hk; exact .of (fun _ => ex_gtrf hx hy) mk_bool hk
  · rw [← e1, ← e3] at hk; exact .of (fun _ => ex_geqf hx hy) mk_bool hk

theorem binB_sound {op : BinOp} {a b : Bool} {x y : Operand} {t u : TypeId} (ht : P.underlying t = some .bool) (hk : binB op a b K1 = some res) (hx : ev r x = .bool a) (hy : ev r y = .bool b) :
    Pure P M S w0 h g w r ⟨d, .binOp op t x y u, ty, pos, aft, gd⟩ K1 res := by
  cases op <;> simp only [binB] at hk <;> try (cases hk)
  · exact .of (fun _ => ex_eqb ht hx hy) mk_bool hk
  · exact .of (fun _ => ex_neb ht hx hy) mk_bool hk

/-! ### loads -/
def CA (w : World) (b a : Nat) (l : List Value) : Prop := ∀ (j : Nat) y, l[j]? = some y → w.cell? ⟨b, a + j, none⟩ = some y

theorem CA.sub {b a : Nat} {l1 l2 l3 : List Value} (hc : CA w b a (l1 ++ (l2 ++ l3))) : CA w b (a + l1.length) l2 := fun j y hj => by
  have := hc (l1.length + j) y (by rw [List.getElem?_append_right (by omega), List.getElem?_append_left (by have := (List.getElem?_eq_some_iff.1 hj).1; omega)]; rw [← hj]; congr 1; omega)
  rw [Nat.add_assoc]; exact this

theorem mkV_sound {T : TypeId} {mid : List L} {v : V} {s : List (List Value)} {b a : Nat} (hv : mkV P T mid = some v) (hs : Al2 (Rl m) mid s) :
    ∃ val, Rv m v val ∧ ∀ w', CA w' b a s.flatten → (loadVar T ⟨b, a, none⟩).run P w' = .ok val w' := by
  unfold mkV at hv
  rw [cond_eq_ite] at hv
  split at hv
  · rename_i hsc
    split at hv
    · rename_i x
      rw [cond_eq_ite] at hv
      split at hv
      · rename_i hw
        cases hv
        obtain ⟨c, s', rfl, h1, h2⟩ := hs.cons_left
        have := h2.nil_left
        subst this
        have hl := Rl.len _ _ h1
        rw [Nat.eq_of_beq_eq_true hw] at hl
        match c, hl with
        | [val], _ =>
          refine ⟨val, h1, fun w' hc => ?_⟩
          obtain ⟨h3, _⟩ := scal_spec (w := w') hsc
          have h4 : w'.cell? ⟨b, a, none⟩ = some val := by have := hc 0 val (by simp); simpa using this
          simp [loadVar, Sem.run_bind, h3, h4]
      · cases hv
    · cases hv
  · split at hv
    · rename_i n' hag
      rw [cond_eq_ite] at hv
      split at hv
      · rename_i hw
        cases hv
        refine ⟨ag s, ⟨s, rfl, hs⟩, fun w' hc => ?_⟩
        obtain ⟨h1, h2⟩ := agg_spec (w := w') hag
        have hl : s.flatten.length = n' := by rw [Rls.len hs]; exact Nat.eq_of_beq_eq_true hw
        have hld := run_loadCells_list (P := P) w' ⟨b, a, none⟩ s.flatten fun j v hj => by rw [add_lit]; exact hc j v hj
        rw [hl] at hld
        simp [loadVar, Sem.run_bind, h1, h2, hld, ag, cells]
      · cases hv
    · cases hv

theorem cut_segs {ls pre mid post : List L} {off n : Nat} {s : List (List Value)} (hc : cutL ls off n = some (pre, mid, post)) (hs : Al2 (Rl m) ls s) :
    ∃ s1 s2 s3, s = s1 ++ (s2 ++ s3) ∧ Al2 (Rl m) pre s1 ∧ Al2 (Rl m) mid s2 ∧ Al2 (Rl m) post s3 ∧ s1.flatten.length = off ∧ s2.flatten.length = n ∧ widLs mid = n := by
  obtain ⟨h1, h2, h3⟩ := cutL_sound hc
  subst h1
  obtain ⟨s1, s', rfl, k1, k2⟩ := hs.split
  obtain ⟨s2, s3, rfl, k3, k4⟩ := k2.split
  exact ⟨s1, s2, s3, rfl, k1, k3, k4, (Rls.len k1).trans h2, (Rls.len k3).trans h3, h3⟩

theorem load_cut {T : TypeId} {ls pre mid post : List L} {off n b a : Nat} {v : V} {s : List (List Value)} (hc : cutL ls off n = some (pre, mid, post)) (hv : mkV P T mid = some v) (hs : Al2 (Rl m) ls s) :
    ∃ val, Rv m v val ∧ ∀ w', CA w' b a s.flatten → (loadVar T ⟨b, a + off, none⟩).run P w' = .ok val w' := by
  obtain ⟨s1, s2, s3, rfl, _, k2, _, l1, _, _⟩ := cut_segs hc hs
  obtain ⟨val, h1, h2⟩ := mkV_sound (P := P) (b := b) (a := a + off) hv k2
  refine ⟨val, h1, fun w' hca => h2 w' ?_⟩
  rw [List.flatten_append, List.flatten_append] at hca
  have := hca.sub
  rw [l1] at this
  exact this

/-- the blocks that a state's objects and data lie in -/
def Seen (m : Mem) (h : Hm) (b : Nat) : Prop := m.I b ∨ ∃ id, lives h id ∧ foot (m.g id) = some b
/-- a load, in a memory where what was there has stayed -/
structure Reads (P : Program) (M S : Nat → Prop) (w0 : World) (h : Hm) (g : Nat → Value) (w : World) (r : Env) (o : Oper) (K : V → Option R) (res : R) : Prop where
  out : ∃ v val, (∀ w', (∀ b, Seen (memOf M S w0 h g w) h b → w'.heap[b]? = w.heap[b]?) → (execOp (ev r) o).run P w' = .ok (.value val) w') ∧ Rv (memOf M S w0 h g w) v val ∧ K v = some res
theorem Reads.step {o : Oper} (H : Rel M S w0 h g w) (k : Reads P M S w0 h g w r o (fun v => K v h) res) : Step P o r w (After M S w0 h g w K res) := by
  obtain ⟨v, val, h1, h2, h3⟩ := k
  exact .value (h1 w fun _ _ => rfl) ⟨v, h, g, H, .refl _, h2, h3⟩
theorem Pure.reads {o : Oper} (k : Pure P M S w0 h g w r o K1 res) : Reads P M S w0 h g w r o K1 res := by
  obtain ⟨v, val, h1, h2, h3⟩ := k
  exact ⟨⟨v, val, fun w' _ => h1 w', h2, h3⟩⟩

theorem CA.later {b a : Nat} {l : List Value} (hc : CA w b a l) (hw : b < w.heap.size → w'.heap[b]? = w.heap[b]?) : CA w' b a l := fun j y hj => by
  have h1 := hc j y hj
  have hb : b < w.heap.size := by
    simp only [World.cell?] at h1
    cases e : w.heap[b]? with
    | none => rw [e] at h1; cases h1
    | some o => exact (Array.getElem?_eq_some_iff.1 e).1
  simp only [World.cell?] at h1 ⊢
  rw [hw hb]; exact h1

theorem blk_CA {b : Nat} {t : TypeId} {s : List (List Value)} {fz : Nat × Nat} (hb : w.heap[b]? = some (.cells (cells s) t fz)) : CA w b 0 s.flatten := fun j y hj => by
  rw [cell_at hb, Nat.zero_add]; exact hj

theorem Rel.rdls (H : Rel M S w0 h g w) {id : Nat} {t : TypeId} {ls : List L} (hr : rdLs h[id]? = some (t, ls)) : ∃ b s, g id = .pointer (some ⟨b, 0, none⟩) ∧ w.heap[b]? = some (.cells (cells s) t (0, 0)) ∧ Al2 (Rl (memOf M S w0 h g w)) ls s := by
  cases e : h[id]? with
  | none => rw [e] at hr; cases hr
  | some o =>
    rw [e] at hr
    have := H.obj id o e
    cases o <;> simp only [rdLs] at hr <;> cases hr
    · exact this
    · obtain ⟨b, s, h1, h2, h3, _⟩ := this; exact ⟨b, s, h1, h2, h3⟩

theorem Rel.rdseen (H : Rel M S w0 h g w) {id : Nat} {t : TypeId} {ls : List L} (hr : rdLs h[id]? = some (t, ls)) {b : Nat} (hb : g id = .pointer (some ⟨b, 0, none⟩)) : Seen (memOf M S w0 h g w) h b := by
  cases e : h[id]? with
  | none => rw [e] at hr; cases hr
  | some o =>
    rw [e] at hr
    have := H.obj id o e
    cases o <;> simp only [rdLs] at hr <;> cases hr
    · exact .inr ⟨id, by simp [lives, e, liveO], by show foot (g id) = _; rw [hb]; rfl⟩
    · obtain ⟨b', s, h1, h2, h3, h4⟩ := this
      rw [hb] at h1; cases h1; exact .inl h4
theorem foot_vfoot {v : Value} {b : Nat} (h : vfoot v = some b) : foot v = some b := by
  cases v <;> first | exact h | (simp [vfoot] at h)

theorem CA.elem {b a z j : Nat} {ys : List (List Value)} {y : List Value} (hc : CA w b a ys.flatten) (hz : ∀ x ∈ ys, x.length = z) (hj : ys[j]? = some y) : CA w b (a + j * z) y := fun k v hk => by
  have hy := hz y (List.mem_of_getElem? hj)
  have hk' := (List.getElem?_eq_some_iff.1 hk).1
  have := flat_at hz hj (k := k) (by omega)
  rw [hk] at this
  have h1 := hc _ _ this
  rw [← Nat.add_assoc] at h1; exact h1

/-- where a slice that is not empty lies -/
theorem Rd.ca {v : Value} {z : Nat} {ys : List (List Value)} (h : Rd w v z ys) (h0 : ys ≠ []) : ∃ b a, (∀ n, eptr v n = .pointer (some ⟨b, a + n, none⟩)) ∧ CA w b a ys.flatten ∧ vfoot v = some b ∧ slen v = ys.length := by
  rcases h.2 with ⟨_, rfl⟩ | ⟨b, a, cap, cur, t, fz, rfl, h1, h2, h3⟩
  · exact absurd rfl h0
  · have hl : 0 < ys.length := List.length_pos_iff.2 h0
    refine ⟨b, a, fun n => by simp [eptr, add_lit], fun j y hj => ?_, ?_, rfl⟩
    · rw [cell_of_row w b _ cur t fz h2]; exact h3 j y hj
    · have : cap ≠ 0 := by omega
      simp [vfoot, this]
theorem Rd.slen {v : Value} {z : Nat} {ys : List (List Value)} (h : Rd w v z ys) : slen v = ys.length := by
  rcases h.2 with ⟨⟨a, rfl⟩, rfl⟩ | ⟨b, a, cap, cur, t, fz, rfl, _⟩ <;> rfl

theorem vecOf_toList {α : Type} {n : Nat} {dd : α} {l : List α} (hn : n ≤ l.length) : (vecOf n dd l).toList = l.take n := by
  apply List.ext_getElem?
  intro i
  simp only [vecOf, Vector.toList_mk, List.getElem?_map, List.getElem?_take]
  by_cases h : i < n
  · have : i < l.length := by omega
    simp [h, List.getElem?_eq_getElem this]
  · simp [h]

/-- an element of a list of data, in its cells -/
theorem elem_CA {t : T} {xs : List (den t)} {ys : List (List Value)} {i : Int} (hs : Al2 (At m.w m.I t) xs ys) (h0 : 0 ≤ i) (h1 : i < (xs.length : Int)) : ∃ c, ys[i.toNat]? = some c ∧ At m.w m.I t (at_ (dflt t) xs i) c := by
  have hx : xs[i.toNat]? = some (at_ (dflt t) xs i) := at_get h0 h1
  exact hs.get hx

theorem load_sound {T : TypeId} {x : Operand} (H : Rel M S w0 h g w) (E : ER (memOf M S w0 h g w) e r) (hk : loadOp P T (opnd e x) h K = some res) :
    Reads P M S w0 h g w r ⟨d, .load T x, ty, pos, aft, gd⟩ (fun v => K v h) res := by
  have hx := opnd_sound E x
  generalize opnd e x = p at hk hx
  cases p with
  | one y =>
    cases y <;> simp only [loadOp] at hk <;> try (cases hk)
    rename_i id off
    split at hk
    · rename_i t ls hr
      split at hk
      · rename_i n hn
        split at hk
        · rename_i pre mid post hc
          split at hk
          · rename_i v hv
            obtain ⟨_, b, hb, hval⟩ := hx
            obtain ⟨b', s, hb', hcell, hs⟩ := H.rdls hr
            have hb : g id = _ := hb
            rw [hb'] at hb; cases hb
            have hval : ev r x = .pointer (some ⟨b, off, none⟩) := by simpa using hval
            obtain ⟨val, h1, h2⟩ := load_cut (P := P) (b := b) (a := 0) hc hv hs
            rw [Nat.zero_add] at h2
            exact ⟨⟨v, val, fun w' hw => ex_load hval (h2 w' ((blk_CA hcell).later fun _ => hw _ (H.rdseen hr hb'))), h1, hk⟩⟩
          · cases hk
        · cases hk
      · cases hk
    · cases hk
  | epR t u off =>
    simp only [loadOp] at hk
    split at hk
    · rename_i n hn
      split at hk
      · rename_i pre mid post hc
        split at hk
        · rename_i v hv
          obtain ⟨q, o, c, hval, hI, hat, hca⟩ := hx
          obtain ⟨s, rfl, hs⟩ := At.enc (m := memOf M S w0 h g w) _ _ _ hat
          obtain ⟨val, h1, h2⟩ := load_cut (P := P) (b := q) (a := o) hc hv hs
          exact ⟨⟨v, val, fun w' hw => ex_load hval (h2 w' (CA.later (w := w) hca fun _ => hw _ (.inl hI))), h1, hk⟩⟩
        · cases hk
      · cases hk
    · cases hk
  | epO id z i off =>
    simp only [loadOp] at hk
    split at hk
    · rename_i t' t xs n ho hn
      rw [cond_eq_ite] at hk
      split at hk
      rotate_left
      · cases hk
      rename_i hzt
      have hzt := Nat.eq_of_beq_eq_true hzt
      split at hk
      · rename_i pre mid post hc
        split at hk
        · rename_i v hv
          have hli : lives h id := by simp [lives, ho, liveO]
          obtain ⟨_, hval⟩ := hx
          obtain ⟨hval, h0, h1⟩ := hval hli
          obtain ⟨ys, hO, hs⟩ := H.obj _ _ ho
          have hval : ev r x = eptr (g id) (i.toNat * z + off) := hval
          have h1 : i < (slen (g id) : Int) := h1
          have hz := (hs.flat_len (At.len t)).1
          rw [hO.rd.slen, ← hs.length] at h1
          obtain ⟨c, hc1, hat⟩ := elem_CA hs h0 h1
          have hne : ys ≠ [] := fun e => by rw [e] at hc1; simp at hc1
          obtain ⟨q, a, hp, hca, hvf, _⟩ := hO.rd.ca hne
          rw [hp] at hval
          have hca := hca.elem hz hc1
          obtain ⟨s, rfl, hs⟩ := At.enc (m := memOf M S w0 h g w) _ _ _ hat
          rw [← hzt] at hca
          obtain ⟨val, h1, h2⟩ := load_cut (P := P) (b := q) (a := a + i.toNat * z) hc hv hs
          rw [Nat.add_assoc] at h2
          exact ⟨⟨v, val, fun w' hw => ex_load hval (h2 w' (CA.later (w := w) hca fun _ => hw _ (.inr ⟨id, hli, foot_vfoot hvf⟩))), h1, hk⟩⟩
        · cases hk
      · cases hk
    · rename_i t' t xs n ho hn
      exact (H.obj _ _ ho).elim
    · cases hk
  | epB id off n z i k =>
    simp only [loadOp] at hk
    split at hk
    · rename_i t' ls n' hr hn
      split at hk
      · rename_i pre t m' x' post hsk
        rw [cond_eq_ite] at hk
        split at hk
        · rename_i hb
          rw [Bool.and_eq_true] at hb
          obtain ⟨hb1, hzt⟩ := hb
          have hb1 := Nat.eq_of_beq_eq_true hb1
          have hzt := Nat.eq_of_beq_eq_true hzt
          subst hb1
          split at hk
          · rename_i pr mid po hc
            split at hk
            · rename_i v hv
              obtain ⟨_, h0, h1, b, hgb, hval⟩ := hx
              obtain ⟨b', s, hb', hcell, hs⟩ := H.rdls hr
              have hgb : g id = _ := hgb
              rw [hb'] at hgb; cases hgb
              obtain ⟨h2, h3⟩ := skipL_sound _ _ _ _ hsk
              subst h2
              obtain ⟨s1, s2, rfl, k1, k2⟩ := hs.split
              obtain ⟨c, s3, rfl, k3, k4⟩ := k2.cons_left
              have hca := blk_CA hcell
              rw [List.flatten_append, List.flatten_cons] at hca
              have hca := hca.sub
              rw [Nat.zero_add, (Rls.len k1).trans h3] at hca
              obtain ⟨ys, rfl, k5⟩ := k3
              have hz := (k5.flat_len (At.len t)).1
              have hlen : (x'.toList.length : Int) = n := by simp
              obtain ⟨c, hc1, hat⟩ := elem_CA k5 h0 (by rw [hlen]; exact h1)
              have hca := hca.elem hz hc1
              obtain ⟨s, rfl, hs⟩ := At.enc (m := memOf M S w0 h g w) _ _ _ hat
              rw [← hzt] at hca
              obtain ⟨val, h4, h5⟩ := load_cut (P := P) (b := b) (a := off + i.toNat * z) hc hv hs
              rw [Nat.add_assoc] at h5
              exact ⟨⟨v, val, fun w' hw => ex_load hval (h5 w' (CA.later (w := w) hca fun _ => hw _ (H.rdseen hr hb'))), h4, hk⟩⟩
            · cases hk
          · cases hk
        · cases hk
      · cases hk
    · cases hk
  | toA t n xs =>
    simp only [loadOp] at hk
    rw [cond_eq_ite] at hk
    split at hk
    · rename_i hw1
      split at hk
      · rename_i v hv
        obtain ⟨h0, h1, u, ⟨ys, hrd, hs, hI⟩, hval⟩ := hx
        have hl := hs.length
        have hne : ys ≠ [] := fun e => by subst e; simp only [List.length_nil] at hl; omega
        obtain ⟨q, a, hp, hca, hvf, _⟩ := hrd.ca hne
        rw [hp, Nat.add_zero] at hval
        have hk2 : Al2 (Rl (memOf M S w0 h g w)) [.arr t n (vecOf n (dflt t) xs)] [(ys.take n).flatten] := ⟨⟨ys.take n, rfl, by rw [vecOf_toList h1]; exact hs.take n⟩, trivial⟩
        obtain ⟨val, h4, h5⟩ := mkV_sound (P := P) (b := q) (a := a) hv hk2
        refine ⟨⟨v, val, fun w' hw => ex_load hval (h5 w' ?_), h4, hk⟩⟩
        rw [flat_one]
        have e : ys.flatten = (ys.take n).flatten ++ (ys.drop n).flatten := by rw [← List.flatten_append, List.take_append_drop]
        refine CA.later (w := w) (fun j y hj => hca j y ?_) fun _ => hw _ (.inl (hI _ hvf))
        rw [e, List.getElem?_append_left (List.getElem?_eq_some_iff.1 hj).1]; exact hj
      · cases hk
    · cases hk
  | _ => simp only [loadOp] at hk; cases hk
end
end Go.Dor
end

section
/- ADDRESSES, PARTS, CONVERSIONS: what the machine says of them holds. Plain lemmas over any program. -/
namespace Go.Dor
open Go.RowKit (Below)
section
variable {P : Program} {M S : Nat → Prop} {w0 w w' : World} {h : Hm} {g : Nat → Value} {R : Type} {res : R} {K : V → Hm → Option R} {K1 : V → Option R}
  {d : Option Tmp} {ty : TypeId} {pos : String} {aft : Array Edge} {gd : Option (Nat × Bool)} {e : Ev} {r : Env}

theorem map_id_list (ys : List (List Value)) : ys.map (fun y => y) = ys := by simp

/-- where a live element lies -/
theorem Rel.epO (H : Rel M S w0 h g w) {id z off : Nat} {i : Int} {ty : TypeId} {t : T} {xs : List (den t)} {v : Value} (ho : h[id]? = some (.arr ty t xs)) (hx : Rv (memOf M S w0 h g w) (.epO id z i off) v) :
    0 ≤ i ∧ i < (xs.length : Int) ∧ ∃ ys b a, Own w (g id) ty (wid t) ys ∧ Al2 (At w (memOf M S w0 h g w).I t) xs ys ∧ (∀ n, eptr (g id) n = .pointer (some ⟨b, a + n, none⟩)) ∧ CA w b a ys.flatten ∧ v = .pointer (some ⟨b, a + (i.toNat * z + off), none⟩) ∧ vfoot (g id) = some b := by
  have hli : lives h id := by simp [lives, ho, liveO]
  obtain ⟨_, hval⟩ := hx
  obtain ⟨hval, h0, h1⟩ := hval hli
  obtain ⟨ys, hO, hs⟩ := H.obj _ _ ho
  have h1 : i < (slen (g id) : Int) := h1
  rw [hO.rd.slen, ← hs.length] at h1
  have hne : ys ≠ [] := fun e => by subst e; have := hs.length; simp only [List.length_nil] at this; omega
  obtain ⟨b, a, hp, hca, hfo, _⟩ := hO.rd.ca hne
  refine ⟨h0, h1, ys, b, a, hO, hs, hp, hca, ?_, hfo⟩
  rw [hval]; exact hp _

theorem fieldOp_sound {T : TypeId} {x : Operand} {f : Nat} (H : Rel M S w0 h g w) (E : ER (memOf M S w0 h g w) e r) (hk : fieldOp P T (opnd e x) f h K1 = some res) :
    Pure P M S w0 h g w r ⟨d, .fieldAddr T x f, ty, pos, aft, gd⟩ K1 res := by
  have hx := opnd_sound E x
  generalize opnd e x = p at hk hx
  unfold fieldOp at hk
  split at hk
  · rename_i fo fz hf
    split at hk
    · rename_i id off
      obtain ⟨h1, b, h2, h3⟩ := hx
      have h3 : ev r x = .pointer (some ⟨b, off, none⟩) := by simpa using h3
      exact .mk' hk (fun _ => ex_fieldAddr hf h3 rfl) ⟨h1, b, h2, rfl⟩
    · rename_i t u off
      obtain ⟨q, o, c, h1, h2, h3, h4⟩ := hx
      exact .mk' hk (fun _ => ex_fieldAddr hf h1 rfl) ⟨q, o, c, by rw [Nat.add_assoc], h2, h3, h4⟩
    · rename_i id z i off
      split at hk
      · rename_i ty' t xs ho
        obtain ⟨h0, h1, ys, b, a, hO, hs, hp, hca, hval, _⟩ := H.epO ho hx
        refine .mk' hk (fun _ => ex_fieldAddr hf hval rfl) ⟨hx.1, fun hl => ⟨?_, (hx.2 hl).2⟩⟩
        have := hp (i.toNat * z + (off + fo))
        rw [show (memOf M S w0 h g w).g id = g id from rfl, this]
        congr 3; omega
      · cases hk
    · rename_i id off n z i k
      obtain ⟨h1, h2, h3, b, h4, h5⟩ := hx
      exact .mk' hk (fun _ => ex_fieldAddr hf h5 rfl) ⟨h1, h2, h3, b, h4, by congr 3; omega⟩
    · cases hk
  · cases hk

theorem ex_ixBs {T el : TypeId} {x y : Operand} {k : IntKind} {i lo hi : Int} {b off n z : Nat} (hT : P.underlying T = some (.slice el)) (he : (P.info? el).map (·.size) = some z) (hx : ev r x = bsv b off n lo hi) (hy : ev r y = .int k i)
    (h0 : 0 ≤ lo) (h1 : lo ≤ hi) (h2 : hi ≤ (n : Int)) (hc : 0 ≤ i ∧ i < hi - lo) (hz : z = 1) :
    (execOp (ev r) ⟨d, .indexAddr T x y, ty, pos, aft, gd⟩).run P w = .ok (.value (.pointer (some ⟨b, off + ((lo + i).toNat * z + 0), none⟩))) w := by
  obtain ⟨ii, hii, hs⟩ := Option.map_eq_some_iff.1 he
  subst hz
  have hne : ¬ n = lo.toNat := by omega
  have hlen : i < ((hi.toNat - lo.toNat : Nat) : Int) := by omega
  have e1 : off + lo.toNat + i.toNat = off + ((lo + i).toNat * 1 + 0) := by omega
  simp only [bsv, if_neg hne] at hx
  simp [execOp, hx, hy, Instr.indexAt, asIntOf, run_underlying hT, hc.1, hlen, sizeOf, typeInfo, hii, hs, add_lit]

/-- an element of such a part is an element of the slice -/
theorem eptr_slv {q n cap z : Nat} {lo i : Int} (h0 : 0 ≤ lo) (h1 : 0 ≤ i) (h2 : i < (n : Int) - lo) (h3 : n ≤ cap) : eptr (slv (.slice (some ⟨q, 0, none⟩) n cap) lo n z) (i.toNat * z) = eptr (.slice (some ⟨q, 0, none⟩) n cap) ((lo + i).toNat * z) := by
  simp only [slv]
  rw [if_neg (by omega), Option.map_some, add_lit]
  simp only [eptr, add_lit]
  congr 3
  have : (lo + i).toNat = lo.toNat + i.toNat := by omega
  rw [this, Nat.add_mul]; omega
theorem idxAddr_sound {T : TypeId} {x y : Operand} (H : Rel M S w0 h g w) (E : ER (memOf M S w0 h g w) e r) (hk : idxAddr P T (opnd e x) (opnd e y) h K1 = some res) :
    Pure P M S w0 h g w r ⟨d, .indexAddr T x y, ty, pos, aft, gd⟩ K1 res := by
  have hx := opnd_sound E x
  have hy := opnd_sound E y
  generalize opnd e x = p at hk hx
  generalize opnd e y = q at hk hy
  unfold idxAddr at hk
  split at hk
  · rename_i k i
    have hy := rv_int hy
    split at hk
    · rename_i el hT
      split at hk
      · rename_i z hz
        split at hk
        · rename_i t xs
          rw [cond_eq_ite] at hk
          split at hk
          · rename_i hzt
            have hzt := Nat.eq_of_beq_eq_true hzt
            obtain ⟨hc, hk⟩ := need_some hk
            obtain ⟨v, hv, ys, hrd, hs, hI⟩ := hx
            have hv : ev r x = v := by simpa using hv
            subst hv
            have hl := hs.length
            have hne : ys ≠ [] := fun e => by subst e; simp only [List.length_nil] at hl; omega
            obtain ⟨b, a, hp, hca, hfo, _⟩ := hrd.ca hne
            obtain ⟨c, hc1, hat⟩ := elem_CA (m := memOf M S w0 h g w) hs hc.1 hc.2
            refine .mk' (val := eptr (ev r x) (i.toNat * z)) hk (fun w' => ex_ixS (l := ys) (f := fun y => y) (by rw [map_id_list]; rw [← hzt]; exact hrd) hT hz rfl hy (by rw [← hl]; exact hc)) ⟨b, a + i.toNat * z, c, ?_, hI b hfo, hat, ?_⟩
            · rw [hp]; rfl
            · exact hca.elem (by rw [← hzt]; exact (hs.flat_len (At.len t)).1) hc1
          · cases hk
        · rename_i id
          split at hk
          · rename_i ty' t xs ho
            rw [cond_eq_ite] at hk
            split at hk
            · rename_i hzt
              have hzt := Nat.eq_of_beq_eq_true hzt
              obtain ⟨hc, hk⟩ := need_some hk
              have hli : lives h id := by simp [lives, ho, liveO]
              obtain ⟨hlt, v, hv, _, _, hv2⟩ := hx
              have hv : ev r x = v := by simpa using hv
              have hv2 := hv2 hli
              have hv2 : v = g id := hv2
              rw [hv2] at hv
              obtain ⟨ys, hO, hs⟩ := H.obj _ _ ho
              have hl := hs.length
              refine .mk' (val := eptr (g id) (i.toNat * z)) hk (fun w' => ex_ixS (l := ys) (f := fun y => y) (by rw [map_id_list]; rw [← hzt]; exact hO.rd) hT hz hv hy (by rw [← hl]; exact hc)) ⟨hlt, fun _ => ⟨rfl, hc.1, ?_⟩⟩
              rw [show (memOf M S w0 h g w).g id = g id from rfl, hO.rd.slen, ← hl]; exact hc.2
            · cases hk
          · rename_i ho; exact (H.obj _ _ ho).elim
          · cases hk
        · rename_i id off n lo hi
          rw [cond_eq_ite] at hk
          split at hk
          · rename_i hz1
            have hz1 := Nat.eq_of_beq_eq_true hz1
            obtain ⟨hc, hk⟩ := need_some hk
            obtain ⟨hlt, h0, h1, h2, b, hb, hval⟩ := hx
            have hval : ev r x = bsv b off n lo hi := by simpa using hval
            exact .mk' hk (fun w' => ex_ixBs hT hz hval hy h0 h1 h2 hc hz1) ⟨hlt, by omega, by omega, b, hb, rfl⟩
          · cases hk
        · rename_i id z' lo
          split at hk
          · rename_i ty' t xs ho
            rw [cond_eq_ite] at hk
            split at hk
            · rename_i hzz
              rw [Bool.and_eq_true] at hzz
              have hzt := Nat.eq_of_beq_eq_true hzz.1
              have hz2 := Nat.eq_of_beq_eq_true hzz.2
              subst hz2
              obtain ⟨hc, hk⟩ := need_some hk
              obtain ⟨hlt, a1, n, cap, e1, h0, h1, hval⟩ := hx
              have e1 : g id = .slice a1 n cap := e1
              have hval : ev r x = slv (g id) lo n z' := (List.cons.inj hval).1
              obtain ⟨ys, hO, hs⟩ := H.obj _ _ ho
              have hl := hs.length
              have hn : n = ys.length := by
                have hn := hO.rd.slen
                rw [e1] at hn
                exact hn
              rcases hO.2 with ⟨_, h00⟩ | ⟨q, cap', cur, fz, hgq, hcp, _⟩
              · rw [h00, List.length_nil] at hl
                omega
              · have hrd := hO.rd.sub (lo := lo) (hi := (n : Int)) h0 h1 (by omega)
                rw [hzt] at hrd
                rw [hgq] at e1
                cases e1
                have hlen : (sub_ ys lo (ys.length : Int)).length = ys.length - lo.toNat := by simp [sub_]
                have he := eptr_slv (q := q) (z := z') h0 hc.1 (by omega) hcp
                refine .mk' (val := eptr (g id) ((lo + i).toNat * z')) hk (fun w' => ?_) ⟨hlt, fun _ => ⟨rfl, by omega, ?_⟩⟩
                · have := ex_ixS (P := P) (w := w') (d := d) (ty := ty) (pos := pos) (aft := aft) (g := gd) (l := sub_ ys lo (ys.length : Int)) (f := fun y => y) (by rw [map_id_list]; exact hrd) hT hz hval hy (by rw [hlen]; omega)
                  rw [hgq] at this ⊢
                  rw [he] at this
                  exact this
                · rw [show (memOf M S w0 h g w).g id = g id from rfl, hO.rd.slen, ← hl]; omega
            · cases hk
          · cases hk
        · cases hk
      · cases hk
    · rename_i n el hT
      split at hk
      · rename_i z hz
        split at hk
        · rename_i id off
          obtain ⟨hc, hk⟩ := need_some hk
          obtain ⟨hlt, b, hb, hval⟩ := hx
          have hval : ev r x = .pointer (some ⟨b, off, none⟩) := by simpa using hval
          exact .mk' hk (fun w' => ex_indexAddrA hT hz hval hy hc.1 hc.2) ⟨hlt, hc.1, hc.2, b, hb, rfl⟩
        · cases hk
      · cases hk
    · cases hk
  · cases hk

/-- a single cell of data -/
theorem scal_cell {m : Mem} {t : T} {x : den t} {c : List Value} {z : L} (hat : At m.w m.I t x c) (he : enc t x = [z]) (hw : c.length = 1) : ∃ v, c = [v] ∧ Rl m z [v] := by
  obtain ⟨s, h1, h2⟩ := At.enc (m := m) _ _ _ hat
  rw [he] at h2
  obtain ⟨c', s', rfl, h3, h4⟩ := h2.cons_left
  have := h4.nil_left
  subst this
  rw [flat_one] at h1
  subst h1
  match c, hw with
  | [v], _ => exact ⟨v, rfl, h3⟩

theorem idxOp_sound {T : TypeId} {x y : Operand} (E : ER (memOf M S w0 h g w) e r) (hk : idxOp P T (opnd e x) (opnd e y) K1 = some res) :
    Pure P M S w0 h g w r ⟨d, .index T x y, ty, pos, aft, gd⟩ K1 res := by
  have hx := opnd_sound E x
  have hy := opnd_sound E y
  generalize opnd e x = p at hk hx
  generalize opnd e y = q at hk hy
  unfold idxOp at hk
  split at hk
  · rename_i k i
    have hy := rv_int hy
    split at hk
    · split at hk
      · rename_i hT
        obtain ⟨hc, hk⟩ := need_some hk
        exact .mk' hk (fun _ => ex_ats hT (rv_str hx) hy hc.1 hc.2) mk_int
      · cases hk
    · rename_i t n v
      split at hk
      · rename_i n' el hT
        rw [cond_eq_ite] at hk
        split at hk
        · rename_i hsc
          rw [Bool.and_eq_true] at hsc
          obtain ⟨hsc, hnn⟩ := hsc
          rw [Bool.and_eq_true] at hsc
          obtain ⟨hsc, hw1⟩ := hsc
          have hnn := Nat.eq_of_beq_eq_true hnn
          have hw1 := Nat.eq_of_beq_eq_true hw1
          subst hnn
          obtain ⟨hc, hk⟩ := need_some hk
          split at hk
          · rename_i z hz
            obtain ⟨s, hv, hs⟩ := hx
            obtain ⟨c, s', rfl, h1, h2⟩ := hs.cons_left
            have := h2.nil_left
            subst this
            obtain ⟨ys, rfl, h3⟩ := h1
            have hlen : (v.toList.length : Int) = n := by simp
            obtain ⟨c, hc1, hat⟩ := elem_CA (m := memOf M S w0 h g w) h3 hc.1 (by rw [hlen]; exact hc.2)
            obtain ⟨u, rfl, hu⟩ := scal_cell hat hz (by rw [At.len _ _ _ hat, hw1])
            have hall := (h3.flat_len (At.len t)).1
            rw [hw1] at hall
            have hget : ys.flatten[i.toNat]? = some u := by
              have := flat_at hall hc1 (k := 0) (by omega)
              simpa using this
            refine .mk' (val := u) hk (fun w' => ?_) hu
            obtain ⟨h4, h5⟩ := scal_spec (w := w') hsc
            have e3 : (cells [ys.flatten])[i.toNat * 1]? = some u := by simpa [cells] using hget
            simp [execOp, hv, hy, Instr.index, asIntOf, ag, run_underlying hT, hc.1, hc.2, part, h4, h5]
            rw [Nat.mul_one] at e3
            rw [e3]
            rfl
          · cases hk
        · cases hk
      · cases hk
    · cases hk
  · cases hk

theorem bound_sound {o : Option Operand} {dv a : Int} (E : ER (memOf M S w0 h g w) e r) (hb : bound e o dv = some a) : (o = none ∧ a = dv) ∨ ∃ x k, o = some x ∧ ev r x = .int k a := by
  unfold bound at hb
  split at hb
  · cases hb; exact .inl ⟨rfl, rfl⟩
  · rename_i x
    have hx := opnd_sound E x
    generalize opnd e x = p at hb hx
    unfold asInt1 at hb
    split at hb
    · cases hb; exact .inr ⟨x, _, rfl, rv_int hx⟩
    · cases hb

theorem sub_al2 {α β : Type} {Q : α → β → Prop} {xs : List α} {ys : List β} (hs : Al2 Q xs ys) (a b : Int) : Al2 Q (sub_ xs a b) (sub_ ys a b) := (hs.take _).drop _

theorem foot_slv {v : Value} {a b : Int} {z q : Nat} (hq : vfoot (slv v a b z) = some q) : vfoot v = some q := foot_sub hq

theorem ex_subS {T el : TypeId} {x : Operand} {lo hi : Option Operand} {a b : Int} {z : Nat} {ys : List (List Value)} {w1 : World} (hrd : Rd w1 (ev r x) z ys) (hT : P.underlying T = some (.slice el)) (hz : widT P el = some z)
    (ha : (lo = none ∧ a = 0) ∨ ∃ x k, lo = some x ∧ ev r x = .int k a) (hb : (hi = none ∧ b = (ys.length : Int)) ∨ ∃ x k, hi = some x ∧ ev r x = .int k b) (hc : 0 ≤ a ∧ a ≤ b ∧ b ≤ (ys.length : Int)) :
    (execOp (ev r) ⟨d, .slice T x lo hi none, ty, pos, aft, gd⟩).run P w = .ok (.value (slv (ev r x) a b z)) w := by
  have hrd' : Rd w1 (ev r x) z (ys.map fun y => y) := by rw [map_id_list]; exact hrd
  rcases ha with ⟨rfl, rfl⟩ | ⟨xl, k, rfl, hl⟩ <;> rcases hb with ⟨rfl, rfl⟩ | ⟨xh, k', rfl, hh⟩
  · exact ex_subSA hrd' hT hz rfl
  · exact ex_subSH hrd' hT hz rfl hh hc
  · exact ex_subSL hrd' hT hz rfl hl hc
  · exact ex_subSLH hrd' hT hz rfl hl hh hc

theorem ex_subT {T : TypeId} {x : Operand} {lo hi : Option Operand} {a b : Int} {l : List UInt8} (hx : ev r x = sv l) (hT : P.underlying T = some .string)
    (ha : (lo = none ∧ a = 0) ∨ ∃ x k, lo = some x ∧ ev r x = .int k a) (hb : (hi = none ∧ b = (l.length : Int)) ∨ ∃ x k, hi = some x ∧ ev r x = .int k b) (hc : 0 ≤ a ∧ a ≤ b ∧ b ≤ (l.length : Int)) :
    (execOp (ev r) ⟨d, .slice T x lo hi none, ty, pos, aft, gd⟩).run P w = .ok (.value (sv (sub_ l a b))) w := by
  rcases ha with ⟨rfl, rfl⟩ | ⟨xl, k, rfl, hl⟩ <;> rcases hb with ⟨rfl, rfl⟩ | ⟨xh, k', rfl, hh⟩
  · simp only [sv] at hx
    have : sub_ l 0 (l.length : Int) = l := by simp [sub_]
    rw [this]
    simp [execOp, hx, Instr.sliceAt, Instr.slice, Instr.sliceBounds, run_underlying hT, sv]
  · exact ex_subH hT hx hh ⟨by omega, hc.2.2⟩
  · have := ex_subL (w := w) (d := d) (ty := ty) (pos := pos) (aft := aft) (g := gd) hT hx hl ⟨hc.1, hc.2.1⟩
    first | exact this | (rw [this]; simp [sub_])
  · exact ex_subLH hT hx hl hh hc

theorem ex_subP {T el : TypeId} {x : Operand} {lo hi : Option Operand} {a b' : Int} {n b off : Nat} (hx : ev r x = .pointer (some ⟨b, off, none⟩)) (hT : P.underlying T = some (.array n el)) (hz : widT P el = some 1)
    (ha : (lo = none ∧ a = 0) ∨ ∃ x k, lo = some x ∧ ev r x = .int k a) (hb : (hi = none ∧ b' = (n : Int)) ∨ ∃ x k, hi = some x ∧ ev r x = .int k b') (hc : 0 ≤ a ∧ a ≤ b' ∧ b' ≤ (n : Int)) :
    (execOp (ev r) ⟨d, .slice T x lo hi none, ty, pos, aft, gd⟩).run P w = .ok (.value (bsv b off n a b')) w := by
  rcases ha with ⟨rfl, rfl⟩ | ⟨xl, k, rfl, hl⟩ <;> rcases hb with ⟨rfl, rfl⟩ | ⟨xh, k', rfl, hh⟩
  · exact ex_sliceA hT hz hx
  · exact ex_sliceH hT hz hx hh hc
  · exact ex_sliceL hT hz hx hl hc
  · exact ex_sliceLH hT hz hx hl hh hc

end
end Go.Dor
end

section
/- SLICES: read, cut, measured, turned into texts. Plain lemmas over any program. -/
namespace Go.Dor
open Go.RowKit (Below)
section
variable {P : Program} {M S : Nat → Prop} {w0 w w' : World} {h : Hm} {g : Nat → Value} {R : Type} {res : R} {K : V → Hm → Option R} {K1 : V → Option R}
  {d : Option Tmp} {ty : TypeId} {pos : String} {aft : Array Edge} {gd : Option (Nat × Bool)} {e : Ev} {r : Env}

theorem singles : ∀ {ys : List (List Value)}, (∀ y ∈ ys, y.length = 1) → ys.flatten.map (fun v => [v]) = ys
  | [], _ => rfl
  | y :: ys, h => by
    have h1 := h y (by simp)
    match y, h1 with
    | [v], _ =>
      have ih := singles (ys := ys) (fun y hy => h y (List.mem_cons_of_mem _ hy))
      simp only [List.flatten_cons, List.map_cons, List.cons_append, List.nil_append, ih]
theorem flat_single {ys : List (List Value)} (h : ∀ y ∈ ys, y.length = 1) : ys.flatten.length = ys.length := by
  have := flat_len h
  omega
theorem sub_single {ys : List (List Value)} (h : ∀ y ∈ ys, y.length = 1) (a b : Int) : (sub_ ys a b).flatten = sub_ ys.flatten a b := by
  have e := singles h
  have : sub_ ys a b = (sub_ ys.flatten a b).map fun v => [v] := by rw [sub_map (fun v : Value => [v]), e]
  rw [this, flat1]; simp

theorem rd_bsv {b A n : Nat} {a c : Int} {ys : List (List Value)} (hca : CA w b A ys.flatten) (h1 : ∀ y ∈ ys, y.length = 1) (hn : ys.length = n) (hc : 0 ≤ a ∧ a ≤ c ∧ c ≤ (n : Int)) : Rd w (bsv b A n a c) 1 (sub_ ys a c) := by
  have hlen : (sub_ ys a c).length = c.toNat - a.toNat := by simp only [sub_, List.length_drop, List.length_take]; omega
  refine ⟨fun y hy => h1 y (List.mem_of_mem_take (List.mem_of_mem_drop hy)), ?_⟩
  by_cases h0 : n = 0
  · left
    have hn0 : ys = [] := List.eq_nil_of_length_eq_zero (by omega)
    subst hn0
    refine ⟨⟨_, by simp only [bsv]; congr 1 <;> omega⟩, by simp [sub_]⟩
  · right
    have hb : ∃ cur t fz, w.heap[b]? = some (.cells cur t fz) := by
      have hl := flat_single h1
      have : 0 < ys.flatten.length := by omega
      have := hca 0 _ (List.getElem?_eq_getElem this)
      simp only [World.cell?] at this
      cases e : w.heap[b]? with
      | none => rw [e] at this; cases this
      | some o => rw [e] at this; cases o <;> first | exact ⟨_, _, _, rfl⟩ | cases this
    obtain ⟨cur, t, fz, hb⟩ := hb
    refine ⟨b, if n = a.toNat then A else A + a.toNat, n - a.toNat, cur, t, fz, by rw [hlen]; rfl, by rw [hlen]; omega, hb, fun j x hj => ?_⟩
    rw [sub_single h1] at hj
    have hjl := (List.getElem?_eq_some_iff.1 hj).1
    simp only [sub_, List.length_drop, List.length_take] at hjl
    have hl := flat_single h1
    have hne : n ≠ a.toNat := by omega
    rw [if_neg hne]
    have : ys.flatten[a.toNat + j]? = some x := by
      simp only [sub_, List.getElem?_drop, List.getElem?_take] at hj
      split at hj
      · exact hj
      · cases hj
    have := hca _ _ this
    rw [cell_of_row w b _ cur t fz hb] at this
    rw [Nat.add_assoc]; exact this

theorem foot_bsv {b A n : Nat} {a c : Int} {q : Nat} (h : vfoot (bsv b A n a c) = some q) : q = b := by
  simp only [bsv, vfoot] at h
  split at h
  · cases h
  · simpa using h.symm

theorem readS_seen {v : V} {val : Value} {t : T} {xs : List (den t)} (H : Rel M S w0 h g w) (hx : Rv (memOf M S w0 h g w) v val) (hr : readS h v = some ⟨t, xs⟩) :
    ∃ ys, Rd w val (wid t) ys ∧ Al2 (At w (memOf M S w0 h g w).I t) xs ys ∧ ∀ b, vfoot val = some b → Seen (memOf M S w0 h g w) h b := by
  unfold readS at hr
  split at hr
  · cases hr
    obtain ⟨v, hv, ys, h1, h2, h3⟩ := hx
    have hv : val = v := by simpa using hv
    subst hv
    exact ⟨ys, h1, h2, fun b hb => .inl (h3 b hb)⟩
  · rename_i id
    split at hr
    · rename_i ty' t' xs' ho
      cases hr
      have hli : lives h id := by simp [lives, ho, liveO]
      obtain ⟨_, v, hv, _, _, hv2⟩ := hx
      have hv : val = v := by simpa using hv
      have hv2 := hv2 hli
      have hv2 : v = g id := hv2
      obtain ⟨ys, hO, hs⟩ := H.obj _ _ ho
      exact ⟨ys, by rw [hv, hv2]; exact hO.rd, hs, fun b hb => .inr ⟨id, hli, foot_vfoot (by show vfoot (g id) = some b; rw [← hv2, ← hv]; exact hb)⟩⟩
    · rename_i ho; exact (H.obj _ _ ho).elim
    · cases hr
  · rename_i id off n lo hi
    split at hr
    · rename_i t' ls hrd
      split at hr
      · rename_i pre u n' x post hsk
        rw [cond_eq_ite] at hr
        split at hr
        · rename_i hb
          rw [Bool.and_eq_true] at hb
          obtain ⟨hb1, hw1⟩ := hb
          have hb1 := Nat.eq_of_beq_eq_true hb1
          have hw1 := Nat.eq_of_beq_eq_true hw1
          subst hb1
          cases hr
          obtain ⟨_, h0, h1, h2, b, hgb, hval⟩ := hx
          have hval : val = bsv b off n lo hi := by simpa using hval
          obtain ⟨b', s, hb', hcell, hs⟩ := H.rdls hrd
          have hgb : g id = _ := hgb
          rw [hb'] at hgb; cases hgb
          obtain ⟨h3, h4⟩ := skipL_sound _ _ _ _ hsk
          subst h3
          obtain ⟨s1, s2, rfl, k1, k2⟩ := hs.split
          obtain ⟨c, s3, rfl, k3, k4⟩ := k2.cons_left
          have hca := blk_CA hcell
          rw [List.flatten_append, List.flatten_cons] at hca
          have hca := hca.sub
          rw [Nat.zero_add, (Rls.len k1).trans h4] at hca
          obtain ⟨ys, rfl, k5⟩ := k3
          have hz := (k5.flat_len (At.len _)).1
          rw [hw1] at hz
          have hl := k5.length
          refine ⟨sub_ ys lo hi, ?_, sub_al2 k5 lo hi, fun q hq => ?_⟩
          · rw [hval, hw1]
            exact rd_bsv hca hz (by rw [← hl]; simp) ⟨h0, h1, h2⟩
          · rw [hval] at hq
            rw [foot_bsv hq]; exact H.rdseen hrd hb'
        · cases hr
      · cases hr
    · cases hr
  · cases hr

theorem readS_sound {v : V} {val : Value} {t : T} {xs : List (den t)} (H : Rel M S w0 h g w) (hx : Rv (memOf M S w0 h g w) v val) (hr : readS h v = some ⟨t, xs⟩) :
    ∃ ys, Rd w val (wid t) ys ∧ Al2 (At w (memOf M S w0 h g w).I t) xs ys := by
  obtain ⟨ys, h1, h2, _⟩ := readS_seen H hx hr
  exact ⟨ys, h1, h2⟩

theorem lenOp_sound {T : TypeId} {x : Operand} (H : Rel M S w0 h g w) (E : ER (memOf M S w0 h g w) e r) (hk : lenOp P T (opnd e x) h K1 = some res) :
    Pure P M S w0 h g w r ⟨d, .call { callee := .builtin .len, args := #[x], argTypes := #[T] }, ty, pos, aft, gd⟩ K1 res := by
  have hx := opnd_sound E x
  generalize opnd e x = p at hk hx
  unfold lenOp at hk
  split at hk
  · split at hk
    · rename_i hT; exact .mk' hk (fun _ => ex_lens hT (rv_str hx)) mk_int
    · cases hk
  · split at hk
    · rename_i hT
      have hx := rv_nil hx
      refine .mk' (val := .int .i64 0) hk (fun w' => ?_) mk_int
      have := ex_lenS (P := P) (w := w') (d := d) (ty := ty) (pos := pos) (aft := aft) (g := gd) (α := List Value) (l := []) (f := fun y => y) (z := 0) (w1 := w') (x := x) (r := r) ⟨by simp, .inl ⟨⟨none, hx⟩, rfl⟩⟩ hT rfl
      simpa using this
    · cases hk
  · rename_i id off n lo hi
    split at hk
    · rename_i hT
      obtain ⟨_, h0, h1, h2, b, hgb, hval⟩ := hx
      have hval : ev r x = bsv b off n lo hi := by simpa using hval
      refine .mk' (val := .int .i64 (hi - lo)) hk (fun w' => ?_) mk_int
      simp only [bsv] at hval
      have e1 : ((hi.toNat - lo.toNat : Nat) : Int) = hi - lo := by omega
      simp [execOp, hval, resolve, invoke, builtin, Builtin.len_, run_underlying hT, goInt, e1]
    · cases hk
  · rename_i id z lo
    split at hk
    · rename_i ty' t xs _ ho hT
      obtain ⟨_, a1, n, cap, e1, h0, h1, hval⟩ := hx
      have e1 : g id = .slice a1 n cap := e1
      have hval : ev r x = slv (g id) lo n z := (List.cons.inj hval).1
      obtain ⟨ys, hO, hs⟩ := H.obj _ _ ho
      have hl := hs.length
      have hn : n = ys.length := by
        have hn := hO.rd.slen
        rw [e1] at hn
        exact hn
      refine .mk' (val := .int .i64 ((xs.length : Int) - lo)) hk (fun w' => ?_) mk_int
      rw [e1] at hval
      simp only [slv] at hval
      have e3 : ((n : Int).toNat - lo.toNat : Nat) = n - lo.toNat := by omega
      have e2 : ((n - lo.toNat : Nat) : Int) = (xs.length : Int) - lo := by omega
      rw [e3] at hval
      simp [execOp, hval, resolve, invoke, builtin, Builtin.len_, run_underlying hT, goInt, e2]
    · cases hk
  · split at hk
    · rename_i t xs _ hr hT
      obtain ⟨ys, hrd, hs⟩ := readS_sound H hx hr
      refine .mk' hk (fun w' => ?_) mk_int
      have := ex_lenS (P := P) (w := w') (d := d) (ty := ty) (pos := pos) (aft := aft) (g := gd) (l := ys) (f := fun y => y) (z := wid t) (w1 := w) (x := x) (r := r) (by rw [map_id_list]; exact hrd) hT rfl
      rw [← hs.length] at this
      exact this
    · cases hk

theorem Own.take {v : Value} {t : TypeId} {z : Nat} {ys : List (List Value)} (hO : Own w v t z ys) {b : Int} (hb : 0 ≤ b ∧ b ≤ (ys.length : Int)) : Own w (slv v 0 b z) t z (ys.take b.toNat) ∧ ∀ q, foot (slv v 0 b z) = some q → foot v = some q := by
  have hl : (ys.take b.toNat).length = b.toNat := by rw [List.length_take]; omega
  have hall : ∀ y ∈ ys.take b.toNat, y.length = z := fun y hy => hO.1 y (List.mem_of_mem_take hy)
  rcases hO.2 with ⟨⟨a, rfl, hlt⟩, rfl⟩ | ⟨q, cap, cur, fz, rfl, h1, h2, h3, h4, h5, h6⟩
  · have hb0 : b = 0 := by simp at hb; omega
    subst hb0
    refine ⟨⟨by simp, .inl ⟨⟨a, by simp [slv], hlt⟩, by simp⟩⟩, fun q hq => ?_⟩
    simp only [slv] at hq
    cases a <;> simp [foot, vfoot] at hq
  · have e1 : slv (.slice (some ⟨q, 0, none⟩) ys.length cap) 0 b z = .slice (some ⟨q, 0, none⟩) b.toNat cap := by
      simp only [slv]
      congr 1
      split <;> simp [Addr.add]
    rw [e1]
    refine ⟨⟨hall, .inr ⟨q, cap, cur, fz, by rw [hl], by rw [hl]; omega, h2, h3, h4, h5, fun j x hj => ?_⟩⟩, fun q hq => hq⟩
    refine h6 j x ?_
    rw [← hj]
    have e2 : ys.flatten = (ys.take b.toNat).flatten ++ (ys.drop b.toNat).flatten := by rw [← List.flatten_append, List.take_append_drop]
    rw [e2, List.getElem?_append_left (List.getElem?_eq_some_iff.1 hj).1]

theorem grown_refl (w : World) (q : Option Nat) : w.grownBy w q := ⟨rfl, rfl, rfl, Nat.le_refl _, fun _ _ _ => rfl⟩

theorem Own.foot_eq {v : Value} {t : TypeId} {z : Nat} {ys : List (List Value)} (hO : Own w v t z ys) : foot v = vfoot v := by
  rcases hO.2 with ⟨⟨a, rfl, _⟩, _⟩ | ⟨q, cap, cur, fz, rfl, _⟩ <;> rfl

theorem Own.isSlice {v : Value} {t : TypeId} {z : Nat} {ys : List (List Value)} (hO : Own w v t z ys) : ∃ a n c, v = .slice a n c := by
  rcases hO.2 with ⟨⟨a, rfl, _⟩, _⟩ | ⟨q, cap, cur, fz, rfl, _⟩ <;> exact ⟨_, _, _, rfl⟩
theorem zIs_eq {T : TypeId} {z : Nat} (h : zIs P T z = true) : widT P T = some z := by
  unfold zIs at h
  split at h
  · rename_i y hy; rw [hy, Nat.eq_of_beq_eq_true h]
  · cases h

theorem sliceP_sound {T : TypeId} {x : Operand} {lo hi : Option Operand} (E : ER (memOf M S w0 h g w) e r) (hk : sliceP P T (opnd e x) lo hi e K1 = some res) :
    Pure P M S w0 h g w r ⟨d, .slice T x lo hi none, ty, pos, aft, gd⟩ K1 res := by
  have hx := opnd_sound E x
  generalize opnd e x = p at hk hx
  unfold sliceP at hk
  split at hk
  · -- a text
    split at hk
    · rename_i a b hT ha hb
      obtain ⟨hc, hk⟩ := need_some hk
      exact (Pure.mk' hk (fun _ => ex_subT (rv_str hx) hT (bound_sound E ha) (bound_sound E hb) hc) mk_str)
    · cases hk
  · -- read alone
    rename_i t xs
    split at hk
    · rename_i el a b hT ha hb
      rw [cond_eq_ite] at hk
      split at hk
      · rename_i hz
        have hz := zIs_eq hz
        · obtain ⟨hc, hk⟩ := need_some hk
          obtain ⟨v, hv, ys, hrd, hs, hI⟩ := hx
          have hv : ev r x = v := by simpa using hv
          subst hv
          have hl := hs.length
          rw [hl] at hb hc
          refine (Pure.mk' hk (fun _ => ex_subS hrd hT hz (bound_sound E ha) (bound_sound E hb) hc) ⟨_, rfl, sub_ ys a b, hrd.sub hc.1 hc.2.1 hc.2.2, sub_al2 hs a b, fun q hq => hI q (foot_slv hq)⟩)
      · cases hk
    · cases hk
  · -- an array in a variable
    rename_i id off
    split at hk
    · rename_i n el hT
      split at hk
      · rename_i a b ha hb
        rw [cond_eq_ite] at hk
        split at hk
        · rename_i hz
          have hz := zIs_eq hz
          · obtain ⟨hc, hk⟩ := need_some hk
            obtain ⟨hlt, q, hq, hval⟩ := hx
            have hval : ev r x = .pointer (some ⟨q, off, none⟩) := by simpa using hval
            exact (Pure.mk' hk (fun _ => ex_subP hval hT hz (bound_sound E ha) (bound_sound E hb) hc) ⟨hlt, hc.1, hc.2.1, hc.2.2, q, hq, rfl⟩)
        · cases hk
      · cases hk
    · cases hk
  · -- an array that no one writes
    rename_i t u off
    split at hk
    · rename_i n el _ u' n' v post hT hsk
      split at hk
      · rename_i a b ha hb
        rw [cond_eq_ite] at hk
        split at hk
        · rename_i hz
          rw [Bool.and_eq_true, Bool.and_eq_true] at hz
          obtain ⟨⟨hnn, hw1⟩, hz⟩ := hz
          have hnn := Nat.eq_of_beq_eq_true hnn
          have hw1 := Nat.eq_of_beq_eq_true hw1
          subst hnn
          have hzz := zIs_eq hz
          · obtain ⟨hc, hk⟩ := need_some hk
            obtain ⟨q, o, c, h1, h2, h3, h4⟩ := hx
            obtain ⟨s, rfl, hs⟩ := At.enc (m := memOf M S w0 h g w) _ _ _ h3
            obtain ⟨h5, h6⟩ := skipL_sound _ _ _ _ hsk
            rw [h5] at hs
            obtain ⟨s1, s2, rfl, k1, k2⟩ := hs.split
            obtain ⟨c, s3, rfl, k3, k4⟩ := k2.cons_left
            have hca : CA w q o (s1 ++ c :: s3).flatten := h4
            rw [List.flatten_append, List.flatten_cons] at hca
            have hca := hca.sub
            rw [(Rls.len k1).trans h6] at hca
            obtain ⟨ys, rfl, k5⟩ := k3
            have hz := (k5.flat_len (At.len _)).1
            rw [hw1] at hz
            have hl := k5.length
            refine (Pure.mk' hk (fun _ => ex_subP h1 hT hzz (bound_sound E ha) (bound_sound E hb) hc) ⟨_, rfl, sub_ ys a b, ?_, sub_al2 k5 a b, fun q' hq' => ?_⟩)
            · rw [hw1]; exact rd_bsv hca hz (by rw [← hl]; simp) hc
            · rw [foot_bsv hq']; exact h2
        · cases hk
      · cases hk
    · cases hk
  · cases hk
theorem sliceOp_sound {T : TypeId} {x : Operand} {lo hi mx : Option Operand} (H : Rel M S w0 h g w) (E : ER (memOf M S w0 h g w) e r) (hk : sliceOp P T (opnd e x) lo hi mx e h K = some res) :
    Step P ⟨d, .slice T x lo hi mx, ty, pos, aft, gd⟩ r w (After M S w0 h g w K res) := by
  have hx := opnd_sound E x
  generalize hp : opnd e x = p at hk hx
  unfold sliceOp at hk
  split at hk
  · cases hk
  split at hk
  · -- of the call's own
    rename_i id
    split at hk
    · rename_i ty' t xs ho
      have hli : lives h id := by simp [lives, ho, liveO]
      obtain ⟨hlt, v, hv, _, _, hv2⟩ := hx
      have hv : ev r x = v := by simpa using hv
      have hv2 := hv2 hli
      have hv2 : v = g id := hv2
      subst hv
      obtain ⟨ys, hO, hs⟩ := H.obj _ _ ho
      have hl := hs.length
      split at hk
      · rename_i el a b hT ha hb
        rw [cond_eq_ite] at hk
        split at hk
        · rename_i hz
          have hz := zIs_eq hz
          · rw [hl] at hb
            split at hk
            · -- from the beginning: still of the call's own
              obtain ⟨hc, hk2⟩ := need_some hk
              rw [hl] at hc
              have ha0 : a = 0 := by rcases bound_sound E ha with ⟨_, h1⟩ | ⟨x, _, h1, _⟩; exact h1; cases h1
              subst ha0
              obtain ⟨hO', hf⟩ := Own.take hO ⟨by omega, hc.2.2⟩
              obtain ⟨H', le⟩ := H.turn hli (.arr ty' t (xs.take b.toNat)) (slv (g id) 0 b (wid t)) (grown_refl w _) (fun q hq => .inl (hf q hq)) fun le => ⟨_, hO', (hs.take _).mono (At.mono le.imm t)⟩
              refine .value (w' := w) (ex_subS (w1 := w) (z := wid t) (by rw [hv2]; exact hO.rd) hT hz (bound_sound E ha) (bound_sound E hb) hc) ⟨_, _, _, H', le, ?_, hk2⟩
              refine ⟨by simp [memOf], _, rfl, ?_, ?_, fun _ => ?_⟩
              · obtain ⟨a1, n1, c1, e1⟩ := hO.isSlice; have e1 : g id = _ := e1; rw [hv2, e1]; rfl
              · obtain ⟨a1, n1, c1, e1⟩ := hO.isSlice; have e1 : g id = _ := e1; rw [hv2, e1]; rfl
              · rw [hv2]; exact (gx_same g h.length _).symm
            · -- a part: read for good
              obtain ⟨hc, hk⟩ := need_some hk
              rw [hl] at hc
              obtain ⟨H', le⟩ := H.drop id
              refine .value (w' := w) (ex_subS (w1 := w) (z := wid t) (by rw [hv2]; exact hO.rd) hT hz (bound_sound E ha) (bound_sound E hb) hc) ⟨_, _, _, H', le, ?_, hk⟩
              refine ⟨_, rfl, sub_ ys a b, ?_, sub_al2 (hs.mono (At.mono le.imm t)) a b, fun q hq => ?_⟩
              · rw [hv2]; exact hO.rd.sub hc.1 hc.2.1 hc.2.2
              · rw [hv2] at hq
                have := H.drops_imm (f := [id]) (fun i hi => by simp at hi; subst hi; exact hli) id (by simp) q (by rw [hO.foot_eq]; exact foot_slv hq)
                exact this
        · cases hk
      · cases hk
    · cases hk
  · rw [← hp] at hk
    exact (sliceP_sound E hk).step H
end
end Go.Dor
end

section
/- ONE LEAF OF DATA, taken: it stands for what is there. Plain lemmas over any program. -/
namespace Go.Dor
section
variable {m : Mem}

theorem decL_sound {m' : Mem} {h : Hm} (H : Objs m h) (hI : ∀ b, m.I b → m'.I b ∧ m'.w.heap[b]? = m.w.heap[b]?) (hw : ∀ b, m.I b ∨ (∃ id, lives h id ∧ foot (m.g id) = some b) → m'.w.heap[b]? = m.w.heap[b]?) :
    ∀ (t : T) (ls rest : List L) (x : den t) (f : List Nat) (s : List (List Value)), decL t ls h = some (x, rest, f) →
    (∀ id ∈ f, ∀ b, foot (m.g id) = some b → m'.I b) → Al2 (Rl m) ls s → ∃ l1 s1 s2, ls = l1 ++ rest ∧ s = s1 ++ s2 ∧ At m'.w m'.I t x s1.flatten ∧ Al2 (Rl m) l1 s1 ∧ Al2 (Rl m) rest s2 := by
  intro t
  induction t with
  | int k =>
    intro ls rest x f s h1 hf hs
    cases ls with
    | nil => simp [decL] at h1
    | cons y l =>
      cases y <;> simp only [decL] at h1 <;> try (cases h1)
      rename_i k' n
      split at h1
      · rename_i e; cases h1; subst e
        obtain ⟨c, s', rfl, h2, h3⟩ := hs.cons_left
        exact ⟨[_], [c], s', rfl, rfl, by rw [flat_one]; exact h2, ⟨h2, trivial⟩, h3⟩
      · cases h1
  | bool =>
    intro ls rest x f s h1 hf hs
    cases ls with
    | nil => simp [decL] at h1
    | cons y l =>
      cases y <;> simp only [decL] at h1 <;> cases h1
      obtain ⟨c, s', rfl, h2, h3⟩ := hs.cons_left
      exact ⟨[_], [c], s', rfl, rfl, by rw [flat_one]; exact h2, ⟨h2, trivial⟩, h3⟩
  | str =>
    intro ls rest x f s h1 hf hs
    cases ls with
    | nil => simp [decL] at h1
    | cons y l =>
      cases y <;> simp only [decL] at h1 <;> cases h1
      obtain ⟨c, s', rfl, h2, h3⟩ := hs.cons_left
      exact ⟨[_], [c], s', rfl, rfl, by rw [flat_one]; exact h2, ⟨h2, trivial⟩, h3⟩
  | flt k =>
    intro ls rest x f s h1 hf hs
    cases ls with
    | nil => simp [decL] at h1
    | cons y l =>
      cases y <;> simp only [decL] at h1 <;> try (cases h1)
      split at h1
      · rename_i e; cases h1; subst e
        obtain ⟨c, s', rfl, h2, h3⟩ := hs.cons_left
        exact ⟨[_], [c], s', rfl, rfl, by rw [flat_one]; exact h2, ⟨h2, trivial⟩, h3⟩
      · cases h1
  | fx k =>
    intro ls rest x f s h1 hf hs
    cases ls with
    | nil => simp [decL] at h1
    | cons y l =>
      cases y <;> simp only [decL] at h1 <;> try (cases h1)
      · split at h1
        · rename_i e; cases h1; subst e
          obtain ⟨c, s', rfl, h2, h3⟩ := hs.cons_left
          exact ⟨[_], [c], s', rfl, rfl, by rw [flat_one]; exact ⟨_, h2, .inl rfl⟩, ⟨h2, trivial⟩, h3⟩
        · cases h1
      · split at h1
        · rename_i e; cases h1; subst e
          obtain ⟨c, s', rfl, h2, h3⟩ := hs.cons_left
          exact ⟨[_], [c], s', rfl, rfl, by rw [flat_one]; exact h2, ⟨h2, trivial⟩, h3⟩
        · cases h1
  | unit =>
    intro ls rest x f s h1 hf hs
    have : decL .unit ls h = some ((), ls, []) := by cases ls with | nil => rfl | cons y l => cases y <;> rfl
    rw [this] at h1; cases h1
    exact ⟨[], [], s, rfl, rfl, rfl, trivial, hs⟩
  | pair a b iha ihb =>
    intro ls rest x f s h1 hf hs
    have : decL (.pair a b) ls h = (match decL a ls h with
      | some (x, l, f) => (match decL b l h with | some (y, l, g) => some ((x, y), l, f ++ g) | none => none)
      | none => none) := by cases ls with | nil => rfl | cons y l => cases y <;> rfl
    rw [this] at h1
    split at h1
    · rename_i x1 l1 f1 e1
      split at h1
      · rename_i x2 l2 f2 e2
        cases h1
        obtain ⟨p1, s1, s2, r1, rfl, h2, q1, h3⟩ := iha _ _ _ _ _ e1 (fun id hid => hf id (List.mem_append_left _ hid)) hs
        obtain ⟨p2, s3, s4, r2, rfl, h4, q2, h5⟩ := ihb _ _ _ _ _ e2 (fun id hid => hf id (List.mem_append_right _ hid)) h3
        exact ⟨p1 ++ p2, s1 ++ s3, s4, by rw [r1, r2, List.append_assoc], by rw [List.append_assoc], ⟨_, _, by rw [List.flatten_append], h2, h4⟩, q1.append q2, h5⟩
      · cases h1
    · cases h1
  | arr n e ih =>
    intro ls rest x f s h1 hf hs
    cases ls with
    | nil => simp [decL] at h1
    | cons y l =>
      cases y <;> simp only [decL] at h1 <;> try (cases h1)
      split at h1
      · rename_i _ _ y e1
        cases h1
        obtain ⟨e2, e3, e4⟩ := castV_sound e1
        subst e2 e3
        dsimp only at e4; subst e4
        obtain ⟨c, s', rfl, h2, h3⟩ := hs.cons_left
        exact ⟨[_], [c], s', rfl, rfl, by rw [flat_one]; exact At.mono hI _ _ _ h2, ⟨h2, trivial⟩, h3⟩
      · cases h1
  | sl e ih =>
    intro ls rest x f s h1 hf hs
    cases ls with
    | nil => simp [decL] at h1
    | cons y l =>
      cases y <;> simp only [decL] at h1 <;> try (cases h1)
      · -- ro
        split at h1
        · rename_i _ _ ys e1
          cases h1
          obtain ⟨e2, e4⟩ := castL_sound e1
          subst e2; dsimp only at e4; subst e4
          obtain ⟨c, s', rfl, h2, h3⟩ := hs.cons_left
          exact ⟨[_], [c], s', rfl, rfl, by rw [flat_one]; exact At.mono hI _ _ _ h2, ⟨h2, trivial⟩, h3⟩
        · cases h1
      · -- nil
        obtain ⟨c, s', rfl, h2, h3⟩ := hs.cons_left
        refine ⟨[_], [c], s', rfl, rfl, ?_, ⟨h2, trivial⟩, h3⟩
        rw [show c = _ from h2]
        exact ⟨_, by simp, [], ⟨by simp, .inl ⟨⟨none, rfl⟩, rfl⟩⟩, trivial, fun b hb => by simp [vfoot] at hb⟩
      · -- own
        rename_i id
        split at h1
        · rename_i ty t xs e0
          split at h1
          · rename_i ys e1
            cases h1
            obtain ⟨e2, e4⟩ := castL_sound e1
            subst e2; dsimp only at e4; subst e4
            obtain ⟨c, s', rfl, h2, h3⟩ := hs.cons_left
            have hli : lives h id := by simp [lives, e0, liveO]
            have h22 := h2
            obtain ⟨h4, v, rfl, h5, h55, h6⟩ := h22
            have hv := h6 (H.lv _ hli)
            obtain ⟨zs, h7, h8⟩ := H.ho _ _ e0
            refine ⟨[_], [[v]], s', rfl, rfl, ⟨v, by simp, ?_⟩, ⟨h2, trivial⟩, h3⟩
            rw [hv]
            refine ⟨_, h7.rd.kept fun b hb => hw b (.inr ⟨_, hli, ?_⟩), h8.mono (At.mono hI t), fun b hb => hf id (by simp) b (by rw [h7.foot_eq]; exact hb)⟩
            rcases h7.2 with ⟨⟨a, e, _⟩, _⟩ | ⟨q, cap, cur, fz, e, _⟩ <;> rw [e] at hb ⊢ <;> exact hb
          · cases h1
        · cases h1
      · -- sub
        rename_i id off n lo hi
        have main : ∀ (ty : TypeId) (q : List L) (ys : List (den e)), subD e q off n lo hi = some ys → (∃ b s, m.g id = .pointer (some ⟨b, 0, none⟩) ∧ m.w.heap[b]? = some (.cells (cells s) ty (0, 0)) ∧ Al2 (Rl m) q s ∧ m'.w.heap[b]? = m.w.heap[b]? ∧ m'.I b) →
            ∃ l1 s1 s2, L.sub id off n lo hi :: l = l1 ++ l ∧ s = s1 ++ s2 ∧ At m'.w m'.I (.sl e) ys s1.flatten ∧ Al2 (Rl m) l1 s1 ∧ Al2 (Rl m) l s2 := by
          rintro ty q ys hd ⟨b, s', hb', hcell, hq, hsame, hib⟩
          obtain ⟨c, s'', rfl, h2, h3⟩ := hs.cons_left
          have h22 := h2
          obtain ⟨_, k0, k1, k2, b2, hgb, rfl⟩ := h22
          rw [hb'] at hgb; cases hgb
          refine ⟨[_], [_], s'', rfl, rfl, ?_, ⟨h2, trivial⟩, h3⟩
          rw [flat_one]
          unfold subD at hd
          split at hd
          · rename_i pre u n' x post hsk
            rw [cond_eq_ite] at hd
            split at hd
            · rename_i hbb
              rw [Bool.and_eq_true] at hbb
              obtain ⟨hb1, hw1⟩ := hbb
              have hb1 := Nat.eq_of_beq_eq_true hb1
              have hw1 := Nat.eq_of_beq_eq_true hw1
              subst hb1
              obtain ⟨e2, e4⟩ := castL_sound hd
              subst e2; dsimp only at e4; subst e4
              obtain ⟨q1, q2⟩ := skipL_sound _ _ _ _ hsk
              subst q1
              obtain ⟨s1, s2, rfl, k1', k2'⟩ := hq.split
              obtain ⟨c, s3, rfl, k3, k4⟩ := k2'.cons_left
              rw [← hsame] at hcell
              have hca := blk_CA hcell
              rw [List.flatten_append, List.flatten_cons] at hca
              have hca := hca.sub
              rw [Nat.zero_add, (Rls.len k1').trans q2] at hca
              obtain ⟨ys, rfl, k5⟩ := k3
              have hz := (k5.flat_len (At.len _)).1
              rw [hw1] at hz
              have hl := k5.length
              refine ⟨_, rfl, sub_ ys lo hi, ?_, (sub_al2 k5 lo hi).mono (At.mono hI _), fun b' hb' => ?_⟩
              · rw [hw1]; exact rd_bsv hca hz (by rw [← hl]; simp) ⟨k0, k1, k2⟩
              · rw [foot_bsv hb']; exact hib
            · cases hd
          · cases hd
        split at h1
        · rename_i ty q e0
          split at h1
          · rename_i ys e1
            cases h1
            have hli : lives h id := by simp [lives, e0, liveO]
            obtain ⟨b, s', h5, h6, h7⟩ := H.ho _ _ e0
            exact main ty q _ e1 ⟨b, s', h5, h6, h7, hw b (.inr ⟨_, hli, by rw [h5]; rfl⟩), hf id (by simp) b (by rw [h5]; rfl)⟩
          · cases h1
        · rename_i ty q e0
          split at h1
          · rename_i ys e1
            cases h1
            obtain ⟨b, s', h5, h6, h7, h8⟩ := H.ho _ _ e0
            exact main ty q _ e1 ⟨b, s', h5, h6, h7, hw b (.inl h8), (hI b h8).1⟩
          · cases h1
        · cases h1
end
end Go.Dor
end

section
/- STORES, NEW VARIABLES: what the machine says of them holds. Plain lemmas over any program. -/
namespace Go.Dor
open Go.RowKit (Below)
section
variable {P : Program} {M S : Nat → Prop} {w0 w w' : World} {h : Hm} {g : Nat → Value} {R : Type} {res : R} {K : V → Hm → Option R} {K1 : V → Option R} {m : Mem}
  {d : Option Tmp} {ty : TypeId} {pos : String} {aft : Array Edge} {gd : Option (Nat × Bool)} {e : Ev} {r : Env}

theorem nilOp_sound {T : TypeId} {v : V} {val : Value} (H : Rel M S w0 h g w) (hv : Rv (memOf M S w0 h g w) v val) (hk : nilOp P T v h K = some res) :
    ∃ v' h' g', Rel M S w0 h' g' w ∧ (memOf M S w0 h g w).Le (memOf M S w0 h' g' w) ∧ Rv (memOf M S w0 h' g' w) v' val ∧ K v' h' = some res := by
  unfold nilOp at hk
  split at hk
  · split at hk
    · rename_i el hT
      split at hk
      · rename_i c hc
        obtain ⟨H', le⟩ := H.addNil el c
        have hv := rv_nil hv
        refine ⟨.one (.own h.length), _, _, H', le, ⟨by simp [memOf], _, rfl, ?_, ?_, fun _ => ?_⟩, hk⟩
        · rw [hv]; rfl
        · rw [hv]; rfl
        · rw [hv]; exact (gx_same g h.length _).symm
      · cases hk
    · cases hk
  · exact ⟨v, h, g, H, .refl _, hv, hk⟩

theorem decL_live {h : Hm} : ∀ (t : T) (ls rest : List L) (x : den t) (f : List Nat), decL t ls h = some (x, rest, f) → ∀ id ∈ f, lives h id := by
  intro t
  induction t with
  | int k =>
    intro ls rest x f h1
    cases ls with
    | nil => simp [decL] at h1
    | cons y l =>
      cases y <;> simp only [decL] at h1 <;> try (cases h1)
      split at h1
      · cases h1; simp
      · cases h1
  | bool | str =>
    intro ls rest x f h1
    cases ls with
    | nil => simp [decL] at h1
    | cons y l => cases y <;> simp only [decL] at h1 <;> cases h1; simp
  | flt k =>
    intro ls rest x f h1
    cases ls with
    | nil => simp [decL] at h1
    | cons y l =>
      cases y <;> simp only [decL] at h1 <;> try (cases h1)
      split at h1
      · cases h1; simp
      · cases h1
  | fx k =>
    intro ls rest x f h1
    cases ls with
    | nil => simp [decL] at h1
    | cons y l =>
      cases y <;> simp only [decL] at h1 <;> try (cases h1)
      · split at h1
        · cases h1; simp
        · cases h1
      · split at h1
        · cases h1; simp
        · cases h1
  | unit =>
    intro ls rest x f h1
    have : decL .unit ls h = some ((), ls, []) := by cases ls with | nil => rfl | cons y l => cases y <;> rfl
    rw [this] at h1; cases h1; simp
  | pair a b iha ihb =>
    intro ls rest x f h1
    have : decL (.pair a b) ls h = (match decL a ls h with
      | some (x, l, f) => (match decL b l h with | some (y, l, g) => some ((x, y), l, f ++ g) | none => none)
      | none => none) := by cases ls with | nil => rfl | cons y l => cases y <;> rfl
    rw [this] at h1
    split at h1
    · rename_i x1 l1 f1 e1
      split at h1
      · rename_i x2 l2 f2 e2
        cases h1
        intro id hid
        rcases List.mem_append.1 hid with h2 | h2
        · exact iha _ _ _ _ e1 id h2
        · exact ihb _ _ _ _ e2 id h2
      · cases h1
    · cases h1
  | arr n e ih =>
    intro ls rest x f h1
    cases ls with
    | nil => simp [decL] at h1
    | cons y l =>
      cases y <;> simp only [decL] at h1 <;> try (cases h1)
      split at h1
      · cases h1; simp
      · cases h1
  | sl e ih =>
    intro ls rest x f h1
    cases ls with
    | nil => simp [decL] at h1
    | cons y l =>
      cases y <;> simp only [decL] at h1 <;> try (cases h1)
      · split at h1
        · cases h1; simp
        · cases h1
      · simp
      · rename_i id
        split at h1
        · rename_i ty t xs e0
          split at h1
          · cases h1
            intro id' hid
            simp at hid; subst hid
            simp [lives, e0, liveO]
          · cases h1
        · cases h1
      · rename_i id off n lo hi
        split at h1
        · rename_i ty q e0
          split at h1
          · cases h1
            intro id' hid
            simp at hid; subst hid
            simp [lives, e0, liveO]
          · cases h1
        · split at h1
          · cases h1; simp
          · cases h1
        · cases h1

theorem toD_sound {t : T} {ls : List L} {s : List (List Value)} {K : den t → Hm → Option R} (H : Rel M S w0 h g w) (hs : Al2 (Rl (memOf M S w0 h g w)) ls s) (hk : toD t ls h K = some res) :
    ∃ x f, Rel M S w0 (freeze h f) g w ∧ (memOf M S w0 h g w).Le (memOf M S w0 (freeze h f) g w) ∧ At w (memOf M S w0 (freeze h f) g w).I t x s.flatten ∧ K x (freeze h f) = some res := by
  unfold toD at hk
  split at hk
  · rename_i x f hd
    obtain ⟨H', le⟩ := H.drops f
    have hlv := decL_live _ _ _ _ _ hd
    obtain ⟨l1, s1, s2, e1, rfl, h2, _, h3⟩ := decL_sound (m' := memOf M S w0 (freeze h f) g w) H.objs le.imm (fun b _ => rfl) _ _ _ _ _ _ hd (fun id hid b hb => H.drops_imm hlv id hid b (by
      have hl := hlv id hid
      cases ho : h[id]? with
      | none => simp [lives, ho, liveO] at hl
      | some o =>
        have := H.obj _ _ ho
        exact hb)) hs
    have := h3.nil_left
    subst this
    exact ⟨x, f, H', le, by rw [List.append_nil]; exact h2, hk⟩
  · cases hk

theorem leaves_sound {v : V} {val : Value} {ls : List L} (hv : Rv m v val) (hl : leaves v = some ls) : ∃ s, val.cells = cells s ∧ Al2 (Rl m) ls s := by
  unfold leaves at hl
  split at hl
  · rename_i x
    cases hl
    have h1 : Rl m x [val] := hv
    exact ⟨[[val]], by rw [oneCell_cells (Rl.one x _ h1 val (by simp))]; rfl, h1, trivial⟩
  · cases hl
    obtain ⟨s, h1, h2⟩ := hv
    exact ⟨s, by rw [h1, cells_ag], h2⟩
  · cases hl

/-- a store into a row -/
theorem run_storeVar {T bt : TypeId} {b a n : Nat} {cur : Array Value} {fz : Nat × Nat} {v : Value} {new : List (List Value)} (hb : w.heap[b]? = some (.cells cur bt fz)) (hfz : ∀ j, j < cur.size → ¬ (fz.1 ≤ j ∧ j < fz.2)) (hn : widT P T = some n)
    (hv : v.cells = cells new) (hl : new.flatten.length = n) (ha : a + n ≤ cur.size) (h1 : One new) :
    (storeVar T ⟨b, a, none⟩ v).run P w = .ok () (w.setRow b (cur.toList.take a ++ new.flatten ++ cur.toList.drop (a + n)).toArray) := by
  obtain ⟨i, hi, hsz⟩ := Option.map_eq_some_iff.1 hn
  have hst := run_storeCells_seg P b a bt fz new.flatten 0 cur w hb hfz (by omega) h1
  simp only [Nat.add_zero, hl] at hst
  have hc : v.cells.size = n := by rw [hv]; simpa [cells] using hl
  have e2 : v.cells.toList = new.flatten := by rw [hv]; simp [cells]
  simp [storeVar, sizeOf, typeInfo, hi, hsz, hc, e2, hst]

theorem ex_store {T : TypeId} {x y : Operand} {a : Addr} {v : Value} (hx : ev r x = .pointer (some a)) (hy : ev r y = v) (hr : (storeVar T a v).run P w = .ok () w') :
    (execOp (ev r) ⟨d, .store T x y, ty, pos, aft, gd⟩).run P w = .ok .skip w' := by
  simp [execOp, hx, hy, Instr.storeAt, Instr.sureAddr, hr]

/-- a piece of a list is changed -/
theorem splice3 {A B C D : List Value} (hl : D.length = B.length) : (A ++ (B ++ C)).take A.length ++ D ++ (A ++ (B ++ C)).drop (A.length + D.length) = A ++ (D ++ C) := by
  have := splice A B C D hl
  simpa [List.append_assoc] using this

/-- an element of rows of one width is changed in part -/
theorem splice_elem {ys : List (List Value)} {z j : Nat} {p q r' D : List Value} (hz : ∀ y ∈ ys, y.length = z) (hj : ys[j]? = some (p ++ (q ++ r'))) (hl : D.length = q.length) :
    ys.flatten.take (j * z + p.length) ++ D ++ ys.flatten.drop (j * z + p.length + D.length) = (ys.set j (p ++ (D ++ r'))).flatten := by
  have hlt : j < ys.length := (List.getElem?_eq_some_iff.1 hj).1
  have e1 : ys = ys.take j ++ ((p ++ (q ++ r')) :: ys.drop (j + 1)) := by
    have : ys.drop j = (p ++ (q ++ r')) :: ys.drop (j + 1) := by
      rw [List.drop_eq_getElem_cons hlt]
      congr 1
      exact Option.some.inj ((List.getElem?_eq_getElem hlt).symm.trans hj)
    rw [← this, List.take_append_drop]
  have hA : (ys.take j).flatten.length = j * z := by
    rw [flat_len fun y hy => hz y (List.mem_of_mem_take hy), List.length_take, Nat.min_eq_left (by omega)]
  have e2 : ys.flatten = ((ys.take j).flatten ++ p) ++ (q ++ (r' ++ (ys.drop (j + 1)).flatten)) := by
    conv => lhs; rw [e1]
    simp
  have e3 : (ys.set j (p ++ (D ++ r'))).flatten = ((ys.take j).flatten ++ p) ++ (D ++ (r' ++ (ys.drop (j + 1)).flatten)) := by
    rw [List.set_eq_take_append_cons_drop, if_pos hlt]
    simp
  rw [e2, e3]
  have := splice3 (A := (ys.take j).flatten ++ p) (B := q) (C := r' ++ (ys.drop (j + 1)).flatten) (D := D) hl
  rw [List.length_append, hA] at this
  exact this

theorem store_sound {T : TypeId} {x y : Operand} {v : V} {K : Hm → Option R} (H : Rel M S w0 h g w) (hx : Rv (memOf M S w0 h g w) (opnd e x) (ev r x)) (hy : Rv (memOf M S w0 h g w) v (ev r y)) (hk : storeOp P T (opnd e x) v h K = some res) :
    Step P ⟨d, .store T x y, ty, pos, aft, gd⟩ r w (After M S w0 h g w (fun _ h => K h) res) := by
  generalize opnd e x = p at hk hx
  unfold storeOp at hk
  split at hk
  · rename_i new n hlv hn
    obtain ⟨sn, hcn, hsn⟩ := leaves_sound hy hlv
    rw [cond_eq_ite] at hk
    split at hk
    · rename_i hwn
      have hwn := Nat.eq_of_beq_eq_true hwn
      have hln : sn.flatten.length = n := (Rls.len hsn).trans hwn
      have hon := Rls.one hsn
      split at hk
      · -- a variable
        rename_i id off
        split at hk
        · rename_i t ls ho
          split at hk
          · rename_i pre mid post hc
            have hli : lives h id := by simp [lives, ho, liveO]
            obtain ⟨b, s, hgb, hcell, hs⟩ := H.obj _ _ ho
            obtain ⟨_, b', hgb', hval⟩ := hx
            have hgb' : g id = _ := hgb'
            rw [hgb] at hgb'; cases hgb'
            have hval : ev r x = .pointer (some ⟨b, off, none⟩) := by simpa using hval
            obtain ⟨s1, s2, s3, rfl, k1, k2, k3, l1, l2, _⟩ := cut_segs hc hs
            have hrun := run_storeVar (P := P) (T := T) (a := off) hcell (by intro j _ hj; simp at hj) hn hcn hln (by simp only [cells, List.flatten_append, List.size_toArray, List.length_append]; omega) hon
            have e1 : (cells (s1 ++ (s2 ++ s3))).toList.take off ++ sn.flatten ++ (cells (s1 ++ (s2 ++ s3))).toList.drop (off + n) = (s1 ++ sn ++ s3).flatten := by
              have := splice3 (A := s1.flatten) (B := s2.flatten) (C := s3.flatten) (D := sn.flatten) (by omega)
              rw [l1, hln] at this
              simp only [cells, List.flatten_append, List.append_assoc] at this ⊢
              exact this
            rw [e1] at hrun
            have hfo : foot (g id) = some b := by rw [hgb]; rfl
            obtain ⟨g1, g2⟩ := setRow_grown (cs' := (s1 ++ sn ++ s3).flatten.toArray) hcell
            obtain ⟨H', le⟩ := H.set (w' := w.setRow b (s1 ++ sn ++ s3).flatten.toArray) hli (.blk t (pre ++ new ++ post)) (by rw [hfo]; exact g1) fun le => ⟨b, s1 ++ sn ++ s3, hgb, g2, ((Rls.mono le k1).append (Rls.mono le hsn)).append (Rls.mono le k3)⟩
            exact .skip (ex_store hval rfl hrun) ⟨.u, _, _, H', le, trivial, hk⟩
          · cases hk
        · cases hk
      · -- an element of a slice of the call's own
        rename_i id z i off
        split at hk
        · rename_i t' t xs ho
          rw [cond_eq_ite] at hk
          split at hk
          · rename_i hzt
            have hzt := Nat.eq_of_beq_eq_true hzt
            subst hzt
            split at hk
            · rename_i pre mid post hc
              have hli : lives h id := by simp [lives, ho, liveO]
              obtain ⟨h0, h1, ys, b, a, hO, hs, hp, hca, hval, hfo⟩ := H.epO ho hx
              obtain ⟨c, hc1, hat⟩ := elem_CA (m := memOf M S w0 h g w) hs h0 h1
              obtain ⟨s, rfl, hss⟩ := At.enc (m := memOf M S w0 h g w) _ _ _ hat
              obtain ⟨s1, s2, s3, rfl, k1, k2, k3, l1, l2, _⟩ := cut_segs hc hss
              obtain ⟨y', f, H1, le1, hat', hk⟩ := toD_sound H ((k1.append hsn).append k3) hk
              rw [cond_eq_ite] at hk
              split at hk
              · rename_i hl1
                have hl1 : lives (freeze h f) id := hl1
                -- where it lies
                rcases hO.2 with ⟨_, h00⟩ | ⟨q, cap, cur, fz, hgq, hcp, hcm, hg, hfz, hcs, hxx⟩
                · subst h00; simp at hc1
                · have hb : b = q ∧ a = 0 := by
                    have h2 := hp 0
                    rw [hgq] at h2
                    simp only [eptr, add_lit, Value.pointer.injEq, Option.some.injEq, Addr.mk.injEq] at h2
                    omega
                  obtain ⟨rfl, rfl⟩ := hb
                  have hall := (hs.flat_len (At.len t)).1
                  have hjl : i.toNat < ys.length := (List.getElem?_eq_some_iff.1 hc1).1
                  have hyl := flat_len hall
                  have hzl := hall _ (List.mem_of_getElem? hc1)
                  simp only [List.flatten_append, List.length_append] at hzl
                  have hrow : (i.toNat + 1) * wid t ≤ ys.length * wid t := Nat.mul_le_mul_right _ hjl
                  have hcap : ys.length * wid t ≤ cap * wid t := Nat.mul_le_mul_right _ hcp
                  rw [Nat.add_mul, Nat.one_mul] at hrow
                  have hrun := run_storeVar (P := P) (T := T) (a := i.toNat * wid t + off) hg (fun j hj => hfz j (.inl hj)) hn hcn hln (by omega) hon
                  have hpre : cur.toList = ys.flatten ++ cur.toList.drop ys.flatten.length := by
                    have : cur.toList.take ys.flatten.length = ys.flatten := by
                      apply List.ext_getElem?
                      intro k
                      rw [List.getElem?_take]
                      by_cases hk : k < ys.flatten.length
                      · rw [if_pos hk, List.getElem?_eq_getElem hk]
                        simpa using hxx k _ (List.getElem?_eq_getElem hk)
                      · rw [if_neg hk, List.getElem?_eq_none (by omega)]
                    conv => lhs; rw [← List.take_append_drop ys.flatten.length cur.toList, this]
                  have e1 : cur.toList.take (i.toNat * wid t + off) ++ sn.flatten ++ cur.toList.drop (i.toNat * wid t + off + n) = (ys.set i.toNat (s1 ++ sn ++ s3).flatten).flatten ++ cur.toList.drop ys.flatten.length := by
                    have hsp := splice_elem (p := s1.flatten) (q := s2.flatten) (r' := s3.flatten) (D := sn.flatten) hall (by rw [hc1]; simp) (by omega)
                    rw [l1, hln] at hsp
                    rw [show (s1 ++ sn ++ s3).flatten = s1.flatten ++ (sn.flatten ++ s3.flatten) by simp, ← hsp]
                    conv => lhs; rw [hpre]
                    rw [List.take_append_of_le_length (by omega), List.drop_append_of_le_length (by omega)]
                    simp only [List.append_assoc]
                  rw [e1] at hrun
                  obtain ⟨g1, g2⟩ := setRow_grown (cs' := ((ys.set i.toNat (s1 ++ sn ++ s3).flatten).flatten ++ cur.toList.drop ys.flatten.length).toArray) hg
                  have hnl : (s1 ++ sn ++ s3).flatten.length = wid t := by simp only [List.flatten_append, List.length_append]; omega
                  have hall' : ∀ y ∈ ys.set i.toNat (s1 ++ sn ++ s3).flatten, y.length = wid t := fun y hy => by
                    rcases List.mem_or_eq_of_mem_set hy with h | h
                    · exact hall y h
                    · rw [h]; exact hnl
                  have hnl2 := flat_len hall'
                  rw [List.length_set] at hnl2
                  have hsz : ((ys.set i.toNat (s1 ++ sn ++ s3).flatten).flatten ++ cur.toList.drop ys.flatten.length).toArray.size = cur.size := by
                    simp only [List.size_toArray, List.length_append, List.length_drop, Array.length_toList]; omega
                  have hval' : ev r x = .pointer (some ⟨b, i.toNat * wid t + off, none⟩) := by rw [hval]; congr 3; omega
                  have ho1 : (freeze h f)[id]? ≠ some .gone := fun e => by rw [lives, e] at hl1; cases hl1
                  have hho : ∀ (le : (memOf M S w0 (freeze h f) g w).Le (memOf M S w0 ((freeze h f).set id (.arr t' t (lset xs i y'))) g (w.setRow b ((ys.set i.toNat (s1 ++ sn ++ s3).flatten).flatten ++ cur.toList.drop ys.flatten.length).toArray))),
                      Ho (memOf M S w0 ((freeze h f).set id (.arr t' t (lset xs i y'))) g (w.setRow b ((ys.set i.toNat (s1 ++ sn ++ s3).flatten).flatten ++ cur.toList.drop ys.flatten.length).toArray)) (g id) (.arr t' t (lset xs i y')) := by
                    intro le
                    refine ⟨ys.set i.toNat (s1 ++ sn ++ s3).flatten, ⟨hall', .inr ⟨b, cap, _, fz, by rw [List.length_set]; exact hgq, by rw [List.length_set]; exact hcp, hcm, g2, fun j hj => hfz j (by rw [hsz] at hj; exact hj), by rw [hsz]; exact hcs, fun j u hj => ?_⟩⟩, ?_⟩
                    · have hjl' := (List.getElem?_eq_some_iff.1 hj).1
                      simp only [List.getElem?_toArray]
                      rw [List.getElem?_append_left hjl']; exact hj
                    · exact (hs.mono (At.mono (le1.trans le).imm t)).set i.toNat (At.mono le.imm t _ _ hat')
                  obtain ⟨H', le⟩ := H1.set (w' := w.setRow b ((ys.set i.toNat (s1 ++ sn ++ s3).flatten).flatten ++ cur.toList.drop ys.flatten.length).toArray) hl1 (.arr t' t (lset xs i y')) (by rw [hO.foot_eq, hfo]; exact g1) hho
                  exact .skip (ex_store hval' rfl hrun) ⟨.u, _, _, H', le1.trans le, trivial, hk⟩
              · cases hk
            · cases hk
          · cases hk
        · cases hk
      · -- an element of an array in a variable
        rename_i id off m' z i k
        split at hk
        · rename_i t0 ls ho
          split at hk
          · rename_i pre t m'' x' post hsk
            rw [cond_eq_ite] at hk
            split at hk
            · rename_i hb
              rw [Bool.and_eq_true] at hb
              obtain ⟨hb1, hzt⟩ := hb
              have hb1 := Nat.eq_of_beq_eq_true hb1
              have hzt := Nat.eq_of_beq_eq_true hzt
              subst hb1
              subst hzt
              split at hk
              · rename_i pr mid po hc
                have hli : lives h id := by simp [lives, ho, liveO]
                obtain ⟨b, s, hgb, hcell, hs⟩ := H.obj _ _ ho
                obtain ⟨_, h0, h1, b', hgb', hval⟩ := hx
                have hgb' : g id = _ := hgb'
                rw [hgb] at hgb'; cases hgb'
                obtain ⟨h2, h3⟩ := skipL_sound _ _ _ _ hsk
                subst h2
                obtain ⟨s1, s2, rfl, k1, k2⟩ := hs.split
                obtain ⟨c, s3, rfl, k3, k4⟩ := k2.cons_left
                obtain ⟨ys, rfl, k5⟩ := k3
                have hall := (k5.flat_len (At.len t)).1
                have hlen : (x'.toList.length : Int) = m' := by simp
                obtain ⟨c, hc1, hat⟩ := elem_CA (m := memOf M S w0 h g w) k5 h0 (by rw [hlen]; exact h1)
                obtain ⟨s, rfl, hss⟩ := At.enc (m := memOf M S w0 h g w) _ _ _ hat
                obtain ⟨q1, q2, q3, rfl, j1, j2, j3, l1, l2, _⟩ := cut_segs hc hss
                obtain ⟨y', f, H1, le1, hat', hk⟩ := toD_sound H ((j1.append hsn).append j3) hk
                rw [cond_eq_ite] at hk
                split at hk
                rotate_left
                · cases hk
                rename_i hl1
                have hl1 : lives (freeze h f) id := hl1
                have hoff : s1.flatten.length = off := (Rls.len k1).trans h3
                have hjl : i.toNat < ys.length := (List.getElem?_eq_some_iff.1 hc1).1
                have hyl := flat_len hall
                have hzl := hall _ (List.mem_of_getElem? hc1)
                simp only [List.flatten_append, List.length_append] at hzl
                have hrow : (i.toNat + 1) * wid t ≤ ys.length * wid t := Nat.mul_le_mul_right _ hjl
                rw [Nat.add_mul, Nat.one_mul] at hrow
                have hrun := run_storeVar (P := P) (T := T) (a := off + (i.toNat * wid t + k)) hcell (by intro j _ hj; simp at hj) hn hcn hln (by simp only [cells, List.flatten_append, List.flatten_cons, List.size_toArray, List.length_append]; omega) hon
                have e1 : (cells (s1 ++ ys.flatten :: s3)).toList.take (off + (i.toNat * wid t + k)) ++ sn.flatten ++ (cells (s1 ++ ys.flatten :: s3)).toList.drop (off + (i.toNat * wid t + k) + n) = (s1 ++ (ys.set i.toNat (q1 ++ sn ++ q3).flatten).flatten :: s3).flatten := by
                  have hsp := splice_elem (p := q1.flatten) (q := q2.flatten) (r' := q3.flatten) (D := sn.flatten) hall (by rw [hc1]; simp) (by omega)
                  rw [l1, hln] at hsp
                  simp only [cells, List.flatten_append, List.flatten_cons]
                  rw [show q1.flatten ++ sn.flatten ++ q3.flatten = q1.flatten ++ (sn.flatten ++ q3.flatten) by simp, ← hsp, ← hoff]
                  rw [List.take_append, List.drop_append]
                  have e2 : s1.flatten.take (s1.flatten.length + (i.toNat * wid t + k)) = s1.flatten := List.take_of_length_le (by omega)
                  have e3 : s1.flatten.drop (s1.flatten.length + (i.toNat * wid t + k) + n) = [] := List.drop_eq_nil_of_le (by omega)
                  rw [e2, e3, show s1.flatten.length + (i.toNat * wid t + k) - s1.flatten.length = i.toNat * wid t + k by omega, show s1.flatten.length + (i.toNat * wid t + k) + n - s1.flatten.length = i.toNat * wid t + k + n by omega]
                  rw [List.take_append_of_le_length (by omega), List.drop_append_of_le_length (by omega)]
                  simp only [List.append_assoc, List.nil_append]
                rw [e1] at hrun
                have hfo : foot (g id) = some b := by rw [hgb]; rfl
                obtain ⟨g1, g2⟩ := setRow_grown (cs' := (s1 ++ (ys.set i.toNat (q1 ++ sn ++ q3).flatten).flatten :: s3).flatten.toArray) hcell
                have hho : ∀ (le : (memOf M S w0 (freeze h f) g w).Le (memOf M S w0 ((freeze h f).set id (.blk t0 (pre ++ .arr t m' (vset x' i y') :: post))) g (w.setRow b (s1 ++ (ys.set i.toNat (q1 ++ sn ++ q3).flatten).flatten :: s3).flatten.toArray))),
                    Ho (memOf M S w0 ((freeze h f).set id (.blk t0 (pre ++ .arr t m' (vset x' i y') :: post))) g (w.setRow b (s1 ++ (ys.set i.toNat (q1 ++ sn ++ q3).flatten).flatten :: s3).flatten.toArray)) (g id) (.blk t0 (pre ++ .arr t m' (vset x' i y') :: post)) := by
                  intro le
                  refine ⟨b, s1 ++ (ys.set i.toNat (q1 ++ sn ++ q3).flatten).flatten :: s3, hgb, g2, (Rls.mono (le1.trans le) k1).append ⟨⟨_, rfl, ?_⟩, Rls.mono (le1.trans le) k4⟩⟩
                  have := (k5.mono (At.mono (le1.trans le).imm t)).set i.toNat (At.mono le.imm t _ _ hat')
                  simpa [vset] using this
                obtain ⟨H', le⟩ := H1.set (w' := w.setRow b (s1 ++ (ys.set i.toNat (q1 ++ sn ++ q3).flatten).flatten :: s3).flatten.toArray) hl1 (.blk t0 (pre ++ .arr t m' (vset x' i y') :: post)) (by rw [hfo]; exact g1) hho
                exact .skip (ex_store hval rfl hrun) ⟨.u, _, _, H', le1.trans le, trivial, hk⟩
              · cases hk
            · cases hk
          · cases hk
        · cases hk
      · cases hk
    · cases hk
  · cases hk
end
end Go.Dor
end
