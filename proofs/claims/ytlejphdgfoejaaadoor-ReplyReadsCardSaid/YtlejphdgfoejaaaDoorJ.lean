/- THE ABSTRACT MACHINE: operations, calls, code. Definitions alone, over any program. -/
import Derived.Test.YtlejphdgfoejaaaDoorI
namespace Go.Dor
def liveO : Option Ob → Bool
  | some (.blk ..) | some (.arr ..) | some (.fix ..) => true
  | _ => false
section
variable {R : Type}

/-- the slices of the call's own in a list of leaves become read for good: data -/
def toD (t : T) (ls : List L) (h : Hm) (K : den t → Hm → Option R) : Option R :=
  match decL t ls h with
  | some (x, [], f) => K x (freeze h f)
  | _ => none

def leaves : V → Option (List L)
  | .one x => some [x]
  | .ag ls => some ls
  | _ => none

def mkV (P : Program) (T : TypeId) (ls : List L) : Option V :=
  bif isScal P T then (match ls with | [x] => bif Nat.beq (widL x) 1 then some (.one x) else none | _ => none)
  else match aggOf P T with
    | some n => bif Nat.beq (widLs ls) n then some (.ag ls) else none
    | none => none
def widT (P : Program) (T : TypeId) : Option Nat := (P.info? T).map (·.size)
def zIs (P : Program) (T : TypeId) (z : Nat) : Bool :=
  match widT P T with
  | some y => Nat.beq y z
  | none => false

/-! zero values, held against the program's own -/
def cellsD : (t : T) → den t → Option (List Value)
  | .int k, n => some [.int k n]
  | .bool, x => some [.bool x]
  | .str, l => some [sv l]
  | .flt k, n => some [.float k n]
  | .unit, _ => some []
  | .pair a b, x => (match cellsD a x.1, cellsD b x.2 with | some c, some c' => some (c ++ c') | _, _ => none)
  | .arr _ e, x => x.toList.foldr (fun y acc => match cellsD e y, acc with | some c, some c' => some (c ++ c') | _, _ => none) (some [])
  | .sl _, _ => none
def zcell : L → Option (List Value)
  | .i k n => some [.int k n]
  | .b x => some [.bool x]
  | .s l => some [sv l]
  | .f k n => some [.float k n]
  | .arr t n x => cellsD (.arr n t) x
  | .own _ => some [.slice none 0 0]
  | .np => some [.pointer none]
  | .nf => some [.nilFunc]
  | _ => none
def eqZ : Value → Value → Bool
  | .int k n, .int k' m => decide (k = k') && decide (n = m)
  | .bool a, .bool b => a == b
  | .float k n, .float k' m => decide (k = k') && Nat.beq n m
  | .string a, .string b => decide (a.data.toList = b.data.toList)
  | .pointer none, .pointer none => true
  | .slice none a b, .slice none c d => Nat.beq a c && Nat.beq b d
  | .nilFunc, .nilFunc => true
  | _, _ => false
def eqZs : List Value → List Value → Bool
  | [], [] => true
  | a :: l, b :: m => eqZ a b && eqZs l m
  | _, _ => false
def zcells : List L → Option (List Value)
  | [] => some []
  | x :: l => (match zcell x, zcells l with | some c, some c' => some (c ++ c') | _, _ => none)
/-- leaves with slices of the call's own that are nil, numbered from o on -/
def nilsOk (o : Nat) (hs : Hm) (ls : List L) : Bool :=
  hs.all (fun x => match x with | .arr _ _ [] => true | _ => false) && ls.all fun x => match x with | .own id => Nat.ble o id && Nat.blt id (o + hs.length) | _ => true
def zeroCk (P : Program) (T : TypeId) (o : Nat) (ls : List L) (hs : Hm) : Bool :=
  nilsOk o hs ls && match zeroOf P T, zcells ls with
    | some cs, some c => eqZs cs.toList c
    | _, _ => false

def loadOp (P : Program) (T : TypeId) (p : V) (h : Hm) (K : V → Hm → Option R) : Option R :=
  match p with
  | .one (.ptr id off) =>
    match rdLs h[id]? with
    | some (_, ls) =>
      match widT P T with
      | some n =>
        match cutL ls off n with
        | some (_, mid, _) => (match mkV P T mid with | some v => K v h | none => none)
        | none => none
      | none => none
    | none => none
  | .epR t x off =>
    match widT P T with
    | some n =>
      match cutL (enc t x) off n with
      | some (_, mid, _) => (match mkV P T mid with | some v => K v h | none => none)
      | none => none
    | none => none
  | .epO id z i off =>
    match h[id]?, widT P T with
    | some (.arr _ t xs), some n | some (.fix _ t xs), some n =>
      bif Nat.beq z (wid t) then
        match cutL (enc t (at_ (dflt t) xs i)) off n with
        | some (_, mid, _) => (match mkV P T mid with | some v => K v h | none => none)
        | none => none
      else none
    | _, _ => none
  | .epB id off n z i k =>
    match rdLs h[id]?, widT P T with
    | some (_, ls), some m =>
      match skipL ls off with
      | some (_, .arr t n' x :: _) =>
        bif Nat.beq n n' && Nat.beq z (wid t) then
          match cutL (enc t (at_ (dflt t) x.toList i)) k m with
          | some (_, mid, _) => (match mkV P T mid with | some v => K v h | none => none)
          | none => none
        else none
      | _ => none
    | _, _ => none
  | .toA t n xs => bif Nat.beq (wid t) 1 then (match mkV P T [.arr t n (vecOf n (dflt t) xs)] with | some v => K v h | none => none) else none
  | _ => none

def storeOp (P : Program) (T : TypeId) (p v : V) (h : Hm) (K : Hm → Option R) : Option R :=
  match leaves v, widT P T with
  | some new, some n =>
    bif Nat.beq (widLs new) n then
      match p with
      | .one (.ptr id off) =>
        match h[id]? with
        | some (.blk ty ls) =>
          match cutL ls off n with
          | some (pre, _, post) => K (h.set id (.blk ty (pre ++ new ++ post)))
          | none => none
        | _ => none
      | .epO id z i off =>
        match h[id]? with
        | some (.arr ty t xs) =>
          bif Nat.beq z (wid t) then
            match cutL (enc t (at_ (dflt t) xs i)) off n with
            | some (pre, _, post) => toD t (pre ++ new ++ post) h fun y h => bif liveO h[id]? then K (h.set id (.arr ty t (lset xs i y))) else none
            | none => none
          else none
        | _ => none
      | .epB id off m z i k =>
        match h[id]? with
        | some (.blk ty ls) =>
          match skipL ls off with
          | some (pre, .arr t m' x :: post) =>
            bif Nat.beq m m' && Nat.beq z (wid t) then
              match cutL (enc t (at_ (dflt t) x.toList i)) k n with
              | some (a, _, b) => toD t (a ++ new ++ b) h fun y h => bif liveO h[id]? then K (h.set id (.blk ty (pre ++ .arr t m' (vset x i y) :: post))) else none
              | none => none
            else none
          | _ => none
        | _ => none
      | _ => none
    else none
  | _, _ => none

/-- a nil slice is a slice of the call's own -/
def nilOp (P : Program) (T : TypeId) (v : V) (h : Hm) (K : V → Hm → Option R) : Option R :=
  match v with
  | .one .nil =>
    match P.underlying T with
    | some (.slice e) => (match codeT P depth e with | some c => K (.one (.own h.length)) (h ++ [.arr e c []]) | none => none)
    | _ => none
  | v => K v h

def fieldOp (P : Program) (T : TypeId) (x : V) (f : Nat) (h : Hm) (K : V → Option R) : Option R :=
  match fieldOf P T f with
  | some (fo, _ + 1) =>
    match x with
    | .one (.ptr id off) => K (.one (.ptr id (off + fo)))
    | .epR t x off => K (.epR t x (off + fo))
    | .epO id z i off => (match h[id]? with | some (.arr ..) => K (.epO id z i (off + fo)) | _ => none)
    | .epB id off n z i k => K (.epB id off n z i (k + fo))
    | _ => none
  | _ => none

def idxAddr (P : Program) (T : TypeId) (x y : V) (h : Hm) (K : V → Option R) : Option R :=
  match y with
  | .one (.i _ i) =>
    match P.underlying T with
    | some (.slice e) =>
      match widT P e with
      | some z =>
        match x with
        | .one (.ro t xs) => bif Nat.beq (wid t) z then need (0 ≤ i ∧ i < (xs.length : Int)) (K (.epR t (at_ (dflt t) xs i) 0)) else none
        | .one (.own id) =>
          match h[id]? with
          | some (.arr _ t xs) | some (.fix _ t xs) => bif Nat.beq (wid t) z then need (0 ≤ i ∧ i < (xs.length : Int)) (K (.epO id z i 0)) else none
          | _ => none
        | .one (.sub id off n lo hi) => bif Nat.beq z 1 then need (0 ≤ i ∧ i < hi - lo) (K (.epB id off n z (lo + i) 0)) else none
        | _ => none
      | none => none
    | some (.array n e) =>
      match widT P e with
      | some z =>
        match x with
        | .one (.ptr id off) => need (0 ≤ i ∧ i < (n : Int)) (K (.epB id off n z i 0))
        | _ => none
      | none => none
    | _ => none
  | _ => none

def idxOp (P : Program) (T : TypeId) (x y : V) (K : V → Option R) : Option R :=
  match y with
  | .one (.i _ i) =>
    match x with
    | .one (.s l) => (match P.underlying T with | some .string => need (0 ≤ i ∧ i < (l.length : Int)) (K (int1 .u8 (bat l i))) | _ => none)
    | .ag [.arr t n v] =>
      match P.underlying T with
      | some (.array n' e) => bif isScal P e && Nat.beq (wid t) 1 && Nat.beq n n' then need (0 ≤ i ∧ i < (n : Int)) (match enc t (at_ (dflt t) v.toList i) with | [z] => K (.one z) | _ => none) else none
      | _ => none
    | _ => none
  | _ => none

def asInt1 : V → Option Int
  | .one (.i _ n) => some n
  | _ => none
def bound (e : Ev) (o : Option Operand) (d : Int) : Option Int :=
  match o with
  | none => some d
  | some x => asInt1 (opnd e x)

/-- a part of what no one writes, or of an array in a variable -/
def sliceP (P : Program) (T : TypeId) (x : V) (lo hi : Option Operand) (e : Ev) (K : V → Option R) : Option R :=
  match x with
  | .one (.s l) =>
    match P.underlying T, bound e lo 0, bound e hi l.length with
    | some .string, some a, some b => need (0 ≤ a ∧ a ≤ b ∧ b ≤ (l.length : Int)) (K (.one (.s (sub_ l a b))))
    | _, _, _ => none
  | .one (.ro t xs) =>
    match P.underlying T, bound e lo 0, bound e hi xs.length with
    | some (.slice el), some a, some b => bif zIs P el (wid t) then need (0 ≤ a ∧ a ≤ b ∧ b ≤ (xs.length : Int)) (K (.one (.ro t (sub_ xs a b)))) else none
    | _, _, _ => none
  | .one (.ptr id off) =>
    match P.underlying T with
    | some (.array n el) =>
      match bound e lo 0, bound e hi n with
      | some a, some b => bif zIs P el 1 then need (0 ≤ a ∧ a ≤ b ∧ b ≤ (n : Int)) (K (.one (.sub id off n a b))) else none
      | _, _ => none
    | _ => none
  | .epR t x off =>
    match P.underlying T, skipL (enc t x) off with
    | some (.array n el), some (_, .arr u n' v :: _) =>
      match bound e lo 0, bound e hi n with
      | some a, some b => bif Nat.beq n n' && Nat.beq (wid u) 1 && zIs P el 1 then need (0 ≤ a ∧ a ≤ b ∧ b ≤ (n : Int)) (K (.one (.ro u (sub_ v.toList a b)))) else none
      | _, _ => none
    | _, _ => none
  | _ => none

def sliceOp (P : Program) (T : TypeId) (x : V) (lo hi mx : Option Operand) (e : Ev) (h : Hm) (K : V → Hm → Option R) : Option R :=
  match mx with
  | some _ => none
  | none =>
    match x with
    | .one (.own id) =>
      match h[id]? with
      | some (.arr ty t xs) =>
        match P.underlying T, bound e lo 0, bound e hi xs.length with
        | some (.slice el), some a, some b =>
          bif zIs P el (wid t) then
            match lo with
            | none => need (0 ≤ a ∧ a ≤ b ∧ b ≤ (xs.length : Int)) (K (.one (.own h.length)) (h.set id .gone ++ [.arr ty t (xs.take b.toNat)]))
            | some _ => need (0 ≤ a ∧ a ≤ b ∧ b ≤ (xs.length : Int)) (K (.one (.ro t (sub_ xs a b))) (h.set id .gone))
          else none
        | _, _, _ => none
      | _ => none
    | x => sliceP P T x lo hi e fun v => K v h

/-- what a slice reads as: its element's type, its elements -/
def readS (h : Hm) : V → Option ((t : T) × List (den t))
  | .one (.ro t xs) => some ⟨t, xs⟩
  | .one (.own id) =>
    match h[id]? with
    | some (.arr _ t xs) | some (.fix _ t xs) => some ⟨t, xs⟩
    | _ => none
  | .one (.sub id off n lo hi) =>
    match rdLs h[id]? with
    | some (_, ls) =>
      match skipL ls off with
      | some (_, .arr t n' x :: _) => bif Nat.beq n n' && Nat.beq (wid t) 1 then some ⟨t, sub_ x.toList lo hi⟩ else none
      | _ => none
    | none => none
  | _ => none

def lenOp (P : Program) (T : TypeId) (x : V) (h : Hm) (K : V → Option R) : Option R :=
  match x with
  | .one (.s l) => (match P.underlying T with | some .string => K (int1 .i64 l.length) | _ => none)
  | .one .nil => (match P.underlying T with | some (.slice _) => K (int1 .i64 0) | _ => none)
  | .one (.sub _ _ _ lo hi) => (match P.underlying T with | some (.slice _) => K (int1 .i64 (hi - lo)) | _ => none)
  | x =>
    match readS h x, P.underlying T with
    | some ⟨_, xs⟩, some (.slice _) => K (int1 .i64 xs.length)
    | _, _ => none

/-- one of both, where it is open which -/
noncomputable def bothC (a b : Option R) : Option R := open Classical in if a = b then a else none
def isNil : V → Bool
  | .one .nil => true
  | _ => false
/-- a slice held against nil: an empty one may be it or not -/
noncomputable def nilEq (P : Program) (T : TypeId) (x : V) (h : Hm) (K : Bool → Option R) : Option R :=
  match P.underlying T with
  | some (.slice _) =>
    match x with
    | .one .nil => K true
    | .one (.sub ..) => K false
    | x => (match readS h x with | some ⟨_, xs⟩ => bif xs.isEmpty then bothC (K true) (K false) else K false | none => none)
  | _ => none

/-- the source of an append or a copy, as elements of type t -/
def source (P : Program) (t : T) (T : TypeId) (y : V) (h : Hm) : Option (List (den t)) :=
  match P.underlying T with
  | some .string =>
    match y, t with
    | .one (.s l), .int .u8 => some (numsOf l)
    | _, _ => none
  | some (.slice _) =>
    match y with
    | .one .nil => some []
    | y => (match readS h y with | some ⟨u, ys⟩ => castL u t ys | none => none)
  | _ => none

def appendOp (P : Program) (T U : TypeId) (x y : V) (h : Hm) (K : V → Hm → Option R) : Option R :=
  nilOp P T x h fun x h =>
  match x with
  | .one (.own id) =>
    match h[id]?, P.underlying T with
    | some (.arr ty t xs), some (.slice e) =>
      match elemOf P e, source P t U y h with
      | some (z, b), some ys => bif Nat.beq e ty && Nat.beq z (wid t) then
          need ((xs.length + ys.length) * b ≤ 140737488355328) (K (.one (.own h.length)) (h.set id .gone ++ [.arr ty t (xs ++ ys)]))
        else none
      | _, _ => none
    | _, _ => none
  | _ => none

def copyOp (P : Program) (T U : TypeId) (x y : V) (h : Hm) (K : V → Hm → Option R) : Option R :=
  match x, P.underlying T with
  | .one (.sub id off n lo hi), some (.slice e) =>
    match h[id]?, widT P e with
    | some (.blk ty ls), some 1 =>
      match skipL ls off with
      | some (pre, .arr t n' x :: post) =>
        match source P t U y h with
        | some ys => bif Nat.beq n n' && Nat.beq (wid t) 1 && flat t then need ((ys.length : Int) ≤ hi - lo) (K (int1 .i64 ys.length) (h.set id (.blk ty (pre ++ .arr t n' (vcopy x lo ys) :: post)))) else none
        | none => none
      | _ => none
    | _, _ => none
  | _, _ => none

def convOp (P : Program) (S T : TypeId) (x : V) (h : Hm) (K : V → Hm → Option R) : Option R :=
  match P.underlying S, P.underlying T, x with
  | some (.int _), some (.int k), .one (.i _ n) => K (int1 k (k.wrap n)) h
  | some .string, some .string, .one (.s l) => K (.one (.s l)) h
  | some (.slice e), some .string, x =>
    match P.underlying e, x with
    | some (.int .u8), .one .nil => K (.one (.s [])) h
    | some (.int .u8), x => (match readS h x with | some ⟨.int .u8, xs⟩ => K (.one (.s (bytesOf xs))) h | _ => none)
    | _, _ => none
  | some .string, some (.slice e), .one (.s l) =>
    match P.underlying e with
    | some (.int .u8) => need (l.length * 1 ≤ 140737488355328) (K (.one (.own h.length)) (h ++ [.arr e (.int .u8) (numsOf l)]))
    | _ => none
  | _, _, _ => none

/-- parts laid into leaves -/
def fillL (pl : List (Nat × Nat)) : List (Nat × List L) → List L → Option (List L)
  | [], ls => some ls
  | (i, new) :: r, ls =>
    match pl[i]? with
    | some (off, n) =>
      bif Nat.beq (widLs new) n then
        match cutL ls off n with
        | some (pre, _, post) => fillL pl r (pre ++ new ++ post)
        | none => none
      else none
    | none => none

def allLeaves (e : Ev) : List (Nat × Operand) → Option (List (Nat × List L))
  | [] => some []
  | (i, x) :: l =>
    match leaves (opnd e x), allLeaves e l with
    | some a, some r => some ((i, a) :: r)
    | _, _ => none

def scalT : T → Bool
  | .int _ => true
  | .bool => true
  | .str => true
  | .flt _ => true
  | _ => false

/-- parts of an array of single cells -/
def arrParts (t : T) (e : Ev) : List (Nat × Operand) → Option (List (Nat × den t))
  | [] => some []
  | (i, x) :: l =>
    match opnd e x with
    | .one y =>
      match decL t [y] [], arrParts t e l with
      | some (z, [], _), some r => some ((i, z) :: r)
      | _, _ => none
    | _ => none

def buildOp (P : Program) (T : TypeId) (parts : List (Nat × Operand)) (e : Ev) (h : Hm) (K : V → Hm → Option R) : Option R :=
  match P.underlying T with
  | some (.struct _) =>
    match allLeaves e parts, placesOf P T, zeroL P depth T h.length with
    | some ps, some pl, some (ls, hs) => bif zeroCk P T h.length ls hs then (match fillL pl ps ls with | some ls => K (.ag ls) (h ++ hs) | none => none) else none
    | _, _, _ => none
  | some (.array n el) =>
    match codeT P depth el with
    | some t =>
      bif isScal P el && scalT t && zeroCk P T h.length [.arr t n (Vector.replicate n (dflt t))] [] then
        match arrParts t e parts with
        | some xs => bif xs.all (fun p => Nat.blt p.1 n) then K (.ag [.arr t n (bparts n (dflt t) xs)]) h else none
        | none => none
      else none
    | none => none
  | _ => none

/-- the elements of a slice that is built, in their order -/
def elems (t : T) : Nat → List (Nat × List L) → Hm → (List (den t) → Hm → Option R) → Option R
  | _, [], h, K => K [] h
  | i, (j, ls) :: l, h, K => bif Nat.beq i j then toD t ls h fun x h => elems t (i + 1) l h fun xs h => K (x :: xs) h else none

def buildSl (P : Program) (T : TypeId) (len : Nat) (parts : List (Nat × Operand)) (e : Ev) (h : Hm) (K : V → Hm → Option R) : Option R :=
  match allLeaves e parts, P.underlying T with
  | some ps, some (.slice el) =>
    match codeT P depth el, elemOf P el with
    | some t, some (z, _) => bif Nat.beq z (wid t) && Nat.beq ps.length len && Nat.ble (len * z) 16777216 then
        elems t 0 ps h fun xs h => K (.one (.own h.length)) (h ++ [.arr el t xs])
      else none
    | _, _ => none
  | _, _ => none

/-- two values of one type held against each other -/
def eqTy (P : Program) : Nat → TypeId → List L → List L → Option Bool
  | 0, _, _, _ => none
  | k + 1, t, x, y =>
    match P.underlying t with
    | some (.int _) => (match x, y with | [.i k n], [.i k' m] => bif isScal P t then (if k = k' then some (n == m) else none) else none | _, _ => none)
    | some .bool => (match x, y with | [.b a], [.b b] => bif isScal P t then some (a == b) else none | _, _ => none)
    | some .string => (match x, y with | [.s a], [.s b] => bif isScal P t then some (a == b) else none | _, _ => none)
    | some (.array n el) =>
      match x, y with
      | [.arr u n1 v], [.arr u' n2 v'] =>
        match castV u' u n2 n1 v' with
        | some v' =>
          match P.underlying el, u, v, v' with
          | some (.int _), .int _, v, v' => bif isScal P el && Nat.beq n n1 then some (decide ((v : Vector Int n1) = v')) else none
          | some .bool, .bool, v, v' => bif isScal P el && Nat.beq n n1 then some (decide ((v : Vector Bool n1) = v')) else none
          | some .string, .str, v, v' => bif isScal P el && Nat.beq n n1 then some (decide ((v : Vector (List UInt8) n1) = v')) else none
          | _, _, _, _ => none
        | none => none
      | _, _ => none
    | some (.struct fs) =>
      bif !(P.stoodInHeld t) && fs.toList.all (fun f => !(f.name == "_")) then
        fs.toList.foldr (fun f acc =>
          match widT P f.type, acc with
          | some n, some b =>
            match cutL x f.offset n, cutL y f.offset n with
            | some (_, a, _), some (_, c, _) => (match eqTy P k f.type a c with | some q => some (q && b) | none => none)
            | _, _ => none
          | _, _ => none) (some true)
      else none
    | _ => none

/-- a slice made -/
def makeOp (P : Program) (T : TypeId) (x y : V) (h : Hm) (K : V → Hm → Option R) : Option R :=
  match x, y, P.underlying T with
  | .one (.i _ n), .one (.i _ m), some (.slice el) =>
    match codeT P depth el, elemOf P el with
    | some t, some (z, b) =>
      match zeroOf P el, cellsD t (dflt t) with
      | some cs, some c => bif Nat.beq z (wid t) && flat t && eqZs cs.toList c then
          need (n = m ∧ 0 ≤ n ∧ n * b ≤ 281474976710656) (K (.one (.own h.length)) (h ++ [.arr el t (List.replicate n.toNat (dflt t))])) else none
      | _, _ => none
    | _, _ => none
  | _, _, _ => none

/-! ### calls -/
def ptrsOf : List Nat → List V
  | [] => []
  | i :: l => .one (.ptr i 0) :: ptrsOf l
def opndS (e : Ev) : List Operand → List V
  | [] => []
  | x :: l => opnd e x :: opndS e l

def Vd.flat : Vd → Bool
  | .st t => Dor.flat t
  | x => x.ts.all Dor.flat
def Od.flat : Od → Bool
  | .arr _ t => Dor.flat t
  | .fix _ t => Dor.flat t
  | .gone => true
  | x => x.ts.all Dor.flat
def Ds.flat (d : Ds) : Bool := d.vals.all Vd.flat && d.objs.all Od.flat

/-- the objects behind a call: those that were lent at their numbers, new ones behind all -/
def asRd : Ob → Ob
  | .blk ty ls => .rd ty ls
  | .rd ty ls => .rd ty ls
  | _ => .gone
/-- what was lent: new content, or, where it was read alone, as it was (fl: nothing that is told lies in it) -/
def putOld (f : Nat → Nat) (fl : Bool) : Nat → List Od → Hm → Hm → Hm
  | j, .rd .. :: ps, _ :: os, h | j, .rdT .. :: ps, _ :: os, h => putOld f fl (j + 1) ps os (bif fl then h else h.modify (f j) asRd)
  | j, _ :: ps, o :: os, h => putOld f fl (j + 1) ps os (h.set (f j) o)
  | _, _, _, h => h
def putBack (f : Nat → Nat) (fl : Bool) (ps : List Od) (os : Hm) (h : Hm) : Hm := putOld f fl 0 ps os h ++ os.drop ps.length
def backN (k : List (Nat × Nat)) (n m : Nat) (j : Nat) : Nat := bif Nat.blt j n then (findN k j).getD 0 else m + (j - n)

def unone : V → L ⊕ List L
  | .one x => .inl x
  | .ag l => .inr l
  | _ => .inl .nf
def resV : List V → V
  | [v] => v
  | vs => .tup (vs.map unone)

def ownOkL (ps : Hm) : L → Bool
  | .own id => liveO ps[id]?
  | _ => true
def ownOkV (ps : Hm) : V → Bool
  | .one x => ownOkL ps x
  | .ag ls => ls.all (ownOkL ps)
  | _ => false
def ownOkO (ps : Hm) : Ob → Bool
  | .blk _ ls => ls.all (ownOkL ps)
  | .arr .. => true
  | .gone => true
  | _ => false
def odLive : Od → Bool
  | .blk .. | .blkT .. | .arr .. | .fix .. => true
  | _ => false
/-- an object that may not be written is not told -/
def goneOk : List Od → Hm → Bool
  | [], _ => true
  | p :: ps, o :: os => (odLive p || !liveO (some o)) && goneOk ps os
  | _ :: _, [] => false
def okBack (pre : List Od) (ps : Hm) (vs : List V) : Bool := goneOk pre ps && vs.all (ownOkV ps) && ps.all (ownOkO ps)

def enterE (en : Entry) (vs : List V) (h : Hm) (K : V → Hm → Option R) : Option R :=
  match takeDs h ⟨[], []⟩ en.pre vs with
  | some (l, k) =>
    match ofL en.pre.ts l with
    | some x => (en.fn x).bind fun y =>
        bif okBack en.pre.objs (givenO en.post id y) (givenV en.post id y).1 then
          K (resV (givenV en.post (backN k.r en.pre.objs.length h.length) y).1) (putBack (backN k.r en.pre.objs.length h.length) en.post.flat en.pre.objs (givenO en.post (backN k.r en.pre.objs.length h.length) y) (bif en.post.flat then h else freeze h k.fz))
        else none
    | none => none
  | none => none

/-- does a shape fit? -/
def fits (en : Entry) (vs : List V) (h : Hm) : Bool :=
  match takeDs h ⟨[], []⟩ en.pre vs with
  | some (l, _) => (ofL en.pre.ts l).isSome
  | none => false

def callF (oops : Nat → List V → Hm → Option Unit) (D : List (Nat × Entry)) (f : Nat) (vs : List V) (h : Hm) (K : V → Hm → Option R) : Option R :=
  match D with
  | [] => (oops f vs h).bind fun _ => none
  | (g, en) :: D => bif Nat.beq g f && fits en vs h then enterE en vs h K else callF oops D f vs h K

def maxI (k : IntKind) (x y : Int) : V := int1 k (max x y)

/-- functions without code -/
def extOp (kind : Nat) (vs : List V) (K : V → Option R) : Option R :=
  match kind, vs with
  | 0, [.one (.s a), .one (.i .u8 c)] => K (int1 .i64 (indexByteOf a c))
  | 1, [.one (.s a), .one (.i .u8 c)] => K (int1 .i64 (countByteOf a c))
  | _, _ => none

def callOp (X : Cx) (c : Call) (e : Ev) (h : Hm) (K : V → Hm → Option R) : Option R :=
  match c.callee with
  | .value f =>
    match opnd e f with
    | .one (.fn g ids) =>
      match findA X.ext g with
      | some kind => (match ids with | [] => extOp kind (opndS e c.args.toList) fun v => K v h | _ => none)
      | none => bif callable X.P g then callF X.oops X.D g (opndS e c.args.toList ++ ptrsOf ids) h K else none
    | _ => none
  | .builtin b =>
    match b, opndS e c.args.toList, c.argTypes.toList with
    | .len, [x], [T] => lenOp X.P T x h fun v => K v h
    | .append, [x, y], [T, U] => appendOp X.P T U x y h K
    | .copy, [x, y], [T, U] => copyOp X.P T U x y h K
    | .max, [.one (.i k x), .one (.i k' y)], _ => if k = k' then K (int1 k (max x y)) h else none
    | .min, [.one (.i k x), .one (.i k' y)], _ => if k = k' then K (int1 k (min x y)) h else none
    | _, _, _ => none
  | _ => none

/-- the head of a slice as an array -/
def toArrQ (P : Program) (T : TypeId) (x : V) (K : V → Option R) : Option R :=
  match P.underlying T, x with
  | some (.array n _), .one (.ro t xs) => bif Nat.blt 0 n then need (n ≤ xs.length) (K (.toA t n xs)) else none
  | _, _ => none
def toArrOp (P : Program) (T : TypeId) (x : V) (h : Hm) (K : V → Hm → Option R) : Option R :=
  match x with
  | .one (.own id) =>
    match h[id]?, P.underlying T with
    | some (.arr _ t xs), some (.array n _) => bif Nat.blt 0 n then need (n ≤ xs.length) (K (.toA t n xs) (freeze h [id])) else none
    | _, _ => none
  | x => toArrQ P T x fun v => K v h

def idsOf (e : Ev) : List Operand → Option (List Nat)
  | [] => some []
  | x :: l =>
    match opnd e x, idsOf e l with
    | .one (.ptr id 0), some r => some (id :: r)
    | _, _ => none

noncomputable def stepOp (X : Cx) (op : Op) (T : TypeId) (e : Ev) (h : Hm) (K : V → Hm → Option R) : Option R :=
  match op with
  | .move x | .assign x => nilOp X.P T (opnd e x) h K
  | .pick c x y =>
    match opnd e c with
    | .one (.b b) => bif b then nilOp X.P T (opnd e x) h K else nilOp X.P T (opnd e y) h K
    | _ => none
  | .extract t i =>
    match opnd e t with
    | .tup vs => (match vs[i]? with | some (.inl x) => K (.one x) h | some (.inr l) => K (.ag l) h | none => none)
    | _ => none
  | .makeFunc (.func f) first caps => (match first.toList, idsOf e caps.toList with | [], some ids => K (.one (.fn f ids)) h | _, _ => none)
  | .binOp op t x y _ =>
    match opnd e x, opnd e y with
    | .one (.i k a), .one (.i k' b) =>
      match op with
      | .shl | .shr => binI op k a b fun v => K v h
      | op => if k = k' then binI op k a b fun v => K v h else none
    | .one (.s a), .one (.s b) => binS op a b fun v => K v h
    | .one (.b a), .one (.b b) => (match X.P.underlying t with | some .bool => binB op a b fun v => K v h | _ => none)
    | .ag l, .ag m =>
      bif X.P.eqGuardType X.P.depth t || isScal X.P t then none else
        match eqTy X.P depth t l m, op with
        | some b, .eql => K (.one (.b b)) h
        | some b, .neq => K (.one (.b (!b))) h
        | _, _ => none
    | a, b =>
      bif isNil b then
        match op with
        | .eql => nilEq X.P t a h fun b => K (.one (.b b)) h
        | .neq => nilEq X.P t a h fun b => K (.one (.b (!b))) h
        | _ => none
      else none
  | .unOp u _ x =>
    match u, opnd e x with
    | .not, .one (.b b) => K (.one (.b (!b))) h
    | .neg, .one (.i k n) => K (int1 k (k.wrap (0 - n))) h
    | .xor, .one (.i k n) => K (int1 k (inot k n)) h
    | _, _ => none
  | .convert S U x => convOp X.P S U (opnd e x) h K
  | .index t x y => idxOp X.P t (opnd e x) (opnd e y) fun v => K v h
  | .slice t x lo hi mx => sliceOp X.P t (opnd e x) lo hi mx e h K
  | .fieldAddr t x f => fieldOp X.P t (opnd e x) f h fun v => K v h
  | .indexAddr t x y => idxAddr X.P t (opnd e x) (opnd e y) h fun v => K v h
  | .load t x => loadOp X.P t (opnd e x) h K
  | .box t x => nilOp X.P t (opnd e x) h fun v h => (match leaves v with | some ls => K (.one (.ptr h.length 0)) (h ++ [.blk t ls]) | none => none)
  | .alloc t => (match zeroL X.P depth t h.length with | some (ls, hs) => bif zeroCk X.P t h.length ls hs then K (.one (.ptr (h ++ hs).length 0)) (h ++ hs ++ [.blk t ls]) else none | none => none)
  | .store t p v => nilOp X.P t (opnd e v) h fun v h => storeOp X.P t (opnd e p) v h fun h => K .u h
  | .build t ps => buildOp X.P t ps.toList e h K
  | .buildSlice t n ps => buildSl X.P t n ps.toList e h K
  | .sliceToArrayPointer t x => toArrOp X.P t (opnd e x) h K
  | .nilCheck x => (match opnd e x with | .one (.ptr id off) => K (.one (.ptr id off)) h | _ => none)
  | .makeSlice t x y => makeOp X.P t (opnd e x) (opnd e y) h K
  | .call c => callOp X c e h K
  | _ => none

/-! ### code -/
inductive Want where
  | yes | no | ask (t : Nat) (x want : Bool) | bad

def wantV (ops : List Oper) (o : Oper) (e : Ev) : Want :=
  match o.guard with
  | none => .yes
  | some (g, want) =>
    match (ops[g]?).bind (·.dst) with
    | some t =>
      match getE e t with
      | .one (.b x) => .ask t x want
      | .sk => .no
      | _ => .bad
    | none => .bad

/-- operations one behind the other -/
noncomputable def runL (X : Cx) (ops : List Oper) : List Oper → Ev → Hm → (Ev → Hm → Option R) → Option R
  | [], e, h, K => K e h
  | o :: l, e, h, K =>
    match wantV ops o e with
    | .yes => stepOp X o.op o.type e h fun v h => runL X ops l (putE e o.dst v) h K
    | .no => runL X ops l (putE e o.dst .sk) h K
    | .ask t x want =>
      bif x then (bif want then stepOp X o.op o.type (putE e (some t) (.one (.b true))) h fun v h => runL X ops l (putE (putE e (some t) (.one (.b true))) o.dst v) h K
                  else runL X ops l (putE (putE e (some t) (.one (.b true))) o.dst .sk) h K)
      else (bif want then runL X ops l (putE (putE e (some t) (.one (.b false))) o.dst .sk) h K
            else stepOp X o.op o.type (putE e (some t) (.one (.b false))) h fun v h => runL X ops l (putE (putE e (some t) (.one (.b false))) o.dst v) h K)
    | .bad => none

/-- values that have no address in them -/
def detL : L → Bool
  | .i .. | .b _ | .s _ | .f .. | .nil | .np | .nf => true
  | .arr t _ _ => flat t
  | _ => false
def detV : V → Bool
  | .one (.arr ..) => false
  | .one x => detL x
  | .ag ls => ls.all detL
  | _ => false
/-- a call that changes nothing and tells data without slices -/
def enterQ (en : Entry) (vs : List V) (h : Hm) (K : V → Option R) : Option R :=
  match takeDs h ⟨[], []⟩ en.pre vs with
  | some (l, _) =>
    match ofL en.pre.ts l with
    | some x => bif en.pre.objs.all (fun o => !odLive o) then (en.fn x).bind fun y => bif (givenV en.post id y).1.all detV then K (resV (givenV en.post id y).1) else none else none
    | none => none
  | none => none
def callQ (oops : Nat → List V → Hm → Option Unit) (D : List (Nat × Entry)) (f : Nat) (vs : List V) (h : Hm) (K : V → Option R) : Option R :=
  match D with
  | [] => (oops f vs h).bind fun _ => none
  | (g, en) :: D => bif Nat.beq g f && fits en vs h then enterQ en vs h K else callQ oops D f vs h K

def notNil (v : V) (K : V → Option R) : Option R := bif isNil v then none else K v

/-- an operation that leaves memory alone; fl: 2 it does not look at it either, 1 it reads, 0 it may call -/
noncomputable def stepQ (X : Cx) (fl : Nat) (op : Op) (e : Ev) (h : Hm) (K : V → Option R) : Option R :=
  match op with
  | .move x | .assign x => notNil (opnd e x) K
  | .pick c x y =>
    match opnd e c with
    | .one (.b b) => bif b then notNil (opnd e x) K else notNil (opnd e y) K
    | _ => none
  | .extract t i =>
    match opnd e t with
    | .tup vs => (match vs[i]? with | some (.inl x) => K (.one x) | some (.inr l) => K (.ag l) | none => none)
    | _ => none
  | .makeFunc (.func f) first caps => (match first.toList, idsOf e caps.toList with | [], some ids => K (.one (.fn f ids)) | _, _ => none)
  | .binOp op t x y _ =>
    match opnd e x, opnd e y with
    | .one (.i k a), .one (.i k' b) =>
      match op with
      | .shl | .shr => binI op k a b K
      | op => if k = k' then binI op k a b K else none
    | .one (.s a), .one (.s b) => binS op a b K
    | .one (.b a), .one (.b b) => (match X.P.underlying t with | some .bool => binB op a b K | _ => none)
    | .ag l, .ag m =>
      bif X.P.eqGuardType X.P.depth t || isScal X.P t then none else
        match eqTy X.P depth t l m, op with
        | some b, .eql => K (.one (.b b))
        | some b, .neq => K (.one (.b (!b)))
        | _, _ => none
    | _, _ => none
  | .unOp u _ x =>
    match u, opnd e x with
    | .not, .one (.b b) => K (.one (.b (!b)))
    | .neg, .one (.i k n) => K (int1 k (k.wrap (0 - n)))
    | .xor, .one (.i k n) => K (int1 k (inot k n))
    | _, _ => none
  | .convert A B x =>
    match X.P.underlying A, X.P.underlying B, opnd e x with
    | some (.int _), some (.int k), .one (.i _ n) => K (int1 k (k.wrap n))
    | some .string, some .string, .one (.s l) => K (.one (.s l))
    | some (.slice el), some .string, x =>
      match X.P.underlying el, readS h x with
      | some (.int .u8), some ⟨.int .u8, xs⟩ => bif Nat.ble fl 1 then K (.one (.s (bytesOf xs))) else none
      | _, _ => none
    | _, _, _ => none
  | .index t x y => idxOp X.P t (opnd e x) (opnd e y) K
  | .slice t x lo hi none => sliceP X.P t (opnd e x) lo hi e K
  | .fieldAddr t x f => fieldOp X.P t (opnd e x) f h K
  | .indexAddr t x y => idxAddr X.P t (opnd e x) (opnd e y) h K
  | .load t x => bif Nat.ble fl 1 then loadOp X.P t (opnd e x) h (fun v _ => K v) else none
  | .sliceToArrayPointer t x => toArrQ X.P t (opnd e x) K
  | .nilCheck x => (match opnd e x with | .one (.ptr id off) => K (.one (.ptr id off)) | _ => none)
  | .call c =>
    match c.callee with
    | .value f =>
      match opnd e f with
      | .one (.fn g ids) =>
        match findA X.ext g with
        | some kind => (match ids with | [] => extOp kind (opndS e c.args.toList) K | _ => none)
        | none => bif callable X.P g && Nat.beq fl 0 then callQ X.oops X.D g (opndS e c.args.toList ++ ptrsOf ids) h K else none
      | _ => none
    | .builtin b =>
      match b, c.args.toList, c.argTypes.toList with
      | .len, [x], [T] => lenOp X.P T (opnd e x) h K
      | .max, [x, y], _ => (match opnd e x, opnd e y with | .one (.i k a), .one (.i k' b) => if k = k' then K (int1 k (max a b)) else none | _, _ => none)
      | .min, [x, y], _ => (match opnd e x, opnd e y with | .one (.i k a), .one (.i k' b) => if k = k' then K (int1 k (min a b)) else none | _, _ => none)
      | _, _, _ => none
    | _ => none
  | _ => none

noncomputable def runH (X : Cx) (ops : List Oper) : List (Oper × Nat) → Ev → Hm → (Ev → Option R) → Option R
  | [], e, _, K => K e
  | (o, fl) :: l, e, h, K =>
    match wantV ops o e with
    | .yes => stepQ X fl o.op e h fun v => runH X ops l (putE e o.dst v) h K
    | .no => runH X ops l (putE e o.dst .sk) h K
    | .ask t x want =>
      bif x then (bif want then stepQ X fl o.op (putE e (some t) (.one (.b true))) h fun v => runH X ops l (putE (putE e (some t) (.one (.b true))) o.dst v) h K
                  else runH X ops l (putE (putE e (some t) (.one (.b true))) o.dst .sk) h K)
      else (bif want then runH X ops l (putE (putE e (some t) (.one (.b false))) o.dst .sk) h K
            else stepQ X fl o.op (putE e (some t) (.one (.b false))) h fun v => runH X ops l (putE (putE e (some t) (.one (.b false))) o.dst v) h K)
    | .bad => none

def dstOk (n : Nat) (o : Oper) : Bool :=
  match o.dst with
  | some d => Nat.blt d n
  | none => true

/-! a tail beside heads: it runs over what it may write alone -/
def memN : List Nat → Nat → Bool
  | [], _ => false
  | a :: l, i => bif Nat.beq a i then true else memN l i
/-- of a state's objects those alone that may be written -/
def lockH (xs : List Nat) : Nat → Hm → Hm
  | _, [] => []
  | i, o :: h => (bif memN xs i then o else .gone) :: lockH xs (i + 1) h
def dropH (xs : List Nat) : Nat → Hm → Hm
  | _, [] => []
  | i, o :: h => (bif memN xs i then .gone else o) :: dropH xs (i + 1) h
def unlockH (xs : List Nat) : Nat → Hm → Hm → Hm
  | _, [], h' => h'
  | _, h, [] => h
  | i, o :: h, o' :: h' => (bif memN xs i then o' else o) :: unlockH xs (i + 1) h h'
def okL (bad : Nat → Bool) : L → Bool
  | .own id => !bad id
  | _ => true
def okV (bad : Nat → Bool) : V → Bool
  | .one x => okL bad x
  | .ag ls => ls.all (okL bad)
  | .tup vs => vs.all fun x => match x with | .inl x => okL bad x | .inr ls => ls.all (okL bad)
  | .epO id _ _ _ => !bad id
  | _ => true
def okO (bad : Nat → Bool) : Ob → Bool
  | .blk _ ls => ls.all (okL bad)
  | .rd _ ls => ls.all (okL bad)
  | .fix .. => false
  | _ => true
def ptrIds (e : Ev) : List Nat → Option (List Nat)
  | [] => some []
  | s :: l =>
    match getE e s, ptrIds e l with
    | .one (.ptr id _), some r => some (id :: r)
    | _, _ => none
def slotsOf (ops : List Oper) : List Oper → List Nat
  | [] => []
  | o :: l => (match o.dst with | some d => [d] | none => []) ++ (match o.guard with | some (g, _) => (match (ops[g]?).bind (·.dst) with | some t => [t] | none => []) | none => []) ++ slotsOf ops l
def mergeE (e e2 : Ev) : List Nat → Ev
  | [] => e
  | d :: l => (d, getE e2 d) :: mergeE e e2 l
def takeF : List (Nat × Bool) → List (Nat × Bool)
  | (i, true) :: l => (i, true) :: takeF l
  | _ => []
def dropF : List (Nat × Bool) → List (Nat × Bool)
  | (_, true) :: l => dropF l
  | l => l
/-- what stands still while the tail runs, and lies not in it -/
def stillB (xs : List Nat) (h : Hm) (id : Nat) : Bool := Nat.blt id h.length && !memN xs id

noncomputable def runRg (X : Cx) (id : Nat) (ops : List Oper) (draw : Bool) (e : Ev) (h : Hm) (K : Ev → Hm → Option R) : Option R :=
  bif ops.all (dstOk X.nt) then
    bif draw then
      match findA X.dr id with
      | some (H, Tl, XS) =>
        bif okRegion ops H Tl then
          bif Tl.all (fun t => !t.2) then runH X ops (picks ops H) e h fun e => runL X ops ((picks ops Tl).map (·.1)) e h K
          else
            match ptrIds e XS with
            | some xs =>
              bif (dropF Tl).all (fun t => !t.2) then
                runH X ops (picks ops H) e (dropH xs 0 h) fun e1 =>
                  bif (slotsOf ops ((picks ops H).map (·.1))).all (fun d => okV (memN xs) (getE e1 d)) then
                    runL X ops ((picks ops (takeF Tl)).map (·.1)) (mergeE e e1 (slotsOf ops ((picks ops H).map (·.1)))) (lockH xs 0 h) fun e2 h2 =>
                      bif (slotsOf ops ((picks ops (takeF Tl)).map (·.1))).all (fun d => okV (stillB xs h) (getE e2 d)) && h2.all (okO (stillB xs h)) then
                        runL X ops ((picks ops (dropF Tl)).map (·.1)) (mergeE (mergeE e e1 (slotsOf ops ((picks ops H).map (·.1)))) e2 (slotsOf ops ((picks ops (takeF Tl)).map (·.1)))) (unlockH xs 0 h h2) K
                      else none
                  else none
              else none
            | none => none
        else none
      | none => none
    else runL X ops ops e h K
  else none

def headId : Code → Option Nat
  | .region id _ _ => some id
  | .seq a _ => headId a
  | .block _ a => headId a
  | .loop a => headId a
  | _ => none

structure KK (R : Type) where
  normal : Ev → Hm → Option R
  exit : Nat → Ev → Hm → Option R
  ret : Ev → Hm → Option R

def atA {α : Type} (l : List (Nat × α)) : Option Nat → Option α
  | some i => findA l i
  | none => none

noncomputable def exec (X : Cx) (k : Nat) : Code → KK R → Ev → Hm → Option R
  | .skip, K, e, h => K.normal e h
  | .ret, K, e, h => K.ret e h
  | .exit i, K, e, h => K.exit i e h
  | .seq a b, K, e, h =>
    match atA X.jn (headId b) with
    | some d => joinC (resume d (exec X k b K)) fun j => exec X k a { K with normal := arrive X d j } e h
    | none => exec X k a { K with normal := exec X k b K } e h
  | .cond c a b, K, e, h =>
    match opnd e c with
    | .one (.b x) => bif x then exec X k a K e h else exec X k b K e h
    | _ => none
  | .block i c, K, e, h => exec X k c { K with exit := fun j e h => bif Nat.beq j i then K.normal e h else K.exit j e h } e h
  | .region id ops draw, K, e, h =>
    match findA X.rj id with
    | some d => joinC (resume d K.normal) fun j => runRg X id ops.toList draw e h (arrive X d j)
    | none => runRg X id ops.toList draw e h K.normal
  | .loop c, K, e, h =>
    match atA X.lp (headId c) with
    | some d => arrive X d (loopC (fun rec => resume d (exec X k c { K with normal := arrive X d rec })) k) e h
    | none => none
  | _, _, _, _ => none

def resOne (P : Program) (e : Ev) (h : Hm) : ResultVar → (V → Option R) → Option R
  | .tmp t, K => K (getE e t)
  | .cell t ty, K => loadOp P ty (getE e t) h fun v _ => K v
def resAll (P : Program) (e : Ev) (h : Hm) : List ResultVar → (List V → Option R) → Option R
  | [], K => K []
  | x :: l, K => resOne P e h x fun v => resAll P e h l fun vs => K (v :: vs)

def leave (X : Cx) (rs : List ResultVar) (post : Ds) (e : Ev) (h : Hm) : Option (HL post.ts) :=
  resAll X.P e h rs fun vs =>
  match takeDs h ⟨keepN X.keep, []⟩ post vs with
  | some (l, _) => ofL post.ts l
  | none => none

def natsTo : Nat → Nat → List Nat
  | _, 0 => []
  | i, n + 1 => i :: natsTo (i + 1) n

/-- what a function comes to -/
noncomputable def runF (X : Cx) (k : Nat) (fn : Func) (pre post : Ds) (x : HL pre.ts) : Option (HL post.ts) :=
  match fn.body with
  | some c => bif Nat.beq X.keep pre.objs.length && Nat.ble pre.vals.length fn.ntmps && Nat.beq X.nt fn.ntmps && Nat.ble pre.objs.length post.objs.length then
      resume ⟨natsTo 0 pre.vals.length, pre⟩ (exec X k c ⟨leave X fn.results.toList post, fun _ _ _ => none, leave X fn.results.toList post⟩) x
    else none
  | none => none

end
end Go.Dor
