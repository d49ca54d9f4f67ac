/- WHAT EACH OPERATION YIELDS: numbers, bools, texts, structs and arrays by value. Plain lemmas over any program. -/
import Derived.Test.YtlejphdgfoejaaaDoorC
namespace Go.Dor

/-- a text by its bytes -/
def sv (l : List UInt8) : Value := .string ⟨l.toArray⟩
theorem string_sv (s : ByteArray) : Value.string s = sv s.data.toList := rfl

def ibits (f : ∀ {n : Nat}, BitVec n → BitVec n → BitVec n) (k : IntKind) (m n : Int) : Int := k.wrap ((f (BitVec.ofInt k.bits m) (BitVec.ofInt k.bits n)).toNat)
def iand := ibits (fun a b => a &&& b)
def ior := ibits (fun a b => a ||| b)
def ixor := ibits (fun a b => a ^^^ b)
def iandn := ibits (fun a b => a &&& ~~~b)
def ishl (k : IntKind) (m n : Int) : Int := k.wrap (m * 2 ^ min n.toNat k.bits)
def ishr (k : IntKind) (m n : Int) : Int := m.fdiv (2 ^ min n.toNat k.bits)
def inot (k : IntKind) (n : Int) : Int := ixor k (if k.signed then -1 else k.max) n

/-- a byte of a text, as a number -/
def bat (l : List UInt8) (i : Int) : Int := ((l.getD i.toNat 0).toNat : Int)
/-- an element -/
def at_ {α : Type} (d : α) (l : List α) (i : Int) : α := l.getD i.toNat d
def sub_ {α : Type} (l : List α) (lo hi : Int) : List α := (l.take hi.toNat).drop lo.toNat

section
variable {P : Program} {r : Env} {w : World} {d : Option Tmp} {ty : TypeId} {pos : String} {aft : Array Edge} {g : Option (Nat × Bool)}

theorem ex_move {x : Operand} {v : Value} (h : ev r x = v) : (execOp (ev r) ⟨d, .move x, ty, pos, aft, g⟩).run P w = .ok (.value v) w := by subst h; rfl
theorem ex_assign {x : Operand} {v : Value} (h : ev r x = v) : (execOp (ev r) ⟨d, .assign x, ty, pos, aft, g⟩).run P w = .ok (.value v) w := by subst h; rfl
theorem ex_pick {c x y : Operand} {b : Bool} {u v : Value} (hc : ev r c = .bool b) (hx : ev r x = u) (hy : ev r y = v) : (execOp (ev r) ⟨d, .pick c x y, ty, pos, aft, g⟩).run P w = .ok (.value (if b then u else v)) w := by
  subst hx hy; simp [execOp, hc, asBool]
theorem ex_extract {t : Operand} {i : Nat} {vs : List Value} {v : Value} (h : ev r t = .tuple vs.toArray) (hi : vs[i]? = some v) : (execOp (ev r) ⟨d, .extract t i, ty, pos, aft, g⟩).run P w = .ok (.value v) w := by
  simp [execOp, h, Instr.extract, hi]
theorem ex_makeFunc {fn : Fn} {caps : List Operand} {vs : List Value} (h : caps.map (ev r) = vs) : (execOp (ev r) ⟨d, .makeFunc fn #[] caps.toArray, ty, pos, aft, g⟩).run P w = .ok (.value (.func fn #[] vs.toArray)) w := by
  subst h; simp [execOp, Instr.makeFunc]

section ints
variable {x y : Operand} {k k' : IntKind} {m n : Int} {t u : TypeId}
theorem ex_add (hx : ev r x = .int k m) (hy : ev r y = .int k n) : (execOp (ev r) ⟨d, .binOp .add t x y u, ty, pos, aft, g⟩).run P w = .ok (.value (.int k (k.wrap (m + n)))) w := by
  simp [execOp, hx, hy, eqGuard, binOp, Op.intArith]
theorem ex_sub (hx : ev r x = .int k m) (hy : ev r y = .int k n) : (execOp (ev r) ⟨d, .binOp .sub t x y u, ty, pos, aft, g⟩).run P w = .ok (.value (.int k (k.wrap (m - n)))) w := by
  simp [execOp, hx, hy, eqGuard, binOp, Op.intArith]
theorem ex_mul (hx : ev r x = .int k m) (hy : ev r y = .int k n) : (execOp (ev r) ⟨d, .binOp .mul t x y u, ty, pos, aft, g⟩).run P w = .ok (.value (.int k (k.wrap (m * n)))) w := by
  simp [execOp, hx, hy, eqGuard, binOp, Op.intArith]
theorem ex_quo (hx : ev r x = .int k m) (hy : ev r y = .int k n) (h0 : n ≠ 0) : (execOp (ev r) ⟨d, .binOp .quo t x y u, ty, pos, aft, g⟩).run P w = .ok (.value (.int k (k.wrap (m.tdiv n)))) w := by
  simp [execOp, hx, hy, eqGuard, binOp, Op.intDiv, h0]
theorem ex_rem (hx : ev r x = .int k m) (hy : ev r y = .int k n) (h0 : n ≠ 0) : (execOp (ev r) ⟨d, .binOp .rem t x y u, ty, pos, aft, g⟩).run P w = .ok (.value (.int k (m.tmod n))) w := by
  simp [execOp, hx, hy, eqGuard, binOp, Op.intDiv, h0]
theorem ex_and (hx : ev r x = .int k m) (hy : ev r y = .int k n) : (execOp (ev r) ⟨d, .binOp .and t x y u, ty, pos, aft, g⟩).run P w = .ok (.value (.int k (iand k m n))) w := by
  simp [execOp, hx, hy, eqGuard, binOp, Op.intBits, iand, ibits]
theorem ex_or (hx : ev r x = .int k m) (hy : ev r y = .int k n) : (execOp (ev r) ⟨d, .binOp .or t x y u, ty, pos, aft, g⟩).run P w = .ok (.value (.int k (ior k m n))) w := by
  simp [execOp, hx, hy, eqGuard, binOp, Op.intBits, ior, ibits]
theorem ex_xor (hx : ev r x = .int k m) (hy : ev r y = .int k n) : (execOp (ev r) ⟨d, .binOp .xor t x y u, ty, pos, aft, g⟩).run P w = .ok (.value (.int k (ixor k m n))) w := by
  simp [execOp, hx, hy, eqGuard, binOp, Op.intBits, ixor, ibits]
theorem ex_andNot (hx : ev r x = .int k m) (hy : ev r y = .int k n) : (execOp (ev r) ⟨d, .binOp .andNot t x y u, ty, pos, aft, g⟩).run P w = .ok (.value (.int k (iandn k m n))) w := by
  simp [execOp, hx, hy, eqGuard, binOp, Op.intBits, iandn, ibits]
theorem ex_shl (hx : ev r x = .int k m) (hy : ev r y = .int k' n) (h0 : 0 ≤ n) : (execOp (ev r) ⟨d, .binOp .shl t x y u, ty, pos, aft, g⟩).run P w = .ok (.value (.int k (ishl k m n))) w := by
  have : ¬ n < 0 := by omega
  simp [execOp, hx, hy, eqGuard, binOp, Op.shift, this, ishl]
theorem ex_shr (hx : ev r x = .int k m) (hy : ev r y = .int k' n) (h0 : 0 ≤ n) : (execOp (ev r) ⟨d, .binOp .shr t x y u, ty, pos, aft, g⟩).run P w = .ok (.value (.int k (ishr k m n))) w := by
  have : ¬ n < 0 := by omega
  simp [execOp, hx, hy, eqGuard, binOp, Op.shift, this, ishr]
theorem ex_eql (hx : ev r x = .int k m) (hy : ev r y = .int k n) : (execOp (ev r) ⟨d, .binOp .eql t x y u, ty, pos, aft, g⟩).run P w = .ok (.value (.bool (m == n))) w := by
  simp [execOp, hx, hy, eqGuard, binOp, Op.intCmp]
theorem ex_neq (hx : ev r x = .int k m) (hy : ev r y = .int k n) : (execOp (ev r) ⟨d, .binOp .neq t x y u, ty, pos, aft, g⟩).run P w = .ok (.value (.bool (m != n))) w := by
  simp [execOp, hx, hy, eqGuard, binOp, Op.intCmp]
theorem ex_lss (hx : ev r x = .int k m) (hy : ev r y = .int k n) : (execOp (ev r) ⟨d, .binOp .lss t x y u, ty, pos, aft, g⟩).run P w = .ok (.value (.bool (decide (m < n)))) w := by
  simp [execOp, hx, hy, eqGuard, binOp, Op.intCmp]
theorem ex_leq (hx : ev r x = .int k m) (hy : ev r y = .int k n) : (execOp (ev r) ⟨d, .binOp .leq t x y u, ty, pos, aft, g⟩).run P w = .ok (.value (.bool (decide (m ≤ n)))) w := by
  simp [execOp, hx, hy, eqGuard, binOp, Op.intCmp]
theorem ex_gtr (hx : ev r x = .int k m) (hy : ev r y = .int k n) : (execOp (ev r) ⟨d, .binOp .gtr t x y u, ty, pos, aft, g⟩).run P w = .ok (.value (.bool (decide (m > n)))) w := by
  simp [execOp, hx, hy, eqGuard, binOp, Op.intCmp]
theorem ex_geq (hx : ev r x = .int k m) (hy : ev r y = .int k n) : (execOp (ev r) ⟨d, .binOp .geq t x y u, ty, pos, aft, g⟩).run P w = .ok (.value (.bool (decide (m ≥ n)))) w := by
  simp [execOp, hx, hy, eqGuard, binOp, Op.intCmp]
theorem ex_neg (hx : ev r x = .int k n) : (execOp (ev r) ⟨d, .unOp .neg t x, ty, pos, aft, g⟩).run P w = .ok (.value (.int k (k.wrap (0 - n)))) w := by
  simp [execOp, hx, Op.unary, Op.intArith]
theorem ex_inot (hx : ev r x = .int k n) : (execOp (ev r) ⟨d, .unOp .xor t x, ty, pos, aft, g⟩).run P w = .ok (.value (.int k (inot k n))) w := by
  simp [execOp, hx, Op.unary, Op.intBits, inot, ixor, ibits]
theorem ex_not {b : Bool} (hx : ev r x = .bool b) : (execOp (ev r) ⟨d, .unOp .not t x, ty, pos, aft, g⟩).run P w = .ok (.value (.bool (!b))) w := by
  simp [execOp, hx, Op.unary]
theorem equal_run {x y : Value} : (Op.equal t x y).run P w = (Op.equalIn (9999 + 1) t x y).run P w := rfl
theorem equalIn_bool {q : Nat} {a b : Bool} (ht : P.underlying t = some .bool) : (Op.equalIn (q + 1) t (.bool a) (.bool b)).run P w = .ok (a == b) w := by
  simp [Op.equalIn, run_underlying ht]
theorem ex_eqb {a b : Bool} (ht : P.underlying t = some .bool) (hx : ev r x = .bool a) (hy : ev r y = .bool b) : (execOp (ev r) ⟨d, .binOp .eql t x y u, ty, pos, aft, g⟩).run P w = .ok (.value (.bool (a == b))) w := by
  simp [execOp, hx, hy, eqGuard, binOp, equal_run, equalIn_bool ht, -Nat.reduceAdd]
theorem ex_neb {a b : Bool} (ht : P.underlying t = some .bool) (hx : ev r x = .bool a) (hy : ev r y = .bool b) : (execOp (ev r) ⟨d, .binOp .neq t x y u, ty, pos, aft, g⟩).run P w = .ok (.value (.bool (!(a == b)))) w := by
  simp [execOp, hx, hy, eqGuard, binOp, equal_run, equalIn_bool ht, -Nat.reduceAdd]
theorem ex_convInt {s : TypeId} {a : TypeDesc} (hs : P.underlying s = some a) (ht : P.underlying t = some (.int k')) (hx : ev r x = .int k n) : (execOp (ev r) ⟨d, .convert s t x, ty, pos, aft, g⟩).run P w = .ok (.value (.int k' (k'.wrap n))) w := by
  simp [execOp, hx, convert, run_underlying hs, run_underlying ht, Conv.intToInt]
theorem ex_max2 {at_ : Array TypeId} (hx : ev r x = .int k m) (hy : ev r y = .int k n) : (execOp (ev r) ⟨d, .call { callee := .builtin .max, args := #[x, y], argTypes := at_ }, ty, pos, aft, g⟩).run P w = .ok (.value (.int k (max m n))) w := by
  have : (if n > m then n else m) = max m n := by omega
  simp [execOp, hx, hy, resolve, invoke, builtin, Builtin.max_, Builtin.max2]
  exact this
theorem ex_min2 {at_ : Array TypeId} (hx : ev r x = .int k m) (hy : ev r y = .int k n) : (execOp (ev r) ⟨d, .call { callee := .builtin .min, args := #[x, y], argTypes := at_ }, ty, pos, aft, g⟩).run P w = .ok (.value (.int k (min m n))) w := by
  have : (if n < m then n else m) = min m n := by omega
  simp [execOp, hx, hy, resolve, invoke, builtin, Builtin.min_, Builtin.min2]
  exact this
end ints

section texts
variable {x y z : Operand} {k k' : IntKind} {a b : List UInt8} {m n : Int} {t u e : TypeId}
theorem sv_toList (a : List UInt8) : (ByteArray.mk a.toArray).toList = a := by simp
theorem sv_size (a : List UInt8) : (ByteArray.mk a.toArray).size = a.length := by simp [ByteArray.size]
theorem ex_cat (hx : ev r x = sv a) (hy : ev r y = sv b) (h : a.length + b.length ≤ 9223372036854775807) : (execOp (ev r) ⟨d, .binOp .add t x y u, ty, pos, aft, g⟩).run P w = .ok (.value (sv (a ++ b))) w := by
  have h' : ¬ (9223372036854775807 < (a.length : Int) + b.length) := by omega
  have e : (ByteArray.mk a.toArray) ++ (ByteArray.mk b.toArray) = ByteArray.mk (a ++ b).toArray := by
    apply ByteArray.ext; simp
  simp only [sv] at hx hy
  simp [execOp, hx, hy, eqGuard, binOp, Op.stringOp, sv_size, h', e, sv]
theorem ex_eqs (hx : ev r x = sv a) (hy : ev r y = sv b) : (execOp (ev r) ⟨d, .binOp .eql t x y u, ty, pos, aft, g⟩).run P w = .ok (.value (.bool (a == b))) w := by
  simp only [sv] at hx hy
  simp [execOp, hx, hy, eqGuard, binOp, Op.stringOp]
theorem ex_nes (hx : ev r x = sv a) (hy : ev r y = sv b) : (execOp (ev r) ⟨d, .binOp .neq t x y u, ty, pos, aft, g⟩).run P w = .ok (.value (.bool (!(a == b)))) w := by
  simp only [sv] at hx hy
  simp [execOp, hx, hy, eqGuard, binOp, Op.stringOp]
theorem ex_lts (hx : ev r x = sv a) (hy : ev r y = sv b) : (execOp (ev r) ⟨d, .binOp .lss t x y u, ty, pos, aft, g⟩).run P w = .ok (.value (.bool (Op.bytesLess a b))) w := by
  simp only [sv] at hx hy
  simp [execOp, hx, hy, eqGuard, binOp, Op.stringOp]
theorem ex_lens {at1 : TypeId} (ht : P.underlying at1 = some .string) (hx : ev r x = sv a) : (execOp (ev r) ⟨d, .call { callee := .builtin .len, args := #[x], argTypes := #[at1] }, ty, pos, aft, g⟩).run P w = .ok (.value (.int .i64 a.length)) w := by
  simp only [sv] at hx
  simp [execOp, hx, resolve, invoke, builtin, Builtin.len_, run_underlying ht, sv_size, goInt]
theorem ex_convStr {s : TypeId} (hs : P.underlying s = some .string) (ht : P.underlying t = some .string) (hx : ev r x = sv a) : (execOp (ev r) ⟨d, .convert s t x, ty, pos, aft, g⟩).run P w = .ok (.value (sv a)) w := by
  simp only [sv] at hx
  simp [execOp, hx, convert, run_underlying hs, run_underlying ht, sv]
theorem ex_ats (ht : P.underlying t = some .string) (hx : ev r x = sv a) (hi : ev r y = .int k m) (h0 : 0 ≤ m) (h1 : m < a.length) : (execOp (ev r) ⟨d, .index t x y, ty, pos, aft, g⟩).run P w = .ok (.value (.int .u8 (bat a m))) w := by
  simp only [sv] at hx
  have hlt : m.toNat < a.length := by omega
  have e : (ByteArray.mk a.toArray)[m.toNat]? = some a[m.toNat] := by
    rw [getElem?_pos (ByteArray.mk a.toArray) m.toNat (by simpa [ByteArray.size] using hlt)]
    simp [ByteArray.getElem_eq_getElem_data]
  simp [execOp, hx, hi, Instr.index, asIntOf, run_underlying ht, h0, e, bat, hlt]
end texts

end
end Go.Dor
