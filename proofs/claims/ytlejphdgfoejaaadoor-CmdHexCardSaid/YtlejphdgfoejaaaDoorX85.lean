/- THE ROW, AND WHAT IT STANDS ON: the texts Wc Ra Zl Zm R8, one behind the other. -/
import Derived.Test.YtlejphdgfoejaaaDoorX84
import Derived.KernelRfl
import Derived.Test.YtlejphdgfoejaaaDoorX83
import Derived.ProofKit
import Derived.OpenShut
import Derived.WideShapes
import Derived.Test.YtlejphdgfoejaaaDoorRows
import Derived.SizedLaws
import Derived.ChangeSame
import Derived.ChangeVars
import Derived.JoinedOf
import Derived.LaidLaws
import Derived.LaidHandle
import Derived.Lib.LaidIn
import Derived.Handed
import Derived.Test.YtlejphdgfoejaaaDoorTie
import Derived.Test.YtlejphdgfoejaaaDoorCards
import Derived.SevenTiedAt
section
/- The functions that the law calls, as the machine shows them. -/
namespace Go.Dor
open Go.Proofs
set_option maxRecDepth 100000
set_option linter.unusedVariables false
noncomputable section

/- dormouse/cmd.Parse$1: function 46 -/
noncomputable def p_cmd_Parse_c1 (x122 : Int) (x123 : List (List UInt8)) : Option (List UInt8) :=
  bif (decide (x122 < (↑(List.length x123) : Int))) then need ((0 : Int) ≤ x122 ∧ x122 < (↑(List.length x123) : Int)) (some (at_ (dflt T.str) x123 x122)) else some []
noncomputable def e_cmd_Parse_c1 : Entry := ⟨Ds.mk [Vd.one (Ld.im (T.int IntKind.i64)), Vd.one (Ld.ptr (0) (0))] [Od.rdT (67) (T.sl T.str)], Ds.mk [Vd.one (Ld.im T.str)] [Od.gone], fun x => p_cmd_Parse_c1 x.1 x.2⟩
noncomputable def c_cmd_Parse_c1 : Cx := ⟨Tryd.prog, [], [], [], [], [], 1, 12, [(76, 0), (83, 1)], fun _ _ _ => none⟩
theorem q_cmd_Parse_c1 (x : HL (e_cmd_Parse_c1).pre.ts) : runF (c_cmd_Parse_c1) 0 Tryd.f46 (e_cmd_Parse_c1).pre (e_cmd_Parse_c1).post x = (e_cmd_Parse_c1).fn x := by kernel_rfl
theorem s_cmd_Parse_c1 : Entry.Sound Tryd.prog 46 (e_cmd_Parse_c1) := runF_sound (X := c_cmd_Parse_c1) (pre := (e_cmd_Parse_c1).pre) (post := (e_cmd_Parse_c1).post) (q := (e_cmd_Parse_c1).fn) ⟨dOk_nil, x_ext, x_mo⟩ Tryd.func46 (q_cmd_Parse_c1)

/- dormouse/cmd.word: function 43 -/
noncomputable def p_cmd_word (x134 : Int) : Option (List UInt8) :=
  bif (x134 == (0 : Int)) then some ([(103 : UInt8), (101 : UInt8), (116 : UInt8)]) else bif (x134 == (1 : Int)) then some ([(112 : UInt8), (117 : UInt8), (116 : UInt8)]) else bif (x134 == (2 : Int)) then some ([(100 : UInt8), (101 : UInt8), (108 : UInt8), (101 : UInt8), (116 : UInt8), (101 : UInt8)]) else bif (x134 == (3 : Int)) then some ([(116 : UInt8), (111 : UInt8), (117 : UInt8), (99 : UInt8), (104 : UInt8)]) else bif (x134 == (4 : Int)) then some ([(114 : UInt8), (111 : UInt8), (108 : UInt8), (108 : UInt8)]) else bif (x134 == (5 : Int)) then some ([(114 : UInt8), (101 : UInt8), (115 : UInt8), (117 : UInt8), (114 : UInt8), (114 : UInt8), (101 : UInt8), (99 : UInt8), (116 : UInt8)]) else bif (x134 == (6 : Int)) then some ([(99 : UInt8), (111 : UInt8), (109 : UInt8), (109 : UInt8), (105 : UInt8), (116 : UInt8)]) else bif (x134 == (7 : Int)) then some ([(97 : UInt8), (98 : UInt8), (111 : UInt8), (114 : UInt8), (116 : UInt8)]) else bif (x134 == (8 : Int)) then some ([(111 : UInt8), (112 : UInt8), (101 : UInt8), (110 : UInt8)]) else bif (x134 == (9 : Int)) then some ([(98 : UInt8), (97 : UInt8), (99 : UInt8), (107 : UInt8)]) else some []
noncomputable def e_cmd_word : Entry := ⟨Ds.mk [Vd.one (Ld.im (T.int IntKind.i64))] [], Ds.mk [Vd.one (Ld.im T.str)] [], fun x => p_cmd_word x⟩
noncomputable def c_cmd_word : Cx := ⟨Tryd.prog, [], [], [], [], [], 0, 24, [(76, 0), (83, 1)], fun _ _ _ => none⟩
theorem q_cmd_word (x : HL (e_cmd_word).pre.ts) : runF (c_cmd_word) 0 Tryd.f43 (e_cmd_word).pre (e_cmd_word).post x = (e_cmd_word).fn x := by kernel_rfl
theorem s_cmd_word : Entry.Sound Tryd.prog 43 (e_cmd_word) := runF_sound (X := c_cmd_word) (pre := (e_cmd_word).pre) (post := (e_cmd_word).post) (q := (e_cmd_word).fn) ⟨dOk_nil, x_ext, x_mo⟩ Tryd.func43 (q_cmd_word)

/- dormouse/cmd.kind: function 47 -/
noncomputable def p_cmd_kind.j0 (k : Nat) : Option Int :=
  some (-1 : Int)
noncomputable def p_cmd_kind.b1 (k : Nat) (j142 : Unit → Option Int) (rec140 : List UInt8 × Int → Option Int) (x137 : List UInt8) (x138 : Int) : Option Int :=
  bif (decide (x138 < (10 : Int))) then Option.bind (p_cmd_word x138) fun t139 => bif (t139 == x137) then some x138 else rec140 (x137, IntKind.wrap IntKind.i64 (x138 + (1 : Int))) else j142 ()
noncomputable def p_cmd_kind (k : Nat) (x136 : List UInt8) : Option Int :=
  joinC (fun (y : Unit) => p_cmd_kind.j0 k) fun (j142 : Unit → Option Int) => loopC (fun (r : List UInt8 × Int → Option Int) y => p_cmd_kind.b1 k j142 r y.1 y.2) k (x136, (0 : Int))
noncomputable def e_cmd_kind (k : Nat) : Entry := ⟨Ds.mk [Vd.one (Ld.im T.str)] [], Ds.mk [Vd.one (Ld.im (T.int IntKind.i64))] [], fun x => p_cmd_kind k x⟩
noncomputable def c_cmd_kind (k : Nat) : Cx := ⟨Tryd.prog, [(43, e_cmd_word)], [(7, Sd.mk [] (Ds.mk [] []))], [], [(2, Sd.mk [0, 4] (Ds.mk [Vd.one (Ld.im T.str), Vd.one (Ld.im (T.int IntKind.i64))] []))], [], 0, 13, [(76, 0), (83, 1)], fun _ _ _ => none⟩
theorem q_cmd_kind (k : Nat) (x : HL (e_cmd_kind k).pre.ts) : runF (c_cmd_kind k) k Tryd.f47 (e_cmd_kind k).pre (e_cmd_kind k).post x = (e_cmd_kind k).fn x := by kernel_rfl
theorem s_cmd_kind (k : Nat) : Entry.Sound Tryd.prog 47 (e_cmd_kind k) := runF_sound (X := c_cmd_kind k) (pre := (e_cmd_kind k).pre) (post := (e_cmd_kind k).post) (q := (e_cmd_kind k).fn) ⟨(dOk_cons (s_cmd_word) dOk_nil), x_ext, x_mo⟩ Tryd.func47 (q_cmd_kind k)

/- dormouse/cmd.parts: function 45 -/
noncomputable def p_cmd_parts.j0 (x161 : Int) : Option Int :=
  some x161
noncomputable def p_cmd_parts.j1 (j162 : Int → Option Int) (x158 : Int) : Option Int :=
  j162 (IntKind.wrap IntKind.i64 (x158 + (1 : Int)))
noncomputable def p_cmd_parts.j2 (j159 : Int → Option Int) (x155 : Int) : Option Int :=
  j159 (IntKind.wrap IntKind.i64 (x155 + (1 : Int)))
noncomputable def p_cmd_parts.j3 (j159 : Int → Option Int) (j162 : Int → Option Int) (x151 : Int) (x152 : Int) : Option Int :=
  bif (x152 == (0 : Int)) then bif (x152 == (0 : Int)) then j159 x151 else j162 x151 else bif (x152 == (2 : Int)) then bif (x152 == (2 : Int)) then j159 x151 else j162 x151 else bif (x152 == (3 : Int)) then bif (x152 == (3 : Int)) then j159 x151 else j162 x151 else bif (x152 == (9 : Int)) then j159 x151 else j162 x151
noncomputable def p_cmd_parts (x150 : Int) : Option Int :=
  joinC (p_cmd_parts.j0) fun (j162 : Int → Option Int) => joinC (p_cmd_parts.j1 j162) fun (j159 : Int → Option Int) => joinC (p_cmd_parts.j2 j159) fun (j156 : Int → Option Int) => joinC (fun (y : Int × Int) => p_cmd_parts.j3 j159 j162 y.1 y.2) fun (j153 : Int × Int → Option Int) => bif (x150 == (1 : Int)) then bif (x150 == (1 : Int)) then j156 (0 : Int) else j153 ((0 : Int), x150) else bif (x150 == (5 : Int)) then j156 (0 : Int) else j153 ((0 : Int), x150)
noncomputable def e_cmd_parts : Entry := ⟨Ds.mk [Vd.one (Ld.im (T.int IntKind.i64))] [], Ds.mk [Vd.one (Ld.im (T.int IntKind.i64))] [], fun x => p_cmd_parts x⟩
noncomputable def c_cmd_parts : Cx := ⟨Tryd.prog, [], [(5, Sd.mk [3, 4] (Ds.mk [Vd.one (Ld.im (T.int IntKind.i64)), Vd.one (Ld.im (T.int IntKind.i64))] [])), (9, Sd.mk [3] (Ds.mk [Vd.one (Ld.im (T.int IntKind.i64))] [])), (10, Sd.mk [3] (Ds.mk [Vd.one (Ld.im (T.int IntKind.i64))] [])), (11, Sd.mk [3] (Ds.mk [Vd.one (Ld.im (T.int IntKind.i64))] []))], [], [], [], 0, 18, [(76, 0), (83, 1)], fun _ _ _ => none⟩
theorem q_cmd_parts (x : HL (e_cmd_parts).pre.ts) : runF (c_cmd_parts) 0 Tryd.f45 (e_cmd_parts).pre (e_cmd_parts).post x = (e_cmd_parts).fn x := by kernel_rfl
theorem s_cmd_parts : Entry.Sound Tryd.prog 45 (e_cmd_parts) := runF_sound (X := c_cmd_parts) (pre := (e_cmd_parts).pre) (post := (e_cmd_parts).post) (q := (e_cmd_parts).fn) ⟨dOk_nil, x_ext, x_mo⟩ Tryd.func45 (q_cmd_parts)

/- dormouse/key.number: function 61 -/
noncomputable def p_key_number.j0 (k : Nat) (x204 : Int) : Option Int :=
  some x204
noncomputable def p_key_number.b1 (k : Nat) (j205 : Int → Option Int) (rec202 : List UInt8 × Int × Int × Int → Option Int) (x197 : List UInt8) (x198 : Int) (x199 : Int) (x200 : Int) : Option Int :=
  bif (decide (x200 < x199)) then need ((0 : Int) ≤ x200 ∧ x200 < (↑(List.length x197) : Int)) (rec202 (x197, IntKind.wrap IntKind.u64 (IntKind.wrap IntKind.u64 ((10 : Int) * x198) + Int.tmod (IntKind.wrap IntKind.u64 (IntKind.wrap IntKind.u8 (bat x197 x200 - (48 : Int)))) (10 : Int)), x199, IntKind.wrap IntKind.i64 (x200 + (1 : Int)))) else j205 x198
noncomputable def p_key_number (k : Nat) (x196 : List UInt8) : Option Int :=
  joinC (p_key_number.j0 k) fun (j205 : Int → Option Int) => loopC (fun (r : List UInt8 × Int × Int × Int → Option Int) y => p_key_number.b1 k j205 r y.1 y.2.1 y.2.2.1 y.2.2.2) k (x196, (0 : Int), (↑(List.length x196) : Int), (0 : Int))
noncomputable def e_key_number (k : Nat) : Entry := ⟨Ds.mk [Vd.one (Ld.im T.str)] [], Ds.mk [Vd.one (Ld.im (T.int IntKind.u64))] [], fun x => p_key_number k x⟩
noncomputable def c_key_number (k : Nat) : Cx := ⟨Tryd.prog, [], [(7, Sd.mk [3] (Ds.mk [Vd.one (Ld.im (T.int IntKind.u64))] []))], [], [(3, Sd.mk [0, 3, 6, 7] (Ds.mk [Vd.one (Ld.im T.str), Vd.one (Ld.im (T.int IntKind.u64)), Vd.one (Ld.im (T.int IntKind.i64)), Vd.one (Ld.im (T.int IntKind.i64))] []))], [], 0, 21, [(76, 0), (83, 1)], fun _ _ _ => none⟩
theorem q_key_number (k : Nat) (x : HL (e_key_number k).pre.ts) : runF (c_key_number k) k Tryd.f61 (e_key_number k).pre (e_key_number k).post x = (e_key_number k).fn x := by kernel_rfl
theorem s_key_number (k : Nat) : Entry.Sound Tryd.prog 61 (e_key_number k) := runF_sound (X := c_key_number k) (pre := (e_key_number k).pre) (post := (e_key_number k).post) (q := (e_key_number k).fn) ⟨dOk_nil, x_ext, x_mo⟩ Tryd.func61 (q_key_number k)

/- dormouse/wide.Num: function 73 -/
noncomputable def p_wide_Num.j0 (k : Nat) (x226 : Int) (x227 : Vector Int (8)) : Option (List UInt8) :=
  need ((0 : Int) ≤ (0 : Int) ∧ (0 : Int) ≤ x226 ∧ x226 ≤ (↑(8 : Nat) : Int)) (some (bytesOf (sub_ (Vector.toList x227) (0 : Int) x226)))
noncomputable def p_wide_Num.b1 (k : Nat) (j229 : Int × Vector Int (8) → Option (List UInt8)) (rec224 : Int × Int × Int × Int × Vector Int (8) → Option (List UInt8)) (x218 : Int) (x219 : Int) (x220 : Int) (x221 : Int) (x222 : Vector Int (8)) : Option (List UInt8) :=
  bif (decide (x221 < x220)) then need ((0 : Int) ≤ x221 ∧ x221 < (↑(8 : Nat) : Int)) (rec224 (ishr IntKind.u64 x218 (8 : Int), x219, x220, IntKind.wrap IntKind.i64 (x221 + (1 : Int)), vset x222 x221 (IntKind.wrap IntKind.u8 x218))) else j229 (x219, x222)
noncomputable def p_wide_Num (k : Nat) (x216 : Int) (x217 : Int) : Option (List UInt8) :=
  joinC (fun (y : Int × Vector Int (8)) => p_wide_Num.j0 k y.1 y.2) fun (j229 : Int × Vector Int (8) → Option (List UInt8)) => loopC (fun (r : Int × Int × Int × Int × Vector Int (8) → Option (List UInt8)) y => p_wide_Num.b1 k j229 r y.1 y.2.1 y.2.2.1 y.2.2.2.1 y.2.2.2.2) k (x216, Min.min (Max.max x217 (0 : Int)) (8 : Int), Min.min (Max.max x217 (0 : Int)) (8 : Int), (0 : Int), Vector.replicate (8 : Nat) (dflt (T.int IntKind.u8)))
noncomputable def e_wide_Num (k : Nat) : Entry := ⟨Ds.mk [Vd.one (Ld.im (T.int IntKind.u64)), Vd.one (Ld.im (T.int IntKind.i64))] [], Ds.mk [Vd.one (Ld.im T.str)] [], fun x => p_wide_Num k x.1 x.2⟩
noncomputable def c_wide_Num (k : Nat) : Cx := ⟨Tryd.prog, [], [(9, Sd.mk [5, 6] (Ds.mk [Vd.one (Ld.ptr (0) (0)), Vd.one (Ld.im (T.int IntKind.i64))] [Od.blkT (108) (T.arr (8) (T.int IntKind.u8))]))], [], [(4, Sd.mk [0, 5, 6, 11, 12] (Ds.mk [Vd.one (Ld.im (T.int IntKind.u64)), Vd.one (Ld.ptr (0) (0)), Vd.one (Ld.im (T.int IntKind.i64)), Vd.one (Ld.im (T.int IntKind.i64)), Vd.one (Ld.im (T.int IntKind.i64))] [Od.blkT (108) (T.arr (8) (T.int IntKind.u8))]))], [], 0, 25, [(76, 0), (83, 1)], fun _ _ _ => none⟩
theorem q_wide_Num (k : Nat) (x : HL (e_wide_Num k).pre.ts) : runF (c_wide_Num k) k Tryd.f73 (e_wide_Num k).pre (e_wide_Num k).post x = (e_wide_Num k).fn x := by kernel_rfl
theorem s_wide_Num (k : Nat) : Entry.Sound Tryd.prog 73 (e_wide_Num k) := runF_sound (X := c_wide_Num k) (pre := (e_wide_Num k).pre) (post := (e_wide_Num k).post) (q := (e_wide_Num k).fn) ⟨dOk_nil, x_ext, x_mo⟩ Tryd.func73 (q_wide_Num k)

/- dormouse/key.Of: function 60 -/
noncomputable def p_key_Of (k : Nat) (x239 : Int) (x240 : Int) : Option (Vector Int (32)) :=
  Option.bind (p_wide_Num k x239 (8 : Int)) fun t241 => need ((↑(List.length (numsOf t241)) : Int) ≤ (8 : Int) - (0 : Int)) (Option.bind (p_wide_Num k x240 (8 : Int)) fun t243 => need ((↑(List.length (numsOf t243)) : Int) ≤ (↑(32 : Nat) : Int) - (24 : Int)) (some (vcopy (vcopy (Vector.replicate (32 : Nat) (dflt (T.int IntKind.u8))) (0 : Int) (numsOf t241)) (24 : Int) (numsOf t243))))
noncomputable def e_key_Of (k : Nat) : Entry := ⟨Ds.mk [Vd.one (Ld.im (T.int IntKind.u64)), Vd.one (Ld.im (T.int IntKind.u64))] [], Ds.mk [Vd.st (T.arr (32) (T.int IntKind.u8))] [], fun x => p_key_Of k x.1 x.2⟩
noncomputable def c_key_Of (k : Nat) : Cx := ⟨Tryd.prog, [(73, e_wide_Num k)], [], [], [], [(2, ([(0, 2), (1, 2), (2, 0)], [(3, Bool.false)], [])), (3, ([(0, 2), (1, 2), (2, 0)], [(3, Bool.false)], []))], 0, 15, [(76, 0), (83, 1)], fun _ _ _ => none⟩
theorem q_key_Of (k : Nat) (x : HL (e_key_Of k).pre.ts) : runF (c_key_Of k) k Tryd.f60 (e_key_Of k).pre (e_key_Of k).post x = (e_key_Of k).fn x := by kernel_rfl
theorem s_key_Of (k : Nat) : Entry.Sound Tryd.prog 60 (e_key_Of k) := runF_sound (X := c_key_Of k) (pre := (e_key_Of k).pre) (post := (e_key_Of k).post) (q := (e_key_Of k).fn) ⟨(dOk_cons (s_wide_Num k) dOk_nil), x_ext, x_mo⟩ Tryd.func60 (q_key_Of k)

/- dormouse/wide.Val: function 72 -/
noncomputable def p_wide_Val.j0 (k : Nat) (x297 : Int) : Option Int :=
  some x297
noncomputable def p_wide_Val.b1 (k : Nat) (j298 : Int → Option Int) (rec295 : List UInt8 × Int × Int → Option Int) (x291 : List UInt8) (x292 : Int) (x293 : Int) : Option Int :=
  bif (decide (x293 ≥ (0 : Int))) then need ((0 : Int) ≤ x293 ∧ x293 < (↑(List.length x291) : Int)) (rec295 (x291, ior IntKind.u64 (ishl IntKind.u64 x292 (8 : Int)) (IntKind.wrap IntKind.u64 (bat x291 x293)), IntKind.wrap IntKind.i64 (x293 - (1 : Int)))) else j298 x292
noncomputable def p_wide_Val (k : Nat) (x290 : List UInt8) : Option Int :=
  joinC (p_wide_Val.j0 k) fun (j298 : Int → Option Int) => loopC (fun (r : List UInt8 × Int × Int → Option Int) y => p_wide_Val.b1 k j298 r y.1 y.2.1 y.2.2) k (x290, (0 : Int), IntKind.wrap IntKind.i64 (Min.min (↑(List.length x290) : Int) (8 : Int) - (1 : Int)))
noncomputable def e_wide_Val (k : Nat) : Entry := ⟨Ds.mk [Vd.one (Ld.im T.str)] [], Ds.mk [Vd.one (Ld.im (T.int IntKind.u64))] [], fun x => p_wide_Val k x⟩
noncomputable def c_wide_Val (k : Nat) : Cx := ⟨Tryd.prog, [], [(6, Sd.mk [3] (Ds.mk [Vd.one (Ld.im (T.int IntKind.u64))] []))], [], [(3, Sd.mk [0, 3, 4] (Ds.mk [Vd.one (Ld.im T.str), Vd.one (Ld.im (T.int IntKind.u64)), Vd.one (Ld.im (T.int IntKind.i64))] []))], [], 0, 21, [(76, 0), (83, 1)], fun _ _ _ => none⟩
theorem q_wide_Val (k : Nat) (x : HL (e_wide_Val k).pre.ts) : runF (c_wide_Val k) k Tryd.f72 (e_wide_Val k).pre (e_wide_Val k).post x = (e_wide_Val k).fn x := by kernel_rfl
theorem s_wide_Val (k : Nat) : Entry.Sound Tryd.prog 72 (e_wide_Val k) := runF_sound (X := c_wide_Val k) (pre := (e_wide_Val k).pre) (post := (e_wide_Val k).post) (q := (e_wide_Val k).fn) ⟨dOk_nil, x_ext, x_mo⟩ Tryd.func72 (q_wide_Val k)

/- dormouse/key.Split$1: function 71 -/
noncomputable def p_key_Split_c1 (k : Nat) (x301 : Int) (x302 : Vector Int (32)) : Option Int :=
  need ((0 : Int) ≤ x301 ∧ x301 ≤ IntKind.wrap IntKind.i64 (x301 + (8 : Int)) ∧ IntKind.wrap IntKind.i64 (x301 + (8 : Int)) ≤ (↑(32 : Nat) : Int)) (Option.bind (p_wide_Val k (bytesOf (sub_ (Vector.toList x302) x301 (IntKind.wrap IntKind.i64 (x301 + (8 : Int)))))) fun t304 => some t304)
noncomputable def e_key_Split_c1 (k : Nat) : Entry := ⟨Ds.mk [Vd.one (Ld.im (T.int IntKind.i64)), Vd.one (Ld.ptr (0) (0))] [Od.rdT (43) (T.arr (32) (T.int IntKind.u8))], Ds.mk [Vd.one (Ld.im (T.int IntKind.u64))] [Od.gone], fun x => p_key_Split_c1 k x.1 x.2⟩
noncomputable def c_key_Split_c1 (k : Nat) : Cx := ⟨Tryd.prog, [(72, e_wide_Val k)], [], [], [], [], 1, 10, [(76, 0), (83, 1)], fun _ _ _ => none⟩
theorem q_key_Split_c1 (k : Nat) (x : HL (e_key_Split_c1 k).pre.ts) : runF (c_key_Split_c1 k) k Tryd.f71 (e_key_Split_c1 k).pre (e_key_Split_c1 k).post x = (e_key_Split_c1 k).fn x := by kernel_rfl
theorem s_key_Split_c1 (k : Nat) : Entry.Sound Tryd.prog 71 (e_key_Split_c1 k) := runF_sound (X := c_key_Split_c1 k) (pre := (e_key_Split_c1 k).pre) (post := (e_key_Split_c1 k).post) (q := (e_key_Split_c1 k).fn) ⟨(dOk_cons (s_wide_Val k) dOk_nil), x_ext, x_mo⟩ Tryd.func71 (q_key_Split_c1 k)

/- dormouse/key.Split: function 58 -/
noncomputable def p_key_Split (k : Nat) (x311 : Vector Int (32)) : Option (Int × Int × Bool) :=
  Option.bind (p_key_Split_c1 k (0 : Int) x311) fun t312 => Option.bind (p_key_Split_c1 k (24 : Int) x311) fun t313 => Option.bind (p_key_Of k t312 t313) fun t314 => bif (!decide (t314 = x311)) then some ((0 : Int), (0 : Int), Bool.false) else some (t312, t313, Bool.true)
noncomputable def e_key_Split (k : Nat) : Entry := ⟨Ds.mk [Vd.st (T.arr (32) (T.int IntKind.u8))] [], Ds.mk [Vd.one (Ld.im (T.int IntKind.u64)), Vd.one (Ld.im (T.int IntKind.u64)), Vd.one (Ld.im T.bool)] [], fun x => p_key_Split k x⟩
noncomputable def c_key_Split (k : Nat) : Cx := ⟨Tryd.prog, [(60, e_key_Of k), (71, e_key_Split_c1 k)], [], [], [], [(3, ([(0, 2), (1, 2), (2, 0), (3, 1), (4, 2)], [], []))], 0, 20, [(76, 0), (83, 1)], fun _ _ _ => none⟩
theorem q_key_Split (k : Nat) (x : HL (e_key_Split k).pre.ts) : runF (c_key_Split k) k Tryd.f58 (e_key_Split k).pre (e_key_Split k).post x = (e_key_Split k).fn x := by kernel_rfl
theorem s_key_Split (k : Nat) : Entry.Sound Tryd.prog 58 (e_key_Split k) := runF_sound (X := c_key_Split k) (pre := (e_key_Split k).pre) (post := (e_key_Split k).post) (q := (e_key_Split k).fn) ⟨(dOk_cons (s_key_Of k) (dOk_cons (s_key_Split_c1 k) dOk_nil)), x_ext, x_mo⟩ Tryd.func58 (q_key_Split k)

/- dormouse/key.decimal: function 59 -/
noncomputable def p_key_decimal.j0 (k : Nat) (x326 : Int) (x327 : List UInt8) : Option (List UInt8) :=
  need ((0 : Int) ≤ x326 ∧ x326 ≤ IntKind.wrap IntKind.u64 (x326 + (1 : Int)) ∧ IntKind.wrap IntKind.u64 (x326 + (1 : Int)) ≤ (↑(16) : Int)) (need (List.length (sub_ [(48 : UInt8), (49 : UInt8), (50 : UInt8), (51 : UInt8), (52 : UInt8), (53 : UInt8), (54 : UInt8), (55 : UInt8), (56 : UInt8), (57 : UInt8), (97 : UInt8), (98 : UInt8), (99 : UInt8), (100 : UInt8), (101 : UInt8), (102 : UInt8)] x326 (IntKind.wrap IntKind.u64 (x326 + (1 : Int)))) + List.length x327 ≤ (9223372036854775807 : Nat)) (some (sub_ [(48 : UInt8), (49 : UInt8), (50 : UInt8), (51 : UInt8), (52 : UInt8), (53 : UInt8), (54 : UInt8), (55 : UInt8), (56 : UInt8), (57 : UInt8), (97 : UInt8), (98 : UInt8), (99 : UInt8), (100 : UInt8), (101 : UInt8), (102 : UInt8)] x326 (IntKind.wrap IntKind.u64 (x326 + (1 : Int))) ++ x327)))
noncomputable def p_key_decimal.b1 (k : Nat) (j330 : Int × List UInt8 → Option (List UInt8)) (rec324 : Int × List UInt8 → Option (List UInt8)) (x320 : Int) (x321 : List UInt8) : Option (List UInt8) :=
  bif (decide (x320 > (9 : Int))) then need ((0 : Int) ≤ Int.tmod x320 (10 : Int) ∧ Int.tmod x320 (10 : Int) ≤ IntKind.wrap IntKind.u64 (Int.tmod x320 (10 : Int) + (1 : Int)) ∧ IntKind.wrap IntKind.u64 (Int.tmod x320 (10 : Int) + (1 : Int)) ≤ (↑(16) : Int)) (need (List.length (sub_ [(48 : UInt8), (49 : UInt8), (50 : UInt8), (51 : UInt8), (52 : UInt8), (53 : UInt8), (54 : UInt8), (55 : UInt8), (56 : UInt8), (57 : UInt8), (97 : UInt8), (98 : UInt8), (99 : UInt8), (100 : UInt8), (101 : UInt8), (102 : UInt8)] (Int.tmod x320 (10 : Int)) (IntKind.wrap IntKind.u64 (Int.tmod x320 (10 : Int) + (1 : Int)))) + List.length x321 ≤ (9223372036854775807 : Nat)) (rec324 (IntKind.wrap IntKind.u64 (Int.tdiv x320 (10 : Int)), sub_ [(48 : UInt8), (49 : UInt8), (50 : UInt8), (51 : UInt8), (52 : UInt8), (53 : UInt8), (54 : UInt8), (55 : UInt8), (56 : UInt8), (57 : UInt8), (97 : UInt8), (98 : UInt8), (99 : UInt8), (100 : UInt8), (101 : UInt8), (102 : UInt8)] (Int.tmod x320 (10 : Int)) (IntKind.wrap IntKind.u64 (Int.tmod x320 (10 : Int) + (1 : Int))) ++ x321))) else j330 (x320, x321)
noncomputable def p_key_decimal (k : Nat) (x319 : Int) : Option (List UInt8) :=
  joinC (fun (y : Int × List UInt8) => p_key_decimal.j0 k y.1 y.2) fun (j330 : Int × List UInt8 → Option (List UInt8)) => loopC (fun (r : Int × List UInt8 → Option (List UInt8)) y => p_key_decimal.b1 k j330 r y.1 y.2) k (x319, [])
noncomputable def e_key_decimal (k : Nat) : Entry := ⟨Ds.mk [Vd.one (Ld.im (T.int IntKind.u64))] [], Ds.mk [Vd.one (Ld.im T.str)] [], fun x => p_key_decimal k x⟩
noncomputable def c_key_decimal (k : Nat) : Cx := ⟨Tryd.prog, [], [(5, Sd.mk [0, 3] (Ds.mk [Vd.one (Ld.im (T.int IntKind.u64)), Vd.one (Ld.im T.str)] []))], [], [(2, Sd.mk [0, 3] (Ds.mk [Vd.one (Ld.im (T.int IntKind.u64)), Vd.one (Ld.im T.str)] []))], [], 0, 22, [(76, 0), (83, 1)], fun _ _ _ => none⟩
theorem q_key_decimal (k : Nat) (x : HL (e_key_decimal k).pre.ts) : runF (c_key_decimal k) k Tryd.f59 (e_key_decimal k).pre (e_key_decimal k).post x = (e_key_decimal k).fn x := by kernel_rfl
theorem s_key_decimal (k : Nat) : Entry.Sound Tryd.prog 59 (e_key_decimal k) := runF_sound (X := c_key_decimal k) (pre := (e_key_decimal k).pre) (post := (e_key_decimal k).post) (q := (e_key_decimal k).fn) ⟨dOk_nil, x_ext, x_mo⟩ Tryd.func59 (q_key_decimal k)

/- dormouse/key.Text: function 44 -/
noncomputable def p_key_Text.j0 (k : Nat) (x367 : List Int) : Option (List UInt8) :=
  some (bytesOf x367)
noncomputable def p_key_Text.b1 (k : Nat) (j368 : List Int → Option (List UInt8)) (rec365 : Vector Int (32) × Int × List Int → Option (List UInt8)) (x358 : Vector Int (32)) (x359 : Int) (x360 : List Int) : Option (List UInt8) :=
  bif (decide (x359 < (32 : Int))) then need ((0 : Int) ≤ x359 ∧ x359 < (↑(32) : Int)) (need ((0 : Int) ≤ ishr IntKind.u8 (at_ (dflt (T.int IntKind.u8)) (Vector.toList x358) x359) (4 : Int) ∧ ishr IntKind.u8 (at_ (dflt (T.int IntKind.u8)) (Vector.toList x358) x359) (4 : Int) < (↑(16) : Int)) (need ((0 : Int) ≤ iand IntKind.u8 (at_ (dflt (T.int IntKind.u8)) (Vector.toList x358) x359) (15 : Int) ∧ iand IntKind.u8 (at_ (dflt (T.int IntKind.u8)) (Vector.toList x358) x359) (15 : Int) < (↑(16) : Int)) (need ((List.length x360 + List.length [bat [(48 : UInt8), (49 : UInt8), (50 : UInt8), (51 : UInt8), (52 : UInt8), (53 : UInt8), (54 : UInt8), (55 : UInt8), (56 : UInt8), (57 : UInt8), (97 : UInt8), (98 : UInt8), (99 : UInt8), (100 : UInt8), (101 : UInt8), (102 : UInt8)] (ishr IntKind.u8 (at_ (dflt (T.int IntKind.u8)) (Vector.toList x358) x359) (4 : Int)), bat [(48 : UInt8), (49 : UInt8), (50 : UInt8), (51 : UInt8), (52 : UInt8), (53 : UInt8), (54 : UInt8), (55 : UInt8), (56 : UInt8), (57 : UInt8), (97 : UInt8), (98 : UInt8), (99 : UInt8), (100 : UInt8), (101 : UInt8), (102 : UInt8)] (iand IntKind.u8 (at_ (dflt (T.int IntKind.u8)) (Vector.toList x358) x359) (15 : Int))]) * Go.TypeInfo.bytes (Go.Tables.types (Go.Program.toTables Go.Proofs.Tryd.prog))[(5 : Nat)] ≤ (140737488355328 : Nat)) (rec365 (x358, IntKind.wrap IntKind.i64 (x359 + (1 : Int)), x360 ++ [bat [(48 : UInt8), (49 : UInt8), (50 : UInt8), (51 : UInt8), (52 : UInt8), (53 : UInt8), (54 : UInt8), (55 : UInt8), (56 : UInt8), (57 : UInt8), (97 : UInt8), (98 : UInt8), (99 : UInt8), (100 : UInt8), (101 : UInt8), (102 : UInt8)] (ishr IntKind.u8 (at_ (dflt (T.int IntKind.u8)) (Vector.toList x358) x359) (4 : Int)), bat [(48 : UInt8), (49 : UInt8), (50 : UInt8), (51 : UInt8), (52 : UInt8), (53 : UInt8), (54 : UInt8), (55 : UInt8), (56 : UInt8), (57 : UInt8), (97 : UInt8), (98 : UInt8), (99 : UInt8), (100 : UInt8), (101 : UInt8), (102 : UInt8)] (iand IntKind.u8 (at_ (dflt (T.int IntKind.u8)) (Vector.toList x358) x359) (15 : Int))]))))) else j368 x360
noncomputable def p_key_Text (k : Nat) (x352 : Vector Int (32)) : Option (List UInt8) :=
  Option.bind (p_key_Split k x352) fun t353 => bif (Prod.snd (Prod.snd t353)) then Option.bind (p_key_decimal k (Prod.fst t353)) fun t354 => need (List.length t354 + 1 ≤ (9223372036854775807 : Nat)) (Option.bind (p_key_decimal k (Prod.fst (Prod.snd t353))) fun t356 => need (List.length (t354 ++ [(46 : UInt8)]) + List.length t356 ≤ (9223372036854775807 : Nat)) (some (t354 ++ [(46 : UInt8)] ++ t356))) else joinC (p_key_Text.j0 k) fun (j368 : List Int → Option (List UInt8)) => loopC (fun (r : Vector Int (32) × Int × List Int → Option (List UInt8)) y => p_key_Text.b1 k j368 r y.1 y.2.1 y.2.2) k (x352, (0 : Int), [])
noncomputable def e_key_Text (k : Nat) : Entry := ⟨Ds.mk [Vd.st (T.arr (32) (T.int IntKind.u8))] [], Ds.mk [Vd.one (Ld.im T.str)] [], fun x => p_key_Text k x⟩
noncomputable def c_key_Text (k : Nat) : Cx := ⟨Tryd.prog, [(58, e_key_Split k), (59, e_key_decimal k)], [(10, Sd.mk [6] (Ds.mk [Vd.one (Ld.own (0))] [Od.arr (5) (T.int IntKind.u8)]))], [], [(6, Sd.mk [6, 22, 23] (Ds.mk [Vd.one (Ld.own (0)), Vd.st (T.arr (32) (T.int IntKind.u8)), Vd.one (Ld.im (T.int IntKind.i64))] [Od.arr (5) (T.int IntKind.u8)]))], [(8, ([(0, 2), (1, 2), (2, 2), (3, 2), (4, 2), (5, 2), (6, 2)], [(7, Bool.false), (8, Bool.false), (9, Bool.false)], []))], 0, 38, [(76, 0), (83, 1)], fun _ _ _ => none⟩
theorem q_key_Text (k : Nat) (x : HL (e_key_Text k).pre.ts) : runF (c_key_Text k) k Tryd.f44 (e_key_Text k).pre (e_key_Text k).post x = (e_key_Text k).fn x := by kernel_rfl
theorem s_key_Text (k : Nat) : Entry.Sound Tryd.prog 44 (e_key_Text k) := runF_sound (X := c_key_Text k) (pre := (e_key_Text k).pre) (post := (e_key_Text k).post) (q := (e_key_Text k).fn) ⟨(dOk_cons (s_key_Split k) (dOk_cons (s_key_decimal k) dOk_nil)), x_ext, x_mo⟩ Tryd.func44 (q_key_Text k)

/- dormouse/key.Parse: function 48 -/
noncomputable def p_key_Parse.j0 (k : Nat) (x387 : List UInt8) (x388 : Vector Int (32)) (x389 : Vector Int (32)) : Option (Vector Int (32) × Int) :=
  Option.bind (p_key_Text k x389) fun t390 => bif (!t390 == x387) then some (bparts (32 : Nat) (dflt (T.int IntKind.u8)) [], (6 : Int)) else some (x389, (0 : Int))
noncomputable def p_key_Parse.b1 (k : Nat) (j391 : List UInt8 × Vector Int (32) × Vector Int (32) → Option (Vector Int (32) × Int)) (rec385 : List UInt8 × Int × Int × Vector Int (32) × Vector Int (32) → Option (Vector Int (32) × Int)) (x376 : List UInt8) (x377 : Int) (x378 : Int) (x379 : Vector Int (32)) (x380 : Vector Int (32)) : Option (Vector Int (32) × Int) :=
  bif (decide (x378 < x377)) then need ((0 : Int) ≤ x378 ∧ x378 < (↑(List.length x376) : Int)) (Option.bind (p_strings_IndexByte [(48 : UInt8), (49 : UInt8), (50 : UInt8), (51 : UInt8), (52 : UInt8), (53 : UInt8), (54 : UInt8), (55 : UInt8), (56 : UInt8), (57 : UInt8), (97 : UInt8), (98 : UInt8), (99 : UInt8), (100 : UInt8), (101 : UInt8), (102 : UInt8)] (bat x376 x378)) fun t382 => need ((0 : Int) ≤ IntKind.wrap IntKind.i64 (Int.tdiv x378 (2 : Int)) ∧ IntKind.wrap IntKind.i64 (Int.tdiv x378 (2 : Int)) < (↑(32 : Nat) : Int)) (need ((0 : Int) ≤ IntKind.wrap IntKind.i64 (Int.tdiv x378 (2 : Int)) ∧ IntKind.wrap IntKind.i64 (Int.tdiv x378 (2 : Int)) < (↑(32 : Nat) : Int)) (rec385 (x376, x377, IntKind.wrap IntKind.i64 (x378 + (1 : Int)), x379, vset x380 (IntKind.wrap IntKind.i64 (Int.tdiv x378 (2 : Int))) (ior IntKind.u8 (ishl IntKind.u8 (at_ (dflt (T.int IntKind.u8)) (Vector.toList x380) (IntKind.wrap IntKind.i64 (Int.tdiv x378 (2 : Int)))) (4 : Int)) (IntKind.wrap IntKind.u8 (Max.max t382 (0 : Int)))))))) else j391 (x376, x379, x380)
noncomputable def p_key_Parse (k : Nat) (x371 : List UInt8) : Option (Vector Int (32) × Int) :=
  joinC (fun (y : List UInt8 × Vector Int (32) × Vector Int (32)) => p_key_Parse.j0 k y.1 y.2.1 y.2.2) fun (j391 : List UInt8 × Vector Int (32) × Vector Int (32) → Option (Vector Int (32) × Int)) => Option.bind (p_strings_Cut x371 [(46 : UInt8)]) fun t372 => bif (Prod.snd (Prod.snd t372)) then Option.bind (p_key_number k (Prod.fst t372)) fun t373 => Option.bind (p_key_number k (Prod.fst (Prod.snd t372))) fun t374 => Option.bind (p_key_Of k t373 t374) fun t375 => j391 (x371, Vector.replicate (32 : Nat) (dflt (T.int IntKind.u8)), t375) else bif ((↑(List.length x371) : Int) == (64 : Int)) then loopC (fun (r : List UInt8 × Int × Int × Vector Int (32) × Vector Int (32) → Option (Vector Int (32) × Int)) y => p_key_Parse.b1 k j391 r y.1 y.2.1 y.2.2.1 y.2.2.2.1 y.2.2.2.2) k (x371, (↑(List.length x371) : Int), (0 : Int), Vector.replicate (32 : Nat) (dflt (T.int IntKind.u8)), Vector.replicate (32 : Nat) (dflt (T.int IntKind.u8))) else j391 (x371, Vector.replicate (32 : Nat) (dflt (T.int IntKind.u8)), Vector.replicate (32 : Nat) (dflt (T.int IntKind.u8)))
noncomputable def e_key_Parse (k : Nat) : Entry := ⟨Ds.mk [Vd.one (Ld.im T.str)] [], Ds.mk [Vd.st (T.arr (32) (T.int IntKind.u8)), Vd.one (Ld.im (T.int IntKind.i64))] [], fun x => p_key_Parse k x⟩
noncomputable def c_key_Parse (k : Nat) : Cx := ⟨Tryd.prog, [(38, e_strings_Cut), (61, e_key_number k), (60, e_key_Of k), (51, e_strings_IndexByte), (44, e_key_Text k)], [(12, Sd.mk [0, 2, 4] (Ds.mk [Vd.one (Ld.im T.str), Vd.one (Ld.ptr (0) (0)), Vd.one (Ld.ptr (1) (0))] [Od.blkT (43) (T.arr (32) (T.int IntKind.u8)), Od.blkT (43) (T.arr (32) (T.int IntKind.u8))]))], [], [(7, Sd.mk [0, 2, 4, 26, 27] (Ds.mk [Vd.one (Ld.im T.str), Vd.one (Ld.ptr (0) (0)), Vd.one (Ld.ptr (1) (0)), Vd.one (Ld.im (T.int IntKind.i64)), Vd.one (Ld.im (T.int IntKind.i64))] [Od.blkT (43) (T.arr (32) (T.int IntKind.u8)), Od.blkT (43) (T.arr (32) (T.int IntKind.u8))]))], [], 0, 53, [(76, 0), (83, 1)], fun _ _ _ => none⟩
theorem q_key_Parse (k : Nat) (x : HL (e_key_Parse k).pre.ts) : runF (c_key_Parse k) k Tryd.f48 (e_key_Parse k).pre (e_key_Parse k).post x = (e_key_Parse k).fn x := by kernel_rfl
theorem s_key_Parse (k : Nat) : Entry.Sound Tryd.prog 48 (e_key_Parse k) := runF_sound (X := c_key_Parse k) (pre := (e_key_Parse k).pre) (post := (e_key_Parse k).post) (q := (e_key_Parse k).fn) ⟨(dOk_cons (s_strings_Cut) (dOk_cons (s_key_number k) (dOk_cons (s_key_Of k) (dOk_cons (s_strings_IndexByte) (dOk_cons (s_key_Text k) dOk_nil))))), x_ext, x_mo⟩ Tryd.func48 (q_key_Parse k)

/- dormouse/cmd.Check: function 24 -/
noncomputable def p_cmd_Check.j0 (x519 : Bool) : Option Int :=
  bif x519 then some (2 : Int) else some (0 : Int)
noncomputable def p_cmd_Check (x516 : Int × Vector Int (32) × List UInt8) : Option Int :=
  Option.bind (p_cmd_parts (Prod.fst x516)) fun t517 => joinC (p_cmd_Check.j0) fun (j520 : Bool → Option Int) => Option.bind (p_cmd_word (Prod.fst x516)) fun t518 => bif (t518 == []) then j520 Bool.true else bif (decide ((↑(List.length (Prod.snd (Prod.snd x516))) : Int) > (70000 : Int))) then j520 Bool.true else bif (decide (t517 < (2 : Int))) then bif (!Prod.snd (Prod.snd x516) == []) then j520 Bool.true else bif (decide (t517 < (1 : Int))) then j520 (!decide (Prod.fst (Prod.snd x516) = bparts (32 : Nat) (dflt (T.int IntKind.u8)) [])) else j520 Bool.false else bif (decide (t517 < (1 : Int))) then j520 (!decide (Prod.fst (Prod.snd x516) = bparts (32 : Nat) (dflt (T.int IntKind.u8)) [])) else j520 Bool.false
noncomputable def e_cmd_Check : Entry := ⟨Ds.mk [Vd.st (T.pair (T.int IntKind.i64) (T.pair (T.arr (32) (T.int IntKind.u8)) T.str))] [], Ds.mk [Vd.one (Ld.im (T.int IntKind.i64))] [], fun x => p_cmd_Check x⟩
noncomputable def c_cmd_Check : Cx := ⟨Tryd.prog, [(43, e_cmd_word), (45, e_cmd_parts)], [], [(2, Sd.mk [35] (Ds.mk [Vd.one (Ld.im T.bool)] []))], [], [], 0, 36, [(76, 0), (83, 1)], fun _ _ _ => none⟩
theorem q_cmd_Check (x : HL (e_cmd_Check).pre.ts) : runF (c_cmd_Check) 0 Tryd.f24 (e_cmd_Check).pre (e_cmd_Check).post x = (e_cmd_Check).fn x := by kernel_rfl
theorem s_cmd_Check : Entry.Sound Tryd.prog 24 (e_cmd_Check) := runF_sound (X := c_cmd_Check) (pre := (e_cmd_Check).pre) (post := (e_cmd_Check).post) (q := (e_cmd_Check).fn) ⟨(dOk_cons (s_cmd_word) (dOk_cons (s_cmd_parts) dOk_nil)), x_ext, x_mo⟩ Tryd.func24 (q_cmd_Check)

/- dormouse/cmd.Text: function 22 -/
noncomputable def p_cmd_Text (k : Nat) (x540 : Int × Vector Int (32) × List UInt8) : Option (List UInt8 × Int) :=
  Option.bind (p_cmd_Check (Prod.fst x540, Prod.fst (Prod.snd x540), Prod.snd (Prod.snd x540))) fun t541 => bif (t541 != (0 : Int)) then some ([], t541) else Option.bind (p_cmd_word (Prod.fst x540)) fun t542 => Option.bind (p_key_Text k (Prod.fst (Prod.snd x540))) fun t543 => Option.bind (p_cmd_Hex k (Prod.snd (Prod.snd x540))) fun t544 => Option.bind (p_cmd_parts (Prod.fst x540)) fun t545 => need ((0 : Int) ≤ (0 : Int) ∧ (0 : Int) ≤ IntKind.wrap IntKind.i64 ((1 : Int) + t545) ∧ IntKind.wrap IntKind.i64 ((1 : Int) + t545) ≤ (↑(List.length [t542, t543, t544]) : Int)) (Option.bind (p_strings_Join (List.take (Int.toNat (IntKind.wrap IntKind.i64 ((1 : Int) + t545))) [t542, t543, t544]) [(32 : UInt8)]) fun t547 => some (t547, (0 : Int)))
noncomputable def e_cmd_Text (k : Nat) : Entry := ⟨Ds.mk [Vd.st (T.pair (T.int IntKind.i64) (T.pair (T.arr (32) (T.int IntKind.u8)) T.str))] [], Ds.mk [Vd.one (Ld.im T.str), Vd.one (Ld.im (T.int IntKind.i64))] [], fun x => p_cmd_Text k x⟩
noncomputable def c_cmd_Text (k : Nat) : Cx := ⟨Tryd.prog, [(43, e_cmd_word), (45, e_cmd_parts), (44, e_key_Text k), (28, e_cmd_Hex k), (24, e_cmd_Check), (40, e_strings_Join)], [], [], [], [(4, ([(0, 2), (1, 1), (2, 0), (3, 2), (4, 1), (5, 0), (6, 2), (7, 1), (8, 0)], [(9, Bool.false), (10, Bool.false)], []))], 0, 28, [(76, 0), (83, 1)], fun _ _ _ => none⟩
theorem q_cmd_Text (k : Nat) (x : HL (e_cmd_Text k).pre.ts) : runF (c_cmd_Text k) k Tryd.f22 (e_cmd_Text k).pre (e_cmd_Text k).post x = (e_cmd_Text k).fn x := by kernel_rfl
theorem s_cmd_Text (k : Nat) : Entry.Sound Tryd.prog 22 (e_cmd_Text k) := runF_sound (X := c_cmd_Text k) (pre := (e_cmd_Text k).pre) (post := (e_cmd_Text k).post) (q := (e_cmd_Text k).fn) ⟨(dOk_cons (s_cmd_word) (dOk_cons (s_cmd_parts) (dOk_cons (s_key_Text k) (dOk_cons (s_cmd_Hex k) (dOk_cons (s_cmd_Check) (dOk_cons (s_strings_Join) dOk_nil)))))), x_ext, x_mo⟩ Tryd.func22 (q_cmd_Text k)

/- dormouse/cmd.Parse: function 25 -/
noncomputable def p_cmd_Parse.j2 (k : Nat) (x567 : Bool) (x568 : Int × Vector Int (32) × List UInt8) (x569 : Int × Vector Int (32) × List UInt8) : Option ((Int × Vector Int (32) × List UInt8) × Int) :=
  bif x567 then some (((0 : Int), Vector.replicate (32 : Nat) (dflt (T.int IntKind.u8)), []), (6 : Int)) else some ((Prod.fst x569, Prod.fst (Prod.snd x569), Prod.snd (Prod.snd x569)), (0 : Int))
noncomputable def p_cmd_Parse.j1 (k : Nat) (x563 : List UInt8) (x564 : Int × Vector Int (32) × List UInt8) (x565 : Int × Vector Int (32) × List UInt8) : Option ((Int × Vector Int (32) × List UInt8) × Int) :=
  Option.bind (p_cmd_Text k (Prod.fst x565, Prod.fst (Prod.snd x565), Prod.snd (Prod.snd x565))) fun t566 => joinC (fun (y : Bool × (Int × Vector Int (32) × List UInt8) × Int × Vector Int (32) × List UInt8) => p_cmd_Parse.j2 k y.1 y.2.1 y.2.2) fun (j570 : Bool × (Int × Vector Int (32) × List UInt8) × Int × Vector Int (32) × List UInt8 → Option ((Int × Vector Int (32) × List UInt8) × Int)) => bif (Prod.snd t566 != (0 : Int)) then j570 (Bool.true, (Prod.fst x564, Prod.fst (Prod.snd x564), Prod.snd (Prod.snd x564)), Prod.fst x565, Prod.fst (Prod.snd x565), Prod.snd (Prod.snd x565)) else j570 (!Prod.fst t566 == x563, (Prod.fst x564, Prod.fst (Prod.snd x564), Prod.snd (Prod.snd x564)), Prod.fst x565, Prod.fst (Prod.snd x565), Prod.snd (Prod.snd x565))
noncomputable def p_cmd_Parse.j0 (k : Nat) (x556 : List UInt8) (x557 : Int × Vector Int (32) × List UInt8) (x558 : Int × Vector Int (32) × List UInt8) (x559 : List (List UInt8)) : Option ((Int × Vector Int (32) × List UInt8) × Int) :=
  joinC (fun (y : List UInt8 × (Int × Vector Int (32) × List UInt8) × Int × Vector Int (32) × List UInt8) => p_cmd_Parse.j1 k y.1 y.2.1 y.2.2) fun (j572 : List UInt8 × (Int × Vector Int (32) × List UInt8) × Int × Vector Int (32) × List UInt8 → Option ((Int × Vector Int (32) × List UInt8) × Int)) => Option.bind (p_cmd_parts (Prod.fst x558)) fun t560 => bif (decide (t560 > (1 : Int))) then Option.bind (p_cmd_Parse_c1 (2 : Int) x559) fun t561 => Option.bind (p_cmd_Bytes k t561) fun t562 => j572 (x556, (Prod.fst x557, Prod.fst (Prod.snd x557), Prod.snd (Prod.snd x557)), Prod.fst x558, Prod.fst (Prod.snd x558), Prod.fst t562) else j572 (x556, (Prod.fst x557, Prod.fst (Prod.snd x557), Prod.snd (Prod.snd x557)), Prod.fst x558, Prod.fst (Prod.snd x558), Prod.snd (Prod.snd x558))
noncomputable def p_cmd_Parse (k : Nat) (x549 : List UInt8) : Option ((Int × Vector Int (32) × List UInt8) × Int) :=
  Option.bind (p_strings_Split k x549 [(32 : UInt8)]) fun t550 => Option.bind (p_cmd_Parse_c1 (0 : Int) t550) fun t551 => Option.bind (p_cmd_kind k t551) fun t552 => bif (decide (t552 < (0 : Int))) then some (((0 : Int), Vector.replicate (32 : Nat) (dflt (T.int IntKind.u8)), []), (15 : Int)) else joinC (fun (y : List UInt8 × (Int × Vector Int (32) × List UInt8) × (Int × Vector Int (32) × List UInt8) × List (List UInt8)) => p_cmd_Parse.j0 k y.1 y.2.1 y.2.2.1 y.2.2.2) fun (j574 : List UInt8 × (Int × Vector Int (32) × List UInt8) × (Int × Vector Int (32) × List UInt8) × List (List UInt8) → Option ((Int × Vector Int (32) × List UInt8) × Int)) => Option.bind (p_cmd_parts t552) fun t553 => bif (decide (t553 > (0 : Int))) then Option.bind (p_cmd_Parse_c1 (1 : Int) t550) fun t554 => Option.bind (p_key_Parse k t554) fun t555 => j574 (x549, ((0 : Int), Vector.replicate (32 : Nat) (dflt (T.int IntKind.u8)), []), (t552, Prod.fst t555, []), t550) else j574 (x549, ((0 : Int), Vector.replicate (32 : Nat) (dflt (T.int IntKind.u8)), []), (t552, Vector.replicate (32 : Nat) (dflt (T.int IntKind.u8)), []), t550)
noncomputable def e_cmd_Parse (k : Nat) : Entry := ⟨Ds.mk [Vd.one (Ld.im T.str)] [], Ds.mk [Vd.st (T.pair (T.int IntKind.i64) (T.pair (T.arr (32) (T.int IntKind.u8)) T.str)), Vd.one (Ld.im (T.int IntKind.i64))] [], fun x => p_cmd_Parse k x⟩
noncomputable def c_cmd_Parse (k : Nat) : Cx := ⟨Tryd.prog, [(39, e_strings_Split k), (46, e_cmd_Parse_c1), (47, e_cmd_kind k), (45, e_cmd_parts), (48, e_key_Parse k), (29, e_cmd_Bytes k), (22, e_cmd_Text k)], [(8, Sd.mk [0, 2, 5, 6] (Ds.mk [Vd.one (Ld.im T.str), Vd.one (Ld.ptr (0) (0)), Vd.one (Ld.fn (46) [1]), Vd.one (Ld.ptr (2) (0))] [Od.blkT (45) (T.pair (T.int IntKind.i64) (T.pair (T.arr (32) (T.int IntKind.u8)) T.str)), Od.blk (67) [Ld.own (3)], Od.blkT (45) (T.pair (T.int IntKind.i64) (T.pair (T.arr (32) (T.int IntKind.u8)) T.str)), Od.arr (9) T.str])), (10, Sd.mk [0, 2, 6] (Ds.mk [Vd.one (Ld.im T.str), Vd.one (Ld.ptr (0) (0)), Vd.one (Ld.ptr (1) (0))] [Od.blkT (45) (T.pair (T.int IntKind.i64) (T.pair (T.arr (32) (T.int IntKind.u8)) T.str)), Od.blkT (45) (T.pair (T.int IntKind.i64) (T.pair (T.arr (32) (T.int IntKind.u8)) T.str))]))], [(11, Sd.mk [2, 6, 53] (Ds.mk [Vd.one (Ld.ptr (0) (0)), Vd.one (Ld.ptr (1) (0)), Vd.one (Ld.im T.bool)] [Od.blkT (45) (T.pair (T.int IntKind.i64) (T.pair (T.arr (32) (T.int IntKind.u8)) T.str)), Od.blkT (45) (T.pair (T.int IntKind.i64) (T.pair (T.arr (32) (T.int IntKind.u8)) T.str))]))], [], [], 0, 56, [(76, 0), (83, 1)], fun _ _ _ => none⟩
theorem q_cmd_Parse (k : Nat) (x : HL (e_cmd_Parse k).pre.ts) : runF (c_cmd_Parse k) k Tryd.f25 (e_cmd_Parse k).pre (e_cmd_Parse k).post x = (e_cmd_Parse k).fn x := by kernel_rfl
theorem s_cmd_Parse (k : Nat) : Entry.Sound Tryd.prog 25 (e_cmd_Parse k) := runF_sound (X := c_cmd_Parse k) (pre := (e_cmd_Parse k).pre) (post := (e_cmd_Parse k).post) (q := (e_cmd_Parse k).fn) ⟨(dOk_cons (s_strings_Split k) (dOk_cons (s_cmd_Parse_c1) (dOk_cons (s_cmd_kind k) (dOk_cons (s_cmd_parts) (dOk_cons (s_key_Parse k) (dOk_cons (s_cmd_Bytes k) (dOk_cons (s_cmd_Text k) dOk_nil))))))), x_ext, x_mo⟩ Tryd.func25 (q_cmd_Parse k)

/- dormouse/cmd.All: function 33 -/
noncomputable def p_cmd_All.j0 (k : Nat) (x597 : List (Int × Vector Int (32) × List UInt8)) : Option (Int × Int × List (Int × Vector Int (32) × List UInt8)) :=
  some ((0 : Int), (0 : Int), x597)
noncomputable def p_cmd_All.j2 (k : Nat) (rec595 : Int × Int × List (Int × Vector Int (32) × List UInt8) × List (List UInt8) → Option (Int × Int × List (Int × Vector Int (32) × List UInt8))) (x589 : Int) (x590 : Int) (x591 : List (Int × Vector Int (32) × List UInt8)) (x592 : List (List UInt8)) : Option (Int × Int × List (Int × Vector Int (32) × List UInt8)) :=
  rec595 (x589, IntKind.wrap IntKind.i64 (x590 + (1 : Int)), x591, x592)
noncomputable def p_cmd_All.b1 (k : Nat) (j598 : List (Int × Vector Int (32) × List UInt8) → Option (Int × Int × List (Int × Vector Int (32) × List UInt8))) (rec595 : Int × Int × List (Int × Vector Int (32) × List UInt8) × List (List UInt8) → Option (Int × Int × List (Int × Vector Int (32) × List UInt8))) (x582 : Int) (x583 : Int) (x584 : List (Int × Vector Int (32) × List UInt8)) (x585 : List (List UInt8)) : Option (Int × Int × List (Int × Vector Int (32) × List UInt8)) :=
  bif (decide (x583 < x582)) then joinC (fun (y : Int × Int × List (Int × Vector Int (32) × List UInt8) × List (List UInt8)) => p_cmd_All.j2 k rec595 y.1 y.2.1 y.2.2.1 y.2.2.2) fun (j593 : Int × Int × List (Int × Vector Int (32) × List UInt8) × List (List UInt8) → Option (Int × Int × List (Int × Vector Int (32) × List UInt8))) => need ((0 : Int) ≤ x583 ∧ x583 < (↑(List.length x585) : Int)) (bif (at_ (dflt T.str) x585 x583 == []) then j593 (x582, x583, x584, x585) else Option.bind (p_cmd_Parse k (at_ (dflt T.str) x585 x583)) fun t587 => bif (Prod.snd t587 != (0 : Int)) then some (IntKind.wrap IntKind.i64 (x583 + (1 : Int)), Prod.snd t587, []) else need ((List.length x584 + List.length [(Prod.fst (Prod.fst t587), Prod.fst (Prod.snd (Prod.fst t587)), Prod.snd (Prod.snd (Prod.fst t587)))]) * Go.TypeInfo.bytes (Go.Tables.types (Go.Program.toTables Go.Proofs.Tryd.prog))[(45 : Nat)] ≤ (140737488355328 : Nat)) (j593 (x582, x583, x584 ++ [(Prod.fst (Prod.fst t587), Prod.fst (Prod.snd (Prod.fst t587)), Prod.snd (Prod.snd (Prod.fst t587)))], x585))) else j598 x584
noncomputable def p_cmd_All (k : Nat) (x580 : List UInt8) : Option (Int × Int × List (Int × Vector Int (32) × List UInt8)) :=
  joinC (p_cmd_All.j0 k) fun (j598 : List (Int × Vector Int (32) × List UInt8) → Option (Int × Int × List (Int × Vector Int (32) × List UInt8))) => Option.bind (p_strings_Split k x580 [(10 : UInt8)]) fun t581 => loopC (fun (r : Int × Int × List (Int × Vector Int (32) × List UInt8) × List (List UInt8) → Option (Int × Int × List (Int × Vector Int (32) × List UInt8))) y => p_cmd_All.b1 k j598 r y.1 y.2.1 y.2.2.1 y.2.2.2) k ((↑(List.length t581) : Int), (0 : Int), [], t581)
noncomputable def e_cmd_All (k : Nat) : Entry := ⟨Ds.mk [Vd.one (Ld.im T.str)] [], Ds.mk [Vd.one (Ld.own (0)), Vd.one (Ld.im (T.int IntKind.i64)), Vd.one (Ld.im (T.int IntKind.i64))] [Od.arr (45) (T.pair (T.int IntKind.i64) (T.pair (T.arr (32) (T.int IntKind.u8)) T.str))], fun x => p_cmd_All k x⟩
noncomputable def c_cmd_All (k : Nat) : Cx := ⟨Tryd.prog, [(39, e_strings_Split k), (25, e_cmd_Parse k)], [(10, Sd.mk [5, 11, 12, 13] (Ds.mk [Vd.one (Ld.own (0)), Vd.one (Ld.own (1)), Vd.one (Ld.im (T.int IntKind.i64)), Vd.one (Ld.im (T.int IntKind.i64))] [Od.arr (45) (T.pair (T.int IntKind.i64) (T.pair (T.arr (32) (T.int IntKind.u8)) T.str)), Od.arr (9) T.str])), (11, Sd.mk [5] (Ds.mk [Vd.one (Ld.own (0))] [Od.arr (45) (T.pair (T.int IntKind.i64) (T.pair (T.arr (32) (T.int IntKind.u8)) T.str))]))], [], [(3, Sd.mk [5, 11, 12, 13] (Ds.mk [Vd.one (Ld.own (0)), Vd.one (Ld.own (1)), Vd.one (Ld.im (T.int IntKind.i64)), Vd.one (Ld.im (T.int IntKind.i64))] [Od.arr (45) (T.pair (T.int IntKind.i64) (T.pair (T.arr (32) (T.int IntKind.u8)) T.str)), Od.arr (9) T.str]))], [], 0, 36, [(76, 0), (83, 1)], fun _ _ _ => none⟩
theorem q_cmd_All (k : Nat) (x : HL (e_cmd_All k).pre.ts) : runF (c_cmd_All k) k Tryd.f33 (e_cmd_All k).pre (e_cmd_All k).post x = (e_cmd_All k).fn x := by kernel_rfl
theorem s_cmd_All (k : Nat) : Entry.Sound Tryd.prog 33 (e_cmd_All k) := runF_sound (X := c_cmd_All k) (pre := (e_cmd_All k).pre) (post := (e_cmd_All k).post) (q := (e_cmd_All k).fn) ⟨(dOk_cons (s_strings_Split k) (dOk_cons (s_cmd_Parse k) dOk_nil)), x_ext, x_mo⟩ Tryd.func33 (q_cmd_All k)

/- dormouse/dormouselaw38.awake: function 21 -/
noncomputable def p_dormouselaw38_awake.j0 (k : Nat) (x606 : Bool) : Option Bool :=
  some x606
noncomputable def p_dormouselaw38_awake (k : Nat) : Option Bool :=
  Option.bind (p_cmd_Parse k [(112 : UInt8), (117 : UInt8), (116 : UInt8), (32 : UInt8), (49 : UInt8), (46 : UInt8), (50 : UInt8), (32 : UInt8), (54 : UInt8), (49 : UInt8), (54 : UInt8), (50 : UInt8)]) fun t601 => Option.bind (p_cmd_Text k (Prod.fst (Prod.fst t601), Prod.fst (Prod.snd (Prod.fst t601)), Prod.snd (Prod.snd (Prod.fst t601)))) fun t602 => Option.bind (p_cmd_All k [(114 : UInt8), (111 : UInt8), (108 : UInt8), (108 : UInt8), (10 : UInt8), (10 : UInt8), (119 : UInt8), (104 : UInt8), (97 : UInt8), (116 : UInt8), (10 : UInt8)]) fun t603 => Option.bind (p_cmd_Bytes k [(45 : UInt8)]) fun t604 => joinC (p_dormouselaw38_awake.j0 k) fun (j607 : Bool → Option Bool) => bif (Prod.fst (Prod.fst t601) == (1 : Int)) then bif (Prod.snd (Prod.snd (Prod.fst t601)) == [(97 : UInt8), (98 : UInt8)]) then bif (Prod.snd t601 == (0 : Int)) then bif (Prod.fst t602 == [(112 : UInt8), (117 : UInt8), (116 : UInt8), (32 : UInt8), (49 : UInt8), (46 : UInt8), (50 : UInt8), (32 : UInt8), (54 : UInt8), (49 : UInt8), (54 : UInt8), (50 : UInt8)]) then bif (Prod.snd t602 == (0 : Int)) then bif ((↑(List.length (Prod.snd (Prod.snd t603))) : Int) == (0 : Int)) then bif (Prod.fst t603 == (3 : Int)) then bif (Prod.fst (Prod.snd t603) == (15 : Int)) then bif (Prod.fst t604 == []) then bif (Prod.snd t604) then Option.bind (p_cmd_Hex k [(97 : UInt8)]) fun t605 => j607 (t605 == [(54 : UInt8), (49 : UInt8)]) else j607 Bool.false else j607 Bool.false else j607 Bool.false else j607 Bool.false else j607 Bool.false else j607 Bool.false else j607 Bool.false else j607 Bool.false else j607 Bool.false else j607 Bool.false
noncomputable def e_dormouselaw38_awake (k : Nat) : Entry := ⟨Ds.mk [] [], Ds.mk [Vd.one (Ld.im T.bool)] [], fun x => p_dormouselaw38_awake k⟩
noncomputable def c_dormouselaw38_awake (k : Nat) : Cx := ⟨Tryd.prog, [(28, e_cmd_Hex k), (29, e_cmd_Bytes k), (22, e_cmd_Text k), (25, e_cmd_Parse k), (33, e_cmd_All k)], [], [(5, Sd.mk [0] (Ds.mk [Vd.one (Ld.im T.bool)] []))], [], [], 0, 72, [(76, 0), (83, 1)], fun _ _ _ => none⟩
theorem q_dormouselaw38_awake (k : Nat) (x : HL (e_dormouselaw38_awake k).pre.ts) : runF (c_dormouselaw38_awake k) k Tryd.f21 (e_dormouselaw38_awake k).pre (e_dormouselaw38_awake k).post x = (e_dormouselaw38_awake k).fn x := by kernel_rfl
theorem s_dormouselaw38_awake (k : Nat) : Entry.Sound Tryd.prog 21 (e_dormouselaw38_awake k) := runF_sound (X := c_dormouselaw38_awake k) (pre := (e_dormouselaw38_awake k).pre) (post := (e_dormouselaw38_awake k).post) (q := (e_dormouselaw38_awake k).fn) ⟨(dOk_cons (s_cmd_Hex k) (dOk_cons (s_cmd_Bytes k) (dOk_cons (s_cmd_Text k) (dOk_cons (s_cmd_Parse k) (dOk_cons (s_cmd_All k) dOk_nil))))), x_ext, x_mo⟩ Tryd.func21 (q_dormouselaw38_awake k)

/- dormouse/dormouseref38.May: function 23 -/
noncomputable def p_dormouseref38_May.j3 (x631 : Bool) : Option Bool :=
  some x631
noncomputable def p_dormouseref38_May.j2 (x627 : Bool) (x628 : Int × Vector Int (32) × List UInt8) : Option Bool :=
  joinC (p_dormouseref38_May.j3) fun (j632 : Bool → Option Bool) => bif !x627 then j632 Bool.true else j632 (decide (Prod.fst (Prod.snd x628) = bparts (32 : Nat) (dflt (T.int IntKind.u8)) []))
noncomputable def p_dormouseref38_May.j1 (x623 : Bool) (x624 : Int × Vector Int (32) × List UInt8) : Option Bool :=
  bif x623 then some Bool.false else joinC (fun (y : Bool × Int × Vector Int (32) × List UInt8) => p_dormouseref38_May.j2 y.1 y.2) fun (j629 : Bool × Int × Vector Int (32) × List UInt8 → Option Bool) => bif (Prod.fst x624 == (4 : Int)) then j629 (Bool.true, Prod.fst x624, Prod.fst (Prod.snd x624), Prod.snd (Prod.snd x624)) else bif (decide (Prod.fst x624 ≥ (6 : Int))) then j629 (decide (Prod.fst x624 ≤ (8 : Int)), Prod.fst x624, Prod.fst (Prod.snd x624), Prod.snd (Prod.snd x624)) else j629 (Bool.false, Prod.fst x624, Prod.fst (Prod.snd x624), Prod.snd (Prod.snd x624))
noncomputable def p_dormouseref38_May.j0 (x619 : Bool) (x620 : Int × Vector Int (32) × List UInt8) : Option Bool :=
  bif x619 then some Bool.false else joinC (fun (y : Bool × Int × Vector Int (32) × List UInt8) => p_dormouseref38_May.j1 y.1 y.2) fun (j625 : Bool × Int × Vector Int (32) × List UInt8 → Option Bool) => bif (Prod.fst x620 != (1 : Int)) then bif (Prod.fst x620 != (5 : Int)) then j625 (!Prod.snd (Prod.snd x620) == [], Prod.fst x620, Prod.fst (Prod.snd x620), Prod.snd (Prod.snd x620)) else j625 (Bool.false, Prod.fst x620, Prod.fst (Prod.snd x620), Prod.snd (Prod.snd x620)) else j625 (Bool.false, Prod.fst x620, Prod.fst (Prod.snd x620), Prod.snd (Prod.snd x620))
noncomputable def p_dormouseref38_May (x618 : Int × Vector Int (32) × List UInt8) : Option Bool :=
  joinC (fun (y : Bool × Int × Vector Int (32) × List UInt8) => p_dormouseref38_May.j0 y.1 y.2) fun (j621 : Bool × Int × Vector Int (32) × List UInt8 → Option Bool) => bif (decide (Prod.fst x618 < (0 : Int))) then j621 (Bool.true, Prod.fst x618, Prod.fst (Prod.snd x618), Prod.snd (Prod.snd x618)) else bif (decide (Prod.fst x618 > (9 : Int))) then j621 (Bool.true, Prod.fst x618, Prod.fst (Prod.snd x618), Prod.snd (Prod.snd x618)) else j621 (decide ((↑(List.length (Prod.snd (Prod.snd x618))) : Int) > (70000 : Int)), Prod.fst x618, Prod.fst (Prod.snd x618), Prod.snd (Prod.snd x618))
noncomputable def e_dormouseref38_May : Entry := ⟨Ds.mk [Vd.st (T.pair (T.int IntKind.i64) (T.pair (T.arr (32) (T.int IntKind.u8)) T.str))] [], Ds.mk [Vd.one (Ld.im T.bool)] [], fun x => p_dormouseref38_May x⟩
noncomputable def c_dormouseref38_May : Cx := ⟨Tryd.prog, [], [], [(1, Sd.mk [1, 17] (Ds.mk [Vd.one (Ld.ptr (0) (0)), Vd.one (Ld.im T.bool)] [Od.blkT (45) (T.pair (T.int IntKind.i64) (T.pair (T.arr (32) (T.int IntKind.u8)) T.str))])), (3, Sd.mk [1, 30] (Ds.mk [Vd.one (Ld.ptr (0) (0)), Vd.one (Ld.im T.bool)] [Od.blkT (45) (T.pair (T.int IntKind.i64) (T.pair (T.arr (32) (T.int IntKind.u8)) T.str))])), (5, Sd.mk [1, 3] (Ds.mk [Vd.one (Ld.ptr (0) (0)), Vd.one (Ld.im T.bool)] [Od.blkT (45) (T.pair (T.int IntKind.i64) (T.pair (T.arr (32) (T.int IntKind.u8)) T.str))])), (6, Sd.mk [2] (Ds.mk [Vd.one (Ld.im T.bool)] []))], [], [], 0, 52, [(76, 0), (83, 1)], fun _ _ _ => none⟩
theorem q_dormouseref38_May (x : HL (e_dormouseref38_May).pre.ts) : runF (c_dormouseref38_May) 0 Tryd.f23 (e_dormouseref38_May).pre (e_dormouseref38_May).post x = (e_dormouseref38_May).fn x := by kernel_rfl
theorem s_dormouseref38_May : Entry.Sound Tryd.prog 23 (e_dormouseref38_May) := runF_sound (X := c_dormouseref38_May) (pre := (e_dormouseref38_May).pre) (post := (e_dormouseref38_May).post) (q := (e_dormouseref38_May).fn) ⟨dOk_nil, x_ext, x_mo⟩ Tryd.func23 (q_dormouseref38_May)

/- dormouse/dormouseref38.Word: function 49 -/
noncomputable def p_dormouseref38_Word (x653 : Int) : Option (List UInt8) :=
  need ((0 : Int) ≤ x653 ∧ x653 < (↑(10) : Int)) (some (at_ (dflt T.str) [[(103 : UInt8), (101 : UInt8), (116 : UInt8)], [(112 : UInt8), (117 : UInt8), (116 : UInt8)], [(100 : UInt8), (101 : UInt8), (108 : UInt8), (101 : UInt8), (116 : UInt8), (101 : UInt8)], [(116 : UInt8), (111 : UInt8), (117 : UInt8), (99 : UInt8), (104 : UInt8)], [(114 : UInt8), (111 : UInt8), (108 : UInt8), (108 : UInt8)], [(114 : UInt8), (101 : UInt8), (115 : UInt8), (117 : UInt8), (114 : UInt8), (114 : UInt8), (101 : UInt8), (99 : UInt8), (116 : UInt8)], [(99 : UInt8), (111 : UInt8), (109 : UInt8), (109 : UInt8), (105 : UInt8), (116 : UInt8)], [(97 : UInt8), (98 : UInt8), (111 : UInt8), (114 : UInt8), (116 : UInt8)], [(111 : UInt8), (112 : UInt8), (101 : UInt8), (110 : UInt8)], [(98 : UInt8), (97 : UInt8), (99 : UInt8), (107 : UInt8)]] x653))
noncomputable def e_dormouseref38_Word : Entry := ⟨Ds.mk [Vd.one (Ld.im (T.int IntKind.i64))] [], Ds.mk [Vd.one (Ld.im T.str)] [], fun x => p_dormouseref38_Word x⟩
noncomputable def c_dormouseref38_Word : Cx := ⟨Tryd.prog, [], [], [], [], [], 0, 7, [(76, 0), (83, 1)], fun _ _ _ => none⟩
theorem q_dormouseref38_Word (x : HL (e_dormouseref38_Word).pre.ts) : runF (c_dormouseref38_Word) 0 Tryd.f49 (e_dormouseref38_Word).pre (e_dormouseref38_Word).post x = (e_dormouseref38_Word).fn x := by kernel_rfl
theorem s_dormouseref38_Word : Entry.Sound Tryd.prog 49 (e_dormouseref38_Word) := runF_sound (X := c_dormouseref38_Word) (pre := (e_dormouseref38_Word).pre) (post := (e_dormouseref38_Word).post) (q := (e_dormouseref38_Word).fn) ⟨dOk_nil, x_ext, x_mo⟩ Tryd.func49 (q_dormouseref38_Word)

/- dormouse/dormouseref16.Bytes: function 63 -/
noncomputable def p_dormouseref16_Bytes.j0 (k : Nat) (x677 : List UInt8) : Option (List UInt8) :=
  some x677
noncomputable def p_dormouseref16_Bytes.b1 (k : Nat) (j678 : List UInt8 → Option (List UInt8)) (rec675 : List UInt8 × Int × Vector Int (32) → Option (List UInt8)) (x670 : List UInt8) (x671 : Int) (x672 : Vector Int (32)) : Option (List UInt8) :=
  bif (decide (x671 < (32 : Int))) then need ((0 : Int) ≤ x671 ∧ x671 < (↑(32 : Nat) : Int)) (need (List.length x670 + List.length (bytesOf [at_ (dflt (T.int IntKind.u8)) (Vector.toList x672) x671]) ≤ (9223372036854775807 : Nat)) (rec675 (x670 ++ bytesOf [at_ (dflt (T.int IntKind.u8)) (Vector.toList x672) x671], IntKind.wrap IntKind.i64 (x671 + (1 : Int)), x672))) else j678 x670
noncomputable def p_dormouseref16_Bytes (k : Nat) (x669 : Vector Int (32)) : Option (List UInt8) :=
  joinC (p_dormouseref16_Bytes.j0 k) fun (j678 : List UInt8 → Option (List UInt8)) => loopC (fun (r : List UInt8 × Int × Vector Int (32) → Option (List UInt8)) y => p_dormouseref16_Bytes.b1 k j678 r y.1 y.2.1 y.2.2) k ([], (0 : Int), x669)
noncomputable def e_dormouseref16_Bytes (k : Nat) : Entry := ⟨Ds.mk [Vd.st (T.arr (32) (T.int IntKind.u8))] [], Ds.mk [Vd.one (Ld.im T.str)] [], fun x => p_dormouseref16_Bytes k x⟩
noncomputable def c_dormouseref16_Bytes (k : Nat) : Cx := ⟨Tryd.prog, [], [(6, Sd.mk [3] (Ds.mk [Vd.one (Ld.im T.str)] []))], [], [(3, Sd.mk [1, 3, 4] (Ds.mk [Vd.one (Ld.ptr (0) (0)), Vd.one (Ld.im T.str), Vd.one (Ld.im (T.int IntKind.i64))] [Od.blkT (43) (T.arr (32) (T.int IntKind.u8))]))], [], 0, 17, [(76, 0), (83, 1)], fun _ _ _ => none⟩
theorem q_dormouseref16_Bytes (k : Nat) (x : HL (e_dormouseref16_Bytes k).pre.ts) : runF (c_dormouseref16_Bytes k) k Tryd.f63 (e_dormouseref16_Bytes k).pre (e_dormouseref16_Bytes k).post x = (e_dormouseref16_Bytes k).fn x := by kernel_rfl
theorem s_dormouseref16_Bytes (k : Nat) : Entry.Sound Tryd.prog 63 (e_dormouseref16_Bytes k) := runF_sound (X := c_dormouseref16_Bytes k) (pre := (e_dormouseref16_Bytes k).pre) (post := (e_dormouseref16_Bytes k).post) (q := (e_dormouseref16_Bytes k).fn) ⟨dOk_nil, x_ext, x_mo⟩ Tryd.func63 (q_dormouseref16_Bytes k)

/- dormouse/dormouseref01.Val: function 74 -/
noncomputable def p_dormouseref01_Val.j0 (k : Nat) (x700 : Int) : Option Int :=
  some x700
noncomputable def p_dormouseref01_Val.j2 (k : Nat) (rec698 : List UInt8 × Int × Int × Int → Option Int) (j701 : Int → Option Int) (x690 : List UInt8) (x691 : Int) (x692 : Int) (x693 : Int) (x694 : Bool) : Option Int :=
  bif x694 then need ((0 : Int) ≤ x693 ∧ x693 < (↑(List.length x690) : Int)) (rec698 (x690, IntKind.wrap IntKind.u64 (x691 + IntKind.wrap IntKind.u64 (x692 * IntKind.wrap IntKind.u64 (bat x690 x693))), IntKind.wrap IntKind.u64 (x692 * (256 : Int)), IntKind.wrap IntKind.i64 (x693 + (1 : Int)))) else j701 x691
noncomputable def p_dormouseref01_Val.b1 (k : Nat) (j701 : Int → Option Int) (rec698 : List UInt8 × Int × Int × Int → Option Int) (x686 : List UInt8) (x687 : Int) (x688 : Int) (x689 : Int) : Option Int :=
  joinC (fun (y : List UInt8 × Int × Int × Int × Bool) => p_dormouseref01_Val.j2 k rec698 j701 y.1 y.2.1 y.2.2.1 y.2.2.2.1 y.2.2.2.2) fun (j695 : List UInt8 × Int × Int × Int × Bool → Option Int) => bif (decide (x689 < (↑(List.length x686) : Int))) then j695 (x686, x687, x688, x689, decide (x689 < (8 : Int))) else j695 (x686, x687, x688, x689, Bool.false)
noncomputable def p_dormouseref01_Val (k : Nat) (x685 : List UInt8) : Option Int :=
  joinC (p_dormouseref01_Val.j0 k) fun (j701 : Int → Option Int) => loopC (fun (r : List UInt8 × Int × Int × Int → Option Int) y => p_dormouseref01_Val.b1 k j701 r y.1 y.2.1 y.2.2.1 y.2.2.2) k (x685, (0 : Int), (1 : Int), (0 : Int))
noncomputable def e_dormouseref01_Val (k : Nat) : Entry := ⟨Ds.mk [Vd.one (Ld.im T.str)] [], Ds.mk [Vd.one (Ld.im (T.int IntKind.u64))] [], fun x => p_dormouseref01_Val k x⟩
noncomputable def c_dormouseref01_Val (k : Nat) : Cx := ⟨Tryd.prog, [], [(8, Sd.mk [3] (Ds.mk [Vd.one (Ld.im (T.int IntKind.u64))] []))], [(4, Sd.mk [0, 3, 4, 5, 13] (Ds.mk [Vd.one (Ld.im T.str), Vd.one (Ld.im (T.int IntKind.u64)), Vd.one (Ld.im (T.int IntKind.u64)), Vd.one (Ld.im (T.int IntKind.i64)), Vd.one (Ld.im T.bool)] []))], [(4, Sd.mk [0, 3, 4, 5] (Ds.mk [Vd.one (Ld.im T.str), Vd.one (Ld.im (T.int IntKind.u64)), Vd.one (Ld.im (T.int IntKind.u64)), Vd.one (Ld.im (T.int IntKind.i64))] []))], [], 0, 27, [(76, 0), (83, 1)], fun _ _ _ => none⟩
theorem q_dormouseref01_Val (k : Nat) (x : HL (e_dormouseref01_Val k).pre.ts) : runF (c_dormouseref01_Val k) k Tryd.f74 (e_dormouseref01_Val k).pre (e_dormouseref01_Val k).post x = (e_dormouseref01_Val k).fn x := by kernel_rfl
theorem s_dormouseref01_Val (k : Nat) : Entry.Sound Tryd.prog 74 (e_dormouseref01_Val k) := runF_sound (X := c_dormouseref01_Val k) (pre := (e_dormouseref01_Val k).pre) (post := (e_dormouseref01_Val k).post) (q := (e_dormouseref01_Val k).fn) ⟨dOk_nil, x_ext, x_mo⟩ Tryd.func74 (q_dormouseref01_Val k)

/- dormouse/dormouseref01.Num: function 85 -/
noncomputable def p_dormouseref01_Num.j0 (k : Nat) (x723 : List UInt8) : Option (List UInt8) :=
  some x723
noncomputable def p_dormouseref01_Num.b1 (k : Nat) (j724 : List UInt8 → Option (List UInt8)) (rec721 : Int × Int × List UInt8 × Int → Option (List UInt8)) (x716 : Int) (x717 : Int) (x718 : List UInt8) (x719 : Int) : Option (List UInt8) :=
  bif (decide (x719 < x717)) then need (List.length x718 + List.length (bytesOf [IntKind.wrap IntKind.u8 (Int.tmod x716 (256 : Int))]) ≤ (9223372036854775807 : Nat)) (rec721 (IntKind.wrap IntKind.u64 (Int.tdiv x716 (256 : Int)), x717, x718 ++ bytesOf [IntKind.wrap IntKind.u8 (Int.tmod x716 (256 : Int))], IntKind.wrap IntKind.i64 (x719 + (1 : Int)))) else j724 x718
noncomputable def p_dormouseref01_Num (k : Nat) (x714 : Int) (x715 : Int) : Option (List UInt8) :=
  joinC (p_dormouseref01_Num.j0 k) fun (j724 : List UInt8 → Option (List UInt8)) => loopC (fun (r : Int × Int × List UInt8 × Int → Option (List UInt8)) y => p_dormouseref01_Num.b1 k j724 r y.1 y.2.1 y.2.2.1 y.2.2.2) k (x714, x715, [], (0 : Int))
noncomputable def e_dormouseref01_Num (k : Nat) : Entry := ⟨Ds.mk [Vd.one (Ld.im (T.int IntKind.u64)), Vd.one (Ld.im (T.int IntKind.i64))] [], Ds.mk [Vd.one (Ld.im T.str)] [], fun x => p_dormouseref01_Num k x.1 x.2⟩
noncomputable def c_dormouseref01_Num (k : Nat) : Cx := ⟨Tryd.prog, [], [(7, Sd.mk [5] (Ds.mk [Vd.one (Ld.im T.str)] []))], [], [(3, Sd.mk [0, 1, 5, 6] (Ds.mk [Vd.one (Ld.im (T.int IntKind.u64)), Vd.one (Ld.im (T.int IntKind.i64)), Vd.one (Ld.im T.str), Vd.one (Ld.im (T.int IntKind.i64))] []))], [], 0, 22, [(76, 0), (83, 1)], fun _ _ _ => none⟩
theorem q_dormouseref01_Num (k : Nat) (x : HL (e_dormouseref01_Num k).pre.ts) : runF (c_dormouseref01_Num k) k Tryd.f85 (e_dormouseref01_Num k).pre (e_dormouseref01_Num k).post x = (e_dormouseref01_Num k).fn x := by kernel_rfl
theorem s_dormouseref01_Num (k : Nat) : Entry.Sound Tryd.prog 85 (e_dormouseref01_Num k) := runF_sound (X := c_dormouseref01_Num k) (pre := (e_dormouseref01_Num k).pre) (post := (e_dormouseref01_Num k).post) (q := (e_dormouseref01_Num k).fn) ⟨dOk_nil, x_ext, x_mo⟩ Tryd.func85 (q_dormouseref01_Num k)

/- dormouse/dormouseref16.Of: function 75 -/
noncomputable def p_dormouseref16_Of (k : Nat) (x727 : Int) (x728 : Int) : Option (List UInt8) :=
  Option.bind (p_dormouseref01_Num k x727 (8 : Int)) fun t729 => need (List.length t729 + 16 ≤ (9223372036854775807 : Nat)) (Option.bind (p_dormouseref01_Num k x728 (8 : Int)) fun t731 => need (List.length (t729 ++ [(0 : UInt8), (0 : UInt8), (0 : UInt8), (0 : UInt8), (0 : UInt8), (0 : UInt8), (0 : UInt8), (0 : UInt8), (0 : UInt8), (0 : UInt8), (0 : UInt8), (0 : UInt8), (0 : UInt8), (0 : UInt8), (0 : UInt8), (0 : UInt8)]) + List.length t731 ≤ (9223372036854775807 : Nat)) (some (t729 ++ [(0 : UInt8), (0 : UInt8), (0 : UInt8), (0 : UInt8), (0 : UInt8), (0 : UInt8), (0 : UInt8), (0 : UInt8), (0 : UInt8), (0 : UInt8), (0 : UInt8), (0 : UInt8), (0 : UInt8), (0 : UInt8), (0 : UInt8), (0 : UInt8)] ++ t731)))
noncomputable def e_dormouseref16_Of (k : Nat) : Entry := ⟨Ds.mk [Vd.one (Ld.im (T.int IntKind.u64)), Vd.one (Ld.im (T.int IntKind.u64))] [], Ds.mk [Vd.one (Ld.im T.str)] [], fun x => p_dormouseref16_Of k x.1 x.2⟩
noncomputable def c_dormouseref16_Of (k : Nat) : Cx := ⟨Tryd.prog, [(85, e_dormouseref01_Num k)], [], [], [], [], 0, 11, [(76, 0), (83, 1)], fun _ _ _ => none⟩
theorem q_dormouseref16_Of (k : Nat) (x : HL (e_dormouseref16_Of k).pre.ts) : runF (c_dormouseref16_Of k) k Tryd.f75 (e_dormouseref16_Of k).pre (e_dormouseref16_Of k).post x = (e_dormouseref16_Of k).fn x := by kernel_rfl
theorem s_dormouseref16_Of (k : Nat) : Entry.Sound Tryd.prog 75 (e_dormouseref16_Of k) := runF_sound (X := c_dormouseref16_Of k) (pre := (e_dormouseref16_Of k).pre) (post := (e_dormouseref16_Of k).post) (q := (e_dormouseref16_Of k).fn) ⟨(dOk_cons (s_dormouseref01_Num k) dOk_nil), x_ext, x_mo⟩ Tryd.func75 (q_dormouseref16_Of k)

/- dormouse/dormouseref16.Split: function 62 -/
noncomputable def p_dormouseref16_Split (k : Nat) (x734 : Vector Int (32)) : Option (Int × Int × Bool) :=
  Option.bind (p_dormouseref16_Bytes k x734) fun t735 => need ((0 : Int) ≤ (0 : Int) ∧ (0 : Int) ≤ (8 : Int) ∧ (8 : Int) ≤ (↑(List.length t735) : Int)) (Option.bind (p_dormouseref01_Val k (sub_ t735 (0 : Int) (8 : Int))) fun t737 => need ((0 : Int) ≤ (24 : Int) ∧ (24 : Int) ≤ (↑(List.length t735) : Int) ∧ (↑(List.length t735) : Int) ≤ (↑(List.length t735) : Int)) (Option.bind (p_dormouseref01_Val k (sub_ t735 (24 : Int) (↑(List.length t735) : Int))) fun t739 => Option.bind (p_dormouseref16_Of k t737 t739) fun t740 => bif (!t740 == t735) then some ((0 : Int), (0 : Int), Bool.false) else some (t737, t739, Bool.true)))
noncomputable def e_dormouseref16_Split (k : Nat) : Entry := ⟨Ds.mk [Vd.st (T.arr (32) (T.int IntKind.u8))] [], Ds.mk [Vd.one (Ld.im (T.int IntKind.u64)), Vd.one (Ld.im (T.int IntKind.u64)), Vd.one (Ld.im T.bool)] [], fun x => p_dormouseref16_Split k x⟩
noncomputable def c_dormouseref16_Split (k : Nat) : Cx := ⟨Tryd.prog, [(63, e_dormouseref16_Bytes k), (74, e_dormouseref01_Val k), (75, e_dormouseref16_Of k)], [], [], [], [], 0, 23, [(76, 0), (83, 1)], fun _ _ _ => none⟩
theorem q_dormouseref16_Split (k : Nat) (x : HL (e_dormouseref16_Split k).pre.ts) : runF (c_dormouseref16_Split k) k Tryd.f62 (e_dormouseref16_Split k).pre (e_dormouseref16_Split k).post x = (e_dormouseref16_Split k).fn x := by kernel_rfl
theorem s_dormouseref16_Split (k : Nat) : Entry.Sound Tryd.prog 62 (e_dormouseref16_Split k) := runF_sound (X := c_dormouseref16_Split k) (pre := (e_dormouseref16_Split k).pre) (post := (e_dormouseref16_Split k).post) (q := (e_dormouseref16_Split k).fn) ⟨(dOk_cons (s_dormouseref16_Bytes k) (dOk_cons (s_dormouseref01_Val k) (dOk_cons (s_dormouseref16_Of k) dOk_nil))), x_ext, x_mo⟩ Tryd.func62 (q_dormouseref16_Split k)

/- dormouse/dormouseref16.Text: function 50 -/
noncomputable def p_dormouseref16_Text (k : Nat) (x794 : Vector Int (32)) : Option (List UInt8) :=
  Option.bind (p_dormouseref16_Split k x794) fun t795 => bif (Prod.snd (Prod.snd t795)) then Option.bind (p_dormouseref16_Digits k (Prod.fst t795)) fun t796 => need (List.length t796 + 1 ≤ (9223372036854775807 : Nat)) (Option.bind (p_dormouseref16_Digits k (Prod.fst (Prod.snd t795))) fun t798 => need (List.length (t796 ++ [(46 : UInt8)]) + List.length t798 ≤ (9223372036854775807 : Nat)) (some (t796 ++ [(46 : UInt8)] ++ t798))) else Option.bind (p_dormouseref16_Bytes k x794) fun t800 => Option.bind (p_dormouseref03_Hex k t800) fun t801 => some t801
noncomputable def e_dormouseref16_Text (k : Nat) : Entry := ⟨Ds.mk [Vd.st (T.arr (32) (T.int IntKind.u8))] [], Ds.mk [Vd.one (Ld.im T.str)] [], fun x => p_dormouseref16_Text k x⟩
noncomputable def c_dormouseref16_Text (k : Nat) : Cx := ⟨Tryd.prog, [(63, e_dormouseref16_Bytes k), (62, e_dormouseref16_Split k), (36, e_dormouseref16_Digits k), (37, e_dormouseref03_Hex k)], [], [], [], [], 0, 22, [(76, 0), (83, 1)], fun _ _ _ => none⟩
theorem q_dormouseref16_Text (k : Nat) (x : HL (e_dormouseref16_Text k).pre.ts) : runF (c_dormouseref16_Text k) k Tryd.f50 (e_dormouseref16_Text k).pre (e_dormouseref16_Text k).post x = (e_dormouseref16_Text k).fn x := by kernel_rfl
theorem s_dormouseref16_Text (k : Nat) : Entry.Sound Tryd.prog 50 (e_dormouseref16_Text k) := runF_sound (X := c_dormouseref16_Text k) (pre := (e_dormouseref16_Text k).pre) (post := (e_dormouseref16_Text k).post) (q := (e_dormouseref16_Text k).fn) ⟨(dOk_cons (s_dormouseref16_Bytes k) (dOk_cons (s_dormouseref16_Split k) (dOk_cons (s_dormouseref16_Digits k) (dOk_cons (s_dormouseref03_Hex k) dOk_nil)))), x_ext, x_mo⟩ Tryd.func50 (q_dormouseref16_Text k)

/- dormouse/dormouseref38.Hex: function 30 -/
noncomputable def p_dormouseref38_Hex (k : Nat) (x820 : List UInt8) : Option (List UInt8) :=
  bif (x820 == []) then some ([(45 : UInt8)]) else Option.bind (p_dormouseref03_Hex k x820) fun t821 => some t821
noncomputable def e_dormouseref38_Hex (k : Nat) : Entry := ⟨Ds.mk [Vd.one (Ld.im T.str)] [], Ds.mk [Vd.one (Ld.im T.str)] [], fun x => p_dormouseref38_Hex k x⟩
noncomputable def c_dormouseref38_Hex (k : Nat) : Cx := ⟨Tryd.prog, [(37, e_dormouseref03_Hex k)], [], [], [], [], 0, 7, [(76, 0), (83, 1)], fun _ _ _ => none⟩
theorem q_dormouseref38_Hex (k : Nat) (x : HL (e_dormouseref38_Hex k).pre.ts) : runF (c_dormouseref38_Hex k) k Tryd.f30 (e_dormouseref38_Hex k).pre (e_dormouseref38_Hex k).post x = (e_dormouseref38_Hex k).fn x := by kernel_rfl
theorem s_dormouseref38_Hex (k : Nat) : Entry.Sound Tryd.prog 30 (e_dormouseref38_Hex k) := runF_sound (X := c_dormouseref38_Hex k) (pre := (e_dormouseref38_Hex k).pre) (post := (e_dormouseref38_Hex k).post) (q := (e_dormouseref38_Hex k).fn) ⟨(dOk_cons (s_dormouseref03_Hex k) dOk_nil), x_ext, x_mo⟩ Tryd.func30 (q_dormouseref38_Hex k)

/- dormouse/dormouseref38.Line: function 26 -/
noncomputable def p_dormouseref38_Line.j1 (k : Nat) (x841 : List UInt8) : Option (List UInt8) :=
  some x841
noncomputable def p_dormouseref38_Line.j2 (k : Nat) (j842 : List UInt8 → Option (List UInt8)) (x833 : List UInt8) (x834 : Bool) (x835 : Int × Vector Int (32) × List UInt8) : Option (List UInt8) :=
  bif x834 then need (List.length x833 + 1 ≤ (9223372036854775807 : Nat)) (Option.bind (p_dormouseref38_Hex k (Prod.snd (Prod.snd x835))) fun t839 => need (List.length (x833 ++ [(32 : UInt8)]) + List.length t839 ≤ (9223372036854775807 : Nat)) (j842 (x833 ++ [(32 : UInt8)] ++ t839))) else j842 x833
noncomputable def p_dormouseref38_Line.j0 (k : Nat) (x825 : List UInt8) (x826 : Bool) (x827 : Int × Vector Int (32) × List UInt8) : Option (List UInt8) :=
  bif x826 then some x825 else need (List.length x825 + 1 ≤ (9223372036854775807 : Nat)) (Option.bind (p_dormouseref16_Text k (Prod.fst (Prod.snd x827))) fun t831 => need (List.length (x825 ++ [(32 : UInt8)]) + List.length t831 ≤ (9223372036854775807 : Nat)) (joinC (p_dormouseref38_Line.j1 k) fun (j842 : List UInt8 → Option (List UInt8)) => joinC (fun (y : List UInt8 × Bool × Int × Vector Int (32) × List UInt8) => p_dormouseref38_Line.j2 k j842 y.1 y.2.1 y.2.2) fun (j836 : List UInt8 × Bool × Int × Vector Int (32) × List UInt8 → Option (List UInt8)) => bif (Prod.fst x827 == (1 : Int)) then j836 (x825 ++ [(32 : UInt8)] ++ t831, Bool.true, Prod.fst x827, Prod.fst (Prod.snd x827), Prod.snd (Prod.snd x827)) else j836 (x825 ++ [(32 : UInt8)] ++ t831, Prod.fst x827 == (5 : Int), Prod.fst x827, Prod.fst (Prod.snd x827), Prod.snd (Prod.snd x827))))
noncomputable def p_dormouseref38_Line (k : Nat) (x823 : Int × Vector Int (32) × List UInt8) : Option (List UInt8) :=
  Option.bind (p_dormouseref38_Word (Prod.fst x823)) fun t824 => joinC (fun (y : List UInt8 × Bool × Int × Vector Int (32) × List UInt8) => p_dormouseref38_Line.j0 k y.1 y.2.1 y.2.2) fun (j828 : List UInt8 × Bool × Int × Vector Int (32) × List UInt8 → Option (List UInt8)) => bif (Prod.fst x823 == (4 : Int)) then j828 (t824, Bool.true, Prod.fst x823, Prod.fst (Prod.snd x823), Prod.snd (Prod.snd x823)) else bif (decide (Prod.fst x823 ≥ (6 : Int))) then j828 (t824, decide (Prod.fst x823 ≤ (8 : Int)), Prod.fst x823, Prod.fst (Prod.snd x823), Prod.snd (Prod.snd x823)) else j828 (t824, Bool.false, Prod.fst x823, Prod.fst (Prod.snd x823), Prod.snd (Prod.snd x823))
noncomputable def e_dormouseref38_Line (k : Nat) : Entry := ⟨Ds.mk [Vd.st (T.pair (T.int IntKind.i64) (T.pair (T.arr (32) (T.int IntKind.u8)) T.str))] [], Ds.mk [Vd.one (Ld.im T.str)] [], fun x => p_dormouseref38_Line k x⟩
noncomputable def c_dormouseref38_Line (k : Nat) : Cx := ⟨Tryd.prog, [(49, e_dormouseref38_Word), (50, e_dormouseref16_Text k), (30, e_dormouseref38_Hex k)], [(7, Sd.mk [3] (Ds.mk [Vd.one (Ld.im T.str)] []))], [(2, Sd.mk [1, 3, 19] (Ds.mk [Vd.one (Ld.ptr (0) (0)), Vd.one (Ld.im T.str), Vd.one (Ld.im T.bool)] [Od.blkT (45) (T.pair (T.int IntKind.i64) (T.pair (T.arr (32) (T.int IntKind.u8)) T.str))])), (5, Sd.mk [1, 3, 34] (Ds.mk [Vd.one (Ld.ptr (0) (0)), Vd.one (Ld.im T.str), Vd.one (Ld.im T.bool)] [Od.blkT (45) (T.pair (T.int IntKind.i64) (T.pair (T.arr (32) (T.int IntKind.u8)) T.str))]))], [], [], 0, 42, [(76, 0), (83, 1)], fun _ _ _ => none⟩
theorem q_dormouseref38_Line (k : Nat) (x : HL (e_dormouseref38_Line k).pre.ts) : runF (c_dormouseref38_Line k) k Tryd.f26 (e_dormouseref38_Line k).pre (e_dormouseref38_Line k).post x = (e_dormouseref38_Line k).fn x := by kernel_rfl
theorem s_dormouseref38_Line (k : Nat) : Entry.Sound Tryd.prog 26 (e_dormouseref38_Line k) := runF_sound (X := c_dormouseref38_Line k) (pre := (e_dormouseref38_Line k).pre) (post := (e_dormouseref38_Line k).post) (q := (e_dormouseref38_Line k).fn) ⟨(dOk_cons (s_dormouseref38_Word) (dOk_cons (s_dormouseref16_Text k) (dOk_cons (s_dormouseref38_Hex k) dOk_nil))), x_ext, x_mo⟩ Tryd.func26 (q_dormouseref38_Line k)

/- dormouse/dormouselaw38.CmdTexts: function 6 -/
noncomputable def p_dormouselaw38_CmdTexts.j1 (k : Nat) (x855 : Bool) : Option Bool :=
  some x855
noncomputable def p_dormouselaw38_CmdTexts.j2 (k : Nat) (x861 : Bool) : Option Bool :=
  some x861
noncomputable def p_dormouselaw38_CmdTexts.j0 (k : Nat) (x846 : Bool) (x847 : Int × Vector Int (32) × List UInt8) : Option Bool :=
  bif x846 then Option.bind (p_dormouselaw38_awake k) fun t850 => some t850 else Option.bind (p_cmd_Text k (Prod.fst x847, Prod.fst (Prod.snd x847), Prod.snd (Prod.snd x847))) fun t851 => Option.bind (p_dormouseref38_May (Prod.fst x847, Prod.fst (Prod.snd x847), Prod.snd (Prod.snd x847))) fun t852 => Option.bind (p_cmd_Check (Prod.fst x847, Prod.fst (Prod.snd x847), Prod.snd (Prod.snd x847))) fun t853 => bif (!(t853 == (0 : Int)) == t852) then some Bool.false else bif !t852 then joinC (p_dormouselaw38_CmdTexts.j1 k) fun (j856 : Bool → Option Bool) => Option.bind (p_dormouselaw38_awake k) fun t854 => bif t854 then bif (Prod.fst t851 == []) then j856 (Prod.snd t851 == (2 : Int)) else j856 Bool.false else j856 Bool.false else Option.bind (p_cmd_Parse k (Prod.fst t851)) fun t858 => joinC (p_dormouselaw38_CmdTexts.j2 k) fun (j862 : Bool → Option Bool) => Option.bind (p_dormouselaw38_awake k) fun t859 => bif t859 then bif (Prod.snd t851 == (0 : Int)) then Option.bind (p_dormouseref38_Line k (Prod.fst x847, Prod.fst (Prod.snd x847), Prod.snd (Prod.snd x847))) fun t860 => bif (Prod.fst t851 == t860) then bif (Prod.fst (Prod.fst t858) == Prod.fst x847 && (decide (Prod.fst (Prod.snd (Prod.fst t858)) = Prod.fst (Prod.snd x847)) && (Prod.snd (Prod.snd (Prod.fst t858)) == Prod.snd (Prod.snd x847) && Bool.true))) then j862 (Prod.snd t858 == (0 : Int)) else j862 Bool.false else j862 Bool.false else j862 Bool.false else j862 Bool.false
noncomputable def p_dormouselaw38_CmdTexts (k : Nat) (x845 : Int × Vector Int (32) × List UInt8) : Option Bool :=
  joinC (fun (y : Bool × Int × Vector Int (32) × List UInt8) => p_dormouselaw38_CmdTexts.j0 k y.1 y.2) fun (j848 : Bool × Int × Vector Int (32) × List UInt8 → Option Bool) => bif (decide ((↑(List.length (Prod.snd (Prod.snd x845))) : Int) > (500 : Int))) then bif (decide ((↑(List.length (Prod.snd (Prod.snd x845))) : Int) ≤ (70000 : Int))) then j848 (Bool.true, Prod.fst x845, Prod.fst (Prod.snd x845), Prod.snd (Prod.snd x845)) else j848 (decide ((↑(List.length (Prod.snd (Prod.snd x845))) : Int) > (71000 : Int)), Prod.fst x845, Prod.fst (Prod.snd x845), Prod.snd (Prod.snd x845)) else j848 (decide ((↑(List.length (Prod.snd (Prod.snd x845))) : Int) > (71000 : Int)), Prod.fst x845, Prod.fst (Prod.snd x845), Prod.snd (Prod.snd x845))
noncomputable def e_dormouselaw38_CmdTexts (k : Nat) : Entry := ⟨Ds.mk [Vd.st (T.pair (T.int IntKind.i64) (T.pair (T.arr (32) (T.int IntKind.u8)) T.str))] [], Ds.mk [Vd.one (Ld.im T.bool)] [], fun x => p_dormouselaw38_CmdTexts k x⟩
noncomputable def c_dormouselaw38_CmdTexts (k : Nat) : Cx := ⟨Tryd.prog, [(24, e_cmd_Check), (22, e_cmd_Text k), (25, e_cmd_Parse k), (21, e_dormouselaw38_awake k), (23, e_dormouseref38_May), (26, e_dormouseref38_Line k)], [], [(1, Sd.mk [1, 23] (Ds.mk [Vd.one (Ld.ptr (0) (0)), Vd.one (Ld.im T.bool)] [Od.blkT (45) (T.pair (T.int IntKind.i64) (T.pair (T.arr (32) (T.int IntKind.u8)) T.str))])), (8, Sd.mk [2] (Ds.mk [Vd.one (Ld.im T.bool)] [])), (10, Sd.mk [2] (Ds.mk [Vd.one (Ld.im T.bool)] []))], [], [], 0, 73, [(76, 0), (83, 1)], fun _ _ _ => none⟩
theorem q_dormouselaw38_CmdTexts (k : Nat) (x : HL (e_dormouselaw38_CmdTexts k).pre.ts) : runF (c_dormouselaw38_CmdTexts k) k Tryd.f6 (e_dormouselaw38_CmdTexts k).pre (e_dormouselaw38_CmdTexts k).post x = (e_dormouselaw38_CmdTexts k).fn x := by kernel_rfl
theorem s_dormouselaw38_CmdTexts (k : Nat) : Entry.Sound Tryd.prog 6 (e_dormouselaw38_CmdTexts k) := runF_sound (X := c_dormouselaw38_CmdTexts k) (pre := (e_dormouselaw38_CmdTexts k).pre) (post := (e_dormouselaw38_CmdTexts k).post) (q := (e_dormouselaw38_CmdTexts k).fn) ⟨(dOk_cons (s_cmd_Check) (dOk_cons (s_cmd_Text k) (dOk_cons (s_cmd_Parse k) (dOk_cons (s_dormouselaw38_awake k) (dOk_cons (s_dormouseref38_May) (dOk_cons (s_dormouseref38_Line k) dOk_nil)))))), x_ext, x_mo⟩ Tryd.func6 (q_dormouselaw38_CmdTexts k)

/- dormouse/dormouseref38.Known: function 27 -/
noncomputable def p_dormouseref38_Known.j1 (k : Nat) : Option Bool :=
  some Bool.false
noncomputable def p_dormouseref38_Known.b2 (k : Nat) (j891 : Unit → Option Bool) (rec889 : List UInt8 × Int → Option Bool) (x886 : List UInt8) (x887 : Int) : Option Bool :=
  bif (decide (x887 < (10 : Int))) then Option.bind (p_dormouseref38_Word x887) fun t888 => bif (t888 == x886) then some Bool.true else rec889 (x886, IntKind.wrap IntKind.i64 (x887 + (1 : Int))) else j891 ()
noncomputable def p_dormouseref38_Known.j0 (k : Nat) (x885 : List UInt8) : Option Bool :=
  joinC (fun (y : Unit) => p_dormouseref38_Known.j1 k) fun (j891 : Unit → Option Bool) => loopC (fun (r : List UInt8 × Int → Option Bool) y => p_dormouseref38_Known.b2 k j891 r y.1 y.2) k (x885, (0 : Int))
noncomputable def p_dormouseref38_Known.j4 (k : Nat) (rec883 : List UInt8 × List UInt8 × Int → Option Bool) (j893 : List UInt8 → Option Bool) (x875 : List UInt8) (x876 : List UInt8) (x877 : Int) (x878 : Bool) : Option Bool :=
  bif x878 then need ((0 : Int) ≤ x877 ∧ x877 ≤ IntKind.wrap IntKind.i64 (x877 + (1 : Int)) ∧ IntKind.wrap IntKind.i64 (x877 + (1 : Int)) ≤ (↑(List.length x875) : Int)) (need (List.length x876 + List.length (sub_ x875 x877 (IntKind.wrap IntKind.i64 (x877 + (1 : Int)))) ≤ (9223372036854775807 : Nat)) (rec883 (x875, x876 ++ sub_ x875 x877 (IntKind.wrap IntKind.i64 (x877 + (1 : Int))), IntKind.wrap IntKind.i64 (x877 + (1 : Int))))) else j893 x876
noncomputable def p_dormouseref38_Known.b3 (k : Nat) (j893 : List UInt8 → Option Bool) (rec883 : List UInt8 × List UInt8 × Int → Option Bool) (x871 : List UInt8) (x872 : List UInt8) (x873 : Int) : Option Bool :=
  joinC (fun (y : List UInt8 × List UInt8 × Int × Bool) => p_dormouseref38_Known.j4 k rec883 j893 y.1 y.2.1 y.2.2.1 y.2.2.2) fun (j879 : List UInt8 × List UInt8 × Int × Bool → Option Bool) => bif (decide (x873 < (↑(List.length x871) : Int))) then need ((0 : Int) ≤ x873 ∧ x873 < (↑(List.length x871) : Int)) (j879 (x871, x872, x873, bat x871 x873 != (32 : Int))) else j879 (x871, x872, x873, Bool.false)
noncomputable def p_dormouseref38_Known (k : Nat) (x870 : List UInt8) : Option Bool :=
  joinC (p_dormouseref38_Known.j0 k) fun (j893 : List UInt8 → Option Bool) => loopC (fun (r : List UInt8 × List UInt8 × Int → Option Bool) y => p_dormouseref38_Known.b3 k j893 r y.1 y.2.1 y.2.2) k (x870, [], (0 : Int))
noncomputable def e_dormouseref38_Known (k : Nat) : Entry := ⟨Ds.mk [Vd.one (Ld.im T.str)] [], Ds.mk [Vd.one (Ld.im T.bool)] [], fun x => p_dormouseref38_Known k x⟩
noncomputable def c_dormouseref38_Known (k : Nat) : Cx := ⟨Tryd.prog, [(49, e_dormouseref38_Word)], [(6, Sd.mk [3] (Ds.mk [Vd.one (Ld.im T.str)] [])), (11, Sd.mk [] (Ds.mk [] []))], [(3, Sd.mk [0, 3, 4, 15] (Ds.mk [Vd.one (Ld.im T.str), Vd.one (Ld.im T.str), Vd.one (Ld.im (T.int IntKind.i64)), Vd.one (Ld.im T.bool)] []))], [(3, Sd.mk [0, 3, 4] (Ds.mk [Vd.one (Ld.im T.str), Vd.one (Ld.im T.str), Vd.one (Ld.im (T.int IntKind.i64))] [])), (7, Sd.mk [3, 5] (Ds.mk [Vd.one (Ld.im T.str), Vd.one (Ld.im (T.int IntKind.i64))] []))], [], 0, 33, [(76, 0), (83, 1)], fun _ _ _ => none⟩
theorem q_dormouseref38_Known (k : Nat) (x : HL (e_dormouseref38_Known k).pre.ts) : runF (c_dormouseref38_Known k) k Tryd.f27 (e_dormouseref38_Known k).pre (e_dormouseref38_Known k).post x = (e_dormouseref38_Known k).fn x := by kernel_rfl
theorem s_dormouseref38_Known (k : Nat) : Entry.Sound Tryd.prog 27 (e_dormouseref38_Known k) := runF_sound (X := c_dormouseref38_Known k) (pre := (e_dormouseref38_Known k).pre) (post := (e_dormouseref38_Known k).post) (q := (e_dormouseref38_Known k).fn) ⟨(dOk_cons (s_dormouseref38_Word) dOk_nil), x_ext, x_mo⟩ Tryd.func27 (q_dormouseref38_Known k)

/- dormouse/dormouselaw38.CmdParses: function 7 -/
noncomputable def p_dormouselaw38_CmdParses.j0 (k : Nat) (x901 : Bool) : Option Bool :=
  some x901
noncomputable def p_dormouselaw38_CmdParses.j1 (k : Nat) (x907 : Bool) : Option Bool :=
  some x907
noncomputable def p_dormouselaw38_CmdParses (k : Nat) (x896 : List UInt8) : Option Bool :=
  bif (decide ((↑(List.length x896) : Int) > (500 : Int))) then Option.bind (p_dormouselaw38_awake k) fun t897 => some t897 else Option.bind (p_cmd_Parse k x896) fun t898 => bif (Prod.snd t898 != (0 : Int)) then joinC (p_dormouselaw38_CmdParses.j0 k) fun (j902 : Bool → Option Bool) => Option.bind (p_dormouselaw38_awake k) fun t899 => bif t899 then bif (Prod.fst (Prod.fst t898) == (0 : Int) && (decide (Prod.fst (Prod.snd (Prod.fst t898)) = Vector.replicate (32 : Nat) (dflt (T.int IntKind.u8))) && (Prod.snd (Prod.snd (Prod.fst t898)) == [] && Bool.true))) then Option.bind (p_dormouseref38_Known k x896) fun t900 => bif ((Prod.snd t898 == (15 : Int)) == !t900) then bif (Prod.snd t898 == (15 : Int)) then j902 Bool.true else j902 (Prod.snd t898 == (6 : Int)) else j902 Bool.false else j902 Bool.false else j902 Bool.false else joinC (p_dormouselaw38_CmdParses.j1 k) fun (j908 : Bool → Option Bool) => Option.bind (p_dormouselaw38_awake k) fun t904 => bif t904 then Option.bind (p_dormouseref38_May (Prod.fst (Prod.fst t898), Prod.fst (Prod.snd (Prod.fst t898)), Prod.snd (Prod.snd (Prod.fst t898)))) fun t905 => bif t905 then Option.bind (p_dormouseref38_Line k (Prod.fst (Prod.fst t898), Prod.fst (Prod.snd (Prod.fst t898)), Prod.snd (Prod.snd (Prod.fst t898)))) fun t906 => j908 (t906 == x896) else j908 Bool.false else j908 Bool.false
noncomputable def e_dormouselaw38_CmdParses (k : Nat) : Entry := ⟨Ds.mk [Vd.one (Ld.im T.str)] [], Ds.mk [Vd.one (Ld.im T.bool)] [], fun x => p_dormouselaw38_CmdParses k x⟩
noncomputable def c_dormouselaw38_CmdParses (k : Nat) : Cx := ⟨Tryd.prog, [(25, e_cmd_Parse k), (21, e_dormouselaw38_awake k), (23, e_dormouseref38_May), (26, e_dormouseref38_Line k), (27, e_dormouseref38_Known k)], [], [(5, Sd.mk [2] (Ds.mk [Vd.one (Ld.im T.bool)] [])), (6, Sd.mk [2] (Ds.mk [Vd.one (Ld.im T.bool)] []))], [], [], 0, 49, [(76, 0), (83, 1)], fun _ _ _ => none⟩
theorem q_dormouselaw38_CmdParses (k : Nat) (x : HL (e_dormouselaw38_CmdParses k).pre.ts) : runF (c_dormouselaw38_CmdParses k) k Tryd.f7 (e_dormouselaw38_CmdParses k).pre (e_dormouselaw38_CmdParses k).post x = (e_dormouselaw38_CmdParses k).fn x := by kernel_rfl
theorem s_dormouselaw38_CmdParses (k : Nat) : Entry.Sound Tryd.prog 7 (e_dormouselaw38_CmdParses k) := runF_sound (X := c_dormouselaw38_CmdParses k) (pre := (e_dormouselaw38_CmdParses k).pre) (post := (e_dormouselaw38_CmdParses k).post) (q := (e_dormouselaw38_CmdParses k).fn) ⟨(dOk_cons (s_cmd_Parse k) (dOk_cons (s_dormouselaw38_awake k) (dOk_cons (s_dormouseref38_May) (dOk_cons (s_dormouseref38_Line k) (dOk_cons (s_dormouseref38_Known k) dOk_nil))))), x_ext, x_mo⟩ Tryd.func7 (q_dormouselaw38_CmdParses k)

/- dormouse/dormouselaw38.CmdHex: function 8 -/
noncomputable def p_dormouselaw38_CmdHex.j1 (k : Nat) (x925 : Bool) : Option Bool :=
  some x925
noncomputable def p_dormouselaw38_CmdHex.j0 (k : Nat) (x913 : List UInt8) (x914 : List UInt8) (x915 : Bool) : Option Bool :=
  bif x915 then Option.bind (p_dormouselaw38_awake k) fun t918 => some t918 else Option.bind (p_cmd_Hex k x913) fun t919 => Option.bind (p_cmd_Bytes k t919) fun t920 => Option.bind (p_cmd_Bytes k x914) fun t921 => joinC (p_dormouselaw38_CmdHex.j1 k) fun (j926 : Bool → Option Bool) => Option.bind (p_dormouselaw38_awake k) fun t922 => bif t922 then Option.bind (p_dormouseref38_Hex k x913) fun t923 => bif (t919 == t923) then bif (Prod.fst t920 == x913) then bif (Prod.snd t920) then bif (Prod.snd t921) then Option.bind (p_dormouseref38_Hex k (Prod.fst t921)) fun t924 => bif (t924 == x914) then j926 Bool.true else bif (!Prod.snd t921) then j926 (Prod.fst t921 == []) else j926 Bool.false else bif (!Prod.snd t921) then j926 (Prod.fst t921 == []) else j926 Bool.false else j926 Bool.false else j926 Bool.false else j926 Bool.false else j926 Bool.false
noncomputable def p_dormouselaw38_CmdHex (k : Nat) (x911 : List UInt8) (x912 : List UInt8) : Option Bool :=
  joinC (fun (y : List UInt8 × List UInt8 × Bool) => p_dormouselaw38_CmdHex.j0 k y.1 y.2.1 y.2.2) fun (j916 : List UInt8 × List UInt8 × Bool → Option Bool) => bif (decide ((↑(List.length x911) : Int) > (300 : Int))) then j916 (x911, x912, Bool.true) else j916 (x911, x912, decide ((↑(List.length x912) : Int) > (300 : Int)))
noncomputable def e_dormouselaw38_CmdHex (k : Nat) : Entry := ⟨Ds.mk [Vd.one (Ld.im T.str), Vd.one (Ld.im T.str)] [], Ds.mk [Vd.one (Ld.im T.bool)] [], fun x => p_dormouselaw38_CmdHex k x.1 x.2⟩
noncomputable def c_dormouselaw38_CmdHex (k : Nat) : Cx := ⟨Tryd.prog, [(28, e_cmd_Hex k), (29, e_cmd_Bytes k), (21, e_dormouselaw38_awake k), (30, e_dormouseref38_Hex k)], [], [(1, Sd.mk [0, 1, 17] (Ds.mk [Vd.one (Ld.im T.str), Vd.one (Ld.im T.str), Vd.one (Ld.im T.bool)] [])), (6, Sd.mk [4] (Ds.mk [Vd.one (Ld.im T.bool)] []))], [], [], 0, 63, [(76, 0), (83, 1)], fun _ _ _ => none⟩
theorem q_dormouselaw38_CmdHex (k : Nat) (x : HL (e_dormouselaw38_CmdHex k).pre.ts) : runF (c_dormouselaw38_CmdHex k) k Tryd.f8 (e_dormouselaw38_CmdHex k).pre (e_dormouselaw38_CmdHex k).post x = (e_dormouselaw38_CmdHex k).fn x := by kernel_rfl
theorem s_dormouselaw38_CmdHex (k : Nat) : Entry.Sound Tryd.prog 8 (e_dormouselaw38_CmdHex k) := runF_sound (X := c_dormouselaw38_CmdHex k) (pre := (e_dormouselaw38_CmdHex k).pre) (post := (e_dormouselaw38_CmdHex k).post) (q := (e_dormouselaw38_CmdHex k).fn) ⟨(dOk_cons (s_cmd_Hex k) (dOk_cons (s_cmd_Bytes k) (dOk_cons (s_dormouselaw38_awake k) (dOk_cons (s_dormouseref38_Hex k) dOk_nil)))), x_ext, x_mo⟩ Tryd.func8 (q_dormouselaw38_CmdHex k)

/- dormouse/dormouselaw37.Light: function 31 -/
noncomputable def p_dormouselaw37_Light.j0 (k : Nat) (x938 : List (Int × Vector Int (32) × List UInt8)) : Option Bool :=
  some (decide ((↑(List.length x938) : Int) ≤ (30 : Int)))
noncomputable def p_dormouselaw37_Light.b1 (k : Nat) (j939 : List (Int × Vector Int (32) × List UInt8) → Option Bool) (rec936 : List (Int × Vector Int (32) × List UInt8) × Int → Option Bool) (x933 : List (Int × Vector Int (32) × List UInt8)) (x934 : Int) : Option Bool :=
  bif (decide (x934 < (↑(List.length x933) : Int))) then need ((0 : Int) ≤ x934 ∧ x934 < (↑(List.length x933) : Int)) (bif (decide ((↑(List.length (Prod.snd (Prod.snd (at_ (dflt (T.pair (T.int IntKind.i64) (T.pair (T.arr (32) (T.int IntKind.u8)) T.str))) x933 x934)))) : Int) > (3000 : Int))) then some Bool.false else rec936 (x933, IntKind.wrap IntKind.i64 (x934 + (1 : Int)))) else j939 x933
noncomputable def p_dormouselaw37_Light (k : Nat) (x932 : List (Int × Vector Int (32) × List UInt8)) : Option Bool :=
  joinC (p_dormouselaw37_Light.j0 k) fun (j939 : List (Int × Vector Int (32) × List UInt8) → Option Bool) => loopC (fun (r : List (Int × Vector Int (32) × List UInt8) × Int → Option Bool) y => p_dormouselaw37_Light.b1 k j939 r y.1 y.2) k (x932, (0 : Int))
noncomputable def e_dormouselaw37_Light (k : Nat) : Entry := ⟨Ds.mk [Vd.one (Ld.im (T.sl (T.pair (T.int IntKind.i64) (T.pair (T.arr (32) (T.int IntKind.u8)) T.str))))] [], Ds.mk [Vd.one (Ld.im T.bool)] [], fun x => p_dormouselaw37_Light k x⟩
noncomputable def c_dormouselaw37_Light (k : Nat) : Cx := ⟨Tryd.prog, [], [(6, Sd.mk [0] (Ds.mk [Vd.one (Ld.im (T.sl (T.pair (T.int IntKind.i64) (T.pair (T.arr (32) (T.int IntKind.u8)) T.str))))] []))], [], [(2, Sd.mk [0, 3] (Ds.mk [Vd.one (Ld.im (T.sl (T.pair (T.int IntKind.i64) (T.pair (T.arr (32) (T.int IntKind.u8)) T.str)))), Vd.one (Ld.im (T.int IntKind.i64))] []))], [], 0, 20, [(76, 0), (83, 1)], fun _ _ _ => none⟩
theorem q_dormouselaw37_Light (k : Nat) (x : HL (e_dormouselaw37_Light k).pre.ts) : runF (c_dormouselaw37_Light k) k Tryd.f31 (e_dormouselaw37_Light k).pre (e_dormouselaw37_Light k).post x = (e_dormouselaw37_Light k).fn x := by kernel_rfl
theorem s_dormouselaw37_Light (k : Nat) : Entry.Sound Tryd.prog 31 (e_dormouselaw37_Light k) := runF_sound (X := c_dormouselaw37_Light k) (pre := (e_dormouselaw37_Light k).pre) (post := (e_dormouselaw37_Light k).post) (q := (e_dormouselaw37_Light k).fn) ⟨dOk_nil, x_ext, x_mo⟩ Tryd.func31 (q_dormouselaw37_Light k)

/- (*strings.Builder).WriteString: function 52 -/
noncomputable def p__strings_Builder_WriteString (x1000 : List UInt8) (x1001 : List Int) : Option (Int × List Int) :=
  Option.bind (p_Builder_copyCheck x1001) fun t1002 => need ((List.length t1002 + List.length (numsOf x1000)) * Go.TypeInfo.bytes (Go.Tables.types (Go.Program.toTables Go.Proofs.Tryd.prog))[(5 : Nat)] ≤ (140737488355328 : Nat)) (some ((↑(List.length x1000) : Int), t1002 ++ numsOf x1000))
noncomputable def e__strings_Builder_WriteString : Entry := ⟨Ds.mk [Vd.one (Ld.ptr (0) (0)), Vd.one (Ld.im T.str)] [Od.blk (82) [Ld.mp (0) (0), Ld.own (1)], Od.arr (5) (T.int IntKind.u8)], Ds.mk [Vd.one (Ld.im (T.int IntKind.i64)), Vd.one Ld.ni] [Od.blk (82) [Ld.mp (0) (0), Ld.own (2)], Od.gone, Od.arr (5) (T.int IntKind.u8)], fun x => p__strings_Builder_WriteString x.1 x.2⟩
noncomputable def c__strings_Builder_WriteString : Cx := ⟨Tryd.prog, [(65, e_Builder_copyCheck)], [], [], [], [], 2, 19, [(76, 0), (83, 1)], fun _ _ _ => none⟩
theorem q__strings_Builder_WriteString (x : HL (e__strings_Builder_WriteString).pre.ts) : runF (c__strings_Builder_WriteString) 0 Tryd.f52 (e__strings_Builder_WriteString).pre (e__strings_Builder_WriteString).post x = (e__strings_Builder_WriteString).fn x := by kernel_rfl
theorem s__strings_Builder_WriteString : Entry.Sound Tryd.prog 52 (e__strings_Builder_WriteString) := runF_sound (X := c__strings_Builder_WriteString) (pre := (e__strings_Builder_WriteString).pre) (post := (e__strings_Builder_WriteString).post) (q := (e__strings_Builder_WriteString).fn) ⟨(dOk_cons (s_Builder_copyCheck) dOk_nil), x_ext, x_mo⟩ Tryd.func52 (q__strings_Builder_WriteString)

/- dormouse/cmd.Print: function 32 -/
noncomputable def p_cmd_Print.j0 (k : Nat) (x1029 : List Int) : Option (List UInt8 × Int) :=
  Option.bind (p_Builder_String x1029) fun t1030 => some (t1030, (0 : Int))
noncomputable def p_cmd_Print.b1 (k : Nat) (j1031 : List Int → Option (List UInt8 × Int)) (rec1027 : List (Int × Vector Int (32) × List UInt8) × Int × Int × List Int → Option (List UInt8 × Int)) (x1019 : List (Int × Vector Int (32) × List UInt8)) (x1020 : Int) (x1021 : Int) (x1022 : List Int) : Option (List UInt8 × Int) :=
  bif (decide (x1021 < x1020)) then need ((0 : Int) ≤ x1021 ∧ x1021 < (↑(List.length x1019) : Int)) (Option.bind (p_cmd_Text k (Prod.fst (at_ (dflt (T.pair (T.int IntKind.i64) (T.pair (T.arr (32) (T.int IntKind.u8)) T.str))) x1019 x1021), Prod.fst (Prod.snd (at_ (dflt (T.pair (T.int IntKind.i64) (T.pair (T.arr (32) (T.int IntKind.u8)) T.str))) x1019 x1021)), Prod.snd (Prod.snd (at_ (dflt (T.pair (T.int IntKind.i64) (T.pair (T.arr (32) (T.int IntKind.u8)) T.str))) x1019 x1021)))) fun t1024 => bif (Prod.snd t1024 != (0 : Int)) then some ([], Prod.snd t1024) else Option.bind (p__strings_Builder_WriteString (Prod.fst t1024) x1022) fun t1025 => Option.bind (p__strings_Builder_WriteString [(10 : UInt8)] (Prod.snd t1025)) fun t1026 => rec1027 (x1019, x1020, IntKind.wrap IntKind.i64 (x1021 + (1 : Int)), Prod.snd t1026)) else j1031 x1022
noncomputable def p_cmd_Print (k : Nat) (x1018 : List (Int × Vector Int (32) × List UInt8)) : Option (List UInt8 × Int) :=
  joinC (p_cmd_Print.j0 k) fun (j1031 : List Int → Option (List UInt8 × Int)) => loopC (fun (r : List (Int × Vector Int (32) × List UInt8) × Int × Int × List Int → Option (List UInt8 × Int)) y => p_cmd_Print.b1 k j1031 r y.1 y.2.1 y.2.2.1 y.2.2.2) k (x1018, (↑(List.length x1018) : Int), (0 : Int), [])
noncomputable def e_cmd_Print (k : Nat) : Entry := ⟨Ds.mk [Vd.one (Ld.im (T.sl (T.pair (T.int IntKind.i64) (T.pair (T.arr (32) (T.int IntKind.u8)) T.str))))] [], Ds.mk [Vd.one (Ld.im T.str), Vd.one (Ld.im (T.int IntKind.i64))] [], fun x => p_cmd_Print k x⟩
noncomputable def c_cmd_Print (k : Nat) : Cx := ⟨Tryd.prog, [(22, e_cmd_Text k), (52, e__strings_Builder_WriteString), (53, e_Builder_String)], [(11, Sd.mk [4] (Ds.mk [Vd.one (Ld.ptr (0) (0))] [Od.blk (82) [Ld.mp (0) (0), Ld.own (1)], Od.arr (5) (T.int IntKind.u8)]))], [], [(3, Sd.mk [4, 9, 10, 11] (Ds.mk [Vd.one (Ld.ptr (0) (0)), Vd.one (Ld.im (T.sl (T.pair (T.int IntKind.i64) (T.pair (T.arr (32) (T.int IntKind.u8)) T.str)))), Vd.one (Ld.im (T.int IntKind.i64)), Vd.one (Ld.im (T.int IntKind.i64))] [Od.blk (82) [Ld.mp (0) (0), Ld.own (1)], Od.arr (5) (T.int IntKind.u8)]))], [], 0, 28, [(76, 0), (83, 1)], fun _ _ _ => none⟩
theorem q_cmd_Print (k : Nat) (x : HL (e_cmd_Print k).pre.ts) : runF (c_cmd_Print k) k Tryd.f32 (e_cmd_Print k).pre (e_cmd_Print k).post x = (e_cmd_Print k).fn x := by kernel_rfl
theorem s_cmd_Print (k : Nat) : Entry.Sound Tryd.prog 32 (e_cmd_Print k) := runF_sound (X := c_cmd_Print k) (pre := (e_cmd_Print k).pre) (post := (e_cmd_Print k).post) (q := (e_cmd_Print k).fn) ⟨(dOk_cons (s_cmd_Text k) (dOk_cons (s__strings_Builder_WriteString) (dOk_cons (s_Builder_String) dOk_nil))), x_ext, x_mo⟩ Tryd.func32 (q_cmd_Print k)

/- dormouse/dormouseref38.Lines: function 54 -/
noncomputable def p_dormouseref38_Lines.j0 (k : Nat) (x1151 : List (List UInt8)) (x1152 : List Int) : Option (List (List UInt8) × List Int) :=
  some (x1151, x1152)
noncomputable def p_dormouseref38_Lines.j2 (k : Nat) (rec1149 : List UInt8 × List UInt8 × Int × Int × List (List UInt8) × List Int → Option (List (List UInt8) × List Int)) (x1141 : List UInt8) (x1142 : List UInt8) (x1143 : Int) (x1144 : Int) (x1145 : List (List UInt8)) (x1146 : List Int) : Option (List (List UInt8) × List Int) :=
  rec1149 (x1141, x1142, x1143, IntKind.wrap IntKind.i64 (x1144 + (1 : Int)), x1145, x1146)
noncomputable def p_dormouseref38_Lines.j4 (k : Nat) (j1147 : List UInt8 × List UInt8 × Int × Int × List (List UInt8) × List Int → Option (List (List UInt8) × List Int)) (x1134 : List UInt8) (x1135 : Int) (x1136 : Int) (x1137 : List (List UInt8)) (x1138 : List Int) : Option (List (List UInt8) × List Int) :=
  j1147 (x1134, [], IntKind.wrap IntKind.i64 (x1135 + (1 : Int)), x1136, x1137, x1138)
noncomputable def p_dormouseref38_Lines.j3 (k : Nat) (j1147 : List UInt8 × List UInt8 × Int × Int × List (List UInt8) × List Int → Option (List (List UInt8) × List Int)) (x1121 : List UInt8) (x1122 : List UInt8) (x1123 : Int) (x1124 : Int) (x1125 : Bool) (x1126 : List (List UInt8)) (x1127 : List Int) : Option (List (List UInt8) × List Int) :=
  bif x1125 then need ((0 : Int) ≤ x1124 ∧ x1124 ≤ IntKind.wrap IntKind.i64 (x1124 + (1 : Int)) ∧ IntKind.wrap IntKind.i64 (x1124 + (1 : Int)) ≤ (↑(List.length x1121) : Int)) (need (List.length x1122 + List.length (sub_ x1121 x1124 (IntKind.wrap IntKind.i64 (x1124 + (1 : Int)))) ≤ (9223372036854775807 : Nat)) (j1147 (x1121, x1122 ++ sub_ x1121 x1124 (IntKind.wrap IntKind.i64 (x1124 + (1 : Int))), x1123, x1124, x1126, x1127))) else joinC (fun (y : List UInt8 × Int × Int × List (List UInt8) × List Int) => p_dormouseref38_Lines.j4 k j1147 y.1 y.2.1 y.2.2.1 y.2.2.2.1 y.2.2.2.2) fun (j1139 : List UInt8 × Int × Int × List (List UInt8) × List Int → Option (List (List UInt8) × List Int)) => bif (!x1122 == []) then need ((List.length x1126 + List.length [x1122]) * Go.TypeInfo.bytes (Go.Tables.types (Go.Program.toTables Go.Proofs.Tryd.prog))[(9 : Nat)] ≤ (140737488355328 : Nat)) (need ((List.length x1127 + List.length [x1123]) * Go.TypeInfo.bytes (Go.Tables.types (Go.Program.toTables Go.Proofs.Tryd.prog))[(3 : Nat)] ≤ (140737488355328 : Nat)) (j1139 (x1121, x1123, x1124, x1126 ++ [x1122], x1127 ++ [x1123]))) else j1139 (x1121, x1123, x1124, x1126, x1127)
noncomputable def p_dormouseref38_Lines.b1 (k : Nat) (j1153 : List (List UInt8) × List Int → Option (List (List UInt8) × List Int)) (rec1149 : List UInt8 × List UInt8 × Int × Int × List (List UInt8) × List Int → Option (List (List UInt8) × List Int)) (x1114 : List UInt8) (x1115 : List UInt8) (x1116 : Int) (x1117 : Int) (x1118 : List (List UInt8)) (x1119 : List Int) : Option (List (List UInt8) × List Int) :=
  bif (decide (x1117 ≤ (↑(List.length x1114) : Int))) then joinC (fun (y : List UInt8 × List UInt8 × Int × Int × List (List UInt8) × List Int) => p_dormouseref38_Lines.j2 k rec1149 y.1 y.2.1 y.2.2.1 y.2.2.2.1 y.2.2.2.2.1 y.2.2.2.2.2) fun (j1147 : List UInt8 × List UInt8 × Int × Int × List (List UInt8) × List Int → Option (List (List UInt8) × List Int)) => joinC (fun (y : List UInt8 × List UInt8 × Int × Int × Bool × List (List UInt8) × List Int) => p_dormouseref38_Lines.j3 k j1147 y.1 y.2.1 y.2.2.1 y.2.2.2.1 y.2.2.2.2.1 y.2.2.2.2.2.1 y.2.2.2.2.2.2) fun (j1128 : List UInt8 × List UInt8 × Int × Int × Bool × List (List UInt8) × List Int → Option (List (List UInt8) × List Int)) => bif (decide (x1117 < (↑(List.length x1114) : Int))) then need ((0 : Int) ≤ x1117 ∧ x1117 < (↑(List.length x1114) : Int)) (j1128 (x1114, x1115, x1116, x1117, bat x1114 x1117 != (10 : Int), x1118, x1119)) else j1128 (x1114, x1115, x1116, x1117, Bool.false, x1118, x1119) else j1153 (x1118, x1119)
noncomputable def p_dormouseref38_Lines (k : Nat) (x1113 : List UInt8) : Option (List (List UInt8) × List Int) :=
  joinC (fun (y : List (List UInt8) × List Int) => p_dormouseref38_Lines.j0 k y.1 y.2) fun (j1153 : List (List UInt8) × List Int → Option (List (List UInt8) × List Int)) => loopC (fun (r : List UInt8 × List UInt8 × Int × Int × List (List UInt8) × List Int → Option (List (List UInt8) × List Int)) y => p_dormouseref38_Lines.b1 k j1153 r y.1 y.2.1 y.2.2.1 y.2.2.2.1 y.2.2.2.2.1 y.2.2.2.2.2) k (x1113, [], (1 : Int), (0 : Int), [], [])
noncomputable def e_dormouseref38_Lines (k : Nat) : Entry := ⟨Ds.mk [Vd.one (Ld.im T.str)] [], Ds.mk [Vd.one (Ld.own (0)), Vd.one (Ld.own (1))] [Od.arr (9) T.str, Od.arr (3) (T.int IntKind.i64)], fun x => p_dormouseref38_Lines k x⟩
noncomputable def c_dormouseref38_Lines (k : Nat) : Cx := ⟨Tryd.prog, [], [(13, Sd.mk [0, 4, 5, 7, 8] (Ds.mk [Vd.one (Ld.im T.str), Vd.one (Ld.own (0)), Vd.one (Ld.own (1)), Vd.one (Ld.im (T.int IntKind.i64)), Vd.one (Ld.im (T.int IntKind.i64))] [Od.arr (9) T.str, Od.arr (3) (T.int IntKind.i64)])), (7, Sd.mk [0, 4, 5, 6, 7, 8] (Ds.mk [Vd.one (Ld.im T.str), Vd.one (Ld.own (0)), Vd.one (Ld.own (1)), Vd.one (Ld.im T.str), Vd.one (Ld.im (T.int IntKind.i64)), Vd.one (Ld.im (T.int IntKind.i64))] [Od.arr (9) T.str, Od.arr (3) (T.int IntKind.i64)])), (15, Sd.mk [4, 5] (Ds.mk [Vd.one (Ld.own (0)), Vd.one (Ld.own (1))] [Od.arr (9) T.str, Od.arr (3) (T.int IntKind.i64)]))], [(8, Sd.mk [0, 4, 5, 6, 7, 8, 24] (Ds.mk [Vd.one (Ld.im T.str), Vd.one (Ld.own (0)), Vd.one (Ld.own (1)), Vd.one (Ld.im T.str), Vd.one (Ld.im (T.int IntKind.i64)), Vd.one (Ld.im (T.int IntKind.i64)), Vd.one (Ld.im T.bool)] [Od.arr (9) T.str, Od.arr (3) (T.int IntKind.i64)]))], [(6, Sd.mk [0, 4, 5, 6, 7, 8] (Ds.mk [Vd.one (Ld.im T.str), Vd.one (Ld.own (0)), Vd.one (Ld.own (1)), Vd.one (Ld.im T.str), Vd.one (Ld.im (T.int IntKind.i64)), Vd.one (Ld.im (T.int IntKind.i64))] [Od.arr (9) T.str, Od.arr (3) (T.int IntKind.i64)]))], [], 0, 46, [(76, 0), (83, 1)], fun _ _ _ => none⟩
theorem q_dormouseref38_Lines (k : Nat) (x : HL (e_dormouseref38_Lines k).pre.ts) : runF (c_dormouseref38_Lines k) k Tryd.f54 (e_dormouseref38_Lines k).pre (e_dormouseref38_Lines k).post x = (e_dormouseref38_Lines k).fn x := by kernel_rfl
theorem s_dormouseref38_Lines (k : Nat) : Entry.Sound Tryd.prog 54 (e_dormouseref38_Lines k) := runF_sound (X := c_dormouseref38_Lines k) (pre := (e_dormouseref38_Lines k).pre) (post := (e_dormouseref38_Lines k).post) (q := (e_dormouseref38_Lines k).fn) ⟨dOk_nil, x_ext, x_mo⟩ Tryd.func54 (q_dormouseref38_Lines k)

/- dormouse/dormouselaw38.read: function 34 -/
noncomputable def p_dormouselaw38_read.j1 (k : Nat) (x1224 : Bool) : Option Bool :=
  some x1224
noncomputable def p_dormouselaw38_read.j0 (k : Nat) (x1220 : Int) (x1221 : Int) (x1222 : List (Int × Vector Int (32) × List UInt8)) (x1223 : List (List UInt8)) : Option Bool :=
  joinC (p_dormouselaw38_read.j1 k) fun (j1225 : Bool → Option Bool) => bif (x1221 == (0 : Int)) then bif (x1220 == (0 : Int)) then j1225 ((↑(List.length x1222) : Int) == (↑(List.length x1223) : Int)) else j1225 Bool.false else j1225 Bool.false
noncomputable def p_dormouselaw38_read.j3 (k : Nat) (x1205 : Bool) : Option Bool :=
  some x1205
noncomputable def p_dormouselaw38_read.j4 (k : Nat) (rec1218 : Int × Int × Int × List (Int × Vector Int (32) × List UInt8) × List (List UInt8) × List Int → Option Bool) (x1209 : Int) (x1210 : Int) (x1211 : Int) (x1212 : Bool) (x1213 : List (Int × Vector Int (32) × List UInt8)) (x1214 : List (List UInt8)) (x1215 : List Int) : Option Bool :=
  bif x1212 then some Bool.false else rec1218 (x1209, x1210, IntKind.wrap IntKind.i64 (x1211 + (1 : Int)), x1213, x1214, x1215)
noncomputable def p_dormouselaw38_read.b2 (k : Nat) (j1227 : Int × Int × List (Int × Vector Int (32) × List UInt8) × List (List UInt8) → Option Bool) (rec1218 : Int × Int × Int × List (Int × Vector Int (32) × List UInt8) × List (List UInt8) × List Int → Option Bool) (x1196 : Int) (x1197 : Int) (x1198 : Int) (x1199 : List (Int × Vector Int (32) × List UInt8)) (x1200 : List (List UInt8)) (x1201 : List Int) : Option Bool :=
  bif (decide (x1198 < (↑(List.length x1200) : Int))) then need ((0 : Int) ≤ x1198 ∧ x1198 < (↑(List.length x1200) : Int)) (Option.bind (p_cmd_Parse k (at_ (dflt T.str) x1200 x1198)) fun t1203 => bif (Prod.snd t1203 != (0 : Int)) then joinC (p_dormouselaw38_read.j3 k) fun (j1206 : Bool → Option Bool) => bif ((↑(List.length x1199) : Int) == (0 : Int)) then need ((0 : Int) ≤ x1198 ∧ x1198 < (↑(List.length x1201) : Int)) (bif (x1196 == at_ (dflt (T.int IntKind.i64)) x1201 x1198) then j1206 (x1197 == Prod.snd t1203) else j1206 Bool.false) else j1206 Bool.false else joinC (fun (y : Int × Int × Int × Bool × List (Int × Vector Int (32) × List UInt8) × List (List UInt8) × List Int) => p_dormouselaw38_read.j4 k rec1218 y.1 y.2.1 y.2.2.1 y.2.2.2.1 y.2.2.2.2.1 y.2.2.2.2.2.1 y.2.2.2.2.2.2) fun (j1216 : Int × Int × Int × Bool × List (Int × Vector Int (32) × List UInt8) × List (List UInt8) × List Int → Option Bool) => bif (x1197 == (0 : Int)) then bif (decide (x1198 ≥ (↑(List.length x1199) : Int))) then j1216 (x1196, x1197, x1198, Bool.true, x1199, x1200, x1201) else need ((0 : Int) ≤ x1198 ∧ x1198 < (↑(List.length x1199) : Int)) (j1216 (x1196, x1197, x1198, !(Prod.fst (at_ (dflt (T.pair (T.int IntKind.i64) (T.pair (T.arr (32) (T.int IntKind.u8)) T.str))) x1199 x1198) == Prod.fst (Prod.fst t1203) && (decide (Prod.fst (Prod.snd (at_ (dflt (T.pair (T.int IntKind.i64) (T.pair (T.arr (32) (T.int IntKind.u8)) T.str))) x1199 x1198)) = Prod.fst (Prod.snd (Prod.fst t1203))) && (Prod.snd (Prod.snd (at_ (dflt (T.pair (T.int IntKind.i64) (T.pair (T.arr (32) (T.int IntKind.u8)) T.str))) x1199 x1198)) == Prod.snd (Prod.snd (Prod.fst t1203)) && Bool.true))), x1199, x1200, x1201)) else j1216 (x1196, x1197, x1198, Bool.false, x1199, x1200, x1201)) else j1227 (x1196, x1197, x1199, x1200)
noncomputable def p_dormouselaw38_read (k : Nat) (x1193 : List UInt8) : Option Bool :=
  Option.bind (p_cmd_All k x1193) fun t1194 => Option.bind (p_dormouseref38_Lines k x1193) fun t1195 => joinC (fun (y : Int × Int × List (Int × Vector Int (32) × List UInt8) × List (List UInt8)) => p_dormouselaw38_read.j0 k y.1 y.2.1 y.2.2.1 y.2.2.2) fun (j1227 : Int × Int × List (Int × Vector Int (32) × List UInt8) × List (List UInt8) → Option Bool) => loopC (fun (r : Int × Int × Int × List (Int × Vector Int (32) × List UInt8) × List (List UInt8) × List Int → Option Bool) y => p_dormouselaw38_read.b2 k j1227 r y.1 y.2.1 y.2.2.1 y.2.2.2.1 y.2.2.2.2.1 y.2.2.2.2.2) k (Prod.fst t1194, Prod.fst (Prod.snd t1194), (0 : Int), Prod.snd (Prod.snd t1194), Prod.fst t1195, Prod.snd t1195)
noncomputable def e_dormouselaw38_read (k : Nat) : Entry := ⟨Ds.mk [Vd.one (Ld.im T.str)] [], Ds.mk [Vd.one (Ld.im T.bool)] [], fun x => p_dormouselaw38_read k x⟩
noncomputable def c_dormouselaw38_read (k : Nat) : Cx := ⟨Tryd.prog, [(25, e_cmd_Parse k), (33, e_cmd_All k), (54, e_dormouseref38_Lines k)], [(11, Sd.mk [3, 4, 5, 6] (Ds.mk [Vd.one (Ld.own (0)), Vd.one (Ld.im (T.int IntKind.i64)), Vd.one (Ld.im (T.int IntKind.i64)), Vd.one (Ld.own (1))] [Od.arr (45) (T.pair (T.int IntKind.i64) (T.pair (T.arr (32) (T.int IntKind.u8)) T.str)), Od.arr (9) T.str]))], [(8, Sd.mk [2] (Ds.mk [Vd.one (Ld.im T.bool)] [])), (9, Sd.mk [3, 4, 5, 6, 7, 8, 69] (Ds.mk [Vd.one (Ld.own (0)), Vd.one (Ld.im (T.int IntKind.i64)), Vd.one (Ld.im (T.int IntKind.i64)), Vd.one (Ld.own (1)), Vd.one (Ld.own (2)), Vd.one (Ld.im (T.int IntKind.i64)), Vd.one (Ld.im T.bool)] [Od.arr (45) (T.pair (T.int IntKind.i64) (T.pair (T.arr (32) (T.int IntKind.u8)) T.str)), Od.arr (9) T.str, Od.arr (3) (T.int IntKind.i64)])), (11, Sd.mk [2] (Ds.mk [Vd.one (Ld.im T.bool)] []))], [(4, Sd.mk [3, 4, 5, 6, 7, 8] (Ds.mk [Vd.one (Ld.own (0)), Vd.one (Ld.im (T.int IntKind.i64)), Vd.one (Ld.im (T.int IntKind.i64)), Vd.one (Ld.own (1)), Vd.one (Ld.own (2)), Vd.one (Ld.im (T.int IntKind.i64))] [Od.arr (45) (T.pair (T.int IntKind.i64) (T.pair (T.arr (32) (T.int IntKind.u8)) T.str)), Od.arr (9) T.str, Od.arr (3) (T.int IntKind.i64)]))], [(9, ([(0, 2), (1, 2), (2, 2), (3, 2), (4, 2), (5, 2), (6, 2), (7, 2), (8, 2), (9, 2), (10, 2), (11, 1), (12, 1), (13, 2), (14, 2), (15, 2)], [], []))], 0, 83, [(76, 0), (83, 1)], fun _ _ _ => none⟩
theorem q_dormouselaw38_read (k : Nat) (x : HL (e_dormouselaw38_read k).pre.ts) : runF (c_dormouselaw38_read k) k Tryd.f34 (e_dormouselaw38_read k).pre (e_dormouselaw38_read k).post x = (e_dormouselaw38_read k).fn x := by kernel_rfl
theorem s_dormouselaw38_read (k : Nat) : Entry.Sound Tryd.prog 34 (e_dormouselaw38_read k) := runF_sound (X := c_dormouselaw38_read k) (pre := (e_dormouselaw38_read k).pre) (post := (e_dormouselaw38_read k).post) (q := (e_dormouselaw38_read k).fn) ⟨(dOk_cons (s_cmd_Parse k) (dOk_cons (s_cmd_All k) (dOk_cons (s_dormouseref38_Lines k) dOk_nil))), x_ext, x_mo⟩ Tryd.func34 (q_dormouselaw38_read k)

/- dormouse/dormouselaw38.CmdAll: function 9 -/
noncomputable def p_dormouselaw38_CmdAll.j5 (k : Nat) (x1390 : Bool) : Option Bool :=
  some x1390
noncomputable def p_dormouselaw38_CmdAll.j4 (k : Nat) (x1387 : List UInt8) : Option Bool :=
  joinC (p_dormouselaw38_CmdAll.j5 k) fun (j1391 : Bool → Option Bool) => Option.bind (p_dormouselaw38_awake k) fun t1388 => bif t1388 then Option.bind (p_dormouselaw38_read k x1387) fun t1389 => j1391 t1389 else j1391 Bool.false
noncomputable def p_dormouselaw38_CmdAll.j7 (k : Nat) (rec1385 : List (Int × Vector Int (32) × List UInt8) × List UInt8 × Bool × Int × List (Int × Vector Int (32) × List UInt8) → Option Bool) (j1393 : List UInt8 → Option Bool) (x1375 : List (Int × Vector Int (32) × List UInt8)) (x1376 : List UInt8) (x1377 : Bool) (x1378 : Int) (x1379 : Bool) (x1380 : List (Int × Vector Int (32) × List UInt8)) : Option Bool :=
  bif x1379 then need ((0 : Int) ≤ x1378 ∧ x1378 < (↑(List.length x1380) : Int)) (need ((0 : Int) ≤ x1378 ∧ x1378 < (↑(List.length x1375) : Int)) (bif (!(Prod.fst (at_ (dflt (T.pair (T.int IntKind.i64) (T.pair (T.arr (32) (T.int IntKind.u8)) T.str))) x1380 x1378) == Prod.fst (at_ (dflt (T.pair (T.int IntKind.i64) (T.pair (T.arr (32) (T.int IntKind.u8)) T.str))) x1375 x1378) && (decide (Prod.fst (Prod.snd (at_ (dflt (T.pair (T.int IntKind.i64) (T.pair (T.arr (32) (T.int IntKind.u8)) T.str))) x1380 x1378)) = Prod.fst (Prod.snd (at_ (dflt (T.pair (T.int IntKind.i64) (T.pair (T.arr (32) (T.int IntKind.u8)) T.str))) x1375 x1378))) && (Prod.snd (Prod.snd (at_ (dflt (T.pair (T.int IntKind.i64) (T.pair (T.arr (32) (T.int IntKind.u8)) T.str))) x1380 x1378)) == Prod.snd (Prod.snd (at_ (dflt (T.pair (T.int IntKind.i64) (T.pair (T.arr (32) (T.int IntKind.u8)) T.str))) x1375 x1378)) && Bool.true)))) then some Bool.false else rec1385 (x1375, x1376, x1377, IntKind.wrap IntKind.i64 (x1378 + (1 : Int)), x1380))) else j1393 x1376
noncomputable def p_dormouselaw38_CmdAll.b6 (k : Nat) (j1393 : List UInt8 → Option Bool) (rec1385 : List (Int × Vector Int (32) × List UInt8) × List UInt8 × Bool × Int × List (Int × Vector Int (32) × List UInt8) → Option Bool) (x1370 : List (Int × Vector Int (32) × List UInt8)) (x1371 : List UInt8) (x1372 : Bool) (x1373 : Int) (x1374 : List (Int × Vector Int (32) × List UInt8)) : Option Bool :=
  joinC (fun (y : List (Int × Vector Int (32) × List UInt8) × List UInt8 × Bool × Int × Bool × List (Int × Vector Int (32) × List UInt8)) => p_dormouselaw38_CmdAll.j7 k rec1385 j1393 y.1 y.2.1 y.2.2.1 y.2.2.2.1 y.2.2.2.2.1 y.2.2.2.2.2) fun (j1381 : List (Int × Vector Int (32) × List UInt8) × List UInt8 × Bool × Int × Bool × List (Int × Vector Int (32) × List UInt8) → Option Bool) => bif (decide (x1373 < (↑(List.length x1374) : Int))) then j1381 (x1370, x1371, x1372, x1373, !x1372, x1374) else j1381 (x1370, x1371, x1372, x1373, Bool.false, x1374)
noncomputable def p_dormouselaw38_CmdAll.j3 (k : Nat) (x1363 : List (Int × Vector Int (32) × List UInt8)) (x1364 : List UInt8) (x1365 : Bool) (x1366 : Bool) (x1367 : List (Int × Vector Int (32) × List UInt8)) : Option Bool :=
  bif x1366 then some Bool.false else joinC (p_dormouselaw38_CmdAll.j4 k) fun (j1393 : List UInt8 → Option Bool) => loopC (fun (r : List (Int × Vector Int (32) × List UInt8) × List UInt8 × Bool × Int × List (Int × Vector Int (32) × List UInt8) → Option Bool) y => p_dormouselaw38_CmdAll.b6 k j1393 r y.1 y.2.1 y.2.2.1 y.2.2.2.1 y.2.2.2.2) k (x1363, x1364, x1365, (0 : Int), x1367)
noncomputable def p_dormouselaw38_CmdAll.j2 (k : Nat) (x1355 : List (Int × Vector Int (32) × List UInt8)) (x1356 : List UInt8) (x1357 : Bool) (x1358 : List UInt8) (x1359 : Bool) : Option Bool :=
  bif x1359 then some Bool.false else Option.bind (p_cmd_All k x1358) fun t1362 => joinC (fun (y : List (Int × Vector Int (32) × List UInt8) × List UInt8 × Bool × Bool × List (Int × Vector Int (32) × List UInt8)) => p_dormouselaw38_CmdAll.j3 k y.1 y.2.1 y.2.2.1 y.2.2.2.1 y.2.2.2.2) fun (j1368 : List (Int × Vector Int (32) × List UInt8) × List UInt8 × Bool × Bool × List (Int × Vector Int (32) × List UInt8) → Option Bool) => bif !x1357 then bif (Prod.fst (Prod.snd t1362) != (0 : Int)) then j1368 (x1355, x1356, x1357, Bool.true, Prod.snd (Prod.snd t1362)) else bif (Prod.fst t1362 != (0 : Int)) then j1368 (x1355, x1356, x1357, Bool.true, Prod.snd (Prod.snd t1362)) else j1368 (x1355, x1356, x1357, (↑(List.length (Prod.snd (Prod.snd t1362))) : Int) != (↑(List.length x1355) : Int), Prod.snd (Prod.snd t1362)) else j1368 (x1355, x1356, x1357, Bool.false, Prod.snd (Prod.snd t1362))
noncomputable def p_dormouselaw38_CmdAll.j1 (k : Nat) (x1350 : List (Int × Vector Int (32) × List UInt8)) (x1351 : List UInt8) (x1352 : List UInt8) (x1353 : Bool) : Option Bool :=
  Option.bind (p_cmd_Print k x1350) fun t1354 => joinC (fun (y : List (Int × Vector Int (32) × List UInt8) × List UInt8 × Bool × List UInt8 × Bool) => p_dormouselaw38_CmdAll.j2 k y.1 y.2.1 y.2.2.1 y.2.2.2.1 y.2.2.2.2) fun (j1360 : List (Int × Vector Int (32) × List UInt8) × List UInt8 × Bool × List UInt8 × Bool → Option Bool) => bif (!x1353 == (Prod.snd t1354 == (2 : Int))) then j1360 (x1350, x1351, x1353, Prod.fst t1354, Bool.true) else bif !x1353 then bif (Prod.snd t1354 != (0 : Int)) then j1360 (x1350, x1351, x1353, Prod.fst t1354, Bool.true) else j1360 (x1350, x1351, x1353, Prod.fst t1354, !Prod.fst t1354 == x1352) else j1360 (x1350, x1351, x1353, Prod.fst t1354, Bool.false)
noncomputable def p_dormouselaw38_CmdAll.j9 (k : Nat) (rec1348 : List (Int × Vector Int (32) × List UInt8) × List UInt8 × List UInt8 × Bool × Int → Option Bool) (x1341 : List (Int × Vector Int (32) × List UInt8)) (x1342 : List UInt8) (x1343 : List UInt8) (x1344 : Bool) (x1345 : Int) : Option Bool :=
  rec1348 (x1341, x1342, x1343, x1344, IntKind.wrap IntKind.i64 (x1345 + (1 : Int)))
noncomputable def p_dormouselaw38_CmdAll.j10 (k : Nat) (j1346 : List (Int × Vector Int (32) × List UInt8) × List UInt8 × List UInt8 × Bool × Int → Option Bool) (x1330 : List (Int × Vector Int (32) × List UInt8)) (x1331 : List UInt8) (x1332 : List UInt8) (x1333 : Bool) (x1334 : Int) : Option Bool :=
  bif !x1333 then need ((0 : Int) ≤ x1334 ∧ x1334 < (↑(List.length x1330) : Int)) (Option.bind (p_dormouseref38_Line k (Prod.fst (at_ (dflt (T.pair (T.int IntKind.i64) (T.pair (T.arr (32) (T.int IntKind.u8)) T.str))) x1330 x1334), Prod.fst (Prod.snd (at_ (dflt (T.pair (T.int IntKind.i64) (T.pair (T.arr (32) (T.int IntKind.u8)) T.str))) x1330 x1334)), Prod.snd (Prod.snd (at_ (dflt (T.pair (T.int IntKind.i64) (T.pair (T.arr (32) (T.int IntKind.u8)) T.str))) x1330 x1334)))) fun t1338 => need (List.length x1332 + List.length t1338 ≤ (9223372036854775807 : Nat)) (need (List.length (x1332 ++ t1338) + 1 ≤ (9223372036854775807 : Nat)) (j1346 (x1330, x1331, x1332 ++ t1338 ++ [(10 : UInt8)], x1333, x1334)))) else j1346 (x1330, x1331, x1332, x1333, x1334)
noncomputable def p_dormouselaw38_CmdAll.b8 (k : Nat) (j1395 : List (Int × Vector Int (32) × List UInt8) × List UInt8 × List UInt8 × Bool → Option Bool) (rec1348 : List (Int × Vector Int (32) × List UInt8) × List UInt8 × List UInt8 × Bool × Int → Option Bool) (x1323 : List (Int × Vector Int (32) × List UInt8)) (x1324 : List UInt8) (x1325 : List UInt8) (x1326 : Bool) (x1327 : Int) : Option Bool :=
  bif (decide (x1327 < (↑(List.length x1323) : Int))) then joinC (fun (y : List (Int × Vector Int (32) × List UInt8) × List UInt8 × List UInt8 × Bool × Int) => p_dormouselaw38_CmdAll.j9 k rec1348 y.1 y.2.1 y.2.2.1 y.2.2.2.1 y.2.2.2.2) fun (j1346 : List (Int × Vector Int (32) × List UInt8) × List UInt8 × List UInt8 × Bool × Int → Option Bool) => joinC (fun (y : List (Int × Vector Int (32) × List UInt8) × List UInt8 × List UInt8 × Bool × Int) => p_dormouselaw38_CmdAll.j10 k j1346 y.1 y.2.1 y.2.2.1 y.2.2.2.1 y.2.2.2.2) fun (j1335 : List (Int × Vector Int (32) × List UInt8) × List UInt8 × List UInt8 × Bool × Int → Option Bool) => bif x1326 then j1335 (x1323, x1324, x1325, Bool.true, x1327) else need ((0 : Int) ≤ x1327 ∧ x1327 < (↑(List.length x1323) : Int)) (Option.bind (p_dormouseref38_May (Prod.fst (at_ (dflt (T.pair (T.int IntKind.i64) (T.pair (T.arr (32) (T.int IntKind.u8)) T.str))) x1323 x1327), Prod.fst (Prod.snd (at_ (dflt (T.pair (T.int IntKind.i64) (T.pair (T.arr (32) (T.int IntKind.u8)) T.str))) x1323 x1327)), Prod.snd (Prod.snd (at_ (dflt (T.pair (T.int IntKind.i64) (T.pair (T.arr (32) (T.int IntKind.u8)) T.str))) x1323 x1327)))) fun t1329 => j1335 (x1323, x1324, x1325, !t1329, x1327)) else j1395 (x1323, x1324, x1325, x1326)
noncomputable def p_dormouselaw38_CmdAll.j0 (k : Nat) (x1317 : List (Int × Vector Int (32) × List UInt8)) (x1318 : List UInt8) (x1319 : Bool) : Option Bool :=
  bif x1319 then Option.bind (p_dormouselaw38_awake k) fun t1322 => some t1322 else joinC (fun (y : List (Int × Vector Int (32) × List UInt8) × List UInt8 × List UInt8 × Bool) => p_dormouselaw38_CmdAll.j1 k y.1 y.2.1 y.2.2.1 y.2.2.2) fun (j1395 : List (Int × Vector Int (32) × List UInt8) × List UInt8 × List UInt8 × Bool → Option Bool) => loopC (fun (r : List (Int × Vector Int (32) × List UInt8) × List UInt8 × List UInt8 × Bool × Int → Option Bool) y => p_dormouselaw38_CmdAll.b8 k j1395 r y.1 y.2.1 y.2.2.1 y.2.2.2.1 y.2.2.2.2) k (x1317, x1318, [], Bool.false, (0 : Int))
noncomputable def p_dormouselaw38_CmdAll (k : Nat) (x1314 : List (Int × Vector Int (32) × List UInt8)) (x1315 : List UInt8) : Option Bool :=
  joinC (fun (y : List (Int × Vector Int (32) × List UInt8) × List UInt8 × Bool) => p_dormouselaw38_CmdAll.j0 k y.1 y.2.1 y.2.2) fun (j1320 : List (Int × Vector Int (32) × List UInt8) × List UInt8 × Bool → Option Bool) => Option.bind (p_dormouselaw37_Light k x1314) fun t1316 => bif !t1316 then j1320 (x1314, x1315, Bool.true) else j1320 (x1314, x1315, decide ((↑(List.length x1315) : Int) > (600 : Int)))
noncomputable def e_dormouselaw38_CmdAll (k : Nat) : Entry := ⟨Ds.mk [Vd.one (Ld.im (T.sl (T.pair (T.int IntKind.i64) (T.pair (T.arr (32) (T.int IntKind.u8)) T.str)))), Vd.one (Ld.im T.str)] [], Ds.mk [Vd.one (Ld.im T.bool)] [], fun x => p_dormouselaw38_CmdAll k x.1 x.2⟩
noncomputable def c_dormouselaw38_CmdAll (k : Nat) : Cx := ⟨Tryd.prog, [(33, e_cmd_All k), (21, e_dormouselaw38_awake k), (23, e_dormouseref38_May), (26, e_dormouseref38_Line k), (31, e_dormouselaw37_Light k), (32, e_cmd_Print k), (34, e_dormouselaw38_read k)], [(7, Sd.mk [0, 1, 5, 6, 7] (Ds.mk [Vd.one (Ld.im (T.sl (T.pair (T.int IntKind.i64) (T.pair (T.arr (32) (T.int IntKind.u8)) T.str)))), Vd.one (Ld.im T.str), Vd.one (Ld.im T.str), Vd.one (Ld.im T.bool), Vd.one (Ld.im (T.int IntKind.i64))] [])), (11, Sd.mk [0, 1, 5, 6] (Ds.mk [Vd.one (Ld.im (T.sl (T.pair (T.int IntKind.i64) (T.pair (T.arr (32) (T.int IntKind.u8)) T.str)))), Vd.one (Ld.im T.str), Vd.one (Ld.im T.str), Vd.one (Ld.im T.bool)] [])), (22, Sd.mk [1] (Ds.mk [Vd.one (Ld.im T.str)] []))], [(1, Sd.mk [0, 1, 21] (Ds.mk [Vd.one (Ld.im (T.sl (T.pair (T.int IntKind.i64) (T.pair (T.arr (32) (T.int IntKind.u8)) T.str)))), Vd.one (Ld.im T.str), Vd.one (Ld.im T.bool)] [])), (8, Sd.mk [0, 1, 5, 6, 7] (Ds.mk [Vd.one (Ld.im (T.sl (T.pair (T.int IntKind.i64) (T.pair (T.arr (32) (T.int IntKind.u8)) T.str)))), Vd.one (Ld.im T.str), Vd.one (Ld.im T.str), Vd.one (Ld.im T.bool), Vd.one (Ld.im (T.int IntKind.i64))] [])), (12, Sd.mk [0, 1, 6, 8, 69] (Ds.mk [Vd.one (Ld.im (T.sl (T.pair (T.int IntKind.i64) (T.pair (T.arr (32) (T.int IntKind.u8)) T.str)))), Vd.one (Ld.im T.str), Vd.one (Ld.im T.bool), Vd.one (Ld.im T.str), Vd.one (Ld.im T.bool)] [])), (15, Sd.mk [0, 1, 6, 10, 92] (Ds.mk [Vd.one (Ld.im (T.sl (T.pair (T.int IntKind.i64) (T.pair (T.arr (32) (T.int IntKind.u8)) T.str)))), Vd.one (Ld.im T.str), Vd.one (Ld.im T.bool), Vd.one (Ld.own (0)), Vd.one (Ld.im T.bool)] [Od.arr (45) (T.pair (T.int IntKind.i64) (T.pair (T.arr (32) (T.int IntKind.u8)) T.str))])), (18, Sd.mk [0, 1, 6, 10, 13, 100] (Ds.mk [Vd.one (Ld.im (T.sl (T.pair (T.int IntKind.i64) (T.pair (T.arr (32) (T.int IntKind.u8)) T.str)))), Vd.one (Ld.im T.str), Vd.one (Ld.im T.bool), Vd.one (Ld.own (0)), Vd.one (Ld.im (T.int IntKind.i64)), Vd.one (Ld.im T.bool)] [Od.arr (45) (T.pair (T.int IntKind.i64) (T.pair (T.arr (32) (T.int IntKind.u8)) T.str))])), (22, Sd.mk [4] (Ds.mk [Vd.one (Ld.im T.bool)] []))], [(6, Sd.mk [0, 1, 5, 6, 7] (Ds.mk [Vd.one (Ld.im (T.sl (T.pair (T.int IntKind.i64) (T.pair (T.arr (32) (T.int IntKind.u8)) T.str)))), Vd.one (Ld.im T.str), Vd.one (Ld.im T.str), Vd.one (Ld.im T.bool), Vd.one (Ld.im (T.int IntKind.i64))] [])), (18, Sd.mk [0, 1, 6, 10, 13] (Ds.mk [Vd.one (Ld.im (T.sl (T.pair (T.int IntKind.i64) (T.pair (T.arr (32) (T.int IntKind.u8)) T.str)))), Vd.one (Ld.im T.str), Vd.one (Ld.im T.bool), Vd.one (Ld.own (0)), Vd.one (Ld.im (T.int IntKind.i64))] [Od.arr (45) (T.pair (T.int IntKind.i64) (T.pair (T.arr (32) (T.int IntKind.u8)) T.str))]))], [(20, ([(0, 2), (1, 2), (2, 2), (3, 1), (4, 2), (5, 2), (6, 2), (7, 1), (8, 2)], [], []))], 0, 117, [(76, 0), (83, 1)], fun _ _ _ => none⟩
theorem q_dormouselaw38_CmdAll (k : Nat) (x : HL (e_dormouselaw38_CmdAll k).pre.ts) : runF (c_dormouselaw38_CmdAll k) k Tryd.f9 (e_dormouselaw38_CmdAll k).pre (e_dormouselaw38_CmdAll k).post x = (e_dormouselaw38_CmdAll k).fn x := by kernel_rfl
theorem s_dormouselaw38_CmdAll (k : Nat) : Entry.Sound Tryd.prog 9 (e_dormouselaw38_CmdAll k) := runF_sound (X := c_dormouselaw38_CmdAll k) (pre := (e_dormouselaw38_CmdAll k).pre) (post := (e_dormouselaw38_CmdAll k).post) (q := (e_dormouselaw38_CmdAll k).fn) ⟨(dOk_cons (s_cmd_All k) (dOk_cons (s_dormouselaw38_awake k) (dOk_cons (s_dormouseref38_May) (dOk_cons (s_dormouseref38_Line k) (dOk_cons (s_dormouselaw37_Light k) (dOk_cons (s_cmd_Print k) (dOk_cons (s_dormouselaw38_read k) dOk_nil))))))), x_ext, x_mo⟩ Tryd.func9 (q_dormouselaw38_CmdAll k)
end
end Go.Dor
end

section
/- THE LAW OF BYTES AS DIGITS, plain. -/
set_option linter.unusedVariables false
set_option linter.unusedSimpArgs false
namespace Go.Dor
open Go.Proofs

set_option maxRecDepth 100000 in
theorem awake38 : p_dormouselaw38_awake 2000 = some true := by kernel_rfl
theorem ref38Hex_eq {k : Nat} {s : List UInt8} (hk : s.length < k) (hs : s.length < 100000) : p_dormouseref38_Hex k s = some (hexS s) := by
  unfold p_dormouseref38_Hex hexS
  by_cases h : s = []
  · subst h; rfl
  · have e : (s == []) = false := by simpa using h
    have := refHex_eq (k := k) (d := natsOf s) (by rw [natsOf_len]; exact hk) (by rw [natsOf_len]; omega) (natsOf_lt s)
    rw [byl_natsOf] at this
    rw [e, cond_false, this, if_neg h]
    rfl
theorem hexS_len (s : List UInt8) : (hexS s).length ≤ 1 + 2 * s.length := by
  unfold hexS
  split
  · simp
  · rw [hexL_len, natsOf_len]; omega
theorem bytR_hexS (s : List UInt8) : bytR (hexS s) = (s, true) := by
  unfold hexS
  by_cases h : s = []
  · subst h; rfl
  · rw [if_neg h]; exact bytR_hex h
theorem bytR_back (t : List UInt8) : ((bytR t).2 = true ∧ hexS (bytR t).1 = t) ∨ ((bytR t).2 = false ∧ (bytR t).1 = []) := by
  unfold bytR
  split
  · rename_i h; left; subst h; exact ⟨rfl, rfl⟩
  · split
    · right; exact ⟨rfl, rfl⟩
    · rename_i h1 h2
      left
      refine ⟨rfl, ?_⟩
      exact Classical.byContradiction fun h3 => h2 (Or.inr h3)
theorem law_CmdHex (s t : List UInt8) : p_dormouselaw38_CmdHex 2000 s t = some true := by
  unfold p_dormouselaw38_CmdHex joinC
  dsimp only
  have hj : ∀ a y, p_dormouselaw38_CmdHex.j0 2000 a y true = some true := by
    intro a y
    unfold p_dormouselaw38_CmdHex.j0
    rw [cond_true, awake38]; rfl
  by_cases h1 : ((s.length : Nat) : Int) > 300
  · rw [decide_eq_true h1, cond_true]; exact hj _ _
  · rw [decide_eq_false h1, cond_false]
    by_cases h2 : ((t.length : Nat) : Int) > 300
    · rw [decide_eq_true h2]; exact hj _ _
    · rw [decide_eq_false h2]
      have hl := hexS_len s
      have hb := bytR_len t
      unfold p_dormouselaw38_CmdHex.j0 joinC
      rw [cond_false, cmdHex_eq (by omega) (by omega), Option.bind_some, Bytes_eq (by omega) (by omega), Option.bind_some, Bytes_eq (by omega) (by omega), Option.bind_some]
      dsimp only
      rw [awake38, Option.bind_some, cond_true, ref38Hex_eq (by omega) (by omega), Option.bind_some, bytR_hexS]
      have e1 : ∀ x : List UInt8, (x == x) = true := by intro x; simp
      dsimp only
      rw [e1, e1, cond_true, cond_true, cond_true, ref38Hex_eq (by omega) (by omega), Option.bind_some]
      rcases bytR_back t with ⟨e, e'⟩ | ⟨e, e'⟩
      · rw [e, e', e1, cond_true, cond_true]; rfl
      · rw [e, e', cond_false, Bool.not_false, cond_true]; rfl
end Go.Dor
end

section
/- WHAT A CALLER HANDS IN, AS DATA; a law of data, called. Plain lemmas over any program. -/
namespace Go.Dor
open Go.RowKit (Below)

def chainF (P : Program) : Nat → List Field → Option Nat
  | o, [] => some o
  | o, f :: l => bif Nat.beq f.offset o then chainF P (o + P.cellsOf f.type) l else none
/-- types of data whose parts lie one behind the other -/
def tiled (P : Program) : Nat → TypeId → Bool
  | 0, _ => false
  | n + 1, t =>
    match P.underlying t with
    | some (.int _) | some .bool | some .string => true
    | some (.array m e) => Nat.beq (P.cellsOf t) (m * P.cellsOf e) && tiled P n e
    | some (.slice e) => Nat.blt 0 (P.cellsOf e) && tiled P n e
    | some (.struct fs) => (match chainF P 0 fs.toList with | some s => Nat.beq s (P.cellsOf t) | none => false) && fs.toList.all (fun f => tiled P n f.type)
    | _ => false

theorem pieces {α : Type} {Q : α → List Value → Prop} (k : Nat) : ∀ (m : Nat) (cs : List Value), cs.length = m * k → (∀ i, i < m → ∃ d, Q d ((cs.drop (i * k)).take k)) → ∃ (l : List α) (ys : List (List Value)), l.length = m ∧ cs = ys.flatten ∧ Al2 Q l ys
  | 0, cs, hl, _ => ⟨[], [], rfl, by simpa using hl, trivial⟩
  | m + 1, cs, hl, h => by
    obtain ⟨d, hd⟩ := h 0 (by omega)
    have hl' : (cs.drop k).length = m * k := by rw [List.length_drop, hl, Nat.add_mul]; omega
    obtain ⟨l, ys, h1, h2, h3⟩ := pieces k m (cs.drop k) hl' fun i hi => by
      obtain ⟨d, hd⟩ := h (i + 1) (by omega)
      refine ⟨d, ?_⟩
      rw [List.drop_drop]
      have : k + i * k = (i + 1) * k := by rw [Nat.add_mul]; omega
      rw [this]; exact hd
    refine ⟨d :: l, cs.take k :: ys, by simp [h1], ?_, ?_, h3⟩
    · rw [List.flatten_cons, ← h2, List.take_append_drop]
    · simpa using hd

/-- data that a program can hold: each number fits its kind -/
def okD : (t : T) → den t → Prop
  | .int k, n => (Lit.int k n).wf = true
  | .pair a b, x => okD a x.1 ∧ okD b x.2
  | .arr _ e, x => ∀ y ∈ x.toList, okD e y
  | .sl e, x => x.length ≤ 9223372036854775807 ∧ ∀ y ∈ x, okD e y
  | .str, _ => True
  | .bool, _ => True
  | .flt _, _ => True
  | .unit, _ => True
theorem al2_split {α β : Type} {Q : α → β → Prop} {R : α → Prop} : ∀ {l : List α} {m : List β}, Al2 (fun a b => Q a b ∧ R a) l m → Al2 Q l m ∧ ∀ a ∈ l, R a
  | [], [], _ => ⟨trivial, by simp⟩
  | a :: l, b :: m, h => by
    obtain ⟨h1, h2⟩ := al2_split (l := l) (m := m) h.2
    exact ⟨⟨h.1.1, h1⟩, fun x hx => (List.mem_cons.1 hx).elim (fun e => e ▸ h.1.2) (h2 x)⟩

theorem list_of {α : Type} {Q : Nat → α → Prop} : ∀ (n : Nat), (∀ i, i < n → ∃ p, Q i p) → ∃ l : List α, l.length = n ∧ ∀ i p, l[i]? = some p → Q i p
  | 0, _ => ⟨[], rfl, by simp⟩
  | n + 1, h => by
    obtain ⟨l, h1, h2⟩ := list_of n fun i hi => h i (by omega)
    obtain ⟨p, hp⟩ := h n (by omega)
    refine ⟨l ++ [p], by simp [h1], fun i q hq => ?_⟩
    by_cases hlt : i < n
    · rw [List.getElem?_append_left (by omega)] at hq; exact h2 i q hq
    · have hi : i < (l ++ [p]).length := (List.getElem?_eq_some_iff.1 hq).1
      have : i = n := by simp [h1] at hi; omega
      subst this
      rw [List.getElem?_append_right (by omega), h1] at hq
      simp at hq; subst hq; exact hp

theorem al2_of {α β : Type} {Q : α → β → Prop} : ∀ (l : List (α × β)), (∀ (i : Nat) p, l[i]? = some p → Q p.1 p.2) → Al2 Q (l.map (·.1)) (l.map (·.2))
  | [], _ => trivial
  | p :: l, h => ⟨h 0 p rfl, al2_of l fun i q hq => h (i + 1) q hq⟩

section
variable {H : Type} {enc : TypeId × Value → H} {P : Program} {w : World} {spare : Nat → Bool} {held : Bool}

theorem fields_at {I : Nat → Prop} {cs : List Value} {n s : Nat} : ∀ (l : List Field) (o : Nat) (cl : List T), chainF P o l = some s → cs.length = s → (∀ c, codeT P n 0 = c → True) →
    l.foldr (fun f acc => match codeT P n f.type, acc with | some a, some l => some (a :: l) | _, _ => none) (some []) = some cl →
    (∀ f ∈ l, ∀ c, codeT P n f.type = some c → ∃ d : den c, At w I c d ((cs.drop f.offset).take (P.cellsOf f.type)) ∧ okD c d) → ∃ d : den (mkT cl), At w I (mkT cl) d (cs.drop o) ∧ okD (mkT cl) d
  | [], o, cl, hc, hl, _, hf, _ => by
    cases hf
    simp only [chainF, Option.some.injEq] at hc
    exact ⟨(), List.drop_eq_nil_of_le (by omega), trivial⟩
  | [f], o, cl, hc, hl, _, hf, h => by
    simp only [chainF, cond_eq_ite] at hc
    split at hc
    · rename_i ho
      have ho := Nat.eq_of_beq_eq_true ho
      simp only [Option.some.injEq] at hc
      simp only [List.foldr_cons, List.foldr_nil] at hf
      split at hf
      · rename_i a l' ha hl'
        cases hf; cases hl'
        obtain ⟨d, hd, hk⟩ := h f (by simp) a ha
        refine ⟨d, ?_, hk⟩
        rw [ho, List.take_of_length_le (by rw [List.length_drop]; omega)] at hd
        exact hd
      · cases hf
    · cases hc
  | f :: f2 :: l, o, cl, hc, hl, ht, hf, h => by
    rw [chainF, cond_eq_ite] at hc
    split at hc
    · rename_i ho
      have ho := Nat.eq_of_beq_eq_true ho
      rw [List.foldr_cons] at hf
      split at hf
      · rename_i a l' ha hl'
        cases hf
        obtain ⟨d, hd, hk⟩ := h f (by simp) a ha
        obtain ⟨d2, hd2, hk2⟩ := fields_at (f2 :: l) _ l' hc hl ht hl' fun g hg => h g (List.mem_cons_of_mem _ hg)
        have hne : ∃ b r, l' = b :: r := by
          rw [List.foldr_cons] at hl'
          split at hl'
          · cases hl'; exact ⟨_, _, rfl⟩
          · cases hl'
        obtain ⟨b, r, rfl⟩ := hne
        refine ⟨(d, d2), ⟨_, _, ?_, hd, hd2⟩, hk, hk2⟩
        rw [ho, ← List.drop_drop, List.take_append_drop]
      · cases hf
    · cases hc

theorem cell_heap {b o : Nat} {y : Value} (hc : w.cell? ⟨b, o, none⟩ = some y) : ∃ cur t fz, w.heap[b]? = some (.cells cur t fz) := by
  simp only [World.cell?] at hc
  split at hc
  · rename_i cur t fz hb
    exact ⟨_, _, _, hb⟩
  · cases hc

theorem mapM_get {α β : Type} {f : α → Option β} : ∀ {l0 : List α} {l : List β}, l0.mapM f = some l → l.length = l0.length ∧ ∀ (i : Nat) a, l0[i]? = some a → f a = l[i]?
  | [], l, h => by
    simp only [List.mapM_nil] at h
    cases h
    exact ⟨rfl, by simp⟩
  | a :: l0, l, h => by
    rw [List.mapM_cons] at h
    cases ha : f a with
    | none => rw [ha] at h; cases h
    | some b =>
      rw [ha] at h
      cases hl : l0.mapM f with
      | none => rw [hl] at h; cases h
      | some bs =>
        rw [hl] at h
        have h : some (b :: bs) = some l := h
        cases h
        obtain ⟨h1, h2⟩ := mapM_get hl
        refine ⟨by simp [h1], fun i x hx => ?_⟩
        cases i with
        | zero => simp at hx; subst hx; simpa using ha
        | succ i => simp at hx; simpa using h2 i x hx
theorem cells_get {base k : Nat} {a : Addr} {l : List Value} (h : w.cells? base a k = some l) : l.length = k ∧ ∀ i, i < k → w.cell? (a.add i) = l[i]? := by
  unfold World.cells? at h
  split at h
  · obtain ⟨h1, h2⟩ := mapM_get h
    exact ⟨by simpa using h1, fun i hi => h2 i i (by simp [hi])⟩
  · cases h

/-- what a caller hands in reads as data -/
theorem trod_at (hsp : ∀ b, spare b = true) : ∀ (n : Nat) (t : TypeId) (c : T) (fuel : Nat) (cs : List Value) (x : DataW H × List MemPlace), codeT P n t = some c → tiled P n t = true →
    DataW.trod enc P w 0 spare held fuel t cs = some x → ∃ d : den c, At w (fun b => b < w.heap.size) c d cs ∧ okD c d
  | 0, t, c, fuel, cs, x, hc, _, _ => by cases hc
  | n + 1, t, c, fuel, cs, x, hc, hd, h => by
    unfold codeT at hc
    unfold tiled at hd
    split at hc
    · rename_i k ht
      cases hc
      obtain ⟨y, rfl, _, hwf⟩ := DataW.trod_int ht h
      exact ⟨y, rfl, hwf⟩
    · rename_i ht
      cases hc
      obtain ⟨y, rfl, _⟩ := DataW.trod_bool ht h
      exact ⟨y, rfl, trivial⟩
    · rename_i ht
      cases hc
      obtain ⟨y, rfl, _⟩ := DataW.trod_string ht h
      exact ⟨y.data.toList, by simp [At, sv], trivial⟩
    · rename_i k ht
      rw [ht] at hd; cases hd
    · rename_i m e ht
      rw [ht] at hd
      simp only [Bool.and_eq_true] at hd
      obtain ⟨hd1, hd2⟩ := hd
      have hd1 := Nat.eq_of_beq_eq_true hd1
      split at hc
      · rename_i ce hce
        cases hc
        obtain ⟨xs, q, _, _, h1, h2, h3⟩ := DataW.trod_array ht h
        obtain ⟨l, ys, k1, k2, k3⟩ := pieces (Q := fun d y => At w (fun b => b < w.heap.size) ce d y ∧ okD ce d) (P.cellsOf e) m cs (by rw [h1, hd1]) fun i hi => by
          have := h3 i hi
          rw [List.getElem?_eq_getElem (by omega)] at this
          exact trod_at hsp n e ce _ _ _ hce hd2 this
        obtain ⟨k3, k4⟩ := al2_split k3
        refine ⟨⟨l.toArray, by simpa using k1⟩, ⟨ys, k2, ?_⟩, fun y hy => k4 y (by simpa using hy)⟩
        simpa using k3
      · cases hc
    · rename_i e ht
      rw [ht] at hd
      simp only [Bool.and_eq_true] at hd
      obtain ⟨hd1, hd2⟩ := hd
      have hd1 : 0 < P.cellsOf e := by simpa [Nat.blt_eq] using hd1
      split at hc
      · rename_i ce hce
        cases hc
        rcases DataW.trod_slice ht h with ⟨rfl, _⟩ | ⟨a, len, cap, elems, rest, q, _, rfl, _, _, hlc, hcm, hel, he, hrest, _⟩
        · exact ⟨[], ⟨_, rfl, [], ⟨by simp, .inl ⟨⟨none, rfl⟩, rfl⟩⟩, trivial, by simp [vfoot]⟩, Nat.zero_le _, fun y hy => by cases hy⟩
        · obtain ⟨hr1, hr2⟩ := hrest (hsp _)
          by_cases hcap : cap = 0
          · subst hcap
            have hl0 : len = 0 := by omega
            subst hl0
            exact ⟨[], ⟨_, rfl, [], ⟨by simp, .inl ⟨⟨_, rfl⟩, rfl⟩⟩, trivial, by simp [vfoot]⟩, Nat.zero_le _, fun y hy => by cases hy⟩
          · -- a cell is there
            have h0 : ∃ y, w.cell? (a.add 0) = some y := by
              have key : ∀ {o : Option (DataW H × List MemPlace)} {i : Nat}, i = 0 → (w.cells? 0 (a.add (i * P.cellsOf e)) (P.cellsOf e)).bind (DataW.trod enc P w 0 spare held q e) = o → o.isSome = true → ∃ y, w.cell? (a.add 0) = some y := by
                intro o i hi hb ho
                subst hi
                cases hcl : w.cells? 0 (a.add (0 * P.cellsOf e)) (P.cellsOf e) with
                | none => rw [hcl] at hb; subst hb; cases ho
                | some l =>
                  obtain ⟨k1, k2⟩ := cells_get hcl
                  have := k2 0 hd1
                  rw [List.getElem?_eq_getElem (by omega)] at this
                  exact ⟨l[0]'(by omega), by simpa [Addr.add] using this⟩
              by_cases hl0 : len = 0
              · exact key (i := len + 0) (by omega) (hr2 0 (by omega)) (by rw [List.getElem?_eq_getElem (by omega)]; rfl)
              · exact key (i := 0) rfl (he 0 (by omega)) (by rw [List.getElem?_eq_getElem (by omega)]; rfl)
            obtain ⟨y0, hy0⟩ := h0
            have hspot := World.cell?_spot hy0
            obtain ⟨b, off, spot⟩ := a
            have hspot : spot = none := by simpa [Addr.add] using hspot
            subst hspot
            have hadd : ∀ i, (⟨b, off, none⟩ : Addr).add i = ⟨b, off + i, none⟩ := fun i => by simp [Addr.add]
            have hadd2 : ∀ o i, (⟨b, o, none⟩ : Addr).add i = ⟨b, o + i, none⟩ := fun o i => by simp [Addr.add]
            rw [hadd] at hy0
            obtain ⟨cur, bt, fz, hb⟩ := cell_heap hy0
            obtain ⟨l, k1, k2⟩ := list_of (α := den ce × List Value) (Q := fun i p => (At w (fun b => b < w.heap.size) ce p.1 p.2 ∧ okD ce p.1) ∧ p.2.length = P.cellsOf e ∧ ∀ j, j < P.cellsOf e → cur[off + (i * P.cellsOf e + j)]? = p.2[j]?) len fun i hi => by
              have h1 := he i hi
              rw [List.getElem?_eq_getElem (by omega)] at h1
              cases hcl : w.cells? 0 ((⟨b, off, none⟩ : Addr).add (i * P.cellsOf e)) (P.cellsOf e) with
              | none => rw [hcl] at h1; cases h1
              | some cl =>
                rw [hcl] at h1
                obtain ⟨d, hdd⟩ := trod_at hsp n e ce _ _ _ hce hd2 h1
                obtain ⟨k1, k2⟩ := cells_get hcl
                refine ⟨(d, cl), hdd, k1, fun j hj => ?_⟩
                have := k2 j hj
                rw [← this, hadd2, hadd2, World.cell?, hb]
                simp [Nat.add_assoc]
            have hal := al2_of (Q := fun d y => At w (fun b => b < w.heap.size) ce d y ∧ okD ce d) l fun i p hp => (k2 i p hp).1
            obtain ⟨hal, hok⟩ := al2_split hal
            refine ⟨l.map (·.1), ⟨_, rfl, l.map (·.2), ⟨fun y hy => ?_, .inr ⟨b, off, cap, cur, bt, fz, by simp [k1], by simpa [k1] using hlc, hb, fun j y hj => ?_⟩⟩, hal, fun q hq => ?_⟩, by rw [List.length_map, k1]; unfold maxLen at hcm; omega, fun y hy => hok y hy⟩
            · obtain ⟨z, hz⟩ := List.getElem?_of_mem hy
              obtain ⟨d, _, hQ⟩ : ∃ d : den ce, True ∧ At w (fun b => b < w.heap.size) ce d y := by
                rw [List.getElem?_map] at hz
                cases hlz : l[z]? with
                | none => rw [hlz] at hz; cases hz
                | some p => rw [hlz] at hz; cases hz; exact ⟨p.1, trivial, (k2 z p hlz).1.1⟩
              exact At.len _ _ _ hQ
            · have hz : ∀ y ∈ l.map (·.2), y.length = P.cellsOf e := fun y hy => by
                obtain ⟨p, hp, rfl⟩ := List.mem_map.1 hy
                obtain ⟨z, hz⟩ := List.getElem?_of_mem hp
                exact (k2 z p hz).2.1
              have hjl := (List.getElem?_eq_some_iff.1 hj).1
              have hfl : (l.map (·.2)).flatten.length = l.length * P.cellsOf e := by
                have : ∀ (ys : List (List Value)), (∀ y ∈ ys, y.length = P.cellsOf e) → ys.flatten.length = ys.length * P.cellsOf e := by
                  intro ys
                  induction ys with
                  | nil => simp
                  | cons y ys ih =>
                    intro h
                    rw [List.flatten_cons, List.length_append, ih fun z hz => h z (List.mem_cons_of_mem _ hz), h y (by simp), List.length_cons, Nat.add_mul]; omega
                rw [this _ hz, List.length_map]
              have hdiv : j / P.cellsOf e < l.length := Nat.div_lt_of_lt_mul (by rw [Nat.mul_comm]; omega)
              have hmod : j % P.cellsOf e < P.cellsOf e := Nat.mod_lt _ hd1
              have hp : l[j / P.cellsOf e]? = some l[j / P.cellsOf e] := List.getElem?_eq_getElem hdiv
              obtain ⟨_, _, h5⟩ := k2 _ _ hp
              have h6 := flat_at hz (j := j / P.cellsOf e) (k := j % P.cellsOf e) (x := (l[j / P.cellsOf e]).2) (by rw [List.getElem?_map, hp]; rfl) hmod
              have hjj : j / P.cellsOf e * P.cellsOf e + j % P.cellsOf e = j := by rw [Nat.mul_comm]; exact Nat.div_add_mod _ _
              have h7 := h5 _ hmod
              rw [hjj] at h6 h7
              rw [h7, ← h6]; exact hj
            · simp only [vfoot, hcap, if_false, Option.some.injEq] at hq
              subst hq
              exact (Array.getElem?_eq_some_iff.1 hb).1
      · cases hc
    · rename_i fs ht
      rw [ht] at hd
      simp only [Bool.and_eq_true] at hd
      obtain ⟨hd1, hd2⟩ := hd
      split at hc
      · rename_i cl hcl
        cases hc
        split at hd1
        · rename_i s hs
          have hd1 := Nat.eq_of_beq_eq_true hd1
          obtain ⟨xs, q, _, _, h1, h2, h3⟩ := DataW.trod_struct ht h
          have := fields_at (w := w) (I := fun b => b < w.heap.size) (cs := cs) (n := n) fs.toList 0 cl hs (by rw [h1, hd1]) (fun _ _ => trivial) hcl fun f hf c hc => by
            obtain ⟨i, hi⟩ := List.getElem?_of_mem hf
            have hi' : fs[i]? = some f := by simpa using hi
            have h4 := h3 i f hi'
            have hlt : i < fs.size := (Array.getElem?_eq_some_iff.1 hi').1
            rw [List.getElem?_eq_getElem (by omega)] at h4
            exact trod_at hsp n f.type c _ _ _ hc (List.all_eq_true.1 hd2 f hf) h4
          simpa using this
        · cases hd1
      · cases hc
    · cases hc

end
end Go.Dor
namespace Go.Dor
open Go.RowKit (Below)
section
variable {H : Type} {enc : TypeId × Value → H} {P : Program} {w w' : World}

/-- all that stands at the beginning may be read -/
noncomputable def m0 (w : World) : Mem := memOf (lentOf [] fun _ => undef) (fun _ => True) w [] (fun _ => undef) w

theorem m0_imm {b : Nat} (h : b < w.heap.size) : (m0 w).I b := ⟨h, .inr (.inl trivial), fun id hid => by simp [lives, liveO] at hid⟩
theorem at_m0 {c : T} {d : den c} {cs : List Value} (h : At w (fun b => b < w.heap.size) c d cs) : At (m0 w).w (m0 w).I c d cs := At.mono (fun _ hb => ⟨m0_imm hb, rfl⟩) _ _ _ h

theorem arg_ok {t : TypeId} {v : Value} {d : DataW H} {p : List MemPlace} {c : T} (h : DataW.Trod enc P w 0 (fun _ => true) true t v d p) (hc : codeT P depth t = some c) (ht : tiled P depth t = true) : ∃ a : den c, At (m0 w).w (m0 w).I c a v.cells.toList ∧ okD c a := by
  obtain ⟨fuel, h⟩ := h
  obtain ⟨a, ha, hk⟩ := trod_at (fun _ => rfl) _ _ _ _ _ _ hc ht h
  exact ⟨a, at_m0 ha, hk⟩
theorem arg_at {t : TypeId} {v : Value} {d : DataW H} {p : List MemPlace} {c : T} (h : DataW.Trod enc P w 0 (fun _ => true) true t v d p) (hc : codeT P depth t = some c) (ht : tiled P depth t = true) : ∃ a : den c, At (m0 w).w (m0 w).I c a v.cells.toList := by
  obtain ⟨a, ha, _⟩ := arg_ok h hc ht
  exact ⟨a, ha⟩

theorem rv_ag {c : T} {a : den c} {v : Value} {cs : Array Value} (hv : v = .agg cs) (h : At (m0 w).w (m0 w).I c a v.cells.toList) : Rv (m0 w) (.ag (Dor.enc c a)) v := by
  obtain ⟨s, h1, h2⟩ := At.enc _ _ _ h
  refine ⟨s, ?_, h2⟩
  subst hv
  have h1 : cs.toList = s.flatten := h1
  simp [ag, cells, ← h1]

/-- a law of data, called -/
theorem law_calls {f : FuncId} {vd : List Vd} {q : HL (Ds.ts ⟨vd, []⟩) → Option (HL (Ds.ts ⟨[.one (.im .bool)], []⟩))} (hS : Entry.Sound P f ⟨⟨vd, []⟩, ⟨[.one (.im .bool)], []⟩, q⟩) {vals : List Value} {x : HL (Ds.ts ⟨vd, []⟩)}
    (hv : Al2 (Rv (m0 w)) (givenV ⟨vd, []⟩ id x).1 vals) (hq : q x = some true) : Calls P f vals.toArray w fun e w' => e = .returned (.bool true) ∧ Below w.heap.size w w' := by
  have hg : givenO ⟨vd, []⟩ id x = [] := rfl
  have hs : Start ⟨vd, []⟩ x (fun _ => True) w (fun _ => undef) vals := by
    refine ⟨?_, hv⟩
    refine ⟨rfl, rfl, rfl, Nat.le_refl _, fun _ _ _ => rfl, fun b _ => ?_, fun id o hid => ?_, fun id hid => ?_, fun i j hi => ?_⟩
    · rintro ⟨i, hi, _⟩
      rw [hg] at hi
      simp [lives, liveO] at hi
    · rw [hg] at hid; simp at hid
    · rw [hg] at hid; simp [lives, liveO] at hid
    · rw [hg] at hi; simp [lives, liveO] at hi
  refine (hS.out x true hq (fun _ => True) w (fun _ => undef) vals hs).mono fun e w' ⟨vs, g', he, R', hv', _⟩ => ?_
  have hv' : Al2 (Rv (memOf (lentOf (givenO ⟨vd, []⟩ id x) fun _ => undef) (fun _ => True) w (givenO ⟨[.one (.im .bool)], []⟩ id true) g' w')) [.one (.b true)] vs := hv'
  obtain ⟨v, vs, rfl, h1, h2⟩ := hv'.cons_left
  have := h2.nil_left
  subst this
  have h1 := rv_bool h1
  subst h1
  refine ⟨he, R'.os, R'.tape, R'.output, R'.size, fun b hb => R'.old b hb ?_⟩
  rintro ⟨i, hi, _⟩
  have hg' : lives ([] : Hm) i := hi
  simp [lives, liveO] at hg'

theorem trodAll_stays (hl : laidOutB P = true) (hb : Below w.heap.size w w') : ∀ {ts : List TypeId} {vs : List Value} {ds : List (DataW H)} {ps : List MemPlace}, (∀ t ∈ ts, P.readableRec t = true ∧ t < P.types.size) →
    DataW.TrodAll enc P w 0 (fun _ => true) true ts vs ds ps → (∀ x ∈ ps, x.block < w.heap.size) → DataW.TrodAll enc P w' 0 (fun b => decide (b < w.heap.size)) true ts vs ds ps
  | [], [], [], _, _, h, _ => h
  | t :: ts, v :: vs, d :: ds, ps, hr, h, hlt => by
    obtain ⟨p, q, h1, h2, rfl⟩ := h
    exact ⟨p, q, Go.RowKit.Below.trod hl (hr t (by simp)).1 (hr t (by simp)).2 h1 hb (fun x hx => hlt x (List.mem_append_left _ hx)), trodAll_stays hl hb (fun u hu => hr u (List.mem_cons_of_mem _ hu)) h2 (fun x hx => hlt x (List.mem_append_right _ hx)), rfl⟩

end
end Go.Dor
end

section
/- AN ARGUMENT OF A LAW, as data of its type: numbers fit, the value reads as the data. -/
namespace Go.Dor
section
variable {H : Type} {enc' : TypeId × Value → H} {P : Program} {w : World}

def vOf : (c : T) → den c → V
  | .int k, n => .one (.i k n)
  | .bool, x => .one (.b x)
  | .str, l => .one (.s l)
  | .flt k, n => .one (.f k n)
  | .sl e, xs => .one (.ro e xs)
  | .unit, x => .ag (enc .unit x)
  | .pair a b, x => .ag (enc (.pair a b) x)
  | .arr n e, x => .ag (enc (.arr n e) x)

def aggT : T → Bool
  | .unit | .pair .. | .arr .. => true
  | _ => false

theorem okWide_agg {t : TypeId} {r : Reach} {base : Nat} {v : Value} (hv : Value.okWide P w r base t v) (hg : (∃ fs, P.underlying t = some (.struct fs)) ∨ ∃ m e, P.underlying t = some (.array m e)) : ∃ cs, v = .agg cs := by
  rcases hg with ⟨fs, hg⟩ | ⟨m, e, hg⟩ <;>
  · simp only [Value.okWide, hg] at hv
    obtain ⟨cs, h1, _⟩ := hv
    exact ⟨cs, h1⟩

theorem one_cells {v : Value} (h : ∀ cs, v ≠ .agg cs) : v.cells.toList = [v] := by
  cases v <;> first | rfl | exact absurd rfl (h _)

theorem arg_rv {t : TypeId} {v : Value} {d : DataW H} {p : List MemPlace} {c : T} (hag : (match P.underlying t with | some (.struct _) | some (.array _ _) => true | _ => false) = aggT c)
    (h : DataW.Trod enc' P w 0 (fun _ => true) true t v d p) (hc : codeT P depth t = some c) (ht : tiled P depth t = true) {r : Reach} {base : Nat} (hv : Value.okWide P w r base t v) : ∃ a : den c, Rv (m0 w) (vOf c a) v ∧ okD c a := by
  obtain ⟨a, ha, hk⟩ := arg_ok h hc ht
  refine ⟨a, ?_, hk⟩
  cases hx : aggT c with
  | true =>
    rw [hx] at hag
    have hcs : ∃ cs, v = .agg cs := by
      split at hag
      · rename_i fs hu; exact okWide_agg hv (.inl ⟨_, hu⟩)
      · rename_i m e hu; exact okWide_agg hv (.inr ⟨_, _, hu⟩)
      · cases hag
    obtain ⟨cs, hcs⟩ := hcs
    cases c <;> first | exact rv_ag hcs ha | cases hx
  | false =>
    rw [hx] at hag
    have hne : ∀ cs, v ≠ .agg cs := by
      rintro cs rfl
      split at hag
      · cases hag
      · cases hag
      · rename_i h1 h2
        unfold Value.okWide at hv
        split at hv
        · rename_i hu; exact h1 _ hu
        · rename_i hu; exact h2 _ _ hu
        · unfold Cell.okWide at hv
          cases hu : P.underlying t with
          | none => rw [hu] at hv; simp [Cell.ok, hu] at hv
          | some u => cases u <;> simp_all [Cell.ok]
    rw [one_cells hne] at ha
    cases c <;> first | exact ha | cases hx
end
end Go.Dor
end

section
/- CmdHex AT EVERY INPUT: true; each argument reads behind the call as it read before. No condition but the row's own. -/
namespace Go.Proofs.YtlejphdgfoejaaaDoor
open Go.ChangeShapes Go.WideShapes Go.ChangeAt Go.RowKit

theorem cmdHex_ownNone : ownKnob Tryd.prog.godebug = none := by kernel_rfl
theorem cmdHex_laidOk : laidOutB Tryd.prog = true := by kernel_rfl
/-- A world that meets the condition: the listed variables' cells laid. -/
noncomputable def cmdHex_laidWorld (os : Os) : World :=
  let w0 := World.holding Tryd.prog os ⟨#[], #[], []⟩
  let put (h : Array Obj) (g : Nat) (cs : Array Value) : Array Obj := h.modify g fun
    | .cells _ t frozen => .cells cs t frozen
    | o => o
  let h1 := put w0.heap 1 (Go.Pinned.utf8FirstZ.map fun (z : Nat) => Value.int .u8 (z : Int)).toArray
  let h2 := put h1 2 (([128, 191, 160, 191, 128, 159, 144, 191, 128, 143, 0, 0, 0, 0, 0, 0, 0, 0, 0, 0, 0, 0, 0, 0, 0, 0, 0, 0, 0, 0, 0, 0] : List Int).map fun z => Value.int .u8 z).toArray
  { w0 with heap := h2 }
set_option maxRecDepth 100000 in
theorem cmdHex_laid_met (os : Os) (args : Array Value) : laidMet Tryd.prog Rows.cmdHexRow.laid ((cmdHex_laidWorld os).forCall (fun _ _ => 0) ⟨#[], args, []⟩).memory :=
  (LaidIn.of_run [1, 2] 8 (by kernel_rfl) (by kernel_rfl) (by kernel_rfl) (by kernel_rfl)).met
set_option maxRecDepth 100000 in
theorem cmdHex_laidWorld_met (os : Os) (args : Array Value) : laidMetH Tryd.prog Rows.cmdHexRow.laid ((cmdHex_laidWorld os).forCall (fun _ _ => 0) ⟨#[], args, []⟩).memory :=
  cmdHex_laid_met os args
set_option maxRecDepth 100000 in
theorem cmdHex_lifted (os : Os) (started : os.Started) (H : Type) (enc : TypeId × Value → H) :
    ReturnsInHanded {} Tryd.checked os 8 .any (fun w args => (Rows.cmdHexSpec.pre enc Tryd.prog Tryd.f8 [] false w args ∧ laidMetH Tryd.prog Rows.cmdHexRow.laid w) ∧ sizedMet enc Tryd.prog Tryd.f8 (OpenSpec.ofChange Rows.cmdHexSpec) false w args) (Rows.cmdHexSpec.post enc Tryd.prog Tryd.f8 false true false false) := by
  refine returnsInHanded_of_change_and (C := Tryd.checked) (X := fun w _ => laidMetH Tryd.prog Rows.cmdHexRow.laid w) (fun _ _ _ hh h => h.of_heap hh) cmdHex_ownNone started (by kernel_rfl) Tryd.func8
    (ChangeSpec.witness_at (enc := enc) (C := Tryd.checked) (os := os) (X := fun w _ => laidMetH Tryd.prog Rows.cmdHexRow.laid w) false (cmdHex_laidWorld os) #[.string ⟨#[]⟩, .string ⟨#[]⟩] 8 rfl (by kernel_rfl) (by kernel_rfl) (by kernel_rfl) (by kernel_rfl) (by kernel_rfl) (cmdHex_laidWorld_met os _)) ?_
  intro W base args ds gs before hval0 hW _ _ _ _
  have hval : ∀ (j : Nat) t v, Tryd.f8.params[j]? = some t → args[j]? = some v → Value.okWide Tryd.prog W .any base t v := hval0
  have hW' := hW
  obtain ⟨p, q, hA0, hV, rfl, _, _⟩ := hW
  have hA : DataW.TrodAll enc Tryd.prog W 0 (fun _ => true) true Tryd.f8.params.toList args.toList ds p := hA0
  have hA2 := hA
  rw [Tryd.params8] at hA hval
  obtain ⟨rfl, rfl⟩ := trodVars_none hV
  simp only [List.append_nil] at hW'
  have hlt : ∀ x ∈ p, x.block < W.heap.size := fun x hx => by simpa using hW'.lt x hx
  obtain ⟨v0, v1, d0, d1, p0, p1, rfl, rfl, rfl, h0, h1⟩ := trodAll_two hA
  obtain ⟨a0, r0, k0⟩ := Dor.arg_rv (c := .str) (by kernel_rfl) h0 (by kernel_rfl) (by kernel_rfl) (hval 0 _ v0 rfl rfl)
  obtain ⟨a1, r1, k1⟩ := Dor.arg_rv (c := .str) (by kernel_rfl) h1 (by kernel_rfl) (by kernel_rfl) (hval 1 _ v1 rfl rfl)
  have hk := Dor.law_CmdHex a0 a1
  refine (Dor.law_calls (Dor.s_dormouselaw38_CmdHex 2000) (vals := [v0, v1]) (x := (a0, a1)) (w := W) ⟨r0, r1, trivial⟩ hk).mono fun e W' ⟨he, hnx⟩ => ⟨_, he, ?_⟩
  refine ⟨_, _, _, [] ++ [], p0 ++ p1, [], hW', trodAll_mk1 (shut_bool (by kernel_rfl) true), ?_, rfl, hnx.frame _, fun h => by cases h⟩
  exact Dor.trodAll_stays cmdHex_laidOk hnx (by decide +kernel) hA2 hlt

theorem cmdHex_holds : Rows.CmdHexSaid :=
  OpenClaim.holds_of_wide 8 Tryd.f8 rfl rfl rfl rfl rfl rfl rfl ⟨rfl, rfl, rfl, rfl, rfl⟩ rfl rfl rfl rfl rfl (by kernel_rfl) Tryd.func8 (by kernel_rfl)
    (of_decide_eq_true (by kernel_rfl)) (by unfold Func.isWrapper; first | (rw [if_pos (by decide +kernel)]; kernel_rfl) | (rw [if_neg (by decide +kernel)]; exact ⟨rfl, rfl⟩))
    (fun os started H enc _ => cmdHex_lifted os started H enc)

theorem cmdHex_card : Rows.CmdHexCardSaid :=
  Claim7.holds_tied_plain_at .later [] [.data, .pinned] true (true, "a7d258ae0b702be9d261bb6c8bd45ae7ef8974bff8ff2809bc8c206916b8e966") false
    cmdHex_holds (fun _ h => by cases h) (by kernel_rfl) (fun _ h => by cases h) cmdHex_row_tie rfl ⟨rfl, rfl⟩ (by kernel_rfl) rfl
    (fun f fn hf hfn => by
      obtain rfl : f = 8 := Option.some.inj ((show Tryd.prog.funcNamed "dormouse/dormouselaw38.CmdHex" = some 8 by kernel_rfl).symm.trans hf) |>.symm
      obtain rfl : fn = Tryd.f8 := (Option.some.inj (Tryd.func8.symm.trans hfn)).symm
      exact ⟨by kernel_rfl, fun j t ht => by
        have h3 : (Tryd.f8.params.toList.all fun t => !Tryd.prog.wantsStandIn t) = true := by kernel_rfl
        have hm : t ∈ Tryd.f8.params.toList := by rw [Array.mem_toList_iff]; exact Array.mem_of_getElem? ht
        exact (show Tryd.prog.wantsStandIn t = false by simpa using List.all_eq_true.1 h3 t hm)⟩)
    (by kernel_rfl)

end Go.Proofs.YtlejphdgfoejaaaDoor
end
