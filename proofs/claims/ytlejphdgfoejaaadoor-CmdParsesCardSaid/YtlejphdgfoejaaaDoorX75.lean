/- THE ROW, AND WHAT IT STANDS ON: the texts Wc Ra Rb Rc Rd Re Zl Rf Rg Zm R7, one behind the other. -/
import Derived.Test.YtlejphdgfoejaaaDoorX74
import Derived.KernelRfl
import Derived.Test.YtlejphdgfoejaaaDoorX73
import Derived.ProofKit
import Derived.OpenShut
import Derived.WideShapes
import Derived.Test.YtlejphdgfoejaaaDoorRows
import Derived.SizedLaws
import Derived.ChangeSame
import Derived.ChangeVars
import Derived.JoinedOf
import Derived.LaidLaws
import Derived.LaidHandle
import Derived.Lib.LaidIn
import Derived.Handed
import Derived.Test.YtlejphdgfoejaaaDoorTie
import Derived.Test.YtlejphdgfoejaaaDoorCards
import Derived.SevenTiedAt
section
/- The functions that the law calls, as the machine shows them. -/
namespace Go.Dor
open Go.Proofs
set_option maxRecDepth 100000
set_option linter.unusedVariables false
noncomputable section

/- dormouse/cmd.Parse$1: function 46 -/
noncomputable def p_cmd_Parse_c1 (x122 : Int) (x123 : List (List UInt8)) : Option (List UInt8) :=
  bif (decide (x122 < (↑(List.length x123) : Int))) then need ((0 : Int) ≤ x122 ∧ x122 < (↑(List.length x123) : Int)) (some (at_ (dflt T.str) x123 x122)) else some []
noncomputable def e_cmd_Parse_c1 : Entry := ⟨Ds.mk [Vd.one (Ld.im (T.int IntKind.i64)), Vd.one (Ld.ptr (0) (0))] [Od.rdT (67) (T.sl T.str)], Ds.mk [Vd.one (Ld.im T.str)] [Od.gone], fun x => p_cmd_Parse_c1 x.1 x.2⟩
noncomputable def c_cmd_Parse_c1 : Cx := ⟨Tryd.prog, [], [], [], [], [], 1, 12, [(76, 0), (83, 1)], fun _ _ _ => none⟩
theorem q_cmd_Parse_c1 (x : HL (e_cmd_Parse_c1).pre.ts) : runF (c_cmd_Parse_c1) 0 Tryd.f46 (e_cmd_Parse_c1).pre (e_cmd_Parse_c1).post x = (e_cmd_Parse_c1).fn x := by kernel_rfl
theorem s_cmd_Parse_c1 : Entry.Sound Tryd.prog 46 (e_cmd_Parse_c1) := runF_sound (X := c_cmd_Parse_c1) (pre := (e_cmd_Parse_c1).pre) (post := (e_cmd_Parse_c1).post) (q := (e_cmd_Parse_c1).fn) ⟨dOk_nil, x_ext, x_mo⟩ Tryd.func46 (q_cmd_Parse_c1)

/- dormouse/cmd.word: function 43 -/
noncomputable def p_cmd_word (x134 : Int) : Option (List UInt8) :=
  bif (x134 == (0 : Int)) then some ([(103 : UInt8), (101 : UInt8), (116 : UInt8)]) else bif (x134 == (1 : Int)) then some ([(112 : UInt8), (117 : UInt8), (116 : UInt8)]) else bif (x134 == (2 : Int)) then some ([(100 : UInt8), (101 : UInt8), (108 : UInt8), (101 : UInt8), (116 : UInt8), (101 : UInt8)]) else bif (x134 == (3 : Int)) then some ([(116 : UInt8), (111 : UInt8), (117 : UInt8), (99 : UInt8), (104 : UInt8)]) else bif (x134 == (4 : Int)) then some ([(114 : UInt8), (111 : UInt8), (108 : UInt8), (108 : UInt8)]) else bif (x134 == (5 : Int)) then some ([(114 : UInt8), (101 : UInt8), (115 : UInt8), (117 : UInt8), (114 : UInt8), (114 : UInt8), (101 : UInt8), (99 : UInt8), (116 : UInt8)]) else bif (x134 == (6 : Int)) then some ([(99 : UInt8), (111 : UInt8), (109 : UInt8), (109 : UInt8), (105 : UInt8), (116 : UInt8)]) else bif (x134 == (7 : Int)) then some ([(97 : UInt8), (98 : UInt8), (111 : UInt8), (114 : UInt8), (116 : UInt8)]) else bif (x134 == (8 : Int)) then some ([(111 : UInt8), (112 : UInt8), (101 : UInt8), (110 : UInt8)]) else bif (x134 == (9 : Int)) then some ([(98 : UInt8), (97 : UInt8), (99 : UInt8), (107 : UInt8)]) else some []
noncomputable def e_cmd_word : Entry := ⟨Ds.mk [Vd.one (Ld.im (T.int IntKind.i64))] [], Ds.mk [Vd.one (Ld.im T.str)] [], fun x => p_cmd_word x⟩
noncomputable def c_cmd_word : Cx := ⟨Tryd.prog, [], [], [], [], [], 0, 24, [(76, 0), (83, 1)], fun _ _ _ => none⟩
theorem q_cmd_word (x : HL (e_cmd_word).pre.ts) : runF (c_cmd_word) 0 Tryd.f43 (e_cmd_word).pre (e_cmd_word).post x = (e_cmd_word).fn x := by kernel_rfl
theorem s_cmd_word : Entry.Sound Tryd.prog 43 (e_cmd_word) := runF_sound (X := c_cmd_word) (pre := (e_cmd_word).pre) (post := (e_cmd_word).post) (q := (e_cmd_word).fn) ⟨dOk_nil, x_ext, x_mo⟩ Tryd.func43 (q_cmd_word)

/- dormouse/cmd.kind: function 47 -/
noncomputable def p_cmd_kind.j0 (k : Nat) : Option Int :=
  some (-1 : Int)
noncomputable def p_cmd_kind.b1 (k : Nat) (j142 : Unit → Option Int) (rec140 : List UInt8 × Int → Option Int) (x137 : List UInt8) (x138 : Int) : Option Int :=
  bif (decide (x138 < (10 : Int))) then Option.bind (p_cmd_word x138) fun t139 => bif (t139 == x137) then some x138 else rec140 (x137, IntKind.wrap IntKind.i64 (x138 + (1 : Int))) else j142 ()
noncomputable def p_cmd_kind (k : Nat) (x136 : List UInt8) : Option Int :=
  joinC (fun (y : Unit) => p_cmd_kind.j0 k) fun (j142 : Unit → Option Int) => loopC (fun (r : List UInt8 × Int → Option Int) y => p_cmd_kind.b1 k j142 r y.1 y.2) k (x136, (0 : Int))
noncomputable def e_cmd_kind (k : Nat) : Entry := ⟨Ds.mk [Vd.one (Ld.im T.str)] [], Ds.mk [Vd.one (Ld.im (T.int IntKind.i64))] [], fun x => p_cmd_kind k x⟩
noncomputable def c_cmd_kind (k : Nat) : Cx := ⟨Tryd.prog, [(43, e_cmd_word)], [(7, Sd.mk [] (Ds.mk [] []))], [], [(2, Sd.mk [0, 4] (Ds.mk [Vd.one (Ld.im T.str), Vd.one (Ld.im (T.int IntKind.i64))] []))], [], 0, 13, [(76, 0), (83, 1)], fun _ _ _ => none⟩
theorem q_cmd_kind (k : Nat) (x : HL (e_cmd_kind k).pre.ts) : runF (c_cmd_kind k) k Tryd.f47 (e_cmd_kind k).pre (e_cmd_kind k).post x = (e_cmd_kind k).fn x := by kernel_rfl
theorem s_cmd_kind (k : Nat) : Entry.Sound Tryd.prog 47 (e_cmd_kind k) := runF_sound (X := c_cmd_kind k) (pre := (e_cmd_kind k).pre) (post := (e_cmd_kind k).post) (q := (e_cmd_kind k).fn) ⟨(dOk_cons (s_cmd_word) dOk_nil), x_ext, x_mo⟩ Tryd.func47 (q_cmd_kind k)

/- dormouse/cmd.parts: function 45 -/
noncomputable def p_cmd_parts.j0 (x161 : Int) : Option Int :=
  some x161
noncomputable def p_cmd_parts.j1 (j162 : Int → Option Int) (x158 : Int) : Option Int :=
  j162 (IntKind.wrap IntKind.i64 (x158 + (1 : Int)))
noncomputable def p_cmd_parts.j2 (j159 : Int → Option Int) (x155 : Int) : Option Int :=
  j159 (IntKind.wrap IntKind.i64 (x155 + (1 : Int)))
noncomputable def p_cmd_parts.j3 (j159 : Int → Option Int) (j162 : Int → Option Int) (x151 : Int) (x152 : Int) : Option Int :=
  bif (x152 == (0 : Int)) then bif (x152 == (0 : Int)) then j159 x151 else j162 x151 else bif (x152 == (2 : Int)) then bif (x152 == (2 : Int)) then j159 x151 else j162 x151 else bif (x152 == (3 : Int)) then bif (x152 == (3 : Int)) then j159 x151 else j162 x151 else bif (x152 == (9 : Int)) then j159 x151 else j162 x151
noncomputable def p_cmd_parts (x150 : Int) : Option Int :=
  joinC (p_cmd_parts.j0) fun (j162 : Int → Option Int) => joinC (p_cmd_parts.j1 j162) fun (j159 : Int → Option Int) => joinC (p_cmd_parts.j2 j159) fun (j156 : Int → Option Int) => joinC (fun (y : Int × Int) => p_cmd_parts.j3 j159 j162 y.1 y.2) fun (j153 : Int × Int → Option Int) => bif (x150 == (1 : Int)) then bif (x150 == (1 : Int)) then j156 (0 : Int) else j153 ((0 : Int), x150) else bif (x150 == (5 : Int)) then j156 (0 : Int) else j153 ((0 : Int), x150)
noncomputable def e_cmd_parts : Entry := ⟨Ds.mk [Vd.one (Ld.im (T.int IntKind.i64))] [], Ds.mk [Vd.one (Ld.im (T.int IntKind.i64))] [], fun x => p_cmd_parts x⟩
noncomputable def c_cmd_parts : Cx := ⟨Tryd.prog, [], [(5, Sd.mk [3, 4] (Ds.mk [Vd.one (Ld.im (T.int IntKind.i64)), Vd.one (Ld.im (T.int IntKind.i64))] [])), (9, Sd.mk [3] (Ds.mk [Vd.one (Ld.im (T.int IntKind.i64))] [])), (10, Sd.mk [3] (Ds.mk [Vd.one (Ld.im (T.int IntKind.i64))] [])), (11, Sd.mk [3] (Ds.mk [Vd.one (Ld.im (T.int IntKind.i64))] []))], [], [], [], 0, 18, [(76, 0), (83, 1)], fun _ _ _ => none⟩
theorem q_cmd_parts (x : HL (e_cmd_parts).pre.ts) : runF (c_cmd_parts) 0 Tryd.f45 (e_cmd_parts).pre (e_cmd_parts).post x = (e_cmd_parts).fn x := by kernel_rfl
theorem s_cmd_parts : Entry.Sound Tryd.prog 45 (e_cmd_parts) := runF_sound (X := c_cmd_parts) (pre := (e_cmd_parts).pre) (post := (e_cmd_parts).post) (q := (e_cmd_parts).fn) ⟨dOk_nil, x_ext, x_mo⟩ Tryd.func45 (q_cmd_parts)

/- dormouse/key.number: function 61 -/
noncomputable def p_key_number.j0 (k : Nat) (x204 : Int) : Option Int :=
  some x204
noncomputable def p_key_number.b1 (k : Nat) (j205 : Int → Option Int) (rec202 : List UInt8 × Int × Int × Int → Option Int) (x197 : List UInt8) (x198 : Int) (x199 : Int) (x200 : Int) : Option Int :=
  bif (decide (x200 < x199)) then need ((0 : Int) ≤ x200 ∧ x200 < (↑(List.length x197) : Int)) (rec202 (x197, IntKind.wrap IntKind.u64 (IntKind.wrap IntKind.u64 ((10 : Int) * x198) + Int.tmod (IntKind.wrap IntKind.u64 (IntKind.wrap IntKind.u8 (bat x197 x200 - (48 : Int)))) (10 : Int)), x199, IntKind.wrap IntKind.i64 (x200 + (1 : Int)))) else j205 x198
noncomputable def p_key_number (k : Nat) (x196 : List UInt8) : Option Int :=
  joinC (p_key_number.j0 k) fun (j205 : Int → Option Int) => loopC (fun (r : List UInt8 × Int × Int × Int → Option Int) y => p_key_number.b1 k j205 r y.1 y.2.1 y.2.2.1 y.2.2.2) k (x196, (0 : Int), (↑(List.length x196) : Int), (0 : Int))
noncomputable def e_key_number (k : Nat) : Entry := ⟨Ds.mk [Vd.one (Ld.im T.str)] [], Ds.mk [Vd.one (Ld.im (T.int IntKind.u64))] [], fun x => p_key_number k x⟩
noncomputable def c_key_number (k : Nat) : Cx := ⟨Tryd.prog, [], [(7, Sd.mk [3] (Ds.mk [Vd.one (Ld.im (T.int IntKind.u64))] []))], [], [(3, Sd.mk [0, 3, 6, 7] (Ds.mk [Vd.one (Ld.im T.str), Vd.one (Ld.im (T.int IntKind.u64)), Vd.one (Ld.im (T.int IntKind.i64)), Vd.one (Ld.im (T.int IntKind.i64))] []))], [], 0, 21, [(76, 0), (83, 1)], fun _ _ _ => none⟩
theorem q_key_number (k : Nat) (x : HL (e_key_number k).pre.ts) : runF (c_key_number k) k Tryd.f61 (e_key_number k).pre (e_key_number k).post x = (e_key_number k).fn x := by kernel_rfl
theorem s_key_number (k : Nat) : Entry.Sound Tryd.prog 61 (e_key_number k) := runF_sound (X := c_key_number k) (pre := (e_key_number k).pre) (post := (e_key_number k).post) (q := (e_key_number k).fn) ⟨dOk_nil, x_ext, x_mo⟩ Tryd.func61 (q_key_number k)

/- dormouse/wide.Num: function 73 -/
noncomputable def p_wide_Num.j0 (k : Nat) (x226 : Int) (x227 : Vector Int (8)) : Option (List UInt8) :=
  need ((0 : Int) ≤ (0 : Int) ∧ (0 : Int) ≤ x226 ∧ x226 ≤ (↑(8 : Nat) : Int)) (some (bytesOf (sub_ (Vector.toList x227) (0 : Int) x226)))
noncomputable def p_wide_Num.b1 (k : Nat) (j229 : Int × Vector Int (8) → Option (List UInt8)) (rec224 : Int × Int × Int × Int × Vector Int (8) → Option (List UInt8)) (x218 : Int) (x219 : Int) (x220 : Int) (x221 : Int) (x222 : Vector Int (8)) : Option (List UInt8) :=
  bif (decide (x221 < x220)) then need ((0 : Int) ≤ x221 ∧ x221 < (↑(8 : Nat) : Int)) (rec224 (ishr IntKind.u64 x218 (8 : Int), x219, x220, IntKind.wrap IntKind.i64 (x221 + (1 : Int)), vset x222 x221 (IntKind.wrap IntKind.u8 x218))) else j229 (x219, x222)
noncomputable def p_wide_Num (k : Nat) (x216 : Int) (x217 : Int) : Option (List UInt8) :=
  joinC (fun (y : Int × Vector Int (8)) => p_wide_Num.j0 k y.1 y.2) fun (j229 : Int × Vector Int (8) → Option (List UInt8)) => loopC (fun (r : Int × Int × Int × Int × Vector Int (8) → Option (List UInt8)) y => p_wide_Num.b1 k j229 r y.1 y.2.1 y.2.2.1 y.2.2.2.1 y.2.2.2.2) k (x216, Min.min (Max.max x217 (0 : Int)) (8 : Int), Min.min (Max.max x217 (0 : Int)) (8 : Int), (0 : Int), Vector.replicate (8 : Nat) (dflt (T.int IntKind.u8)))
noncomputable def e_wide_Num (k : Nat) : Entry := ⟨Ds.mk [Vd.one (Ld.im (T.int IntKind.u64)), Vd.one (Ld.im (T.int IntKind.i64))] [], Ds.mk [Vd.one (Ld.im T.str)] [], fun x => p_wide_Num k x.1 x.2⟩
noncomputable def c_wide_Num (k : Nat) : Cx := ⟨Tryd.prog, [], [(9, Sd.mk [5, 6] (Ds.mk [Vd.one (Ld.ptr (0) (0)), Vd.one (Ld.im (T.int IntKind.i64))] [Od.blkT (108) (T.arr (8) (T.int IntKind.u8))]))], [], [(4, Sd.mk [0, 5, 6, 11, 12] (Ds.mk [Vd.one (Ld.im (T.int IntKind.u64)), Vd.one (Ld.ptr (0) (0)), Vd.one (Ld.im (T.int IntKind.i64)), Vd.one (Ld.im (T.int IntKind.i64)), Vd.one (Ld.im (T.int IntKind.i64))] [Od.blkT (108) (T.arr (8) (T.int IntKind.u8))]))], [], 0, 25, [(76, 0), (83, 1)], fun _ _ _ => none⟩
theorem q_wide_Num (k : Nat) (x : HL (e_wide_Num k).pre.ts) : runF (c_wide_Num k) k Tryd.f73 (e_wide_Num k).pre (e_wide_Num k).post x = (e_wide_Num k).fn x := by kernel_rfl
theorem s_wide_Num (k : Nat) : Entry.Sound Tryd.prog 73 (e_wide_Num k) := runF_sound (X := c_wide_Num k) (pre := (e_wide_Num k).pre) (post := (e_wide_Num k).post) (q := (e_wide_Num k).fn) ⟨dOk_nil, x_ext, x_mo⟩ Tryd.func73 (q_wide_Num k)

/- dormouse/key.Of: function 60 -/
noncomputable def p_key_Of (k : Nat) (x239 : Int) (x240 : Int) : Option (Vector Int (32)) :=
  Option.bind (p_wide_Num k x239 (8 : Int)) fun t241 => need ((↑(List.length (numsOf t241)) : Int) ≤ (8 : Int) - (0 : Int)) (Option.bind (p_wide_Num k x240 (8 : Int)) fun t243 => need ((↑(List.length (numsOf t243)) : Int) ≤ (↑(32 : Nat) : Int) - (24 : Int)) (some (vcopy (vcopy (Vector.replicate (32 : Nat) (dflt (T.int IntKind.u8))) (0 : Int) (numsOf t241)) (24 : Int) (numsOf t243))))
noncomputable def e_key_Of (k : Nat) : Entry := ⟨Ds.mk [Vd.one (Ld.im (T.int IntKind.u64)), Vd.one (Ld.im (T.int IntKind.u64))] [], Ds.mk [Vd.st (T.arr (32) (T.int IntKind.u8))] [], fun x => p_key_Of k x.1 x.2⟩
noncomputable def c_key_Of (k : Nat) : Cx := ⟨Tryd.prog, [(73, e_wide_Num k)], [], [], [], [(2, ([(0, 2), (1, 2), (2, 0)], [(3, Bool.false)], [])), (3, ([(0, 2), (1, 2), (2, 0)], [(3, Bool.false)], []))], 0, 15, [(76, 0), (83, 1)], fun _ _ _ => none⟩
theorem q_key_Of (k : Nat) (x : HL (e_key_Of k).pre.ts) : runF (c_key_Of k) k Tryd.f60 (e_key_Of k).pre (e_key_Of k).post x = (e_key_Of k).fn x := by kernel_rfl
theorem s_key_Of (k : Nat) : Entry.Sound Tryd.prog 60 (e_key_Of k) := runF_sound (X := c_key_Of k) (pre := (e_key_Of k).pre) (post := (e_key_Of k).post) (q := (e_key_Of k).fn) ⟨(dOk_cons (s_wide_Num k) dOk_nil), x_ext, x_mo⟩ Tryd.func60 (q_key_Of k)

/- dormouse/wide.Val: function 72 -/
noncomputable def p_wide_Val.j0 (k : Nat) (x297 : Int) : Option Int :=
  some x297
noncomputable def p_wide_Val.b1 (k : Nat) (j298 : Int → Option Int) (rec295 : List UInt8 × Int × Int → Option Int) (x291 : List UInt8) (x292 : Int) (x293 : Int) : Option Int :=
  bif (decide (x293 ≥ (0 : Int))) then need ((0 : Int) ≤ x293 ∧ x293 < (↑(List.length x291) : Int)) (rec295 (x291, ior IntKind.u64 (ishl IntKind.u64 x292 (8 : Int)) (IntKind.wrap IntKind.u64 (bat x291 x293)), IntKind.wrap IntKind.i64 (x293 - (1 : Int)))) else j298 x292
noncomputable def p_wide_Val (k : Nat) (x290 : List UInt8) : Option Int :=
  joinC (p_wide_Val.j0 k) fun (j298 : Int → Option Int) => loopC (fun (r : List UInt8 × Int × Int → Option Int) y => p_wide_Val.b1 k j298 r y.1 y.2.1 y.2.2) k (x290, (0 : Int), IntKind.wrap IntKind.i64 (Min.min (↑(List.length x290) : Int) (8 : Int) - (1 : Int)))
noncomputable def e_wide_Val (k : Nat) : Entry := ⟨Ds.mk [Vd.one (Ld.im T.str)] [], Ds.mk [Vd.one (Ld.im (T.int IntKind.u64))] [], fun x => p_wide_Val k x⟩
noncomputable def c_wide_Val (k : Nat) : Cx := ⟨Tryd.prog, [], [(6, Sd.mk [3] (Ds.mk [Vd.one (Ld.im (T.int IntKind.u64))] []))], [], [(3, Sd.mk [0, 3, 4] (Ds.mk [Vd.one (Ld.im T.str), Vd.one (Ld.im (T.int IntKind.u64)), Vd.one (Ld.im (T.int IntKind.i64))] []))], [], 0, 21, [(76, 0), (83, 1)], fun _ _ _ => none⟩
theorem q_wide_Val (k : Nat) (x : HL (e_wide_Val k).pre.ts) : runF (c_wide_Val k) k Tryd.f72 (e_wide_Val k).pre (e_wide_Val k).post x = (e_wide_Val k).fn x := by kernel_rfl
theorem s_wide_Val (k : Nat) : Entry.Sound Tryd.prog 72 (e_wide_Val k) := runF_sound (X := c_wide_Val k) (pre := (e_wide_Val k).pre) (post := (e_wide_Val k).post) (q := (e_wide_Val k).fn) ⟨dOk_nil, x_ext, x_mo⟩ Tryd.func72 (q_wide_Val k)

/- dormouse/key.Split$1: function 71 -/
noncomputable def p_key_Split_c1 (k : Nat) (x301 : Int) (x302 : Vector Int (32)) : Option Int :=
  need ((0 : Int) ≤ x301 ∧ x301 ≤ IntKind.wrap IntKind.i64 (x301 + (8 : Int)) ∧ IntKind.wrap IntKind.i64 (x301 + (8 : Int)) ≤ (↑(32 : Nat) : Int)) (Option.bind (p_wide_Val k (bytesOf (sub_ (Vector.toList x302) x301 (IntKind.wrap IntKind.i64 (x301 + (8 : Int)))))) fun t304 => some t304)
noncomputable def e_key_Split_c1 (k : Nat) : Entry := ⟨Ds.mk [Vd.one (Ld.im (T.int IntKind.i64)), Vd.one (Ld.ptr (0) (0))] [Od.rdT (43) (T.arr (32) (T.int IntKind.u8))], Ds.mk [Vd.one (Ld.im (T.int IntKind.u64))] [Od.gone], fun x => p_key_Split_c1 k x.1 x.2⟩
noncomputable def c_key_Split_c1 (k : Nat) : Cx := ⟨Tryd.prog, [(72, e_wide_Val k)], [], [], [], [], 1, 10, [(76, 0), (83, 1)], fun _ _ _ => none⟩
theorem q_key_Split_c1 (k : Nat) (x : HL (e_key_Split_c1 k).pre.ts) : runF (c_key_Split_c1 k) k Tryd.f71 (e_key_Split_c1 k).pre (e_key_Split_c1 k).post x = (e_key_Split_c1 k).fn x := by kernel_rfl
theorem s_key_Split_c1 (k : Nat) : Entry.Sound Tryd.prog 71 (e_key_Split_c1 k) := runF_sound (X := c_key_Split_c1 k) (pre := (e_key_Split_c1 k).pre) (post := (e_key_Split_c1 k).post) (q := (e_key_Split_c1 k).fn) ⟨(dOk_cons (s_wide_Val k) dOk_nil), x_ext, x_mo⟩ Tryd.func71 (q_key_Split_c1 k)

/- dormouse/key.Split: function 58 -/
noncomputable def p_key_Split (k : Nat) (x311 : Vector Int (32)) : Option (Int × Int × Bool) :=
  Option.bind (p_key_Split_c1 k (0 : Int) x311) fun t312 => Option.bind (p_key_Split_c1 k (24 : Int) x311) fun t313 => Option.bind (p_key_Of k t312 t313) fun t314 => bif (!decide (t314 = x311)) then some ((0 : Int), (0 : Int), Bool.false) else some (t312, t313, Bool.true)
noncomputable def e_key_Split (k : Nat) : Entry := ⟨Ds.mk [Vd.st (T.arr (32) (T.int IntKind.u8))] [], Ds.mk [Vd.one (Ld.im (T.int IntKind.u64)), Vd.one (Ld.im (T.int IntKind.u64)), Vd.one (Ld.im T.bool)] [], fun x => p_key_Split k x⟩
noncomputable def c_key_Split (k : Nat) : Cx := ⟨Tryd.prog, [(60, e_key_Of k), (71, e_key_Split_c1 k)], [], [], [], [(3, ([(0, 2), (1, 2), (2, 0), (3, 1), (4, 2)], [], []))], 0, 20, [(76, 0), (83, 1)], fun _ _ _ => none⟩
theorem q_key_Split (k : Nat) (x : HL (e_key_Split k).pre.ts) : runF (c_key_Split k) k Tryd.f58 (e_key_Split k).pre (e_key_Split k).post x = (e_key_Split k).fn x := by kernel_rfl
theorem s_key_Split (k : Nat) : Entry.Sound Tryd.prog 58 (e_key_Split k) := runF_sound (X := c_key_Split k) (pre := (e_key_Split k).pre) (post := (e_key_Split k).post) (q := (e_key_Split k).fn) ⟨(dOk_cons (s_key_Of k) (dOk_cons (s_key_Split_c1 k) dOk_nil)), x_ext, x_mo⟩ Tryd.func58 (q_key_Split k)

/- dormouse/key.decimal: function 59 -/
noncomputable def p_key_decimal.j0 (k : Nat) (x326 : Int) (x327 : List UInt8) : Option (List UInt8) :=
  need ((0 : Int) ≤ x326 ∧ x326 ≤ IntKind.wrap IntKind.u64 (x326 + (1 : Int)) ∧ IntKind.wrap IntKind.u64 (x326 + (1 : Int)) ≤ (↑(16) : Int)) (need (List.length (sub_ [(48 : UInt8), (49 : UInt8), (50 : UInt8), (51 : UInt8), (52 : UInt8), (53 : UInt8), (54 : UInt8), (55 : UInt8), (56 : UInt8), (57 : UInt8), (97 : UInt8), (98 : UInt8), (99 : UInt8), (100 : UInt8), (101 : UInt8), (102 : UInt8)] x326 (IntKind.wrap IntKind.u64 (x326 + (1 : Int)))) + List.length x327 ≤ (9223372036854775807 : Nat)) (some (sub_ [(48 : UInt8), (49 : UInt8), (50 : UInt8), (51 : UInt8), (52 : UInt8), (53 : UInt8), (54 : UInt8), (55 : UInt8), (56 : UInt8), (57 : UInt8), (97 : UInt8), (98 : UInt8), (99 : UInt8), (100 : UInt8), (101 : UInt8), (102 : UInt8)] x326 (IntKind.wrap IntKind.u64 (x326 + (1 : Int))) ++ x327)))
noncomputable def p_key_decimal.b1 (k : Nat) (j330 : Int × List UInt8 → Option (List UInt8)) (rec324 : Int × List UInt8 → Option (List UInt8)) (x320 : Int) (x321 : List UInt8) : Option (List UInt8) :=
  bif (decide (x320 > (9 : Int))) then need ((0 : Int) ≤ Int.tmod x320 (10 : Int) ∧ Int.tmod x320 (10 : Int) ≤ IntKind.wrap IntKind.u64 (Int.tmod x320 (10 : Int) + (1 : Int)) ∧ IntKind.wrap IntKind.u64 (Int.tmod x320 (10 : Int) + (1 : Int)) ≤ (↑(16) : Int)) (need (List.length (sub_ [(48 : UInt8), (49 : UInt8), (50 : UInt8), (51 : UInt8), (52 : UInt8), (53 : UInt8), (54 : UInt8), (55 : UInt8), (56 : UInt8), (57 : UInt8), (97 : UInt8), (98 : UInt8), (99 : UInt8), (100 : UInt8), (101 : UInt8), (102 : UInt8)] (Int.tmod x320 (10 : Int)) (IntKind.wrap IntKind.u64 (Int.tmod x320 (10 : Int) + (1 : Int)))) + List.length x321 ≤ (9223372036854775807 : Nat)) (rec324 (IntKind.wrap IntKind.u64 (Int.tdiv x320 (10 : Int)), sub_ [(48 : UInt8), (49 : UInt8), (50 : UInt8), (51 : UInt8), (52 : UInt8), (53 : UInt8), (54 : UInt8), (55 : UInt8), (56 : UInt8), (57 : UInt8), (97 : UInt8), (98 : UInt8), (99 : UInt8), (100 : UInt8), (101 : UInt8), (102 : UInt8)] (Int.tmod x320 (10 : Int)) (IntKind.wrap IntKind.u64 (Int.tmod x320 (10 : Int) + (1 : Int))) ++ x321))) else j330 (x320, x321)
noncomputable def p_key_decimal (k : Nat) (x319 : Int) : Option (List UInt8) :=
  joinC (fun (y : Int × List UInt8) => p_key_decimal.j0 k y.1 y.2) fun (j330 : Int × List UInt8 → Option (List UInt8)) => loopC (fun (r : Int × List UInt8 → Option (List UInt8)) y => p_key_decimal.b1 k j330 r y.1 y.2) k (x319, [])
noncomputable def e_key_decimal (k : Nat) : Entry := ⟨Ds.mk [Vd.one (Ld.im (T.int IntKind.u64))] [], Ds.mk [Vd.one (Ld.im T.str)] [], fun x => p_key_decimal k x⟩
noncomputable def c_key_decimal (k : Nat) : Cx := ⟨Tryd.prog, [], [(5, Sd.mk [0, 3] (Ds.mk [Vd.one (Ld.im (T.int IntKind.u64)), Vd.one (Ld.im T.str)] []))], [], [(2, Sd.mk [0, 3] (Ds.mk [Vd.one (Ld.im (T.int IntKind.u64)), Vd.one (Ld.im T.str)] []))], [], 0, 22, [(76, 0), (83, 1)], fun _ _ _ => none⟩
theorem q_key_decimal (k : Nat) (x : HL (e_key_decimal k).pre.ts) : runF (c_key_decimal k) k Tryd.f59 (e_key_decimal k).pre (e_key_decimal k).post x = (e_key_decimal k).fn x := by kernel_rfl
theorem s_key_decimal (k : Nat) : Entry.Sound Tryd.prog 59 (e_key_decimal k) := runF_sound (X := c_key_decimal k) (pre := (e_key_decimal k).pre) (post := (e_key_decimal k).post) (q := (e_key_decimal k).fn) ⟨dOk_nil, x_ext, x_mo⟩ Tryd.func59 (q_key_decimal k)

/- dormouse/key.Text: function 44 -/
noncomputable def p_key_Text.j0 (k : Nat) (x367 : List Int) : Option (List UInt8) :=
  some (bytesOf x367)
noncomputable def p_key_Text.b1 (k : Nat) (j368 : List Int → Option (List UInt8)) (rec365 : Vector Int (32) × Int × List Int → Option (List UInt8)) (x358 : Vector Int (32)) (x359 : Int) (x360 : List Int) : Option (List UInt8) :=
  bif (decide (x359 < (32 : Int))) then need ((0 : Int) ≤ x359 ∧ x359 < (↑(32) : Int)) (need ((0 : Int) ≤ ishr IntKind.u8 (at_ (dflt (T.int IntKind.u8)) (Vector.toList x358) x359) (4 : Int) ∧ ishr IntKind.u8 (at_ (dflt (T.int IntKind.u8)) (Vector.toList x358) x359) (4 : Int) < (↑(16) : Int)) (need ((0 : Int) ≤ iand IntKind.u8 (at_ (dflt (T.int IntKind.u8)) (Vector.toList x358) x359) (15 : Int) ∧ iand IntKind.u8 (at_ (dflt (T.int IntKind.u8)) (Vector.toList x358) x359) (15 : Int) < (↑(16) : Int)) (need ((List.length x360 + List.length [bat [(48 : UInt8), (49 : UInt8), (50 : UInt8), (51 : UInt8), (52 : UInt8), (53 : UInt8), (54 : UInt8), (55 : UInt8), (56 : UInt8), (57 : UInt8), (97 : UInt8), (98 : UInt8), (99 : UInt8), (100 : UInt8), (101 : UInt8), (102 : UInt8)] (ishr IntKind.u8 (at_ (dflt (T.int IntKind.u8)) (Vector.toList x358) x359) (4 : Int)), bat [(48 : UInt8), (49 : UInt8), (50 : UInt8), (51 : UInt8), (52 : UInt8), (53 : UInt8), (54 : UInt8), (55 : UInt8), (56 : UInt8), (57 : UInt8), (97 : UInt8), (98 : UInt8), (99 : UInt8), (100 : UInt8), (101 : UInt8), (102 : UInt8)] (iand IntKind.u8 (at_ (dflt (T.int IntKind.u8)) (Vector.toList x358) x359) (15 : Int))]) * Go.TypeInfo.bytes (Go.Tables.types (Go.Program.toTables Go.Proofs.Tryd.prog))[(5 : Nat)] ≤ (140737488355328 : Nat)) (rec365 (x358, IntKind.wrap IntKind.i64 (x359 + (1 : Int)), x360 ++ [bat [(48 : UInt8), (49 : UInt8), (50 : UInt8), (51 : UInt8), (52 : UInt8), (53 : UInt8), (54 : UInt8), (55 : UInt8), (56 : UInt8), (57 : UInt8), (97 : UInt8), (98 : UInt8), (99 : UInt8), (100 : UInt8), (101 : UInt8), (102 : UInt8)] (ishr IntKind.u8 (at_ (dflt (T.int IntKind.u8)) (Vector.toList x358) x359) (4 : Int)), bat [(48 : UInt8), (49 : UInt8), (50 : UInt8), (51 : UInt8), (52 : UInt8), (53 : UInt8), (54 : UInt8), (55 : UInt8), (56 : UInt8), (57 : UInt8), (97 : UInt8), (98 : UInt8), (99 : UInt8), (100 : UInt8), (101 : UInt8), (102 : UInt8)] (iand IntKind.u8 (at_ (dflt (T.int IntKind.u8)) (Vector.toList x358) x359) (15 : Int))]))))) else j368 x360
noncomputable def p_key_Text (k : Nat) (x352 : Vector Int (32)) : Option (List UInt8) :=
  Option.bind (p_key_Split k x352) fun t353 => bif (Prod.snd (Prod.snd t353)) then Option.bind (p_key_decimal k (Prod.fst t353)) fun t354 => need (List.length t354 + 1 ≤ (9223372036854775807 : Nat)) (Option.bind (p_key_decimal k (Prod.fst (Prod.snd t353))) fun t356 => need (List.length (t354 ++ [(46 : UInt8)]) + List.length t356 ≤ (9223372036854775807 : Nat)) (some (t354 ++ [(46 : UInt8)] ++ t356))) else joinC (p_key_Text.j0 k) fun (j368 : List Int → Option (List UInt8)) => loopC (fun (r : Vector Int (32) × Int × List Int → Option (List UInt8)) y => p_key_Text.b1 k j368 r y.1 y.2.1 y.2.2) k (x352, (0 : Int), [])
noncomputable def e_key_Text (k : Nat) : Entry := ⟨Ds.mk [Vd.st (T.arr (32) (T.int IntKind.u8))] [], Ds.mk [Vd.one (Ld.im T.str)] [], fun x => p_key_Text k x⟩
noncomputable def c_key_Text (k : Nat) : Cx := ⟨Tryd.prog, [(58, e_key_Split k), (59, e_key_decimal k)], [(10, Sd.mk [6] (Ds.mk [Vd.one (Ld.own (0))] [Od.arr (5) (T.int IntKind.u8)]))], [], [(6, Sd.mk [6, 22, 23] (Ds.mk [Vd.one (Ld.own (0)), Vd.st (T.arr (32) (T.int IntKind.u8)), Vd.one (Ld.im (T.int IntKind.i64))] [Od.arr (5) (T.int IntKind.u8)]))], [(8, ([(0, 2), (1, 2), (2, 2), (3, 2), (4, 2), (5, 2), (6, 2)], [(7, Bool.false), (8, Bool.false), (9, Bool.false)], []))], 0, 38, [(76, 0), (83, 1)], fun _ _ _ => none⟩
theorem q_key_Text (k : Nat) (x : HL (e_key_Text k).pre.ts) : runF (c_key_Text k) k Tryd.f44 (e_key_Text k).pre (e_key_Text k).post x = (e_key_Text k).fn x := by kernel_rfl
theorem s_key_Text (k : Nat) : Entry.Sound Tryd.prog 44 (e_key_Text k) := runF_sound (X := c_key_Text k) (pre := (e_key_Text k).pre) (post := (e_key_Text k).post) (q := (e_key_Text k).fn) ⟨(dOk_cons (s_key_Split k) (dOk_cons (s_key_decimal k) dOk_nil)), x_ext, x_mo⟩ Tryd.func44 (q_key_Text k)

/- dormouse/key.Parse: function 48 -/
noncomputable def p_key_Parse.j0 (k : Nat) (x387 : List UInt8) (x388 : Vector Int (32)) (x389 : Vector Int (32)) : Option (Vector Int (32) × Int) :=
  Option.bind (p_key_Text k x389) fun t390 => bif (!t390 == x387) then some (bparts (32 : Nat) (dflt (T.int IntKind.u8)) [], (6 : Int)) else some (x389, (0 : Int))
noncomputable def p_key_Parse.b1 (k : Nat) (j391 : List UInt8 × Vector Int (32) × Vector Int (32) → Option (Vector Int (32) × Int)) (rec385 : List UInt8 × Int × Int × Vector Int (32) × Vector Int (32) → Option (Vector Int (32) × Int)) (x376 : List UInt8) (x377 : Int) (x378 : Int) (x379 : Vector Int (32)) (x380 : Vector Int (32)) : Option (Vector Int (32) × Int) :=
  bif (decide (x378 < x377)) then need ((0 : Int) ≤ x378 ∧ x378 < (↑(List.length x376) : Int)) (Option.bind (p_strings_IndexByte [(48 : UInt8), (49 : UInt8), (50 : UInt8), (51 : UInt8), (52 : UInt8), (53 : UInt8), (54 : UInt8), (55 : UInt8), (56 : UInt8), (57 : UInt8), (97 : UInt8), (98 : UInt8), (99 : UInt8), (100 : UInt8), (101 : UInt8), (102 : UInt8)] (bat x376 x378)) fun t382 => need ((0 : Int) ≤ IntKind.wrap IntKind.i64 (Int.tdiv x378 (2 : Int)) ∧ IntKind.wrap IntKind.i64 (Int.tdiv x378 (2 : Int)) < (↑(32 : Nat) : Int)) (need ((0 : Int) ≤ IntKind.wrap IntKind.i64 (Int.tdiv x378 (2 : Int)) ∧ IntKind.wrap IntKind.i64 (Int.tdiv x378 (2 : Int)) < (↑(32 : Nat) : Int)) (rec385 (x376, x377, IntKind.wrap IntKind.i64 (x378 + (1 : Int)), x379, vset x380 (IntKind.wrap IntKind.i64 (Int.tdiv x378 (2 : Int))) (ior IntKind.u8 (ishl IntKind.u8 (at_ (dflt (T.int IntKind.u8)) (Vector.toList x380) (IntKind.wrap IntKind.i64 (Int.tdiv x378 (2 : Int)))) (4 : Int)) (IntKind.wrap IntKind.u8 (Max.max t382 (0 : Int)))))))) else j391 (x376, x379, x380)
noncomputable def p_key_Parse (k : Nat) (x371 : List UInt8) : Option (Vector Int (32) × Int) :=
  joinC (fun (y : List UInt8 × Vector Int (32) × Vector Int (32)) => p_key_Parse.j0 k y.1 y.2.1 y.2.2) fun (j391 : List UInt8 × Vector Int (32) × Vector Int (32) → Option (Vector Int (32) × Int)) => Option.bind (p_strings_Cut x371 [(46 : UInt8)]) fun t372 => bif (Prod.snd (Prod.snd t372)) then Option.bind (p_key_number k (Prod.fst t372)) fun t373 => Option.bind (p_key_number k (Prod.fst (Prod.snd t372))) fun t374 => Option.bind (p_key_Of k t373 t374) fun t375 => j391 (x371, Vector.replicate (32 : Nat) (dflt (T.int IntKind.u8)), t375) else bif ((↑(List.length x371) : Int) == (64 : Int)) then loopC (fun (r : List UInt8 × Int × Int × Vector Int (32) × Vector Int (32) → Option (Vector Int (32) × Int)) y => p_key_Parse.b1 k j391 r y.1 y.2.1 y.2.2.1 y.2.2.2.1 y.2.2.2.2) k (x371, (↑(List.length x371) : Int), (0 : Int), Vector.replicate (32 : Nat) (dflt (T.int IntKind.u8)), Vector.replicate (32 : Nat) (dflt (T.int IntKind.u8))) else j391 (x371, Vector.replicate (32 : Nat) (dflt (T.int IntKind.u8)), Vector.replicate (32 : Nat) (dflt (T.int IntKind.u8)))
noncomputable def e_key_Parse (k : Nat) : Entry := ⟨Ds.mk [Vd.one (Ld.im T.str)] [], Ds.mk [Vd.st (T.arr (32) (T.int IntKind.u8)), Vd.one (Ld.im (T.int IntKind.i64))] [], fun x => p_key_Parse k x⟩
noncomputable def c_key_Parse (k : Nat) : Cx := ⟨Tryd.prog, [(38, e_strings_Cut), (61, e_key_number k), (60, e_key_Of k), (51, e_strings_IndexByte), (44, e_key_Text k)], [(12, Sd.mk [0, 2, 4] (Ds.mk [Vd.one (Ld.im T.str), Vd.one (Ld.ptr (0) (0)), Vd.one (Ld.ptr (1) (0))] [Od.blkT (43) (T.arr (32) (T.int IntKind.u8)), Od.blkT (43) (T.arr (32) (T.int IntKind.u8))]))], [], [(7, Sd.mk [0, 2, 4, 26, 27] (Ds.mk [Vd.one (Ld.im T.str), Vd.one (Ld.ptr (0) (0)), Vd.one (Ld.ptr (1) (0)), Vd.one (Ld.im (T.int IntKind.i64)), Vd.one (Ld.im (T.int IntKind.i64))] [Od.blkT (43) (T.arr (32) (T.int IntKind.u8)), Od.blkT (43) (T.arr (32) (T.int IntKind.u8))]))], [], 0, 53, [(76, 0), (83, 1)], fun _ _ _ => none⟩
theorem q_key_Parse (k : Nat) (x : HL (e_key_Parse k).pre.ts) : runF (c_key_Parse k) k Tryd.f48 (e_key_Parse k).pre (e_key_Parse k).post x = (e_key_Parse k).fn x := by kernel_rfl
theorem s_key_Parse (k : Nat) : Entry.Sound Tryd.prog 48 (e_key_Parse k) := runF_sound (X := c_key_Parse k) (pre := (e_key_Parse k).pre) (post := (e_key_Parse k).post) (q := (e_key_Parse k).fn) ⟨(dOk_cons (s_strings_Cut) (dOk_cons (s_key_number k) (dOk_cons (s_key_Of k) (dOk_cons (s_strings_IndexByte) (dOk_cons (s_key_Text k) dOk_nil))))), x_ext, x_mo⟩ Tryd.func48 (q_key_Parse k)

/- dormouse/cmd.Check: function 24 -/
noncomputable def p_cmd_Check.j0 (x519 : Bool) : Option Int :=
  bif x519 then some (2 : Int) else some (0 : Int)
noncomputable def p_cmd_Check (x516 : Int × Vector Int (32) × List UInt8) : Option Int :=
  Option.bind (p_cmd_parts (Prod.fst x516)) fun t517 => joinC (p_cmd_Check.j0) fun (j520 : Bool → Option Int) => Option.bind (p_cmd_word (Prod.fst x516)) fun t518 => bif (t518 == []) then j520 Bool.true else bif (decide ((↑(List.length (Prod.snd (Prod.snd x516))) : Int) > (70000 : Int))) then j520 Bool.true else bif (decide (t517 < (2 : Int))) then bif (!Prod.snd (Prod.snd x516) == []) then j520 Bool.true else bif (decide (t517 < (1 : Int))) then j520 (!decide (Prod.fst (Prod.snd x516) = bparts (32 : Nat) (dflt (T.int IntKind.u8)) [])) else j520 Bool.false else bif (decide (t517 < (1 : Int))) then j520 (!decide (Prod.fst (Prod.snd x516) = bparts (32 : Nat) (dflt (T.int IntKind.u8)) [])) else j520 Bool.false
noncomputable def e_cmd_Check : Entry := ⟨Ds.mk [Vd.st (T.pair (T.int IntKind.i64) (T.pair (T.arr (32) (T.int IntKind.u8)) T.str))] [], Ds.mk [Vd.one (Ld.im (T.int IntKind.i64))] [], fun x => p_cmd_Check x⟩
noncomputable def c_cmd_Check : Cx := ⟨Tryd.prog, [(43, e_cmd_word), (45, e_cmd_parts)], [], [(2, Sd.mk [35] (Ds.mk [Vd.one (Ld.im T.bool)] []))], [], [], 0, 36, [(76, 0), (83, 1)], fun _ _ _ => none⟩
theorem q_cmd_Check (x : HL (e_cmd_Check).pre.ts) : runF (c_cmd_Check) 0 Tryd.f24 (e_cmd_Check).pre (e_cmd_Check).post x = (e_cmd_Check).fn x := by kernel_rfl
theorem s_cmd_Check : Entry.Sound Tryd.prog 24 (e_cmd_Check) := runF_sound (X := c_cmd_Check) (pre := (e_cmd_Check).pre) (post := (e_cmd_Check).post) (q := (e_cmd_Check).fn) ⟨(dOk_cons (s_cmd_word) (dOk_cons (s_cmd_parts) dOk_nil)), x_ext, x_mo⟩ Tryd.func24 (q_cmd_Check)

/- dormouse/cmd.Text: function 22 -/
noncomputable def p_cmd_Text (k : Nat) (x540 : Int × Vector Int (32) × List UInt8) : Option (List UInt8 × Int) :=
  Option.bind (p_cmd_Check (Prod.fst x540, Prod.fst (Prod.snd x540), Prod.snd (Prod.snd x540))) fun t541 => bif (t541 != (0 : Int)) then some ([], t541) else Option.bind (p_cmd_word (Prod.fst x540)) fun t542 => Option.bind (p_key_Text k (Prod.fst (Prod.snd x540))) fun t543 => Option.bind (p_cmd_Hex k (Prod.snd (Prod.snd x540))) fun t544 => Option.bind (p_cmd_parts (Prod.fst x540)) fun t545 => need ((0 : Int) ≤ (0 : Int) ∧ (0 : Int) ≤ IntKind.wrap IntKind.i64 ((1 : Int) + t545) ∧ IntKind.wrap IntKind.i64 ((1 : Int) + t545) ≤ (↑(List.length [t542, t543, t544]) : Int)) (Option.bind (p_strings_Join (List.take (Int.toNat (IntKind.wrap IntKind.i64 ((1 : Int) + t545))) [t542, t543, t544]) [(32 : UInt8)]) fun t547 => some (t547, (0 : Int)))
noncomputable def e_cmd_Text (k : Nat) : Entry := ⟨Ds.mk [Vd.st (T.pair (T.int IntKind.i64) (T.pair (T.arr (32) (T.int IntKind.u8)) T.str))] [], Ds.mk [Vd.one (Ld.im T.str), Vd.one (Ld.im (T.int IntKind.i64))] [], fun x => p_cmd_Text k x⟩
noncomputable def c_cmd_Text (k : Nat) : Cx := ⟨Tryd.prog, [(43, e_cmd_word), (45, e_cmd_parts), (44, e_key_Text k), (28, e_cmd_Hex k), (24, e_cmd_Check), (40, e_strings_Join)], [], [], [], [(4, ([(0, 2), (1, 1), (2, 0), (3, 2), (4, 1), (5, 0), (6, 2), (7, 1), (8, 0)], [(9, Bool.false), (10, Bool.false)], []))], 0, 28, [(76, 0), (83, 1)], fun _ _ _ => none⟩
theorem q_cmd_Text (k : Nat) (x : HL (e_cmd_Text k).pre.ts) : runF (c_cmd_Text k) k Tryd.f22 (e_cmd_Text k).pre (e_cmd_Text k).post x = (e_cmd_Text k).fn x := by kernel_rfl
theorem s_cmd_Text (k : Nat) : Entry.Sound Tryd.prog 22 (e_cmd_Text k) := runF_sound (X := c_cmd_Text k) (pre := (e_cmd_Text k).pre) (post := (e_cmd_Text k).post) (q := (e_cmd_Text k).fn) ⟨(dOk_cons (s_cmd_word) (dOk_cons (s_cmd_parts) (dOk_cons (s_key_Text k) (dOk_cons (s_cmd_Hex k) (dOk_cons (s_cmd_Check) (dOk_cons (s_strings_Join) dOk_nil)))))), x_ext, x_mo⟩ Tryd.func22 (q_cmd_Text k)

/- dormouse/cmd.Parse: function 25 -/
noncomputable def p_cmd_Parse.j2 (k : Nat) (x567 : Bool) (x568 : Int × Vector Int (32) × List UInt8) (x569 : Int × Vector Int (32) × List UInt8) : Option ((Int × Vector Int (32) × List UInt8) × Int) :=
  bif x567 then some (((0 : Int), Vector.replicate (32 : Nat) (dflt (T.int IntKind.u8)), []), (6 : Int)) else some ((Prod.fst x569, Prod.fst (Prod.snd x569), Prod.snd (Prod.snd x569)), (0 : Int))
noncomputable def p_cmd_Parse.j1 (k : Nat) (x563 : List UInt8) (x564 : Int × Vector Int (32) × List UInt8) (x565 : Int × Vector Int (32) × List UInt8) : Option ((Int × Vector Int (32) × List UInt8) × Int) :=
  Option.bind (p_cmd_Text k (Prod.fst x565, Prod.fst (Prod.snd x565), Prod.snd (Prod.snd x565))) fun t566 => joinC (fun (y : Bool × (Int × Vector Int (32) × List UInt8) × Int × Vector Int (32) × List UInt8) => p_cmd_Parse.j2 k y.1 y.2.1 y.2.2) fun (j570 : Bool × (Int × Vector Int (32) × List UInt8) × Int × Vector Int (32) × List UInt8 → Option ((Int × Vector Int (32) × List UInt8) × Int)) => bif (Prod.snd t566 != (0 : Int)) then j570 (Bool.true, (Prod.fst x564, Prod.fst (Prod.snd x564), Prod.snd (Prod.snd x564)), Prod.fst x565, Prod.fst (Prod.snd x565), Prod.snd (Prod.snd x565)) else j570 (!Prod.fst t566 == x563, (Prod.fst x564, Prod.fst (Prod.snd x564), Prod.snd (Prod.snd x564)), Prod.fst x565, Prod.fst (Prod.snd x565), Prod.snd (Prod.snd x565))
noncomputable def p_cmd_Parse.j0 (k : Nat) (x556 : List UInt8) (x557 : Int × Vector Int (32) × List UInt8) (x558 : Int × Vector Int (32) × List UInt8) (x559 : List (List UInt8)) : Option ((Int × Vector Int (32) × List UInt8) × Int) :=
  joinC (fun (y : List UInt8 × (Int × Vector Int (32) × List UInt8) × Int × Vector Int (32) × List UInt8) => p_cmd_Parse.j1 k y.1 y.2.1 y.2.2) fun (j572 : List UInt8 × (Int × Vector Int (32) × List UInt8) × Int × Vector Int (32) × List UInt8 → Option ((Int × Vector Int (32) × List UInt8) × Int)) => Option.bind (p_cmd_parts (Prod.fst x558)) fun t560 => bif (decide (t560 > (1 : Int))) then Option.bind (p_cmd_Parse_c1 (2 : Int) x559) fun t561 => Option.bind (p_cmd_Bytes k t561) fun t562 => j572 (x556, (Prod.fst x557, Prod.fst (Prod.snd x557), Prod.snd (Prod.snd x557)), Prod.fst x558, Prod.fst (Prod.snd x558), Prod.fst t562) else j572 (x556, (Prod.fst x557, Prod.fst (Prod.snd x557), Prod.snd (Prod.snd x557)), Prod.fst x558, Prod.fst (Prod.snd x558), Prod.snd (Prod.snd x558))
noncomputable def p_cmd_Parse (k : Nat) (x549 : List UInt8) : Option ((Int × Vector Int (32) × List UInt8) × Int) :=
  Option.bind (p_strings_Split k x549 [(32 : UInt8)]) fun t550 => Option.bind (p_cmd_Parse_c1 (0 : Int) t550) fun t551 => Option.bind (p_cmd_kind k t551) fun t552 => bif (decide (t552 < (0 : Int))) then some (((0 : Int), Vector.replicate (32 : Nat) (dflt (T.int IntKind.u8)), []), (15 : Int)) else joinC (fun (y : List UInt8 × (Int × Vector Int (32) × List UInt8) × (Int × Vector Int (32) × List UInt8) × List (List UInt8)) => p_cmd_Parse.j0 k y.1 y.2.1 y.2.2.1 y.2.2.2) fun (j574 : List UInt8 × (Int × Vector Int (32) × List UInt8) × (Int × Vector Int (32) × List UInt8) × List (List UInt8) → Option ((Int × Vector Int (32) × List UInt8) × Int)) => Option.bind (p_cmd_parts t552) fun t553 => bif (decide (t553 > (0 : Int))) then Option.bind (p_cmd_Parse_c1 (1 : Int) t550) fun t554 => Option.bind (p_key_Parse k t554) fun t555 => j574 (x549, ((0 : Int), Vector.replicate (32 : Nat) (dflt (T.int IntKind.u8)), []), (t552, Prod.fst t555, []), t550) else j574 (x549, ((0 : Int), Vector.replicate (32 : Nat) (dflt (T.int IntKind.u8)), []), (t552, Vector.replicate (32 : Nat) (dflt (T.int IntKind.u8)), []), t550)
noncomputable def e_cmd_Parse (k : Nat) : Entry := ⟨Ds.mk [Vd.one (Ld.im T.str)] [], Ds.mk [Vd.st (T.pair (T.int IntKind.i64) (T.pair (T.arr (32) (T.int IntKind.u8)) T.str)), Vd.one (Ld.im (T.int IntKind.i64))] [], fun x => p_cmd_Parse k x⟩
noncomputable def c_cmd_Parse (k : Nat) : Cx := ⟨Tryd.prog, [(39, e_strings_Split k), (46, e_cmd_Parse_c1), (47, e_cmd_kind k), (45, e_cmd_parts), (48, e_key_Parse k), (29, e_cmd_Bytes k), (22, e_cmd_Text k)], [(8, Sd.mk [0, 2, 5, 6] (Ds.mk [Vd.one (Ld.im T.str), Vd.one (Ld.ptr (0) (0)), Vd.one (Ld.fn (46) [1]), Vd.one (Ld.ptr (2) (0))] [Od.blkT (45) (T.pair (T.int IntKind.i64) (T.pair (T.arr (32) (T.int IntKind.u8)) T.str)), Od.blk (67) [Ld.own (3)], Od.blkT (45) (T.pair (T.int IntKind.i64) (T.pair (T.arr (32) (T.int IntKind.u8)) T.str)), Od.arr (9) T.str])), (10, Sd.mk [0, 2, 6] (Ds.mk [Vd.one (Ld.im T.str), Vd.one (Ld.ptr (0) (0)), Vd.one (Ld.ptr (1) (0))] [Od.blkT (45) (T.pair (T.int IntKind.i64) (T.pair (T.arr (32) (T.int IntKind.u8)) T.str)), Od.blkT (45) (T.pair (T.int IntKind.i64) (T.pair (T.arr (32) (T.int IntKind.u8)) T.str))]))], [(11, Sd.mk [2, 6, 53] (Ds.mk [Vd.one (Ld.ptr (0) (0)), Vd.one (Ld.ptr (1) (0)), Vd.one (Ld.im T.bool)] [Od.blkT (45) (T.pair (T.int IntKind.i64) (T.pair (T.arr (32) (T.int IntKind.u8)) T.str)), Od.blkT (45) (T.pair (T.int IntKind.i64) (T.pair (T.arr (32) (T.int IntKind.u8)) T.str))]))], [], [], 0, 56, [(76, 0), (83, 1)], fun _ _ _ => none⟩
theorem q_cmd_Parse (k : Nat) (x : HL (e_cmd_Parse k).pre.ts) : runF (c_cmd_Parse k) k Tryd.f25 (e_cmd_Parse k).pre (e_cmd_Parse k).post x = (e_cmd_Parse k).fn x := by kernel_rfl
theorem s_cmd_Parse (k : Nat) : Entry.Sound Tryd.prog 25 (e_cmd_Parse k) := runF_sound (X := c_cmd_Parse k) (pre := (e_cmd_Parse k).pre) (post := (e_cmd_Parse k).post) (q := (e_cmd_Parse k).fn) ⟨(dOk_cons (s_strings_Split k) (dOk_cons (s_cmd_Parse_c1) (dOk_cons (s_cmd_kind k) (dOk_cons (s_cmd_parts) (dOk_cons (s_key_Parse k) (dOk_cons (s_cmd_Bytes k) (dOk_cons (s_cmd_Text k) dOk_nil))))))), x_ext, x_mo⟩ Tryd.func25 (q_cmd_Parse k)

/- dormouse/cmd.All: function 33 -/
noncomputable def p_cmd_All.j0 (k : Nat) (x597 : List (Int × Vector Int (32) × List UInt8)) : Option (Int × Int × List (Int × Vector Int (32) × List UInt8)) :=
  some ((0 : Int), (0 : Int), x597)
noncomputable def p_cmd_All.j2 (k : Nat) (rec595 : Int × Int × List (Int × Vector Int (32) × List UInt8) × List (List UInt8) → Option (Int × Int × List (Int × Vector Int (32) × List UInt8))) (x589 : Int) (x590 : Int) (x591 : List (Int × Vector Int (32) × List UInt8)) (x592 : List (List UInt8)) : Option (Int × Int × List (Int × Vector Int (32) × List UInt8)) :=
  rec595 (x589, IntKind.wrap IntKind.i64 (x590 + (1 : Int)), x591, x592)
noncomputable def p_cmd_All.b1 (k : Nat) (j598 : List (Int × Vector Int (32) × List UInt8) → Option (Int × Int × List (Int × Vector Int (32) × List UInt8))) (rec595 : Int × Int × List (Int × Vector Int (32) × List UInt8) × List (List UInt8) → Option (Int × Int × List (Int × Vector Int (32) × List UInt8))) (x582 : Int) (x583 : Int) (x584 : List (Int × Vector Int (32) × List UInt8)) (x585 : List (List UInt8)) : Option (Int × Int × List (Int × Vector Int (32) × List UInt8)) :=
  bif (decide (x583 < x582)) then joinC (fun (y : Int × Int × List (Int × Vector Int (32) × List UInt8) × List (List UInt8)) => p_cmd_All.j2 k rec595 y.1 y.2.1 y.2.2.1 y.2.2.2) fun (j593 : Int × Int × List (Int × Vector Int (32) × List UInt8) × List (List UInt8) → Option (Int × Int × List (Int × Vector Int (32) × List UInt8))) => need ((0 : Int) ≤ x583 ∧ x583 < (↑(List.length x585) : Int)) (bif (at_ (dflt T.str) x585 x583 == []) then j593 (x582, x583, x584, x585) else Option.bind (p_cmd_Parse k (at_ (dflt T.str) x585 x583)) fun t587 => bif (Prod.snd t587 != (0 : Int)) then some (IntKind.wrap IntKind.i64 (x583 + (1 : Int)), Prod.snd t587, []) else need ((List.length x584 + List.length [(Prod.fst (Prod.fst t587), Prod.fst (Prod.snd (Prod.fst t587)), Prod.snd (Prod.snd (Prod.fst t587)))]) * Go.TypeInfo.bytes (Go.Tables.types (Go.Program.toTables Go.Proofs.Tryd.prog))[(45 : Nat)] ≤ (140737488355328 : Nat)) (j593 (x582, x583, x584 ++ [(Prod.fst (Prod.fst t587), Prod.fst (Prod.snd (Prod.fst t587)), Prod.snd (Prod.snd (Prod.fst t587)))], x585))) else j598 x584
noncomputable def p_cmd_All (k : Nat) (x580 : List UInt8) : Option (Int × Int × List (Int × Vector Int (32) × List UInt8)) :=
  joinC (p_cmd_All.j0 k) fun (j598 : List (Int × Vector Int (32) × List UInt8) → Option (Int × Int × List (Int × Vector Int (32) × List UInt8))) => Option.bind (p_strings_Split k x580 [(10 : UInt8)]) fun t581 => loopC (fun (r : Int × Int × List (Int × Vector Int (32) × List UInt8) × List (List UInt8) → Option (Int × Int × List (Int × Vector Int (32) × List UInt8))) y => p_cmd_All.b1 k j598 r y.1 y.2.1 y.2.2.1 y.2.2.2) k ((↑(List.length t581) : Int), (0 : Int), [], t581)
noncomputable def e_cmd_All (k : Nat) : Entry := ⟨Ds.mk [Vd.one (Ld.im T.str)] [], Ds.mk [Vd.one (Ld.own (0)), Vd.one (Ld.im (T.int IntKind.i64)), Vd.one (Ld.im (T.int IntKind.i64))] [Od.arr (45) (T.pair (T.int IntKind.i64) (T.pair (T.arr (32) (T.int IntKind.u8)) T.str))], fun x => p_cmd_All k x⟩
noncomputable def c_cmd_All (k : Nat) : Cx := ⟨Tryd.prog, [(39, e_strings_Split k), (25, e_cmd_Parse k)], [(10, Sd.mk [5, 11, 12, 13] (Ds.mk [Vd.one (Ld.own (0)), Vd.one (Ld.own (1)), Vd.one (Ld.im (T.int IntKind.i64)), Vd.one (Ld.im (T.int IntKind.i64))] [Od.arr (45) (T.pair (T.int IntKind.i64) (T.pair (T.arr (32) (T.int IntKind.u8)) T.str)), Od.arr (9) T.str])), (11, Sd.mk [5] (Ds.mk [Vd.one (Ld.own (0))] [Od.arr (45) (T.pair (T.int IntKind.i64) (T.pair (T.arr (32) (T.int IntKind.u8)) T.str))]))], [], [(3, Sd.mk [5, 11, 12, 13] (Ds.mk [Vd.one (Ld.own (0)), Vd.one (Ld.own (1)), Vd.one (Ld.im (T.int IntKind.i64)), Vd.one (Ld.im (T.int IntKind.i64))] [Od.arr (45) (T.pair (T.int IntKind.i64) (T.pair (T.arr (32) (T.int IntKind.u8)) T.str)), Od.arr (9) T.str]))], [], 0, 36, [(76, 0), (83, 1)], fun _ _ _ => none⟩
theorem q_cmd_All (k : Nat) (x : HL (e_cmd_All k).pre.ts) : runF (c_cmd_All k) k Tryd.f33 (e_cmd_All k).pre (e_cmd_All k).post x = (e_cmd_All k).fn x := by kernel_rfl
theorem s_cmd_All (k : Nat) : Entry.Sound Tryd.prog 33 (e_cmd_All k) := runF_sound (X := c_cmd_All k) (pre := (e_cmd_All k).pre) (post := (e_cmd_All k).post) (q := (e_cmd_All k).fn) ⟨(dOk_cons (s_strings_Split k) (dOk_cons (s_cmd_Parse k) dOk_nil)), x_ext, x_mo⟩ Tryd.func33 (q_cmd_All k)

/- dormouse/dormouselaw38.awake: function 21 -/
noncomputable def p_dormouselaw38_awake.j0 (k : Nat) (x606 : Bool) : Option Bool :=
  some x606
noncomputable def p_dormouselaw38_awake (k : Nat) : Option Bool :=
  Option.bind (p_cmd_Parse k [(112 : UInt8), (117 : UInt8), (116 : UInt8), (32 : UInt8), (49 : UInt8), (46 : UInt8), (50 : UInt8), (32 : UInt8), (54 : UInt8), (49 : UInt8), (54 : UInt8), (50 : UInt8)]) fun t601 => Option.bind (p_cmd_Text k (Prod.fst (Prod.fst t601), Prod.fst (Prod.snd (Prod.fst t601)), Prod.snd (Prod.snd (Prod.fst t601)))) fun t602 => Option.bind (p_cmd_All k [(114 : UInt8), (111 : UInt8), (108 : UInt8), (108 : UInt8), (10 : UInt8), (10 : UInt8), (119 : UInt8), (104 : UInt8), (97 : UInt8), (116 : UInt8), (10 : UInt8)]) fun t603 => Option.bind (p_cmd_Bytes k [(45 : UInt8)]) fun t604 => joinC (p_dormouselaw38_awake.j0 k) fun (j607 : Bool → Option Bool) => bif (Prod.fst (Prod.fst t601) == (1 : Int)) then bif (Prod.snd (Prod.snd (Prod.fst t601)) == [(97 : UInt8), (98 : UInt8)]) then bif (Prod.snd t601 == (0 : Int)) then bif (Prod.fst t602 == [(112 : UInt8), (117 : UInt8), (116 : UInt8), (32 : UInt8), (49 : UInt8), (46 : UInt8), (50 : UInt8), (32 : UInt8), (54 : UInt8), (49 : UInt8), (54 : UInt8), (50 : UInt8)]) then bif (Prod.snd t602 == (0 : Int)) then bif ((↑(List.length (Prod.snd (Prod.snd t603))) : Int) == (0 : Int)) then bif (Prod.fst t603 == (3 : Int)) then bif (Prod.fst (Prod.snd t603) == (15 : Int)) then bif (Prod.fst t604 == []) then bif (Prod.snd t604) then Option.bind (p_cmd_Hex k [(97 : UInt8)]) fun t605 => j607 (t605 == [(54 : UInt8), (49 : UInt8)]) else j607 Bool.false else j607 Bool.false else j607 Bool.false else j607 Bool.false else j607 Bool.false else j607 Bool.false else j607 Bool.false else j607 Bool.false else j607 Bool.false else j607 Bool.false
noncomputable def e_dormouselaw38_awake (k : Nat) : Entry := ⟨Ds.mk [] [], Ds.mk [Vd.one (Ld.im T.bool)] [], fun x => p_dormouselaw38_awake k⟩
noncomputable def c_dormouselaw38_awake (k : Nat) : Cx := ⟨Tryd.prog, [(28, e_cmd_Hex k), (29, e_cmd_Bytes k), (22, e_cmd_Text k), (25, e_cmd_Parse k), (33, e_cmd_All k)], [], [(5, Sd.mk [0] (Ds.mk [Vd.one (Ld.im T.bool)] []))], [], [], 0, 72, [(76, 0), (83, 1)], fun _ _ _ => none⟩
theorem q_dormouselaw38_awake (k : Nat) (x : HL (e_dormouselaw38_awake k).pre.ts) : runF (c_dormouselaw38_awake k) k Tryd.f21 (e_dormouselaw38_awake k).pre (e_dormouselaw38_awake k).post x = (e_dormouselaw38_awake k).fn x := by kernel_rfl
theorem s_dormouselaw38_awake (k : Nat) : Entry.Sound Tryd.prog 21 (e_dormouselaw38_awake k) := runF_sound (X := c_dormouselaw38_awake k) (pre := (e_dormouselaw38_awake k).pre) (post := (e_dormouselaw38_awake k).post) (q := (e_dormouselaw38_awake k).fn) ⟨(dOk_cons (s_cmd_Hex k) (dOk_cons (s_cmd_Bytes k) (dOk_cons (s_cmd_Text k) (dOk_cons (s_cmd_Parse k) (dOk_cons (s_cmd_All k) dOk_nil))))), x_ext, x_mo⟩ Tryd.func21 (q_dormouselaw38_awake k)

/- dormouse/dormouseref38.May: function 23 -/
noncomputable def p_dormouseref38_May.j3 (x631 : Bool) : Option Bool :=
  some x631
noncomputable def p_dormouseref38_May.j2 (x627 : Bool) (x628 : Int × Vector Int (32) × List UInt8) : Option Bool :=
  joinC (p_dormouseref38_May.j3) fun (j632 : Bool → Option Bool) => bif !x627 then j632 Bool.true else j632 (decide (Prod.fst (Prod.snd x628) = bparts (32 : Nat) (dflt (T.int IntKind.u8)) []))
noncomputable def p_dormouseref38_May.j1 (x623 : Bool) (x624 : Int × Vector Int (32) × List UInt8) : Option Bool :=
  bif x623 then some Bool.false else joinC (fun (y : Bool × Int × Vector Int (32) × List UInt8) => p_dormouseref38_May.j2 y.1 y.2) fun (j629 : Bool × Int × Vector Int (32) × List UInt8 → Option Bool) => bif (Prod.fst x624 == (4 : Int)) then j629 (Bool.true, Prod.fst x624, Prod.fst (Prod.snd x624), Prod.snd (Prod.snd x624)) else bif (decide (Prod.fst x624 ≥ (6 : Int))) then j629 (decide (Prod.fst x624 ≤ (8 : Int)), Prod.fst x624, Prod.fst (Prod.snd x624), Prod.snd (Prod.snd x624)) else j629 (Bool.false, Prod.fst x624, Prod.fst (Prod.snd x624), Prod.snd (Prod.snd x624))
noncomputable def p_dormouseref38_May.j0 (x619 : Bool) (x620 : Int × Vector Int (32) × List UInt8) : Option Bool :=
  bif x619 then some Bool.false else joinC (fun (y : Bool × Int × Vector Int (32) × List UInt8) => p_dormouseref38_May.j1 y.1 y.2) fun (j625 : Bool × Int × Vector Int (32) × List UInt8 → Option Bool) => bif (Prod.fst x620 != (1 : Int)) then bif (Prod.fst x620 != (5 : Int)) then j625 (!Prod.snd (Prod.snd x620) == [], Prod.fst x620, Prod.fst (Prod.snd x620), Prod.snd (Prod.snd x620)) else j625 (Bool.false, Prod.fst x620, Prod.fst (Prod.snd x620), Prod.snd (Prod.snd x620)) else j625 (Bool.false, Prod.fst x620, Prod.fst (Prod.snd x620), Prod.snd (Prod.snd x620))
noncomputable def p_dormouseref38_May (x618 : Int × Vector Int (32) × List UInt8) : Option Bool :=
  joinC (fun (y : Bool × Int × Vector Int (32) × List UInt8) => p_dormouseref38_May.j0 y.1 y.2) fun (j621 : Bool × Int × Vector Int (32) × List UInt8 → Option Bool) => bif (decide (Prod.fst x618 < (0 : Int))) then j621 (Bool.true, Prod.fst x618, Prod.fst (Prod.snd x618), Prod.snd (Prod.snd x618)) else bif (decide (Prod.fst x618 > (9 : Int))) then j621 (Bool.true, Prod.fst x618, Prod.fst (Prod.snd x618), Prod.snd (Prod.snd x618)) else j621 (decide ((↑(List.length (Prod.snd (Prod.snd x618))) : Int) > (70000 : Int)), Prod.fst x618, Prod.fst (Prod.snd x618), Prod.snd (Prod.snd x618))
noncomputable def e_dormouseref38_May : Entry := ⟨Ds.mk [Vd.st (T.pair (T.int IntKind.i64) (T.pair (T.arr (32) (T.int IntKind.u8)) T.str))] [], Ds.mk [Vd.one (Ld.im T.bool)] [], fun x => p_dormouseref38_May x⟩
noncomputable def c_dormouseref38_May : Cx := ⟨Tryd.prog, [], [], [(1, Sd.mk [1, 17] (Ds.mk [Vd.one (Ld.ptr (0) (0)), Vd.one (Ld.im T.bool)] [Od.blkT (45) (T.pair (T.int IntKind.i64) (T.pair (T.arr (32) (T.int IntKind.u8)) T.str))])), (3, Sd.mk [1, 30] (Ds.mk [Vd.one (Ld.ptr (0) (0)), Vd.one (Ld.im T.bool)] [Od.blkT (45) (T.pair (T.int IntKind.i64) (T.pair (T.arr (32) (T.int IntKind.u8)) T.str))])), (5, Sd.mk [1, 3] (Ds.mk [Vd.one (Ld.ptr (0) (0)), Vd.one (Ld.im T.bool)] [Od.blkT (45) (T.pair (T.int IntKind.i64) (T.pair (T.arr (32) (T.int IntKind.u8)) T.str))])), (6, Sd.mk [2] (Ds.mk [Vd.one (Ld.im T.bool)] []))], [], [], 0, 52, [(76, 0), (83, 1)], fun _ _ _ => none⟩
theorem q_dormouseref38_May (x : HL (e_dormouseref38_May).pre.ts) : runF (c_dormouseref38_May) 0 Tryd.f23 (e_dormouseref38_May).pre (e_dormouseref38_May).post x = (e_dormouseref38_May).fn x := by kernel_rfl
theorem s_dormouseref38_May : Entry.Sound Tryd.prog 23 (e_dormouseref38_May) := runF_sound (X := c_dormouseref38_May) (pre := (e_dormouseref38_May).pre) (post := (e_dormouseref38_May).post) (q := (e_dormouseref38_May).fn) ⟨dOk_nil, x_ext, x_mo⟩ Tryd.func23 (q_dormouseref38_May)

/- dormouse/dormouseref38.Word: function 49 -/
noncomputable def p_dormouseref38_Word (x653 : Int) : Option (List UInt8) :=
  need ((0 : Int) ≤ x653 ∧ x653 < (↑(10) : Int)) (some (at_ (dflt T.str) [[(103 : UInt8), (101 : UInt8), (116 : UInt8)], [(112 : UInt8), (117 : UInt8), (116 : UInt8)], [(100 : UInt8), (101 : UInt8), (108 : UInt8), (101 : UInt8), (116 : UInt8), (101 : UInt8)], [(116 : UInt8), (111 : UInt8), (117 : UInt8), (99 : UInt8), (104 : UInt8)], [(114 : UInt8), (111 : UInt8), (108 : UInt8), (108 : UInt8)], [(114 : UInt8), (101 : UInt8), (115 : UInt8), (117 : UInt8), (114 : UInt8), (114 : UInt8), (101 : UInt8), (99 : UInt8), (116 : UInt8)], [(99 : UInt8), (111 : UInt8), (109 : UInt8), (109 : UInt8), (105 : UInt8), (116 : UInt8)], [(97 : UInt8), (98 : UInt8), (111 : UInt8), (114 : UInt8), (116 : UInt8)], [(111 : UInt8), (112 : UInt8), (101 : UInt8), (110 : UInt8)], [(98 : UInt8), (97 : UInt8), (99 : UInt8), (107 : UInt8)]] x653))
noncomputable def e_dormouseref38_Word : Entry := ⟨Ds.mk [Vd.one (Ld.im (T.int IntKind.i64))] [], Ds.mk [Vd.one (Ld.im T.str)] [], fun x => p_dormouseref38_Word x⟩
noncomputable def c_dormouseref38_Word : Cx := ⟨Tryd.prog, [], [], [], [], [], 0, 7, [(76, 0), (83, 1)], fun _ _ _ => none⟩
theorem q_dormouseref38_Word (x : HL (e_dormouseref38_Word).pre.ts) : runF (c_dormouseref38_Word) 0 Tryd.f49 (e_dormouseref38_Word).pre (e_dormouseref38_Word).post x = (e_dormouseref38_Word).fn x := by kernel_rfl
theorem s_dormouseref38_Word : Entry.Sound Tryd.prog 49 (e_dormouseref38_Word) := runF_sound (X := c_dormouseref38_Word) (pre := (e_dormouseref38_Word).pre) (post := (e_dormouseref38_Word).post) (q := (e_dormouseref38_Word).fn) ⟨dOk_nil, x_ext, x_mo⟩ Tryd.func49 (q_dormouseref38_Word)

/- dormouse/dormouseref16.Bytes: function 63 -/
noncomputable def p_dormouseref16_Bytes.j0 (k : Nat) (x677 : List UInt8) : Option (List UInt8) :=
  some x677
noncomputable def p_dormouseref16_Bytes.b1 (k : Nat) (j678 : List UInt8 → Option (List UInt8)) (rec675 : List UInt8 × Int × Vector Int (32) → Option (List UInt8)) (x670 : List UInt8) (x671 : Int) (x672 : Vector Int (32)) : Option (List UInt8) :=
  bif (decide (x671 < (32 : Int))) then need ((0 : Int) ≤ x671 ∧ x671 < (↑(32 : Nat) : Int)) (need (List.length x670 + List.length (bytesOf [at_ (dflt (T.int IntKind.u8)) (Vector.toList x672) x671]) ≤ (9223372036854775807 : Nat)) (rec675 (x670 ++ bytesOf [at_ (dflt (T.int IntKind.u8)) (Vector.toList x672) x671], IntKind.wrap IntKind.i64 (x671 + (1 : Int)), x672))) else j678 x670
noncomputable def p_dormouseref16_Bytes (k : Nat) (x669 : Vector Int (32)) : Option (List UInt8) :=
  joinC (p_dormouseref16_Bytes.j0 k) fun (j678 : List UInt8 → Option (List UInt8)) => loopC (fun (r : List UInt8 × Int × Vector Int (32) → Option (List UInt8)) y => p_dormouseref16_Bytes.b1 k j678 r y.1 y.2.1 y.2.2) k ([], (0 : Int), x669)
noncomputable def e_dormouseref16_Bytes (k : Nat) : Entry := ⟨Ds.mk [Vd.st (T.arr (32) (T.int IntKind.u8))] [], Ds.mk [Vd.one (Ld.im T.str)] [], fun x => p_dormouseref16_Bytes k x⟩
noncomputable def c_dormouseref16_Bytes (k : Nat) : Cx := ⟨Tryd.prog, [], [(6, Sd.mk [3] (Ds.mk [Vd.one (Ld.im T.str)] []))], [], [(3, Sd.mk [1, 3, 4] (Ds.mk [Vd.one (Ld.ptr (0) (0)), Vd.one (Ld.im T.str), Vd.one (Ld.im (T.int IntKind.i64))] [Od.blkT (43) (T.arr (32) (T.int IntKind.u8))]))], [], 0, 17, [(76, 0), (83, 1)], fun _ _ _ => none⟩
theorem q_dormouseref16_Bytes (k : Nat) (x : HL (e_dormouseref16_Bytes k).pre.ts) : runF (c_dormouseref16_Bytes k) k Tryd.f63 (e_dormouseref16_Bytes k).pre (e_dormouseref16_Bytes k).post x = (e_dormouseref16_Bytes k).fn x := by kernel_rfl
theorem s_dormouseref16_Bytes (k : Nat) : Entry.Sound Tryd.prog 63 (e_dormouseref16_Bytes k) := runF_sound (X := c_dormouseref16_Bytes k) (pre := (e_dormouseref16_Bytes k).pre) (post := (e_dormouseref16_Bytes k).post) (q := (e_dormouseref16_Bytes k).fn) ⟨dOk_nil, x_ext, x_mo⟩ Tryd.func63 (q_dormouseref16_Bytes k)

/- dormouse/dormouseref01.Val: function 74 -/
noncomputable def p_dormouseref01_Val.j0 (k : Nat) (x700 : Int) : Option Int :=
  some x700
noncomputable def p_dormouseref01_Val.j2 (k : Nat) (rec698 : List UInt8 × Int × Int × Int → Option Int) (j701 : Int → Option Int) (x690 : List UInt8) (x691 : Int) (x692 : Int) (x693 : Int) (x694 : Bool) : Option Int :=
  bif x694 then need ((0 : Int) ≤ x693 ∧ x693 < (↑(List.length x690) : Int)) (rec698 (x690, IntKind.wrap IntKind.u64 (x691 + IntKind.wrap IntKind.u64 (x692 * IntKind.wrap IntKind.u64 (bat x690 x693))), IntKind.wrap IntKind.u64 (x692 * (256 : Int)), IntKind.wrap IntKind.i64 (x693 + (1 : Int)))) else j701 x691
noncomputable def p_dormouseref01_Val.b1 (k : Nat) (j701 : Int → Option Int) (rec698 : List UInt8 × Int × Int × Int → Option Int) (x686 : List UInt8) (x687 : Int) (x688 : Int) (x689 : Int) : Option Int :=
  joinC (fun (y : List UInt8 × Int × Int × Int × Bool) => p_dormouseref01_Val.j2 k rec698 j701 y.1 y.2.1 y.2.2.1 y.2.2.2.1 y.2.2.2.2) fun (j695 : List UInt8 × Int × Int × Int × Bool → Option Int) => bif (decide (x689 < (↑(List.length x686) : Int))) then j695 (x686, x687, x688, x689, decide (x689 < (8 : Int))) else j695 (x686, x687, x688, x689, Bool.false)
noncomputable def p_dormouseref01_Val (k : Nat) (x685 : List UInt8) : Option Int :=
  joinC (p_dormouseref01_Val.j0 k) fun (j701 : Int → Option Int) => loopC (fun (r : List UInt8 × Int × Int × Int → Option Int) y => p_dormouseref01_Val.b1 k j701 r y.1 y.2.1 y.2.2.1 y.2.2.2) k (x685, (0 : Int), (1 : Int), (0 : Int))
noncomputable def e_dormouseref01_Val (k : Nat) : Entry := ⟨Ds.mk [Vd.one (Ld.im T.str)] [], Ds.mk [Vd.one (Ld.im (T.int IntKind.u64))] [], fun x => p_dormouseref01_Val k x⟩
noncomputable def c_dormouseref01_Val (k : Nat) : Cx := ⟨Tryd.prog, [], [(8, Sd.mk [3] (Ds.mk [Vd.one (Ld.im (T.int IntKind.u64))] []))], [(4, Sd.mk [0, 3, 4, 5, 13] (Ds.mk [Vd.one (Ld.im T.str), Vd.one (Ld.im (T.int IntKind.u64)), Vd.one (Ld.im (T.int IntKind.u64)), Vd.one (Ld.im (T.int IntKind.i64)), Vd.one (Ld.im T.bool)] []))], [(4, Sd.mk [0, 3, 4, 5] (Ds.mk [Vd.one (Ld.im T.str), Vd.one (Ld.im (T.int IntKind.u64)), Vd.one (Ld.im (T.int IntKind.u64)), Vd.one (Ld.im (T.int IntKind.i64))] []))], [], 0, 27, [(76, 0), (83, 1)], fun _ _ _ => none⟩
theorem q_dormouseref01_Val (k : Nat) (x : HL (e_dormouseref01_Val k).pre.ts) : runF (c_dormouseref01_Val k) k Tryd.f74 (e_dormouseref01_Val k).pre (e_dormouseref01_Val k).post x = (e_dormouseref01_Val k).fn x := by kernel_rfl
theorem s_dormouseref01_Val (k : Nat) : Entry.Sound Tryd.prog 74 (e_dormouseref01_Val k) := runF_sound (X := c_dormouseref01_Val k) (pre := (e_dormouseref01_Val k).pre) (post := (e_dormouseref01_Val k).post) (q := (e_dormouseref01_Val k).fn) ⟨dOk_nil, x_ext, x_mo⟩ Tryd.func74 (q_dormouseref01_Val k)

/- dormouse/dormouseref01.Num: function 85 -/
noncomputable def p_dormouseref01_Num.j0 (k : Nat) (x723 : List UInt8) : Option (List UInt8) :=
  some x723
noncomputable def p_dormouseref01_Num.b1 (k : Nat) (j724 : List UInt8 → Option (List UInt8)) (rec721 : Int × Int × List UInt8 × Int → Option (List UInt8)) (x716 : Int) (x717 : Int) (x718 : List UInt8) (x719 : Int) : Option (List UInt8) :=
  bif (decide (x719 < x717)) then need (List.length x718 + List.length (bytesOf [IntKind.wrap IntKind.u8 (Int.tmod x716 (256 : Int))]) ≤ (9223372036854775807 : Nat)) (rec721 (IntKind.wrap IntKind.u64 (Int.tdiv x716 (256 : Int)), x717, x718 ++ bytesOf [IntKind.wrap IntKind.u8 (Int.tmod x716 (256 : Int))], IntKind.wrap IntKind.i64 (x719 + (1 : Int)))) else j724 x718
noncomputable def p_dormouseref01_Num (k : Nat) (x714 : Int) (x715 : Int) : Option (List UInt8) :=
  joinC (p_dormouseref01_Num.j0 k) fun (j724 : List UInt8 → Option (List UInt8)) => loopC (fun (r : Int × Int × List UInt8 × Int → Option (List UInt8)) y => p_dormouseref01_Num.b1 k j724 r y.1 y.2.1 y.2.2.1 y.2.2.2) k (x714, x715, [], (0 : Int))
noncomputable def e_dormouseref01_Num (k : Nat) : Entry := ⟨Ds.mk [Vd.one (Ld.im (T.int IntKind.u64)), Vd.one (Ld.im (T.int IntKind.i64))] [], Ds.mk [Vd.one (Ld.im T.str)] [], fun x => p_dormouseref01_Num k x.1 x.2⟩
noncomputable def c_dormouseref01_Num (k : Nat) : Cx := ⟨Tryd.prog, [], [(7, Sd.mk [5] (Ds.mk [Vd.one (Ld.im T.str)] []))], [], [(3, Sd.mk [0, 1, 5, 6] (Ds.mk [Vd.one (Ld.im (T.int IntKind.u64)), Vd.one (Ld.im (T.int IntKind.i64)), Vd.one (Ld.im T.str), Vd.one (Ld.im (T.int IntKind.i64))] []))], [], 0, 22, [(76, 0), (83, 1)], fun _ _ _ => none⟩
theorem q_dormouseref01_Num (k : Nat) (x : HL (e_dormouseref01_Num k).pre.ts) : runF (c_dormouseref01_Num k) k Tryd.f85 (e_dormouseref01_Num k).pre (e_dormouseref01_Num k).post x = (e_dormouseref01_Num k).fn x := by kernel_rfl
theorem s_dormouseref01_Num (k : Nat) : Entry.Sound Tryd.prog 85 (e_dormouseref01_Num k) := runF_sound (X := c_dormouseref01_Num k) (pre := (e_dormouseref01_Num k).pre) (post := (e_dormouseref01_Num k).post) (q := (e_dormouseref01_Num k).fn) ⟨dOk_nil, x_ext, x_mo⟩ Tryd.func85 (q_dormouseref01_Num k)

/- dormouse/dormouseref16.Of: function 75 -/
noncomputable def p_dormouseref16_Of (k : Nat) (x727 : Int) (x728 : Int) : Option (List UInt8) :=
  Option.bind (p_dormouseref01_Num k x727 (8 : Int)) fun t729 => need (List.length t729 + 16 ≤ (9223372036854775807 : Nat)) (Option.bind (p_dormouseref01_Num k x728 (8 : Int)) fun t731 => need (List.length (t729 ++ [(0 : UInt8), (0 : UInt8), (0 : UInt8), (0 : UInt8), (0 : UInt8), (0 : UInt8), (0 : UInt8), (0 : UInt8), (0 : UInt8), (0 : UInt8), (0 : UInt8), (0 : UInt8), (0 : UInt8), (0 : UInt8), (0 : UInt8), (0 : UInt8)]) + List.length t731 ≤ (9223372036854775807 : Nat)) (some (t729 ++ [(0 : UInt8), (0 : UInt8), (0 : UInt8), (0 : UInt8), (0 : UInt8), (0 : UInt8), (0 : UInt8), (0 : UInt8), (0 : UInt8), (0 : UInt8), (0 : UInt8), (0 : UInt8), (0 : UInt8), (0 : UInt8), (0 : UInt8), (0 : UInt8)] ++ t731)))
noncomputable def e_dormouseref16_Of (k : Nat) : Entry := ⟨Ds.mk [Vd.one (Ld.im (T.int IntKind.u64)), Vd.one (Ld.im (T.int IntKind.u64))] [], Ds.mk [Vd.one (Ld.im T.str)] [], fun x => p_dormouseref16_Of k x.1 x.2⟩
noncomputable def c_dormouseref16_Of (k : Nat) : Cx := ⟨Tryd.prog, [(85, e_dormouseref01_Num k)], [], [], [], [], 0, 11, [(76, 0), (83, 1)], fun _ _ _ => none⟩
theorem q_dormouseref16_Of (k : Nat) (x : HL (e_dormouseref16_Of k).pre.ts) : runF (c_dormouseref16_Of k) k Tryd.f75 (e_dormouseref16_Of k).pre (e_dormouseref16_Of k).post x = (e_dormouseref16_Of k).fn x := by kernel_rfl
theorem s_dormouseref16_Of (k : Nat) : Entry.Sound Tryd.prog 75 (e_dormouseref16_Of k) := runF_sound (X := c_dormouseref16_Of k) (pre := (e_dormouseref16_Of k).pre) (post := (e_dormouseref16_Of k).post) (q := (e_dormouseref16_Of k).fn) ⟨(dOk_cons (s_dormouseref01_Num k) dOk_nil), x_ext, x_mo⟩ Tryd.func75 (q_dormouseref16_Of k)

/- dormouse/dormouseref16.Split: function 62 -/
noncomputable def p_dormouseref16_Split (k : Nat) (x734 : Vector Int (32)) : Option (Int × Int × Bool) :=
  Option.bind (p_dormouseref16_Bytes k x734) fun t735 => need ((0 : Int) ≤ (0 : Int) ∧ (0 : Int) ≤ (8 : Int) ∧ (8 : Int) ≤ (↑(List.length t735) : Int)) (Option.bind (p_dormouseref01_Val k (sub_ t735 (0 : Int) (8 : Int))) fun t737 => need ((0 : Int) ≤ (24 : Int) ∧ (24 : Int) ≤ (↑(List.length t735) : Int) ∧ (↑(List.length t735) : Int) ≤ (↑(List.length t735) : Int)) (Option.bind (p_dormouseref01_Val k (sub_ t735 (24 : Int) (↑(List.length t735) : Int))) fun t739 => Option.bind (p_dormouseref16_Of k t737 t739) fun t740 => bif (!t740 == t735) then some ((0 : Int), (0 : Int), Bool.false) else some (t737, t739, Bool.true)))
noncomputable def e_dormouseref16_Split (k : Nat) : Entry := ⟨Ds.mk [Vd.st (T.arr (32) (T.int IntKind.u8))] [], Ds.mk [Vd.one (Ld.im (T.int IntKind.u64)), Vd.one (Ld.im (T.int IntKind.u64)), Vd.one (Ld.im T.bool)] [], fun x => p_dormouseref16_Split k x⟩
noncomputable def c_dormouseref16_Split (k : Nat) : Cx := ⟨Tryd.prog, [(63, e_dormouseref16_Bytes k), (74, e_dormouseref01_Val k), (75, e_dormouseref16_Of k)], [], [], [], [], 0, 23, [(76, 0), (83, 1)], fun _ _ _ => none⟩
theorem q_dormouseref16_Split (k : Nat) (x : HL (e_dormouseref16_Split k).pre.ts) : runF (c_dormouseref16_Split k) k Tryd.f62 (e_dormouseref16_Split k).pre (e_dormouseref16_Split k).post x = (e_dormouseref16_Split k).fn x := by kernel_rfl
theorem s_dormouseref16_Split (k : Nat) : Entry.Sound Tryd.prog 62 (e_dormouseref16_Split k) := runF_sound (X := c_dormouseref16_Split k) (pre := (e_dormouseref16_Split k).pre) (post := (e_dormouseref16_Split k).post) (q := (e_dormouseref16_Split k).fn) ⟨(dOk_cons (s_dormouseref16_Bytes k) (dOk_cons (s_dormouseref01_Val k) (dOk_cons (s_dormouseref16_Of k) dOk_nil))), x_ext, x_mo⟩ Tryd.func62 (q_dormouseref16_Split k)

/- dormouse/dormouseref16.Text: function 50 -/
noncomputable def p_dormouseref16_Text (k : Nat) (x794 : Vector Int (32)) : Option (List UInt8) :=
  Option.bind (p_dormouseref16_Split k x794) fun t795 => bif (Prod.snd (Prod.snd t795)) then Option.bind (p_dormouseref16_Digits k (Prod.fst t795)) fun t796 => need (List.length t796 + 1 ≤ (9223372036854775807 : Nat)) (Option.bind (p_dormouseref16_Digits k (Prod.fst (Prod.snd t795))) fun t798 => need (List.length (t796 ++ [(46 : UInt8)]) + List.length t798 ≤ (9223372036854775807 : Nat)) (some (t796 ++ [(46 : UInt8)] ++ t798))) else Option.bind (p_dormouseref16_Bytes k x794) fun t800 => Option.bind (p_dormouseref03_Hex k t800) fun t801 => some t801
noncomputable def e_dormouseref16_Text (k : Nat) : Entry := ⟨Ds.mk [Vd.st (T.arr (32) (T.int IntKind.u8))] [], Ds.mk [Vd.one (Ld.im T.str)] [], fun x => p_dormouseref16_Text k x⟩
noncomputable def c_dormouseref16_Text (k : Nat) : Cx := ⟨Tryd.prog, [(63, e_dormouseref16_Bytes k), (62, e_dormouseref16_Split k), (36, e_dormouseref16_Digits k), (37, e_dormouseref03_Hex k)], [], [], [], [], 0, 22, [(76, 0), (83, 1)], fun _ _ _ => none⟩
theorem q_dormouseref16_Text (k : Nat) (x : HL (e_dormouseref16_Text k).pre.ts) : runF (c_dormouseref16_Text k) k Tryd.f50 (e_dormouseref16_Text k).pre (e_dormouseref16_Text k).post x = (e_dormouseref16_Text k).fn x := by kernel_rfl
theorem s_dormouseref16_Text (k : Nat) : Entry.Sound Tryd.prog 50 (e_dormouseref16_Text k) := runF_sound (X := c_dormouseref16_Text k) (pre := (e_dormouseref16_Text k).pre) (post := (e_dormouseref16_Text k).post) (q := (e_dormouseref16_Text k).fn) ⟨(dOk_cons (s_dormouseref16_Bytes k) (dOk_cons (s_dormouseref16_Split k) (dOk_cons (s_dormouseref16_Digits k) (dOk_cons (s_dormouseref03_Hex k) dOk_nil)))), x_ext, x_mo⟩ Tryd.func50 (q_dormouseref16_Text k)

/- dormouse/dormouseref38.Hex: function 30 -/
noncomputable def p_dormouseref38_Hex (k : Nat) (x820 : List UInt8) : Option (List UInt8) :=
  bif (x820 == []) then some ([(45 : UInt8)]) else Option.bind (p_dormouseref03_Hex k x820) fun t821 => some t821
noncomputable def e_dormouseref38_Hex (k : Nat) : Entry := ⟨Ds.mk [Vd.one (Ld.im T.str)] [], Ds.mk [Vd.one (Ld.im T.str)] [], fun x => p_dormouseref38_Hex k x⟩
noncomputable def c_dormouseref38_Hex (k : Nat) : Cx := ⟨Tryd.prog, [(37, e_dormouseref03_Hex k)], [], [], [], [], 0, 7, [(76, 0), (83, 1)], fun _ _ _ => none⟩
theorem q_dormouseref38_Hex (k : Nat) (x : HL (e_dormouseref38_Hex k).pre.ts) : runF (c_dormouseref38_Hex k) k Tryd.f30 (e_dormouseref38_Hex k).pre (e_dormouseref38_Hex k).post x = (e_dormouseref38_Hex k).fn x := by kernel_rfl
theorem s_dormouseref38_Hex (k : Nat) : Entry.Sound Tryd.prog 30 (e_dormouseref38_Hex k) := runF_sound (X := c_dormouseref38_Hex k) (pre := (e_dormouseref38_Hex k).pre) (post := (e_dormouseref38_Hex k).post) (q := (e_dormouseref38_Hex k).fn) ⟨(dOk_cons (s_dormouseref03_Hex k) dOk_nil), x_ext, x_mo⟩ Tryd.func30 (q_dormouseref38_Hex k)

/- dormouse/dormouseref38.Line: function 26 -/
noncomputable def p_dormouseref38_Line.j1 (k : Nat) (x841 : List UInt8) : Option (List UInt8) :=
  some x841
noncomputable def p_dormouseref38_Line.j2 (k : Nat) (j842 : List UInt8 → Option (List UInt8)) (x833 : List UInt8) (x834 : Bool) (x835 : Int × Vector Int (32) × List UInt8) : Option (List UInt8) :=
  bif x834 then need (List.length x833 + 1 ≤ (9223372036854775807 : Nat)) (Option.bind (p_dormouseref38_Hex k (Prod.snd (Prod.snd x835))) fun t839 => need (List.length (x833 ++ [(32 : UInt8)]) + List.length t839 ≤ (9223372036854775807 : Nat)) (j842 (x833 ++ [(32 : UInt8)] ++ t839))) else j842 x833
noncomputable def p_dormouseref38_Line.j0 (k : Nat) (x825 : List UInt8) (x826 : Bool) (x827 : Int × Vector Int (32) × List UInt8) : Option (List UInt8) :=
  bif x826 then some x825 else need (List.length x825 + 1 ≤ (9223372036854775807 : Nat)) (Option.bind (p_dormouseref16_Text k (Prod.fst (Prod.snd x827))) fun t831 => need (List.length (x825 ++ [(32 : UInt8)]) + List.length t831 ≤ (9223372036854775807 : Nat)) (joinC (p_dormouseref38_Line.j1 k) fun (j842 : List UInt8 → Option (List UInt8)) => joinC (fun (y : List UInt8 × Bool × Int × Vector Int (32) × List UInt8) => p_dormouseref38_Line.j2 k j842 y.1 y.2.1 y.2.2) fun (j836 : List UInt8 × Bool × Int × Vector Int (32) × List UInt8 → Option (List UInt8)) => bif (Prod.fst x827 == (1 : Int)) then j836 (x825 ++ [(32 : UInt8)] ++ t831, Bool.true, Prod.fst x827, Prod.fst (Prod.snd x827), Prod.snd (Prod.snd x827)) else j836 (x825 ++ [(32 : UInt8)] ++ t831, Prod.fst x827 == (5 : Int), Prod.fst x827, Prod.fst (Prod.snd x827), Prod.snd (Prod.snd x827))))
noncomputable def p_dormouseref38_Line (k : Nat) (x823 : Int × Vector Int (32) × List UInt8) : Option (List UInt8) :=
  Option.bind (p_dormouseref38_Word (Prod.fst x823)) fun t824 => joinC (fun (y : List UInt8 × Bool × Int × Vector Int (32) × List UInt8) => p_dormouseref38_Line.j0 k y.1 y.2.1 y.2.2) fun (j828 : List UInt8 × Bool × Int × Vector Int (32) × List UInt8 → Option (List UInt8)) => bif (Prod.fst x823 == (4 : Int)) then j828 (t824, Bool.true, Prod.fst x823, Prod.fst (Prod.snd x823), Prod.snd (Prod.snd x823)) else bif (decide (Prod.fst x823 ≥ (6 : Int))) then j828 (t824, decide (Prod.fst x823 ≤ (8 : Int)), Prod.fst x823, Prod.fst (Prod.snd x823), Prod.snd (Prod.snd x823)) else j828 (t824, Bool.false, Prod.fst x823, Prod.fst (Prod.snd x823), Prod.snd (Prod.snd x823))
noncomputable def e_dormouseref38_Line (k : Nat) : Entry := ⟨Ds.mk [Vd.st (T.pair (T.int IntKind.i64) (T.pair (T.arr (32) (T.int IntKind.u8)) T.str))] [], Ds.mk [Vd.one (Ld.im T.str)] [], fun x => p_dormouseref38_Line k x⟩
noncomputable def c_dormouseref38_Line (k : Nat) : Cx := ⟨Tryd.prog, [(49, e_dormouseref38_Word), (50, e_dormouseref16_Text k), (30, e_dormouseref38_Hex k)], [(7, Sd.mk [3] (Ds.mk [Vd.one (Ld.im T.str)] []))], [(2, Sd.mk [1, 3, 19] (Ds.mk [Vd.one (Ld.ptr (0) (0)), Vd.one (Ld.im T.str), Vd.one (Ld.im T.bool)] [Od.blkT (45) (T.pair (T.int IntKind.i64) (T.pair (T.arr (32) (T.int IntKind.u8)) T.str))])), (5, Sd.mk [1, 3, 34] (Ds.mk [Vd.one (Ld.ptr (0) (0)), Vd.one (Ld.im T.str), Vd.one (Ld.im T.bool)] [Od.blkT (45) (T.pair (T.int IntKind.i64) (T.pair (T.arr (32) (T.int IntKind.u8)) T.str))]))], [], [], 0, 42, [(76, 0), (83, 1)], fun _ _ _ => none⟩
theorem q_dormouseref38_Line (k : Nat) (x : HL (e_dormouseref38_Line k).pre.ts) : runF (c_dormouseref38_Line k) k Tryd.f26 (e_dormouseref38_Line k).pre (e_dormouseref38_Line k).post x = (e_dormouseref38_Line k).fn x := by kernel_rfl
theorem s_dormouseref38_Line (k : Nat) : Entry.Sound Tryd.prog 26 (e_dormouseref38_Line k) := runF_sound (X := c_dormouseref38_Line k) (pre := (e_dormouseref38_Line k).pre) (post := (e_dormouseref38_Line k).post) (q := (e_dormouseref38_Line k).fn) ⟨(dOk_cons (s_dormouseref38_Word) (dOk_cons (s_dormouseref16_Text k) (dOk_cons (s_dormouseref38_Hex k) dOk_nil))), x_ext, x_mo⟩ Tryd.func26 (q_dormouseref38_Line k)

/- dormouse/dormouselaw38.CmdTexts: function 6 -/
noncomputable def p_dormouselaw38_CmdTexts.j1 (k : Nat) (x855 : Bool) : Option Bool :=
  some x855
noncomputable def p_dormouselaw38_CmdTexts.j2 (k : Nat) (x861 : Bool) : Option Bool :=
  some x861
noncomputable def p_dormouselaw38_CmdTexts.j0 (k : Nat) (x846 : Bool) (x847 : Int × Vector Int (32) × List UInt8) : Option Bool :=
  bif x846 then Option.bind (p_dormouselaw38_awake k) fun t850 => some t850 else Option.bind (p_cmd_Text k (Prod.fst x847, Prod.fst (Prod.snd x847), Prod.snd (Prod.snd x847))) fun t851 => Option.bind (p_dormouseref38_May (Prod.fst x847, Prod.fst (Prod.snd x847), Prod.snd (Prod.snd x847))) fun t852 => Option.bind (p_cmd_Check (Prod.fst x847, Prod.fst (Prod.snd x847), Prod.snd (Prod.snd x847))) fun t853 => bif (!(t853 == (0 : Int)) == t852) then some Bool.false else bif !t852 then joinC (p_dormouselaw38_CmdTexts.j1 k) fun (j856 : Bool → Option Bool) => Option.bind (p_dormouselaw38_awake k) fun t854 => bif t854 then bif (Prod.fst t851 == []) then j856 (Prod.snd t851 == (2 : Int)) else j856 Bool.false else j856 Bool.false else Option.bind (p_cmd_Parse k (Prod.fst t851)) fun t858 => joinC (p_dormouselaw38_CmdTexts.j2 k) fun (j862 : Bool → Option Bool) => Option.bind (p_dormouselaw38_awake k) fun t859 => bif t859 then bif (Prod.snd t851 == (0 : Int)) then Option.bind (p_dormouseref38_Line k (Prod.fst x847, Prod.fst (Prod.snd x847), Prod.snd (Prod.snd x847))) fun t860 => bif (Prod.fst t851 == t860) then bif (Prod.fst (Prod.fst t858) == Prod.fst x847 && (decide (Prod.fst (Prod.snd (Prod.fst t858)) = Prod.fst (Prod.snd x847)) && (Prod.snd (Prod.snd (Prod.fst t858)) == Prod.snd (Prod.snd x847) && Bool.true))) then j862 (Prod.snd t858 == (0 : Int)) else j862 Bool.false else j862 Bool.false else j862 Bool.false else j862 Bool.false
noncomputable def p_dormouselaw38_CmdTexts (k : Nat) (x845 : Int × Vector Int (32) × List UInt8) : Option Bool :=
  joinC (fun (y : Bool × Int × Vector Int (32) × List UInt8) => p_dormouselaw38_CmdTexts.j0 k y.1 y.2) fun (j848 : Bool × Int × Vector Int (32) × List UInt8 → Option Bool) => bif (decide ((↑(List.length (Prod.snd (Prod.snd x845))) : Int) > (500 : Int))) then bif (decide ((↑(List.length (Prod.snd (Prod.snd x845))) : Int) ≤ (70000 : Int))) then j848 (Bool.true, Prod.fst x845, Prod.fst (Prod.snd x845), Prod.snd (Prod.snd x845)) else j848 (decide ((↑(List.length (Prod.snd (Prod.snd x845))) : Int) > (71000 : Int)), Prod.fst x845, Prod.fst (Prod.snd x845), Prod.snd (Prod.snd x845)) else j848 (decide ((↑(List.length (Prod.snd (Prod.snd x845))) : Int) > (71000 : Int)), Prod.fst x845, Prod.fst (Prod.snd x845), Prod.snd (Prod.snd x845))
noncomputable def e_dormouselaw38_CmdTexts (k : Nat) : Entry := ⟨Ds.mk [Vd.st (T.pair (T.int IntKind.i64) (T.pair (T.arr (32) (T.int IntKind.u8)) T.str))] [], Ds.mk [Vd.one (Ld.im T.bool)] [], fun x => p_dormouselaw38_CmdTexts k x⟩
noncomputable def c_dormouselaw38_CmdTexts (k : Nat) : Cx := ⟨Tryd.prog, [(24, e_cmd_Check), (22, e_cmd_Text k), (25, e_cmd_Parse k), (21, e_dormouselaw38_awake k), (23, e_dormouseref38_May), (26, e_dormouseref38_Line k)], [], [(1, Sd.mk [1, 23] (Ds.mk [Vd.one (Ld.ptr (0) (0)), Vd.one (Ld.im T.bool)] [Od.blkT (45) (T.pair (T.int IntKind.i64) (T.pair (T.arr (32) (T.int IntKind.u8)) T.str))])), (8, Sd.mk [2] (Ds.mk [Vd.one (Ld.im T.bool)] [])), (10, Sd.mk [2] (Ds.mk [Vd.one (Ld.im T.bool)] []))], [], [], 0, 73, [(76, 0), (83, 1)], fun _ _ _ => none⟩
theorem q_dormouselaw38_CmdTexts (k : Nat) (x : HL (e_dormouselaw38_CmdTexts k).pre.ts) : runF (c_dormouselaw38_CmdTexts k) k Tryd.f6 (e_dormouselaw38_CmdTexts k).pre (e_dormouselaw38_CmdTexts k).post x = (e_dormouselaw38_CmdTexts k).fn x := by kernel_rfl
theorem s_dormouselaw38_CmdTexts (k : Nat) : Entry.Sound Tryd.prog 6 (e_dormouselaw38_CmdTexts k) := runF_sound (X := c_dormouselaw38_CmdTexts k) (pre := (e_dormouselaw38_CmdTexts k).pre) (post := (e_dormouselaw38_CmdTexts k).post) (q := (e_dormouselaw38_CmdTexts k).fn) ⟨(dOk_cons (s_cmd_Check) (dOk_cons (s_cmd_Text k) (dOk_cons (s_cmd_Parse k) (dOk_cons (s_dormouselaw38_awake k) (dOk_cons (s_dormouseref38_May) (dOk_cons (s_dormouseref38_Line k) dOk_nil)))))), x_ext, x_mo⟩ Tryd.func6 (q_dormouselaw38_CmdTexts k)

/- dormouse/dormouseref38.Known: function 27 -/
noncomputable def p_dormouseref38_Known.j1 (k : Nat) : Option Bool :=
  some Bool.false
noncomputable def p_dormouseref38_Known.b2 (k : Nat) (j891 : Unit → Option Bool) (rec889 : List UInt8 × Int → Option Bool) (x886 : List UInt8) (x887 : Int) : Option Bool :=
  bif (decide (x887 < (10 : Int))) then Option.bind (p_dormouseref38_Word x887) fun t888 => bif (t888 == x886) then some Bool.true else rec889 (x886, IntKind.wrap IntKind.i64 (x887 + (1 : Int))) else j891 ()
noncomputable def p_dormouseref38_Known.j0 (k : Nat) (x885 : List UInt8) : Option Bool :=
  joinC (fun (y : Unit) => p_dormouseref38_Known.j1 k) fun (j891 : Unit → Option Bool) => loopC (fun (r : List UInt8 × Int → Option Bool) y => p_dormouseref38_Known.b2 k j891 r y.1 y.2) k (x885, (0 : Int))
noncomputable def p_dormouseref38_Known.j4 (k : Nat) (rec883 : List UInt8 × List UInt8 × Int → Option Bool) (j893 : List UInt8 → Option Bool) (x875 : List UInt8) (x876 : List UInt8) (x877 : Int) (x878 : Bool) : Option Bool :=
  bif x878 then need ((0 : Int) ≤ x877 ∧ x877 ≤ IntKind.wrap IntKind.i64 (x877 + (1 : Int)) ∧ IntKind.wrap IntKind.i64 (x877 + (1 : Int)) ≤ (↑(List.length x875) : Int)) (need (List.length x876 + List.length (sub_ x875 x877 (IntKind.wrap IntKind.i64 (x877 + (1 : Int)))) ≤ (9223372036854775807 : Nat)) (rec883 (x875, x876 ++ sub_ x875 x877 (IntKind.wrap IntKind.i64 (x877 + (1 : Int))), IntKind.wrap IntKind.i64 (x877 + (1 : Int))))) else j893 x876
noncomputable def p_dormouseref38_Known.b3 (k : Nat) (j893 : List UInt8 → Option Bool) (rec883 : List UInt8 × List UInt8 × Int → Option Bool) (x871 : List UInt8) (x872 : List UInt8) (x873 : Int) : Option Bool :=
  joinC (fun (y : List UInt8 × List UInt8 × Int × Bool) => p_dormouseref38_Known.j4 k rec883 j893 y.1 y.2.1 y.2.2.1 y.2.2.2) fun (j879 : List UInt8 × List UInt8 × Int × Bool → Option Bool) => bif (decide (x873 < (↑(List.length x871) : Int))) then need ((0 : Int) ≤ x873 ∧ x873 < (↑(List.length x871) : Int)) (j879 (x871, x872, x873, bat x871 x873 != (32 : Int))) else j879 (x871, x872, x873, Bool.false)
noncomputable def p_dormouseref38_Known (k : Nat) (x870 : List UInt8) : Option Bool :=
  joinC (p_dormouseref38_Known.j0 k) fun (j893 : List UInt8 → Option Bool) => loopC (fun (r : List UInt8 × List UInt8 × Int → Option Bool) y => p_dormouseref38_Known.b3 k j893 r y.1 y.2.1 y.2.2) k (x870, [], (0 : Int))
noncomputable def e_dormouseref38_Known (k : Nat) : Entry := ⟨Ds.mk [Vd.one (Ld.im T.str)] [], Ds.mk [Vd.one (Ld.im T.bool)] [], fun x => p_dormouseref38_Known k x⟩
noncomputable def c_dormouseref38_Known (k : Nat) : Cx := ⟨Tryd.prog, [(49, e_dormouseref38_Word)], [(6, Sd.mk [3] (Ds.mk [Vd.one (Ld.im T.str)] [])), (11, Sd.mk [] (Ds.mk [] []))], [(3, Sd.mk [0, 3, 4, 15] (Ds.mk [Vd.one (Ld.im T.str), Vd.one (Ld.im T.str), Vd.one (Ld.im (T.int IntKind.i64)), Vd.one (Ld.im T.bool)] []))], [(3, Sd.mk [0, 3, 4] (Ds.mk [Vd.one (Ld.im T.str), Vd.one (Ld.im T.str), Vd.one (Ld.im (T.int IntKind.i64))] [])), (7, Sd.mk [3, 5] (Ds.mk [Vd.one (Ld.im T.str), Vd.one (Ld.im (T.int IntKind.i64))] []))], [], 0, 33, [(76, 0), (83, 1)], fun _ _ _ => none⟩
theorem q_dormouseref38_Known (k : Nat) (x : HL (e_dormouseref38_Known k).pre.ts) : runF (c_dormouseref38_Known k) k Tryd.f27 (e_dormouseref38_Known k).pre (e_dormouseref38_Known k).post x = (e_dormouseref38_Known k).fn x := by kernel_rfl
theorem s_dormouseref38_Known (k : Nat) : Entry.Sound Tryd.prog 27 (e_dormouseref38_Known k) := runF_sound (X := c_dormouseref38_Known k) (pre := (e_dormouseref38_Known k).pre) (post := (e_dormouseref38_Known k).post) (q := (e_dormouseref38_Known k).fn) ⟨(dOk_cons (s_dormouseref38_Word) dOk_nil), x_ext, x_mo⟩ Tryd.func27 (q_dormouseref38_Known k)

/- dormouse/dormouselaw38.CmdParses: function 7 -/
noncomputable def p_dormouselaw38_CmdParses.j0 (k : Nat) (x901 : Bool) : Option Bool :=
  some x901
noncomputable def p_dormouselaw38_CmdParses.j1 (k : Nat) (x907 : Bool) : Option Bool :=
  some x907
noncomputable def p_dormouselaw38_CmdParses (k : Nat) (x896 : List UInt8) : Option Bool :=
  bif (decide ((↑(List.length x896) : Int) > (500 : Int))) then Option.bind (p_dormouselaw38_awake k) fun t897 => some t897 else Option.bind (p_cmd_Parse k x896) fun t898 => bif (Prod.snd t898 != (0 : Int)) then joinC (p_dormouselaw38_CmdParses.j0 k) fun (j902 : Bool → Option Bool) => Option.bind (p_dormouselaw38_awake k) fun t899 => bif t899 then bif (Prod.fst (Prod.fst t898) == (0 : Int) && (decide (Prod.fst (Prod.snd (Prod.fst t898)) = Vector.replicate (32 : Nat) (dflt (T.int IntKind.u8))) && (Prod.snd (Prod.snd (Prod.fst t898)) == [] && Bool.true))) then Option.bind (p_dormouseref38_Known k x896) fun t900 => bif ((Prod.snd t898 == (15 : Int)) == !t900) then bif (Prod.snd t898 == (15 : Int)) then j902 Bool.true else j902 (Prod.snd t898 == (6 : Int)) else j902 Bool.false else j902 Bool.false else j902 Bool.false else joinC (p_dormouselaw38_CmdParses.j1 k) fun (j908 : Bool → Option Bool) => Option.bind (p_dormouselaw38_awake k) fun t904 => bif t904 then Option.bind (p_dormouseref38_May (Prod.fst (Prod.fst t898), Prod.fst (Prod.snd (Prod.fst t898)), Prod.snd (Prod.snd (Prod.fst t898)))) fun t905 => bif t905 then Option.bind (p_dormouseref38_Line k (Prod.fst (Prod.fst t898), Prod.fst (Prod.snd (Prod.fst t898)), Prod.snd (Prod.snd (Prod.fst t898)))) fun t906 => j908 (t906 == x896) else j908 Bool.false else j908 Bool.false
noncomputable def e_dormouselaw38_CmdParses (k : Nat) : Entry := ⟨Ds.mk [Vd.one (Ld.im T.str)] [], Ds.mk [Vd.one (Ld.im T.bool)] [], fun x => p_dormouselaw38_CmdParses k x⟩
noncomputable def c_dormouselaw38_CmdParses (k : Nat) : Cx := ⟨Tryd.prog, [(25, e_cmd_Parse k), (21, e_dormouselaw38_awake k), (23, e_dormouseref38_May), (26, e_dormouseref38_Line k), (27, e_dormouseref38_Known k)], [], [(5, Sd.mk [2] (Ds.mk [Vd.one (Ld.im T.bool)] [])), (6, Sd.mk [2] (Ds.mk [Vd.one (Ld.im T.bool)] []))], [], [], 0, 49, [(76, 0), (83, 1)], fun _ _ _ => none⟩
theorem q_dormouselaw38_CmdParses (k : Nat) (x : HL (e_dormouselaw38_CmdParses k).pre.ts) : runF (c_dormouselaw38_CmdParses k) k Tryd.f7 (e_dormouselaw38_CmdParses k).pre (e_dormouselaw38_CmdParses k).post x = (e_dormouselaw38_CmdParses k).fn x := by kernel_rfl
theorem s_dormouselaw38_CmdParses (k : Nat) : Entry.Sound Tryd.prog 7 (e_dormouselaw38_CmdParses k) := runF_sound (X := c_dormouselaw38_CmdParses k) (pre := (e_dormouselaw38_CmdParses k).pre) (post := (e_dormouselaw38_CmdParses k).post) (q := (e_dormouselaw38_CmdParses k).fn) ⟨(dOk_cons (s_cmd_Parse k) (dOk_cons (s_dormouselaw38_awake k) (dOk_cons (s_dormouseref38_May) (dOk_cons (s_dormouseref38_Line k) (dOk_cons (s_dormouseref38_Known k) dOk_nil))))), x_ext, x_mo⟩ Tryd.func7 (q_dormouselaw38_CmdParses k)

/- dormouse/dormouselaw38.CmdHex: function 8 -/
noncomputable def p_dormouselaw38_CmdHex.j1 (k : Nat) (x925 : Bool) : Option Bool :=
  some x925
noncomputable def p_dormouselaw38_CmdHex.j0 (k : Nat) (x913 : List UInt8) (x914 : List UInt8) (x915 : Bool) : Option Bool :=
  bif x915 then Option.bind (p_dormouselaw38_awake k) fun t918 => some t918 else Option.bind (p_cmd_Hex k x913) fun t919 => Option.bind (p_cmd_Bytes k t919) fun t920 => Option.bind (p_cmd_Bytes k x914) fun t921 => joinC (p_dormouselaw38_CmdHex.j1 k) fun (j926 : Bool → Option Bool) => Option.bind (p_dormouselaw38_awake k) fun t922 => bif t922 then Option.bind (p_dormouseref38_Hex k x913) fun t923 => bif (t919 == t923) then bif (Prod.fst t920 == x913) then bif (Prod.snd t920) then bif (Prod.snd t921) then Option.bind (p_dormouseref38_Hex k (Prod.fst t921)) fun t924 => bif (t924 == x914) then j926 Bool.true else bif (!Prod.snd t921) then j926 (Prod.fst t921 == []) else j926 Bool.false else bif (!Prod.snd t921) then j926 (Prod.fst t921 == []) else j926 Bool.false else j926 Bool.false else j926 Bool.false else j926 Bool.false else j926 Bool.false
noncomputable def p_dormouselaw38_CmdHex (k : Nat) (x911 : List UInt8) (x912 : List UInt8) : Option Bool :=
  joinC (fun (y : List UInt8 × List UInt8 × Bool) => p_dormouselaw38_CmdHex.j0 k y.1 y.2.1 y.2.2) fun (j916 : List UInt8 × List UInt8 × Bool → Option Bool) => bif (decide ((↑(List.length x911) : Int) > (300 : Int))) then j916 (x911, x912, Bool.true) else j916 (x911, x912, decide ((↑(List.length x912) : Int) > (300 : Int)))
noncomputable def e_dormouselaw38_CmdHex (k : Nat) : Entry := ⟨Ds.mk [Vd.one (Ld.im T.str), Vd.one (Ld.im T.str)] [], Ds.mk [Vd.one (Ld.im T.bool)] [], fun x => p_dormouselaw38_CmdHex k x.1 x.2⟩
noncomputable def c_dormouselaw38_CmdHex (k : Nat) : Cx := ⟨Tryd.prog, [(28, e_cmd_Hex k), (29, e_cmd_Bytes k), (21, e_dormouselaw38_awake k), (30, e_dormouseref38_Hex k)], [], [(1, Sd.mk [0, 1, 17] (Ds.mk [Vd.one (Ld.im T.str), Vd.one (Ld.im T.str), Vd.one (Ld.im T.bool)] [])), (6, Sd.mk [4] (Ds.mk [Vd.one (Ld.im T.bool)] []))], [], [], 0, 63, [(76, 0), (83, 1)], fun _ _ _ => none⟩
theorem q_dormouselaw38_CmdHex (k : Nat) (x : HL (e_dormouselaw38_CmdHex k).pre.ts) : runF (c_dormouselaw38_CmdHex k) k Tryd.f8 (e_dormouselaw38_CmdHex k).pre (e_dormouselaw38_CmdHex k).post x = (e_dormouselaw38_CmdHex k).fn x := by kernel_rfl
theorem s_dormouselaw38_CmdHex (k : Nat) : Entry.Sound Tryd.prog 8 (e_dormouselaw38_CmdHex k) := runF_sound (X := c_dormouselaw38_CmdHex k) (pre := (e_dormouselaw38_CmdHex k).pre) (post := (e_dormouselaw38_CmdHex k).post) (q := (e_dormouselaw38_CmdHex k).fn) ⟨(dOk_cons (s_cmd_Hex k) (dOk_cons (s_cmd_Bytes k) (dOk_cons (s_dormouselaw38_awake k) (dOk_cons (s_dormouseref38_Hex k) dOk_nil)))), x_ext, x_mo⟩ Tryd.func8 (q_dormouselaw38_CmdHex k)

/- dormouse/dormouselaw37.Light: function 31 -/
noncomputable def p_dormouselaw37_Light.j0 (k : Nat) (x938 : List (Int × Vector Int (32) × List UInt8)) : Option Bool :=
  some (decide ((↑(List.length x938) : Int) ≤ (30 : Int)))
noncomputable def p_dormouselaw37_Light.b1 (k : Nat) (j939 : List (Int × Vector Int (32) × List UInt8) → Option Bool) (rec936 : List (Int × Vector Int (32) × List UInt8) × Int → Option Bool) (x933 : List (Int × Vector Int (32) × List UInt8)) (x934 : Int) : Option Bool :=
  bif (decide (x934 < (↑(List.length x933) : Int))) then need ((0 : Int) ≤ x934 ∧ x934 < (↑(List.length x933) : Int)) (bif (decide ((↑(List.length (Prod.snd (Prod.snd (at_ (dflt (T.pair (T.int IntKind.i64) (T.pair (T.arr (32) (T.int IntKind.u8)) T.str))) x933 x934)))) : Int) > (3000 : Int))) then some Bool.false else rec936 (x933, IntKind.wrap IntKind.i64 (x934 + (1 : Int)))) else j939 x933
noncomputable def p_dormouselaw37_Light (k : Nat) (x932 : List (Int × Vector Int (32) × List UInt8)) : Option Bool :=
  joinC (p_dormouselaw37_Light.j0 k) fun (j939 : List (Int × Vector Int (32) × List UInt8) → Option Bool) => loopC (fun (r : List (Int × Vector Int (32) × List UInt8) × Int → Option Bool) y => p_dormouselaw37_Light.b1 k j939 r y.1 y.2) k (x932, (0 : Int))
noncomputable def e_dormouselaw37_Light (k : Nat) : Entry := ⟨Ds.mk [Vd.one (Ld.im (T.sl (T.pair (T.int IntKind.i64) (T.pair (T.arr (32) (T.int IntKind.u8)) T.str))))] [], Ds.mk [Vd.one (Ld.im T.bool)] [], fun x => p_dormouselaw37_Light k x⟩
noncomputable def c_dormouselaw37_Light (k : Nat) : Cx := ⟨Tryd.prog, [], [(6, Sd.mk [0] (Ds.mk [Vd.one (Ld.im (T.sl (T.pair (T.int IntKind.i64) (T.pair (T.arr (32) (T.int IntKind.u8)) T.str))))] []))], [], [(2, Sd.mk [0, 3] (Ds.mk [Vd.one (Ld.im (T.sl (T.pair (T.int IntKind.i64) (T.pair (T.arr (32) (T.int IntKind.u8)) T.str)))), Vd.one (Ld.im (T.int IntKind.i64))] []))], [], 0, 20, [(76, 0), (83, 1)], fun _ _ _ => none⟩
theorem q_dormouselaw37_Light (k : Nat) (x : HL (e_dormouselaw37_Light k).pre.ts) : runF (c_dormouselaw37_Light k) k Tryd.f31 (e_dormouselaw37_Light k).pre (e_dormouselaw37_Light k).post x = (e_dormouselaw37_Light k).fn x := by kernel_rfl
theorem s_dormouselaw37_Light (k : Nat) : Entry.Sound Tryd.prog 31 (e_dormouselaw37_Light k) := runF_sound (X := c_dormouselaw37_Light k) (pre := (e_dormouselaw37_Light k).pre) (post := (e_dormouselaw37_Light k).post) (q := (e_dormouselaw37_Light k).fn) ⟨dOk_nil, x_ext, x_mo⟩ Tryd.func31 (q_dormouselaw37_Light k)

/- (*strings.Builder).WriteString: function 52 -/
noncomputable def p__strings_Builder_WriteString (x1000 : List UInt8) (x1001 : List Int) : Option (Int × List Int) :=
  Option.bind (p_Builder_copyCheck x1001) fun t1002 => need ((List.length t1002 + List.length (numsOf x1000)) * Go.TypeInfo.bytes (Go.Tables.types (Go.Program.toTables Go.Proofs.Tryd.prog))[(5 : Nat)] ≤ (140737488355328 : Nat)) (some ((↑(List.length x1000) : Int), t1002 ++ numsOf x1000))
noncomputable def e__strings_Builder_WriteString : Entry := ⟨Ds.mk [Vd.one (Ld.ptr (0) (0)), Vd.one (Ld.im T.str)] [Od.blk (82) [Ld.mp (0) (0), Ld.own (1)], Od.arr (5) (T.int IntKind.u8)], Ds.mk [Vd.one (Ld.im (T.int IntKind.i64)), Vd.one Ld.ni] [Od.blk (82) [Ld.mp (0) (0), Ld.own (2)], Od.gone, Od.arr (5) (T.int IntKind.u8)], fun x => p__strings_Builder_WriteString x.1 x.2⟩
noncomputable def c__strings_Builder_WriteString : Cx := ⟨Tryd.prog, [(65, e_Builder_copyCheck)], [], [], [], [], 2, 19, [(76, 0), (83, 1)], fun _ _ _ => none⟩
theorem q__strings_Builder_WriteString (x : HL (e__strings_Builder_WriteString).pre.ts) : runF (c__strings_Builder_WriteString) 0 Tryd.f52 (e__strings_Builder_WriteString).pre (e__strings_Builder_WriteString).post x = (e__strings_Builder_WriteString).fn x := by kernel_rfl
theorem s__strings_Builder_WriteString : Entry.Sound Tryd.prog 52 (e__strings_Builder_WriteString) := runF_sound (X := c__strings_Builder_WriteString) (pre := (e__strings_Builder_WriteString).pre) (post := (e__strings_Builder_WriteString).post) (q := (e__strings_Builder_WriteString).fn) ⟨(dOk_cons (s_Builder_copyCheck) dOk_nil), x_ext, x_mo⟩ Tryd.func52 (q__strings_Builder_WriteString)

/- dormouse/cmd.Print: function 32 -/
noncomputable def p_cmd_Print.j0 (k : Nat) (x1029 : List Int) : Option (List UInt8 × Int) :=
  Option.bind (p_Builder_String x1029) fun t1030 => some (t1030, (0 : Int))
noncomputable def p_cmd_Print.b1 (k : Nat) (j1031 : List Int → Option (List UInt8 × Int)) (rec1027 : List (Int × Vector Int (32) × List UInt8) × Int × Int × List Int → Option (List UInt8 × Int)) (x1019 : List (Int × Vector Int (32) × List UInt8)) (x1020 : Int) (x1021 : Int) (x1022 : List Int) : Option (List UInt8 × Int) :=
  bif (decide (x1021 < x1020)) then need ((0 : Int) ≤ x1021 ∧ x1021 < (↑(List.length x1019) : Int)) (Option.bind (p_cmd_Text k (Prod.fst (at_ (dflt (T.pair (T.int IntKind.i64) (T.pair (T.arr (32) (T.int IntKind.u8)) T.str))) x1019 x1021), Prod.fst (Prod.snd (at_ (dflt (T.pair (T.int IntKind.i64) (T.pair (T.arr (32) (T.int IntKind.u8)) T.str))) x1019 x1021)), Prod.snd (Prod.snd (at_ (dflt (T.pair (T.int IntKind.i64) (T.pair (T.arr (32) (T.int IntKind.u8)) T.str))) x1019 x1021)))) fun t1024 => bif (Prod.snd t1024 != (0 : Int)) then some ([], Prod.snd t1024) else Option.bind (p__strings_Builder_WriteString (Prod.fst t1024) x1022) fun t1025 => Option.bind (p__strings_Builder_WriteString [(10 : UInt8)] (Prod.snd t1025)) fun t1026 => rec1027 (x1019, x1020, IntKind.wrap IntKind.i64 (x1021 + (1 : Int)), Prod.snd t1026)) else j1031 x1022
noncomputable def p_cmd_Print (k : Nat) (x1018 : List (Int × Vector Int (32) × List UInt8)) : Option (List UInt8 × Int) :=
  joinC (p_cmd_Print.j0 k) fun (j1031 : List Int → Option (List UInt8 × Int)) => loopC (fun (r : List (Int × Vector Int (32) × List UInt8) × Int × Int × List Int → Option (List UInt8 × Int)) y => p_cmd_Print.b1 k j1031 r y.1 y.2.1 y.2.2.1 y.2.2.2) k (x1018, (↑(List.length x1018) : Int), (0 : Int), [])
noncomputable def e_cmd_Print (k : Nat) : Entry := ⟨Ds.mk [Vd.one (Ld.im (T.sl (T.pair (T.int IntKind.i64) (T.pair (T.arr (32) (T.int IntKind.u8)) T.str))))] [], Ds.mk [Vd.one (Ld.im T.str), Vd.one (Ld.im (T.int IntKind.i64))] [], fun x => p_cmd_Print k x⟩
noncomputable def c_cmd_Print (k : Nat) : Cx := ⟨Tryd.prog, [(22, e_cmd_Text k), (52, e__strings_Builder_WriteString), (53, e_Builder_String)], [(11, Sd.mk [4] (Ds.mk [Vd.one (Ld.ptr (0) (0))] [Od.blk (82) [Ld.mp (0) (0), Ld.own (1)], Od.arr (5) (T.int IntKind.u8)]))], [], [(3, Sd.mk [4, 9, 10, 11] (Ds.mk [Vd.one (Ld.ptr (0) (0)), Vd.one (Ld.im (T.sl (T.pair (T.int IntKind.i64) (T.pair (T.arr (32) (T.int IntKind.u8)) T.str)))), Vd.one (Ld.im (T.int IntKind.i64)), Vd.one (Ld.im (T.int IntKind.i64))] [Od.blk (82) [Ld.mp (0) (0), Ld.own (1)], Od.arr (5) (T.int IntKind.u8)]))], [], 0, 28, [(76, 0), (83, 1)], fun _ _ _ => none⟩
theorem q_cmd_Print (k : Nat) (x : HL (e_cmd_Print k).pre.ts) : runF (c_cmd_Print k) k Tryd.f32 (e_cmd_Print k).pre (e_cmd_Print k).post x = (e_cmd_Print k).fn x := by kernel_rfl
theorem s_cmd_Print (k : Nat) : Entry.Sound Tryd.prog 32 (e_cmd_Print k) := runF_sound (X := c_cmd_Print k) (pre := (e_cmd_Print k).pre) (post := (e_cmd_Print k).post) (q := (e_cmd_Print k).fn) ⟨(dOk_cons (s_cmd_Text k) (dOk_cons (s__strings_Builder_WriteString) (dOk_cons (s_Builder_String) dOk_nil))), x_ext, x_mo⟩ Tryd.func32 (q_cmd_Print k)

/- dormouse/dormouseref38.Lines: function 54 -/
noncomputable def p_dormouseref38_Lines.j0 (k : Nat) (x1151 : List (List UInt8)) (x1152 : List Int) : Option (List (List UInt8) × List Int) :=
  some (x1151, x1152)
noncomputable def p_dormouseref38_Lines.j2 (k : Nat) (rec1149 : List UInt8 × List UInt8 × Int × Int × List (List UInt8) × List Int → Option (List (List UInt8) × List Int)) (x1141 : List UInt8) (x1142 : List UInt8) (x1143 : Int) (x1144 : Int) (x1145 : List (List UInt8)) (x1146 : List Int) : Option (List (List UInt8) × List Int) :=
  rec1149 (x1141, x1142, x1143, IntKind.wrap IntKind.i64 (x1144 + (1 : Int)), x1145, x1146)
noncomputable def p_dormouseref38_Lines.j4 (k : Nat) (j1147 : List UInt8 × List UInt8 × Int × Int × List (List UInt8) × List Int → Option (List (List UInt8) × List Int)) (x1134 : List UInt8) (x1135 : Int) (x1136 : Int) (x1137 : List (List UInt8)) (x1138 : List Int) : Option (List (List UInt8) × List Int) :=
  j1147 (x1134, [], IntKind.wrap IntKind.i64 (x1135 + (1 : Int)), x1136, x1137, x1138)
noncomputable def p_dormouseref38_Lines.j3 (k : Nat) (j1147 : List UInt8 × List UInt8 × Int × Int × List (List UInt8) × List Int → Option (List (List UInt8) × List Int)) (x1121 : List UInt8) (x1122 : List UInt8) (x1123 : Int) (x1124 : Int) (x1125 : Bool) (x1126 : List (List UInt8)) (x1127 : List Int) : Option (List (List UInt8) × List Int) :=
  bif x1125 then need ((0 : Int) ≤ x1124 ∧ x1124 ≤ IntKind.wrap IntKind.i64 (x1124 + (1 : Int)) ∧ IntKind.wrap IntKind.i64 (x1124 + (1 : Int)) ≤ (↑(List.length x1121) : Int)) (need (List.length x1122 + List.length (sub_ x1121 x1124 (IntKind.wrap IntKind.i64 (x1124 + (1 : Int)))) ≤ (9223372036854775807 : Nat)) (j1147 (x1121, x1122 ++ sub_ x1121 x1124 (IntKind.wrap IntKind.i64 (x1124 + (1 : Int))), x1123, x1124, x1126, x1127))) else joinC (fun (y : List UInt8 × Int × Int × List (List UInt8) × List Int) => p_dormouseref38_Lines.j4 k j1147 y.1 y.2.1 y.2.2.1 y.2.2.2.1 y.2.2.2.2) fun (j1139 : List UInt8 × Int × Int × List (List UInt8) × List Int → Option (List (List UInt8) × List Int)) => bif (!x1122 == []) then need ((List.length x1126 + List.length [x1122]) * Go.TypeInfo.bytes (Go.Tables.types (Go.Program.toTables Go.Proofs.Tryd.prog))[(9 : Nat)] ≤ (140737488355328 : Nat)) (need ((List.length x1127 + List.length [x1123]) * Go.TypeInfo.bytes (Go.Tables.types (Go.Program.toTables Go.Proofs.Tryd.prog))[(3 : Nat)] ≤ (140737488355328 : Nat)) (j1139 (x1121, x1123, x1124, x1126 ++ [x1122], x1127 ++ [x1123]))) else j1139 (x1121, x1123, x1124, x1126, x1127)
noncomputable def p_dormouseref38_Lines.b1 (k : Nat) (j1153 : List (List UInt8) × List Int → Option (List (List UInt8) × List Int)) (rec1149 : List UInt8 × List UInt8 × Int × Int × List (List UInt8) × List Int → Option (List (List UInt8) × List Int)) (x1114 : List UInt8) (x1115 : List UInt8) (x1116 : Int) (x1117 : Int) (x1118 : List (List UInt8)) (x1119 : List Int) : Option (List (List UInt8) × List Int) :=
  bif (decide (x1117 ≤ (↑(List.length x1114) : Int))) then joinC (fun (y : List UInt8 × List UInt8 × Int × Int × List (List UInt8) × List Int) => p_dormouseref38_Lines.j2 k rec1149 y.1 y.2.1 y.2.2.1 y.2.2.2.1 y.2.2.2.2.1 y.2.2.2.2.2) fun (j1147 : List UInt8 × List UInt8 × Int × Int × List (List UInt8) × List Int → Option (List (List UInt8) × List Int)) => joinC (fun (y : List UInt8 × List UInt8 × Int × Int × Bool × List (List UInt8) × List Int) => p_dormouseref38_Lines.j3 k j1147 y.1 y.2.1 y.2.2.1 y.2.2.2.1 y.2.2.2.2.1 y.2.2.2.2.2.1 y.2.2.2.2.2.2) fun (j1128 : List UInt8 × List UInt8 × Int × Int × Bool × List (List UInt8) × List Int → Option (List (List UInt8) × List Int)) => bif (decide (x1117 < (↑(List.length x1114) : Int))) then need ((0 : Int) ≤ x1117 ∧ x1117 < (↑(List.length x1114) : Int)) (j1128 (x1114, x1115, x1116, x1117, bat x1114 x1117 != (10 : Int), x1118, x1119)) else j1128 (x1114, x1115, x1116, x1117, Bool.false, x1118, x1119) else j1153 (x1118, x1119)
noncomputable def p_dormouseref38_Lines (k : Nat) (x1113 : List UInt8) : Option (List (List UInt8) × List Int) :=
  joinC (fun (y : List (List UInt8) × List Int) => p_dormouseref38_Lines.j0 k y.1 y.2) fun (j1153 : List (List UInt8) × List Int → Option (List (List UInt8) × List Int)) => loopC (fun (r : List UInt8 × List UInt8 × Int × Int × List (List UInt8) × List Int → Option (List (List UInt8) × List Int)) y => p_dormouseref38_Lines.b1 k j1153 r y.1 y.2.1 y.2.2.1 y.2.2.2.1 y.2.2.2.2.1 y.2.2.2.2.2) k (x1113, [], (1 : Int), (0 : Int), [], [])
noncomputable def e_dormouseref38_Lines (k : Nat) : Entry := ⟨Ds.mk [Vd.one (Ld.im T.str)] [], Ds.mk [Vd.one (Ld.own (0)), Vd.one (Ld.own (1))] [Od.arr (9) T.str, Od.arr (3) (T.int IntKind.i64)], fun x => p_dormouseref38_Lines k x⟩
noncomputable def c_dormouseref38_Lines (k : Nat) : Cx := ⟨Tryd.prog, [], [(13, Sd.mk [0, 4, 5, 7, 8] (Ds.mk [Vd.one (Ld.im T.str), Vd.one (Ld.own (0)), Vd.one (Ld.own (1)), Vd.one (Ld.im (T.int IntKind.i64)), Vd.one (Ld.im (T.int IntKind.i64))] [Od.arr (9) T.str, Od.arr (3) (T.int IntKind.i64)])), (7, Sd.mk [0, 4, 5, 6, 7, 8] (Ds.mk [Vd.one (Ld.im T.str), Vd.one (Ld.own (0)), Vd.one (Ld.own (1)), Vd.one (Ld.im T.str), Vd.one (Ld.im (T.int IntKind.i64)), Vd.one (Ld.im (T.int IntKind.i64))] [Od.arr (9) T.str, Od.arr (3) (T.int IntKind.i64)])), (15, Sd.mk [4, 5] (Ds.mk [Vd.one (Ld.own (0)), Vd.one (Ld.own (1))] [Od.arr (9) T.str, Od.arr (3) (T.int IntKind.i64)]))], [(8, Sd.mk [0, 4, 5, 6, 7, 8, 24] (Ds.mk [Vd.one (Ld.im T.str), Vd.one (Ld.own (0)), Vd.one (Ld.own (1)), Vd.one (Ld.im T.str), Vd.one (Ld.im (T.int IntKind.i64)), Vd.one (Ld.im (T.int IntKind.i64)), Vd.one (Ld.im T.bool)] [Od.arr (9) T.str, Od.arr (3) (T.int IntKind.i64)]))], [(6, Sd.mk [0, 4, 5, 6, 7, 8] (Ds.mk [Vd.one (Ld.im T.str), Vd.one (Ld.own (0)), Vd.one (Ld.own (1)), Vd.one (Ld.im T.str), Vd.one (Ld.im (T.int IntKind.i64)), Vd.one (Ld.im (T.int IntKind.i64))] [Od.arr (9) T.str, Od.arr (3) (T.int IntKind.i64)]))], [], 0, 46, [(76, 0), (83, 1)], fun _ _ _ => none⟩
theorem q_dormouseref38_Lines (k : Nat) (x : HL (e_dormouseref38_Lines k).pre.ts) : runF (c_dormouseref38_Lines k) k Tryd.f54 (e_dormouseref38_Lines k).pre (e_dormouseref38_Lines k).post x = (e_dormouseref38_Lines k).fn x := by kernel_rfl
theorem s_dormouseref38_Lines (k : Nat) : Entry.Sound Tryd.prog 54 (e_dormouseref38_Lines k) := runF_sound (X := c_dormouseref38_Lines k) (pre := (e_dormouseref38_Lines k).pre) (post := (e_dormouseref38_Lines k).post) (q := (e_dormouseref38_Lines k).fn) ⟨dOk_nil, x_ext, x_mo⟩ Tryd.func54 (q_dormouseref38_Lines k)

/- dormouse/dormouselaw38.read: function 34 -/
noncomputable def p_dormouselaw38_read.j1 (k : Nat) (x1224 : Bool) : Option Bool :=
  some x1224
noncomputable def p_dormouselaw38_read.j0 (k : Nat) (x1220 : Int) (x1221 : Int) (x1222 : List (Int × Vector Int (32) × List UInt8)) (x1223 : List (List UInt8)) : Option Bool :=
  joinC (p_dormouselaw38_read.j1 k) fun (j1225 : Bool → Option Bool) => bif (x1221 == (0 : Int)) then bif (x1220 == (0 : Int)) then j1225 ((↑(List.length x1222) : Int) == (↑(List.length x1223) : Int)) else j1225 Bool.false else j1225 Bool.false
noncomputable def p_dormouselaw38_read.j3 (k : Nat) (x1205 : Bool) : Option Bool :=
  some x1205
noncomputable def p_dormouselaw38_read.j4 (k : Nat) (rec1218 : Int × Int × Int × List (Int × Vector Int (32) × List UInt8) × List (List UInt8) × List Int → Option Bool) (x1209 : Int) (x1210 : Int) (x1211 : Int) (x1212 : Bool) (x1213 : List (Int × Vector Int (32) × List UInt8)) (x1214 : List (List UInt8)) (x1215 : List Int) : Option Bool :=
  bif x1212 then some Bool.false else rec1218 (x1209, x1210, IntKind.wrap IntKind.i64 (x1211 + (1 : Int)), x1213, x1214, x1215)
noncomputable def p_dormouselaw38_read.b2 (k : Nat) (j1227 : Int × Int × List (Int × Vector Int (32) × List UInt8) × List (List UInt8) → Option Bool) (rec1218 : Int × Int × Int × List (Int × Vector Int (32) × List UInt8) × List (List UInt8) × List Int → Option Bool) (x1196 : Int) (x1197 : Int) (x1198 : Int) (x1199 : List (Int × Vector Int (32) × List UInt8)) (x1200 : List (List UInt8)) (x1201 : List Int) : Option Bool :=
  bif (decide (x1198 < (↑(List.length x1200) : Int))) then need ((0 : Int) ≤ x1198 ∧ x1198 < (↑(List.length x1200) : Int)) (Option.bind (p_cmd_Parse k (at_ (dflt T.str) x1200 x1198)) fun t1203 => bif (Prod.snd t1203 != (0 : Int)) then joinC (p_dormouselaw38_read.j3 k) fun (j1206 : Bool → Option Bool) => bif ((↑(List.length x1199) : Int) == (0 : Int)) then need ((0 : Int) ≤ x1198 ∧ x1198 < (↑(List.length x1201) : Int)) (bif (x1196 == at_ (dflt (T.int IntKind.i64)) x1201 x1198) then j1206 (x1197 == Prod.snd t1203) else j1206 Bool.false) else j1206 Bool.false else joinC (fun (y : Int × Int × Int × Bool × List (Int × Vector Int (32) × List UInt8) × List (List UInt8) × List Int) => p_dormouselaw38_read.j4 k rec1218 y.1 y.2.1 y.2.2.1 y.2.2.2.1 y.2.2.2.2.1 y.2.2.2.2.2.1 y.2.2.2.2.2.2) fun (j1216 : Int × Int × Int × Bool × List (Int × Vector Int (32) × List UInt8) × List (List UInt8) × List Int → Option Bool) => bif (x1197 == (0 : Int)) then bif (decide (x1198 ≥ (↑(List.length x1199) : Int))) then j1216 (x1196, x1197, x1198, Bool.true, x1199, x1200, x1201) else need ((0 : Int) ≤ x1198 ∧ x1198 < (↑(List.length x1199) : Int)) (j1216 (x1196, x1197, x1198, !(Prod.fst (at_ (dflt (T.pair (T.int IntKind.i64) (T.pair (T.arr (32) (T.int IntKind.u8)) T.str))) x1199 x1198) == Prod.fst (Prod.fst t1203) && (decide (Prod.fst (Prod.snd (at_ (dflt (T.pair (T.int IntKind.i64) (T.pair (T.arr (32) (T.int IntKind.u8)) T.str))) x1199 x1198)) = Prod.fst (Prod.snd (Prod.fst t1203))) && (Prod.snd (Prod.snd (at_ (dflt (T.pair (T.int IntKind.i64) (T.pair (T.arr (32) (T.int IntKind.u8)) T.str))) x1199 x1198)) == Prod.snd (Prod.snd (Prod.fst t1203)) && Bool.true))), x1199, x1200, x1201)) else j1216 (x1196, x1197, x1198, Bool.false, x1199, x1200, x1201)) else j1227 (x1196, x1197, x1199, x1200)
noncomputable def p_dormouselaw38_read (k : Nat) (x1193 : List UInt8) : Option Bool :=
  Option.bind (p_cmd_All k x1193) fun t1194 => Option.bind (p_dormouseref38_Lines k x1193) fun t1195 => joinC (fun (y : Int × Int × List (Int × Vector Int (32) × List UInt8) × List (List UInt8)) => p_dormouselaw38_read.j0 k y.1 y.2.1 y.2.2.1 y.2.2.2) fun (j1227 : Int × Int × List (Int × Vector Int (32) × List UInt8) × List (List UInt8) → Option Bool) => loopC (fun (r : Int × Int × Int × List (Int × Vector Int (32) × List UInt8) × List (List UInt8) × List Int → Option Bool) y => p_dormouselaw38_read.b2 k j1227 r y.1 y.2.1 y.2.2.1 y.2.2.2.1 y.2.2.2.2.1 y.2.2.2.2.2) k (Prod.fst t1194, Prod.fst (Prod.snd t1194), (0 : Int), Prod.snd (Prod.snd t1194), Prod.fst t1195, Prod.snd t1195)
noncomputable def e_dormouselaw38_read (k : Nat) : Entry := ⟨Ds.mk [Vd.one (Ld.im T.str)] [], Ds.mk [Vd.one (Ld.im T.bool)] [], fun x => p_dormouselaw38_read k x⟩
noncomputable def c_dormouselaw38_read (k : Nat) : Cx := ⟨Tryd.prog, [(25, e_cmd_Parse k), (33, e_cmd_All k), (54, e_dormouseref38_Lines k)], [(11, Sd.mk [3, 4, 5, 6] (Ds.mk [Vd.one (Ld.own (0)), Vd.one (Ld.im (T.int IntKind.i64)), Vd.one (Ld.im (T.int IntKind.i64)), Vd.one (Ld.own (1))] [Od.arr (45) (T.pair (T.int IntKind.i64) (T.pair (T.arr (32) (T.int IntKind.u8)) T.str)), Od.arr (9) T.str]))], [(8, Sd.mk [2] (Ds.mk [Vd.one (Ld.im T.bool)] [])), (9, Sd.mk [3, 4, 5, 6, 7, 8, 69] (Ds.mk [Vd.one (Ld.own (0)), Vd.one (Ld.im (T.int IntKind.i64)), Vd.one (Ld.im (T.int IntKind.i64)), Vd.one (Ld.own (1)), Vd.one (Ld.own (2)), Vd.one (Ld.im (T.int IntKind.i64)), Vd.one (Ld.im T.bool)] [Od.arr (45) (T.pair (T.int IntKind.i64) (T.pair (T.arr (32) (T.int IntKind.u8)) T.str)), Od.arr (9) T.str, Od.arr (3) (T.int IntKind.i64)])), (11, Sd.mk [2] (Ds.mk [Vd.one (Ld.im T.bool)] []))], [(4, Sd.mk [3, 4, 5, 6, 7, 8] (Ds.mk [Vd.one (Ld.own (0)), Vd.one (Ld.im (T.int IntKind.i64)), Vd.one (Ld.im (T.int IntKind.i64)), Vd.one (Ld.own (1)), Vd.one (Ld.own (2)), Vd.one (Ld.im (T.int IntKind.i64))] [Od.arr (45) (T.pair (T.int IntKind.i64) (T.pair (T.arr (32) (T.int IntKind.u8)) T.str)), Od.arr (9) T.str, Od.arr (3) (T.int IntKind.i64)]))], [(9, ([(0, 2), (1, 2), (2, 2), (3, 2), (4, 2), (5, 2), (6, 2), (7, 2), (8, 2), (9, 2), (10, 2), (11, 1), (12, 1), (13, 2), (14, 2), (15, 2)], [], []))], 0, 83, [(76, 0), (83, 1)], fun _ _ _ => none⟩
theorem q_dormouselaw38_read (k : Nat) (x : HL (e_dormouselaw38_read k).pre.ts) : runF (c_dormouselaw38_read k) k Tryd.f34 (e_dormouselaw38_read k).pre (e_dormouselaw38_read k).post x = (e_dormouselaw38_read k).fn x := by kernel_rfl
theorem s_dormouselaw38_read (k : Nat) : Entry.Sound Tryd.prog 34 (e_dormouselaw38_read k) := runF_sound (X := c_dormouselaw38_read k) (pre := (e_dormouselaw38_read k).pre) (post := (e_dormouselaw38_read k).post) (q := (e_dormouselaw38_read k).fn) ⟨(dOk_cons (s_cmd_Parse k) (dOk_cons (s_cmd_All k) (dOk_cons (s_dormouseref38_Lines k) dOk_nil))), x_ext, x_mo⟩ Tryd.func34 (q_dormouselaw38_read k)

/- dormouse/dormouselaw38.CmdAll: function 9 -/
noncomputable def p_dormouselaw38_CmdAll.j5 (k : Nat) (x1390 : Bool) : Option Bool :=
  some x1390
noncomputable def p_dormouselaw38_CmdAll.j4 (k : Nat) (x1387 : List UInt8) : Option Bool :=
  joinC (p_dormouselaw38_CmdAll.j5 k) fun (j1391 : Bool → Option Bool) => Option.bind (p_dormouselaw38_awake k) fun t1388 => bif t1388 then Option.bind (p_dormouselaw38_read k x1387) fun t1389 => j1391 t1389 else j1391 Bool.false
noncomputable def p_dormouselaw38_CmdAll.j7 (k : Nat) (rec1385 : List (Int × Vector Int (32) × List UInt8) × List UInt8 × Bool × Int × List (Int × Vector Int (32) × List UInt8) → Option Bool) (j1393 : List UInt8 → Option Bool) (x1375 : List (Int × Vector Int (32) × List UInt8)) (x1376 : List UInt8) (x1377 : Bool) (x1378 : Int) (x1379 : Bool) (x1380 : List (Int × Vector Int (32) × List UInt8)) : Option Bool :=
  bif x1379 then need ((0 : Int) ≤ x1378 ∧ x1378 < (↑(List.length x1380) : Int)) (need ((0 : Int) ≤ x1378 ∧ x1378 < (↑(List.length x1375) : Int)) (bif (!(Prod.fst (at_ (dflt (T.pair (T.int IntKind.i64) (T.pair (T.arr (32) (T.int IntKind.u8)) T.str))) x1380 x1378) == Prod.fst (at_ (dflt (T.pair (T.int IntKind.i64) (T.pair (T.arr (32) (T.int IntKind.u8)) T.str))) x1375 x1378) && (decide (Prod.fst (Prod.snd (at_ (dflt (T.pair (T.int IntKind.i64) (T.pair (T.arr (32) (T.int IntKind.u8)) T.str))) x1380 x1378)) = Prod.fst (Prod.snd (at_ (dflt (T.pair (T.int IntKind.i64) (T.pair (T.arr (32) (T.int IntKind.u8)) T.str))) x1375 x1378))) && (Prod.snd (Prod.snd (at_ (dflt (T.pair (T.int IntKind.i64) (T.pair (T.arr (32) (T.int IntKind.u8)) T.str))) x1380 x1378)) == Prod.snd (Prod.snd (at_ (dflt (T.pair (T.int IntKind.i64) (T.pair (T.arr (32) (T.int IntKind.u8)) T.str))) x1375 x1378)) && Bool.true)))) then some Bool.false else rec1385 (x1375, x1376, x1377, IntKind.wrap IntKind.i64 (x1378 + (1 : Int)), x1380))) else j1393 x1376
noncomputable def p_dormouselaw38_CmdAll.b6 (k : Nat) (j1393 : List UInt8 → Option Bool) (rec1385 : List (Int × Vector Int (32) × List UInt8) × List UInt8 × Bool × Int × List (Int × Vector Int (32) × List UInt8) → Option Bool) (x1370 : List (Int × Vector Int (32) × List UInt8)) (x1371 : List UInt8) (x1372 : Bool) (x1373 : Int) (x1374 : List (Int × Vector Int (32) × List UInt8)) : Option Bool :=
  joinC (fun (y : List (Int × Vector Int (32) × List UInt8) × List UInt8 × Bool × Int × Bool × List (Int × Vector Int (32) × List UInt8)) => p_dormouselaw38_CmdAll.j7 k rec1385 j1393 y.1 y.2.1 y.2.2.1 y.2.2.2.1 y.2.2.2.2.1 y.2.2.2.2.2) fun (j1381 : List (Int × Vector Int (32) × List UInt8) × List UInt8 × Bool × Int × Bool × List (Int × Vector Int (32) × List UInt8) → Option Bool) => bif (decide (x1373 < (↑(List.length x1374) : Int))) then j1381 (x1370, x1371, x1372, x1373, !x1372, x1374) else j1381 (x1370, x1371, x1372, x1373, Bool.false, x1374)
noncomputable def p_dormouselaw38_CmdAll.j3 (k : Nat) (x1363 : List (Int × Vector Int (32) × List UInt8)) (x1364 : List UInt8) (x1365 : Bool) (x1366 : Bool) (x1367 : List (Int × Vector Int (32) × List UInt8)) : Option Bool :=
  bif x1366 then some Bool.false else joinC (p_dormouselaw38_CmdAll.j4 k) fun (j1393 : List UInt8 → Option Bool) => loopC (fun (r : List (Int × Vector Int (32) × List UInt8) × List UInt8 × Bool × Int × List (Int × Vector Int (32) × List UInt8) → Option Bool) y => p_dormouselaw38_CmdAll.b6 k j1393 r y.1 y.2.1 y.2.2.1 y.2.2.2.1 y.2.2.2.2) k (x1363, x1364, x1365, (0 : Int), x1367)
noncomputable def p_dormouselaw38_CmdAll.j2 (k : Nat) (x1355 : List (Int × Vector Int (32) × List UInt8)) (x1356 : List UInt8) (x1357 : Bool) (x1358 : List UInt8) (x1359 : Bool) : Option Bool :=
  bif x1359 then some Bool.false else Option.bind (p_cmd_All k x1358) fun t1362 => joinC (fun (y : List (Int × Vector Int (32) × List UInt8) × List UInt8 × Bool × Bool × List (Int × Vector Int (32) × List UInt8)) => p_dormouselaw38_CmdAll.j3 k y.1 y.2.1 y.2.2.1 y.2.2.2.1 y.2.2.2.2) fun (j1368 : List (Int × Vector Int (32) × List UInt8) × List UInt8 × Bool × Bool × List (Int × Vector Int (32) × List UInt8) → Option Bool) => bif !x1357 then bif (Prod.fst (Prod.snd t1362) != (0 : Int)) then j1368 (x1355, x1356, x1357, Bool.true, Prod.snd (Prod.snd t1362)) else bif (Prod.fst t1362 != (0 : Int)) then j1368 (x1355, x1356, x1357, Bool.true, Prod.snd (Prod.snd t1362)) else j1368 (x1355, x1356, x1357, (↑(List.length (Prod.snd (Prod.snd t1362))) : Int) != (↑(List.length x1355) : Int), Prod.snd (Prod.snd t1362)) else j1368 (x1355, x1356, x1357, Bool.false, Prod.snd (Prod.snd t1362))
noncomputable def p_dormouselaw38_CmdAll.j1 (k : Nat) (x1350 : List (Int × Vector Int (32) × List UInt8)) (x1351 : List UInt8) (x1352 : List UInt8) (x1353 : Bool) : Option Bool :=
  Option.bind (p_cmd_Print k x1350) fun t1354 => joinC (fun (y : List (Int × Vector Int (32) × List UInt8) × List UInt8 × Bool × List UInt8 × Bool) => p_dormouselaw38_CmdAll.j2 k y.1 y.2.1 y.2.2.1 y.2.2.2.1 y.2.2.2.2) fun (j1360 : List (Int × Vector Int (32) × List UInt8) × List UInt8 × Bool × List UInt8 × Bool → Option Bool) => bif (!x1353 == (Prod.snd t1354 == (2 : Int))) then j1360 (x1350, x1351, x1353, Prod.fst t1354, Bool.true) else bif !x1353 then bif (Prod.snd t1354 != (0 : Int)) then j1360 (x1350, x1351, x1353, Prod.fst t1354, Bool.true) else j1360 (x1350, x1351, x1353, Prod.fst t1354, !Prod.fst t1354 == x1352) else j1360 (x1350, x1351, x1353, Prod.fst t1354, Bool.false)
noncomputable def p_dormouselaw38_CmdAll.j9 (k : Nat) (rec1348 : List (Int × Vector Int (32) × List UInt8) × List UInt8 × List UInt8 × Bool × Int → Option Bool) (x1341 : List (Int × Vector Int (32) × List UInt8)) (x1342 : List UInt8) (x1343 : List UInt8) (x1344 : Bool) (x1345 : Int) : Option Bool :=
  rec1348 (x1341, x1342, x1343, x1344, IntKind.wrap IntKind.i64 (x1345 + (1 : Int)))
noncomputable def p_dormouselaw38_CmdAll.j10 (k : Nat) (j1346 : List (Int × Vector Int (32) × List UInt8) × List UInt8 × List UInt8 × Bool × Int → Option Bool) (x1330 : List (Int × Vector Int (32) × List UInt8)) (x1331 : List UInt8) (x1332 : List UInt8) (x1333 : Bool) (x1334 : Int) : Option Bool :=
  bif !x1333 then need ((0 : Int) ≤ x1334 ∧ x1334 < (↑(List.length x1330) : Int)) (Option.bind (p_dormouseref38_Line k (Prod.fst (at_ (dflt (T.pair (T.int IntKind.i64) (T.pair (T.arr (32) (T.int IntKind.u8)) T.str))) x1330 x1334), Prod.fst (Prod.snd (at_ (dflt (T.pair (T.int IntKind.i64) (T.pair (T.arr (32) (T.int IntKind.u8)) T.str))) x1330 x1334)), Prod.snd (Prod.snd (at_ (dflt (T.pair (T.int IntKind.i64) (T.pair (T.arr (32) (T.int IntKind.u8)) T.str))) x1330 x1334)))) fun t1338 => need (List.length x1332 + List.length t1338 ≤ (9223372036854775807 : Nat)) (need (List.length (x1332 ++ t1338) + 1 ≤ (9223372036854775807 : Nat)) (j1346 (x1330, x1331, x1332 ++ t1338 ++ [(10 : UInt8)], x1333, x1334)))) else j1346 (x1330, x1331, x1332, x1333, x1334)
noncomputable def p_dormouselaw38_CmdAll.b8 (k : Nat) (j1395 : List (Int × Vector Int (32) × List UInt8) × List UInt8 × List UInt8 × Bool → Option Bool) (rec1348 : List (Int × Vector Int (32) × List UInt8) × List UInt8 × List UInt8 × Bool × Int → Option Bool) (x1323 : List (Int × Vector Int (32) × List UInt8)) (x1324 : List UInt8) (x1325 : List UInt8) (x1326 : Bool) (x1327 : Int) : Option Bool :=
  bif (decide (x1327 < (↑(List.length x1323) : Int))) then joinC (fun (y : List (Int × Vector Int (32) × List UInt8) × List UInt8 × List UInt8 × Bool × Int) => p_dormouselaw38_CmdAll.j9 k rec1348 y.1 y.2.1 y.2.2.1 y.2.2.2.1 y.2.2.2.2) fun (j1346 : List (Int × Vector Int (32) × List UInt8) × List UInt8 × List UInt8 × Bool × Int → Option Bool) => joinC (fun (y : List (Int × Vector Int (32) × List UInt8) × List UInt8 × List UInt8 × Bool × Int) => p_dormouselaw38_CmdAll.j10 k j1346 y.1 y.2.1 y.2.2.1 y.2.2.2.1 y.2.2.2.2) fun (j1335 : List (Int × Vector Int (32) × List UInt8) × List UInt8 × List UInt8 × Bool × Int → Option Bool) => bif x1326 then j1335 (x1323, x1324, x1325, Bool.true, x1327) else need ((0 : Int) ≤ x1327 ∧ x1327 < (↑(List.length x1323) : Int)) (Option.bind (p_dormouseref38_May (Prod.fst (at_ (dflt (T.pair (T.int IntKind.i64) (T.pair (T.arr (32) (T.int IntKind.u8)) T.str))) x1323 x1327), Prod.fst (Prod.snd (at_ (dflt (T.pair (T.int IntKind.i64) (T.pair (T.arr (32) (T.int IntKind.u8)) T.str))) x1323 x1327)), Prod.snd (Prod.snd (at_ (dflt (T.pair (T.int IntKind.i64) (T.pair (T.arr (32) (T.int IntKind.u8)) T.str))) x1323 x1327)))) fun t1329 => j1335 (x1323, x1324, x1325, !t1329, x1327)) else j1395 (x1323, x1324, x1325, x1326)
noncomputable def p_dormouselaw38_CmdAll.j0 (k : Nat) (x1317 : List (Int × Vector Int (32) × List UInt8)) (x1318 : List UInt8) (x1319 : Bool) : Option Bool :=
  bif x1319 then Option.bind (p_dormouselaw38_awake k) fun t1322 => some t1322 else joinC (fun (y : List (Int × Vector Int (32) × List UInt8) × List UInt8 × List UInt8 × Bool) => p_dormouselaw38_CmdAll.j1 k y.1 y.2.1 y.2.2.1 y.2.2.2) fun (j1395 : List (Int × Vector Int (32) × List UInt8) × List UInt8 × List UInt8 × Bool → Option Bool) => loopC (fun (r : List (Int × Vector Int (32) × List UInt8) × List UInt8 × List UInt8 × Bool × Int → Option Bool) y => p_dormouselaw38_CmdAll.b8 k j1395 r y.1 y.2.1 y.2.2.1 y.2.2.2.1 y.2.2.2.2) k (x1317, x1318, [], Bool.false, (0 : Int))
noncomputable def p_dormouselaw38_CmdAll (k : Nat) (x1314 : List (Int × Vector Int (32) × List UInt8)) (x1315 : List UInt8) : Option Bool :=
  joinC (fun (y : List (Int × Vector Int (32) × List UInt8) × List UInt8 × Bool) => p_dormouselaw38_CmdAll.j0 k y.1 y.2.1 y.2.2) fun (j1320 : List (Int × Vector Int (32) × List UInt8) × List UInt8 × Bool → Option Bool) => Option.bind (p_dormouselaw37_Light k x1314) fun t1316 => bif !t1316 then j1320 (x1314, x1315, Bool.true) else j1320 (x1314, x1315, decide ((↑(List.length x1315) : Int) > (600 : Int)))
noncomputable def e_dormouselaw38_CmdAll (k : Nat) : Entry := ⟨Ds.mk [Vd.one (Ld.im (T.sl (T.pair (T.int IntKind.i64) (T.pair (T.arr (32) (T.int IntKind.u8)) T.str)))), Vd.one (Ld.im T.str)] [], Ds.mk [Vd.one (Ld.im T.bool)] [], fun x => p_dormouselaw38_CmdAll k x.1 x.2⟩
noncomputable def c_dormouselaw38_CmdAll (k : Nat) : Cx := ⟨Tryd.prog, [(33, e_cmd_All k), (21, e_dormouselaw38_awake k), (23, e_dormouseref38_May), (26, e_dormouseref38_Line k), (31, e_dormouselaw37_Light k), (32, e_cmd_Print k), (34, e_dormouselaw38_read k)], [(7, Sd.mk [0, 1, 5, 6, 7] (Ds.mk [Vd.one (Ld.im (T.sl (T.pair (T.int IntKind.i64) (T.pair (T.arr (32) (T.int IntKind.u8)) T.str)))), Vd.one (Ld.im T.str), Vd.one (Ld.im T.str), Vd.one (Ld.im T.bool), Vd.one (Ld.im (T.int IntKind.i64))] [])), (11, Sd.mk [0, 1, 5, 6] (Ds.mk [Vd.one (Ld.im (T.sl (T.pair (T.int IntKind.i64) (T.pair (T.arr (32) (T.int IntKind.u8)) T.str)))), Vd.one (Ld.im T.str), Vd.one (Ld.im T.str), Vd.one (Ld.im T.bool)] [])), (22, Sd.mk [1] (Ds.mk [Vd.one (Ld.im T.str)] []))], [(1, Sd.mk [0, 1, 21] (Ds.mk [Vd.one (Ld.im (T.sl (T.pair (T.int IntKind.i64) (T.pair (T.arr (32) (T.int IntKind.u8)) T.str)))), Vd.one (Ld.im T.str), Vd.one (Ld.im T.bool)] [])), (8, Sd.mk [0, 1, 5, 6, 7] (Ds.mk [Vd.one (Ld.im (T.sl (T.pair (T.int IntKind.i64) (T.pair (T.arr (32) (T.int IntKind.u8)) T.str)))), Vd.one (Ld.im T.str), Vd.one (Ld.im T.str), Vd.one (Ld.im T.bool), Vd.one (Ld.im (T.int IntKind.i64))] [])), (12, Sd.mk [0, 1, 6, 8, 69] (Ds.mk [Vd.one (Ld.im (T.sl (T.pair (T.int IntKind.i64) (T.pair (T.arr (32) (T.int IntKind.u8)) T.str)))), Vd.one (Ld.im T.str), Vd.one (Ld.im T.bool), Vd.one (Ld.im T.str), Vd.one (Ld.im T.bool)] [])), (15, Sd.mk [0, 1, 6, 10, 92] (Ds.mk [Vd.one (Ld.im (T.sl (T.pair (T.int IntKind.i64) (T.pair (T.arr (32) (T.int IntKind.u8)) T.str)))), Vd.one (Ld.im T.str), Vd.one (Ld.im T.bool), Vd.one (Ld.own (0)), Vd.one (Ld.im T.bool)] [Od.arr (45) (T.pair (T.int IntKind.i64) (T.pair (T.arr (32) (T.int IntKind.u8)) T.str))])), (18, Sd.mk [0, 1, 6, 10, 13, 100] (Ds.mk [Vd.one (Ld.im (T.sl (T.pair (T.int IntKind.i64) (T.pair (T.arr (32) (T.int IntKind.u8)) T.str)))), Vd.one (Ld.im T.str), Vd.one (Ld.im T.bool), Vd.one (Ld.own (0)), Vd.one (Ld.im (T.int IntKind.i64)), Vd.one (Ld.im T.bool)] [Od.arr (45) (T.pair (T.int IntKind.i64) (T.pair (T.arr (32) (T.int IntKind.u8)) T.str))])), (22, Sd.mk [4] (Ds.mk [Vd.one (Ld.im T.bool)] []))], [(6, Sd.mk [0, 1, 5, 6, 7] (Ds.mk [Vd.one (Ld.im (T.sl (T.pair (T.int IntKind.i64) (T.pair (T.arr (32) (T.int IntKind.u8)) T.str)))), Vd.one (Ld.im T.str), Vd.one (Ld.im T.str), Vd.one (Ld.im T.bool), Vd.one (Ld.im (T.int IntKind.i64))] [])), (18, Sd.mk [0, 1, 6, 10, 13] (Ds.mk [Vd.one (Ld.im (T.sl (T.pair (T.int IntKind.i64) (T.pair (T.arr (32) (T.int IntKind.u8)) T.str)))), Vd.one (Ld.im T.str), Vd.one (Ld.im T.bool), Vd.one (Ld.own (0)), Vd.one (Ld.im (T.int IntKind.i64))] [Od.arr (45) (T.pair (T.int IntKind.i64) (T.pair (T.arr (32) (T.int IntKind.u8)) T.str))]))], [(20, ([(0, 2), (1, 2), (2, 2), (3, 1), (4, 2), (5, 2), (6, 2), (7, 1), (8, 2)], [], []))], 0, 117, [(76, 0), (83, 1)], fun _ _ _ => none⟩
theorem q_dormouselaw38_CmdAll (k : Nat) (x : HL (e_dormouselaw38_CmdAll k).pre.ts) : runF (c_dormouselaw38_CmdAll k) k Tryd.f9 (e_dormouselaw38_CmdAll k).pre (e_dormouselaw38_CmdAll k).post x = (e_dormouselaw38_CmdAll k).fn x := by kernel_rfl
theorem s_dormouselaw38_CmdAll (k : Nat) : Entry.Sound Tryd.prog 9 (e_dormouselaw38_CmdAll k) := runF_sound (X := c_dormouselaw38_CmdAll k) (pre := (e_dormouselaw38_CmdAll k).pre) (post := (e_dormouselaw38_CmdAll k).post) (q := (e_dormouselaw38_CmdAll k).fn) ⟨(dOk_cons (s_cmd_All k) (dOk_cons (s_dormouselaw38_awake k) (dOk_cons (s_dormouseref38_May) (dOk_cons (s_dormouseref38_Line k) (dOk_cons (s_dormouselaw37_Light k) (dOk_cons (s_cmd_Print k) (dOk_cons (s_dormouselaw38_read k) dOk_nil))))))), x_ext, x_mo⟩ Tryd.func9 (q_dormouselaw38_CmdAll k)
end
end Go.Dor
end

section
/- THE LAW OF BYTES AS DIGITS, plain. -/
set_option linter.unusedVariables false
set_option linter.unusedSimpArgs false
namespace Go.Dor
open Go.Proofs

set_option maxRecDepth 100000 in
theorem awake38 : p_dormouselaw38_awake 2000 = some true := by kernel_rfl
theorem ref38Hex_eq {k : Nat} {s : List UInt8} (hk : s.length < k) (hs : s.length < 100000) : p_dormouseref38_Hex k s = some (hexS s) := by
  unfold p_dormouseref38_Hex hexS
  by_cases h : s = []
  · subst h; rfl
  · have e : (s == []) = false := by simpa using h
    have := refHex_eq (k := k) (d := natsOf s) (by rw [natsOf_len]; exact hk) (by rw [natsOf_len]; omega) (natsOf_lt s)
    rw [byl_natsOf] at this
    rw [e, cond_false, this, if_neg h]
    rfl
theorem hexS_len (s : List UInt8) : (hexS s).length ≤ 1 + 2 * s.length := by
  unfold hexS
  split
  · simp
  · rw [hexL_len, natsOf_len]; omega
theorem bytR_hexS (s : List UInt8) : bytR (hexS s) = (s, true) := by
  unfold hexS
  by_cases h : s = []
  · subst h; rfl
  · rw [if_neg h]; exact bytR_hex h
theorem bytR_back (t : List UInt8) : ((bytR t).2 = true ∧ hexS (bytR t).1 = t) ∨ ((bytR t).2 = false ∧ (bytR t).1 = []) := by
  unfold bytR
  split
  · rename_i h; left; subst h; exact ⟨rfl, rfl⟩
  · split
    · right; exact ⟨rfl, rfl⟩
    · rename_i h1 h2
      left
      refine ⟨rfl, ?_⟩
      exact Classical.byContradiction fun h3 => h2 (Or.inr h3)
theorem law_CmdHex (s t : List UInt8) : p_dormouselaw38_CmdHex 2000 s t = some true := by
  unfold p_dormouselaw38_CmdHex joinC
  dsimp only
  have hj : ∀ a y, p_dormouselaw38_CmdHex.j0 2000 a y true = some true := by
    intro a y
    unfold p_dormouselaw38_CmdHex.j0
    rw [cond_true, awake38]; rfl
  by_cases h1 : ((s.length : Nat) : Int) > 300
  · rw [decide_eq_true h1, cond_true]; exact hj _ _
  · rw [decide_eq_false h1, cond_false]
    by_cases h2 : ((t.length : Nat) : Int) > 300
    · rw [decide_eq_true h2]; exact hj _ _
    · rw [decide_eq_false h2]
      have hl := hexS_len s
      have hb := bytR_len t
      unfold p_dormouselaw38_CmdHex.j0 joinC
      rw [cond_false, cmdHex_eq (by omega) (by omega), Option.bind_some, Bytes_eq (by omega) (by omega), Option.bind_some, Bytes_eq (by omega) (by omega), Option.bind_some]
      dsimp only
      rw [awake38, Option.bind_some, cond_true, ref38Hex_eq (by omega) (by omega), Option.bind_some, bytR_hexS]
      have e1 : ∀ x : List UInt8, (x == x) = true := by intro x; simp
      dsimp only
      rw [e1, e1, cond_true, cond_true, cond_true, ref38Hex_eq (by omega) (by omega), Option.bind_some]
      rcases bytR_back t with ⟨e, e'⟩ | ⟨e, e'⟩
      · rw [e, e', e1, cond_true, cond_true]; rfl
      · rw [e, e', cond_false, Bool.not_false, cond_true]; rfl
end Go.Dor
end

section
/- PICKED: keyText_eq, refText16_eq, parse_eq, guess_txt, txt_len, guess_ok, vecN_inj, decN_dot, hexL_dot. -/
set_option linter.unusedVariables false
set_option linter.unusedSimpArgs false
namespace Go.Dor.Ky
open Go.Proofs

def vecN (n : Nat) (l : List Nat) : Vector Int n := Vector.ofFn fun i => ((l.getD i 0 : Nat) : Int)
theorem at_vecN {n : Nat} {i : Nat} {l : List Nat} {d : Int} (hi : i < n) : at_ d (vecN n l).toList (i : Int) = ((l.getD i 0 : Nat) : Int) := by
  simp [at_, vecN, hi]
set_option maxRecDepth 100000 in
theorem tb5 : Go.TypeInfo.bytes (Go.Tables.types (Go.Program.toTables Go.Proofs.Tryd.prog))[(5 : Nat)] = 1 := by kernel_rfl
theorem vset_vecN {n i : Nat} {l : List Nat} {v : Nat} (hl : l.length = i) : vset (vecN n l) (i : Int) (v : Int) = vecN n (l ++ [v]) := by
  apply Vector.toArray_inj.1
  apply Array.toList_inj.1
  show (vecN n l).toList.set (i : Int).toNat (v : Int) = (vecN n (l ++ [v])).toList
  apply List.ext_getElem
  · simp [vecN]
  · intro j h1 h2
    simp only [vecN, Vector.toList_ofFn, Int.toNat_natCast, List.getElem_set, List.getElem_ofFn]
    simp only [List.getD_eq_getElem?_getD]
    split
    · rename_i h; subst h; simp [← hl]
    · rename_i h
      by_cases hj : j < l.length
      · simp [hj, List.getElem?_append_left hj]
      · have h3 : l.length + 1 ≤ j := by omega
        rw [List.getElem?_eq_none (by omega), List.getElem?_eq_none (by simp; omega)]
theorem repl_vecN (n : Nat) : Vector.replicate n (0 : Int) = vecN n [] := by
  apply Vector.toArray_inj.1
  apply Array.toList_inj.1
  apply List.ext_getElem <;> simp [vecN]
theorem vset_vecN2 {n i : Nat} {l : List Nat} {v : Nat} (hl : i < l.length) : vset (vecN n l) (i : Int) (v : Int) = vecN n (l.set i v) := by
  apply Vector.toArray_inj.1
  apply Array.toList_inj.1
  show (vecN n l).toList.set (i : Int).toNat (v : Int) = (vecN n (l.set i v)).toList
  apply List.ext_getElem
  · simp [vecN]
  · intro j h1 h2
    simp only [vecN, Vector.toList_ofFn, Int.toNat_natCast, List.getElem_set, List.getElem_ofFn]
    simp only [List.getD_eq_getElem?_getD]
    split
    · rename_i h; subst h; simp [hl]
    · rename_i h; simp [h]
def numL (x n : Nat) : List Nat := (List.range n).map fun i => x / 256 ^ i % 256
def numB (x n : Nat) : List UInt8 := byl (numL x n)
theorem numL_len (x n : Nat) : (numL x n).length = n := by simp [numL]
theorem numB_len (x n : Nat) : (numB x n).length = n := by rw [numB, byl_len, numL_len]
theorem numL_succ (x n : Nat) : numL x (n + 1) = numL x n ++ [x / 256 ^ n % 256] := by simp [numL, List.range_succ]
theorem numL_lt (x n : Nat) : ∀ y ∈ numL x n, y < 256 := by
  intro y hy
  simp only [numL, List.mem_map] at hy
  obtain ⟨i, _, rfl⟩ := hy
  exact Nat.mod_lt _ (by omega)
theorem sub_vecN {n m : Nat} {l : List Nat} (hm : l.length = m) (hn : m ≤ n) : sub_ (vecN n l).toList 0 (m : Int) = casts l := by
  unfold sub_
  apply List.ext_getElem
  · simp [vecN, casts]; omega
  · intro i h1 h2
    have hi : i < l.length := by simpa [casts] using h2
    simp [vecN, casts, hi]
theorem div_pow_succ (x i : Nat) : x / 256 ^ (i + 1) = x / 256 ^ i / 256 := by rw [Nat.pow_succ, Nat.div_div_eq_div_mul]
theorem div8 {y : Nat} (hy : y < 18446744073709551616) : IntKind.wrap .u64 (Int.tdiv (y : Int) 256) = ((y / 256 : Nat) : Int) := by rw [Int.tdiv_eq_ediv_of_nonneg (by omega), wrap_u64]; omega
theorem wideNum_eq {k x n : Nat} (hk : 8 < k) (hn : n ≤ 8) : p_wide_Num k (x : Int) (n : Int) = some (numB x n) := by
  have hm : Min.min (Max.max (n : Int) 0) 8 = (n : Int) := by omega
  have hd : dflt (T.int IntKind.u8) = (0 : Int) := rfl
  unfold p_wide_Num joinC
  rw [hm, hd, repl_vecN]
  have L := loop_count (body := fun (r : Int × Int × Int × Int × Vector Int (8) → Option (List UInt8)) y => p_wide_Num.b1 k (fun y => p_wide_Num.j0 k y.1 y.2) r y.1 y.2.1 y.2.2.1 y.2.2.2.1 y.2.2.2.2) (res := some (numB x n)) n k
    (fun i => (((x / 256 ^ i : Nat) : Int), (n : Int), (n : Int), (i : Int), vecN 8 (numL x i))) (by omega) ?_ ?_
  · simp only [Nat.pow_zero, Nat.div_one] at L
    exact L
  · intro i hi rec
    dsimp only
    unfold p_wide_Num.b1
    have h1 : decide ((i : Int) < (n : Int)) = true := by simpa using hi
    have hs := shr_nat (k := .u64) (a := x / 256 ^ i) (n := 8) (by show 8 ≤ 64; omega)
    have e8 : IntKind.wrap .u8 ((x / 256 ^ i : Nat) : Int) = ((x / 256 ^ i % 256 : Nat) : Int) := low8' _
    simp only [Int.cast_ofNat_Int] at hs
    rw [h1, cond_true, need_yes (by omega), hs, wrap_i64 (by omega), e8, vset_vecN (numL_len x i), ← numL_succ, div_pow_succ]
    rfl
  · intro rec
    dsimp only
    unfold p_wide_Num.b1
    have h1 : decide ((n : Int) < (n : Int)) = false := by simp
    rw [h1, cond_false]
    dsimp only
    unfold p_wide_Num.j0
    rw [need_yes (by omega), sub_vecN (numL_len x n) hn, bytesOf_casts]
    rfl
theorem refNum_eq {k x n : Nat} (hk : n < k) (hn : n < 1000000) (hx : x < 18446744073709551616) : p_dormouseref01_Num k (x : Int) (n : Int) = some (numB x n) := by
  unfold p_dormouseref01_Num joinC
  have L := loop_count (body := fun (r : Int × Int × List UInt8 × Int → Option (List UInt8)) y => p_dormouseref01_Num.b1 k (p_dormouseref01_Num.j0 k) r y.1 y.2.1 y.2.2.1 y.2.2.2) (res := some (numB x n)) n k
    (fun i => (((x / 256 ^ i : Nat) : Int), (n : Int), numB x i, (i : Int))) hk ?_ ?_
  · simp only [Nat.pow_zero, Nat.div_one] at L
    exact L
  · intro i hi rec
    dsimp only
    unfold p_dormouseref01_Num.b1
    have h1 : decide ((i : Int) < (n : Int)) = true := by simpa using hi
    have hle : x / 256 ^ i ≤ x := Nat.div_le_self _ _
    have e8 : IntKind.wrap .u8 (Int.tmod ((x / 256 ^ i : Nat) : Int) 256) = ((x / 256 ^ i % 256 : Nat) : Int) := low8 _
    have e9 : IntKind.wrap .u64 (Int.tdiv ((x / 256 ^ i : Nat) : Int) 256) = ((x / 256 ^ (i + 1) : Nat) : Int) := by rw [div_pow_succ]; exact div8 (Nat.lt_of_le_of_lt hle hx)
    rw [h1, cond_true, e8, e9, bytesOf_one, need_yes (by rw [numB_len]; simp only [List.length_cons, List.length_nil]; omega), wrap_i64 (by omega)]
    have e : numB x i ++ [UInt8.ofNat (x / 256 ^ i % 256)] = numB x (i + 1) := by rw [numB, numB, numL_succ]; simp [byl]
    rw [e]
    rfl
  · intro rec
    dsimp only
    unfold p_dormouseref01_Num.b1
    have h1 : decide ((n : Int) < (n : Int)) = false := by simp
    rw [h1, cond_false]
    rfl
theorem sumHex_eq {k : Nat} {d : List Nat} (hk : 32 < k) (hl : d.length = 32) (hd : ∀ x ∈ d, x < 256) : joinC (p_key_Text.j0 k) (fun (j128 : List Int → Option (List UInt8)) => loopC (fun (r : Vector Int 32 × Int × List Int → Option (List UInt8)) y => p_key_Text.b1 k j128 r y.1 y.2.1 y.2.2) k (vecN 32 d, (0 : Int), [])) = some (hexL d) := by
  have hz : dflt (T.int IntKind.u8) = (0 : Int) := rfl
  unfold joinC
  dsimp only
  have L := loop_count (body := fun (r : Vector Int (32) × Int × List Int → Option (List UInt8)) y => p_key_Text.b1 k (p_key_Text.j0 k) r y.1 y.2.1 y.2.2) (res := some (hexL d)) 32 k
    (fun i => (vecN 32 d, (i : Int), numsOf (hexL (d.take i)))) hk ?_ ?_
  · exact L
  · intro i hi rec
    dsimp only
    unfold p_key_Text.b1
    have h1 : decide ((i : Int) < (32 : Int)) = true := by simpa using (by omega : (i : Int) < 32)
    have hid : i < d.length := by omega
    have hg : d.getD i 0 = d[i] := by simp [hid]
    have hlt := hd d[i] (List.getElem_mem hid)
    have hlen : (hexL (d.take i)).length = 2 * i := by rw [hexL_len, List.length_take]; omega
    have ht := hexL_take hid
    rw [h1, cond_true, need_yes (by omega), hz, at_vecN hi, hg]
    generalize d[i] = c at *
    have e1 : ishr .u8 (c : Int) 4 = ((c / 16 : Nat) : Int) := by
      have := shr_nat (k := .u8) (a := c) (n := 4) (by show 4 ≤ 8; omega)
      simpa using this
    have e2 : iand .u8 (c : Int) 15 = ((c % 16 : Nat) : Int) := by
      have := and_nat (k := .u8) (a := c) (b := 15) rfl (by show c < 256; omega) (by show 15 < 256; omega)
      have h2 : c &&& 15 = c % 16 := Nat.and_two_pow_sub_one_eq_mod _ 4
      rw [h2] at this
      exact this
    rw [e1, e2, need_yes (by omega), need_yes (by omega), ← DIG, dig_bat, dig_bat, tb5, need_yes (by rw [numsOf_len, hlen]; simp only [List.length_cons, List.length_nil]; omega), wrap_i64 (by omega), ht, numsOf_app]
    rfl
  · intro rec
    dsimp only
    unfold p_key_Text.b1
    have h1 : decide (((32 : Nat) : Int) < (32 : Int)) = false := by decide
    rw [h1, cond_false, List.take_of_length_le (by omega)]
    unfold p_key_Text.j0
    rw [bytesOf_numsOf]
theorem nib_or {a b : Nat} (ha : a < 16) (hb : b < 16) : ior .u8 (ishl .u8 (a : Int) 4) (IntKind.wrap .u8 (b : Int)) = ((16 * a + b : Nat) : Int) := by
  have h1 := shl_nat (k := .u8) (a := a) (n := 4) rfl (by show 4 ≤ 8; omega)
  simp only [Int.cast_ofNat_Int] at h1
  have e8 : 2 ^ IntKind.bits .u8 = 256 := rfl
  have p4 : (2 : Nat) ^ 4 = 16 := rfl
  rw [e8, p4, Nat.mod_eq_of_lt (by omega)] at h1
  rw [h1, low8', Nat.mod_eq_of_lt (by omega), or_nat (k := .u8) rfl (by rw [e8]; omega) (by rw [e8]; omega), or_lit (c := a) 4 rfl (by omega) (by omega)]
  congr 1; omega
theorem index_eq {s : List UInt8} {i : Nat} : p_strings_IndexByte DIG (bat s (i : Int)) = some (hexv (byt s i)) := by
  unfold p_strings_IndexByte p_stringslite_IndexByte
  rw [bat_byt]
  rfl
theorem vecN_get {n : Nat} {l : List Nat} {i : Nat} (hi : i < n) : (vecN n l)[i] = ((l.getD i 0 : Nat) : Int) := by simp [vecN]
theorem toList_vecN {n : Nat} {l : List Nat} (h : l.length = n) : (vecN n l).toList = casts l := by
  apply List.ext_getElem
  · simp [vecN, casts, h]
  · intro i h1 h2
    have hi : i < l.length := by simpa [casts] using h2
    simp [vecN, casts, hi]
theorem vecN_inj {n : Nat} {a b : List Nat} (ha : a.length = n) (hb : b.length = n) (h : vecN n a = vecN n b) : a = b := by
  have h1 : casts a = casts b := by rw [← toList_vecN ha, ← toList_vecN hb, h]
  have h2 := congrArg (List.map Int.toNat) h1
  simpa [casts, Function.comp_def] using h2
theorem vcopy_vecN {n lo : Nat} {l xs : List Nat} (hl : l.length = n) (hx : lo + xs.length ≤ n) : vcopy (vecN n l) (lo : Int) (casts xs) = vecN n (l.take lo ++ xs ++ l.drop (lo + xs.length)) := by
  have hc : (casts xs).length = xs.length := casts_len xs
  unfold vcopy
  rw [dif_pos (by rw [hc]; simpa using hx)]
  apply Vector.toArray_inj.1
  apply Array.toList_inj.1
  have e := toList_vecN (n := n) (l := l.take lo ++ xs ++ l.drop (lo + xs.length)) (by simp; omega)
  show (vecN n l).toList.take (lo : Int).toNat ++ casts xs ++ (vecN n l).toList.drop ((lo : Int).toNat + (casts xs).length) = (vecN n (l.take lo ++ xs ++ l.drop (lo + xs.length))).toList
  rw [e, toList_vecN hl, hc, Int.toNat_natCast]
  simp [casts]
theorem repl_casts {n : Nat} : Vector.replicate n (0 : Int) = vecN n (List.replicate n 0) := by
  rw [repl_vecN]
  apply Vector.ext
  intro i hi
  rw [vecN_get hi, vecN_get hi]; simp [List.getD_eq_getElem?_getD, hi]
def valL : List Nat → Nat
  | [] => 0
  | c :: l => c + 256 * valL l
theorem valL_lt : ∀ {l : List Nat} {n : Nat}, l.length ≤ n → (∀ x ∈ l, x < 256) → valL l < 256 ^ n
  | [], n, _, _ => by simpa [valL] using Nat.pow_pos (by omega)
  | c :: l, n + 1, h, hx => by
    have h1 := valL_lt (l := l) (n := n) (by simpa using h) fun x q => hx x (List.mem_cons_of_mem _ q)
    have h2 := hx c List.mem_cons_self
    simp only [valL, Nat.pow_succ]; omega
  | c :: l, 0, h, _ => by simp at h
theorem valL_drop (l : List Nat) {i : Nat} (hi : i < l.length) : valL (l.drop i) = l[i] + 256 * valL (l.drop (i + 1)) := by
  rw [List.drop_eq_getElem_cons hi, valL]
theorem or_u64 {a b c : Nat} (ha : a < 18446744073709551616) (hb : b < 18446744073709551616) (h : a ||| b = c) : ior .u64 (a : Int) (b : Int) = (c : Int) := by
  rw [or_nat (k := .u64) rfl ha hb, h]
theorem pow8 : 256 ^ 8 = 18446744073709551616 := rfl
theorem pow7 : 256 ^ 7 = 72057594037927936 := rfl
theorem wideVal_eq {k : Nat} {d : List Nat} (hk : 8 < k) (hl : d.length = 8) (hd : ∀ x ∈ d, x < 256) : p_wide_Val k (byl d) = some ((valL d : Nat) : Int) := by
  unfold p_wide_Val joinC
  have e0 : IntKind.wrap .i64 (Min.min ((byl d).length : Int) 8 - 1) = 7 := by rw [byl_len, hl]; rfl
  rw [e0]
  have L := loop_count (body := fun (r : List UInt8 × Int × Int → Option Int) y => p_wide_Val.b1 k (p_wide_Val.j0 k) r y.1 y.2.1 y.2.2) (res := some ((valL d : Nat) : Int)) 8 k
    (fun j => (byl d, ((valL (d.drop (8 - j)) : Nat) : Int), 7 - (j : Int))) (by omega) ?_ ?_
  · rw [List.drop_of_length_le (by omega)] at L
    exact L
  · intro j hj rec
    dsimp only
    unfold p_wide_Val.b1
    have h1 : decide (7 - (j : Int) ≥ 0) = true := by simp; omega
    have e7 : (7 - (j : Int)) = ((7 - j : Nat) : Int) := by omega
    have hlt : 7 - j < d.length := by omega
    have hb := hd d[7 - j] (List.getElem_mem hlt)
    have hv := valL_lt (l := d.drop (8 - j)) (n := 7) (by rw [List.length_drop]; omega) fun x q => hd x (List.mem_of_mem_drop q)
    have hdr := valL_drop d hlt
    rw [pow7] at hv
    rw [show 7 - j + 1 = 8 - j from by omega] at hdr
    rw [h1, cond_true, e7, need_yes (by rw [byl_len]; omega), byl_getD hlt hd]
    generalize d[7 - j] = c at *
    have hvd : valL (d.drop (8 - (j + 1))) = c + 256 * valL (d.drop (8 - j)) := by rw [show 8 - (j + 1) = 7 - j from by omega]; exact hdr
    generalize valL (d.drop (8 - j)) = v at *
    have s8 := shl_nat (k := .u64) (a := v) (n := 8) rfl (by show 8 ≤ 64; omega)
    simp only [Int.cast_ofNat_Int] at s8
    have p8 : (2 : Nat) ^ 8 = 256 := rfl
    have p64 : (2 : Nat) ^ IntKind.bits .u64 = 18446744073709551616 := rfl
    rw [p8, p64, Nat.mod_eq_of_lt (by omega)] at s8
    have e1 : IntKind.wrap .u64 (c : Int) = (c : Int) := by rw [wrap_u64]; omega
    have e2 : IntKind.wrap .i64 (((7 - j : Nat) : Int) - 1) = 7 - ((j + 1 : Nat) : Int) := by rw [wrap_i64 (by omega)]; omega
    rw [s8, e1, or_u64 (c := v * 256 + c) (by omega) (by omega) (or_lit (c := v) 8 rfl (by omega) (by omega)), e2, hvd]
    rw [show v * 256 + c = c + 256 * v from by omega]
  · intro rec
    dsimp only
    unfold p_wide_Val.b1
    have h1 : decide (7 - ((8 : Nat) : Int) ≥ 0) = false := by decide
    rw [h1, cond_false]
    rfl
theorem valL_take_succ : ∀ (l : List Nat) {i : Nat} (hi : i < l.length), valL (l.take (i + 1)) = valL (l.take i) + 256 ^ i * l[i]
  | c :: l, 0, _ => by simp [valL]
  | c :: l, i + 1, hi => by
    have ih := valL_take_succ l (i := i) (by simpa using hi)
    simp only [List.take_succ_cons, valL, List.getElem_cons_succ]
    rw [ih, Nat.pow_succ, Nat.mul_add, Nat.add_assoc]
    congr 2
    rw [← Nat.mul_assoc, Nat.mul_comm 256]
theorem refVal_eq {k : Nat} {d : List Nat} (hk : 8 < k) (hl : d.length = 8) (hd : ∀ x ∈ d, x < 256) : p_dormouseref01_Val k (byl d) = some ((valL d : Nat) : Int) := by
  unfold p_dormouseref01_Val joinC
  have L := loop_count (body := fun (r : List UInt8 × Int × Int × Int → Option Int) y => p_dormouseref01_Val.b1 k (p_dormouseref01_Val.j0 k) r y.1 y.2.1 y.2.2.1 y.2.2.2) (res := some ((valL d : Nat) : Int)) 8 k
    (fun j => (byl d, ((valL (d.take j) : Nat) : Int), ((256 ^ j % 18446744073709551616 : Nat) : Int), (j : Int))) (by omega) ?_ ?_
  · exact L
  · intro j hj rec
    dsimp only
    unfold p_dormouseref01_Val.b1 joinC
    have h1 : decide ((j : Int) < ((byl d).length : Int)) = true := by rw [byl_len, hl]; simpa using (by omega : (j : Int) < 8)
    have h2 : decide ((j : Int) < (8 : Int)) = true := by simpa using (by omega : (j : Int) < 8)
    dsimp only
    rw [h1, cond_true, h2]
    unfold p_dormouseref01_Val.j2
    have hlt : j < d.length := by omega
    have hb := hd d[j] (List.getElem_mem hlt)
    have hs := valL_take_succ d hlt
    have hv := valL_lt (l := d.take (j + 1)) (n := 8) (by rw [List.length_take]; omega) fun x q => hd x (List.mem_of_mem_take q)
    rw [pow8] at hv
    have hp : 256 ^ j ≤ 256 ^ 7 := Nat.pow_le_pow_right (by omega) (by omega)
    rw [pow7] at hp
    rw [cond_true, need_yes (by rw [byl_len]; omega), byl_getD hlt hd]
    generalize d[j] = c at *
    rw [Nat.mod_eq_of_lt (by omega), hs]
    rw [hs] at hv
    have hpn : 256 ^ (j + 1) = 256 ^ j * 256 := Nat.pow_succ ..
    rw [hpn]
    generalize 256 ^ j = P at *
    generalize valL (d.take j) = v at *
    have hm : P * c ≤ P * 255 := Nat.mul_le_mul_left _ (by omega)
    have e1 : IntKind.wrap .u64 (c : Int) = (c : Int) := by rw [wrap_u64]; omega
    have e2 : IntKind.wrap .u64 ((P : Int) * (c : Int)) = ((P * c : Nat) : Int) := by rw [← Int.natCast_mul, wrap_u64]; omega
    have e3 : IntKind.wrap .u64 ((v : Int) + ((P * c : Nat) : Int)) = ((v + P * c : Nat) : Int) := by rw [wrap_u64]; omega
    have e4 : IntKind.wrap .u64 ((P : Int) * 256) = ((P * 256 % 18446744073709551616 : Nat) : Int) := by rw [wrap_u64]; omega
    rw [e1, e2, e3, e4, wrap_i64 (by omega)]
    rfl
  · intro rec
    dsimp only
    unfold p_dormouseref01_Val.b1 joinC
    have h1 : decide (((8 : Nat) : Int) < ((byl d).length : Int)) = false := by rw [byl_len, hl]; decide
    dsimp only
    rw [h1, cond_false]
    unfold p_dormouseref01_Val.j2
    rw [cond_false, List.take_of_length_le (by omega)]
    rfl
theorem sub_one64 {n : Nat} (hn : n < 16) : sub_ DIG (n : Int) (IntKind.wrap .u64 ((n : Int) + 1)) = [dig n] := by
  have e : IntKind.wrap .u64 ((n : Int) + 1) = ((n + 1 : Nat) : Int) := by rw [wrap_u64]; omega
  rw [e]; exact sub_one hn
theorem decimal_go {k' : Nat} : ∀ (j k n : Nat) (s : List UInt8), n < 10 ^ j → n < 18446744073709551616 → j < k → s.length + j < 1000000 →
    loopC (fun (r : Int × List UInt8 → Option (List UInt8)) y => p_key_decimal.b1 k' (fun y => p_key_decimal.j0 k' y.1 y.2) r y.1 y.2) k ((n : Int), s) = some (decN n ++ s)
  | j, 0, n, s, h, _, hk, hs => by omega
  | j, k + 1, n, s, h, hn, hk, hs => by
    have ih := fun (j n : Nat) (s : List UInt8) (h : n < 10 ^ j) (hn : n < 18446744073709551616) (hk : j < k) (hs : s.length + j < 1000000) => decimal_go (k' := k') j k n s h hn hk hs
    rw [loopC_succ]
    generalize loopC (fun (r : Int × List UInt8 → Option (List UInt8)) y => p_key_decimal.b1 k' (fun y => p_key_decimal.j0 k' y.1 y.2) r y.1 y.2) k = R at ih ⊢
    dsimp only
    unfold p_key_decimal.b1
    have ew : ∀ m : Nat, m < 16 → IntKind.wrap .u64 ((m : Int) + 1) = ((m + 1 : Nat) : Int) := fun m hm => by rw [wrap_u64]; omega
    by_cases h1 : n < 10
    · have e1 : decide ((n : Int) > 9) = false := by simpa using (by omega : (n : Int) ≤ 9)
      rw [e1, cond_false]
      dsimp only
      unfold p_key_decimal.j0
      rw [← DIG, sub_one64 (by omega), ew n (by omega), need_yes (by omega), need_yes (by simp only [List.length_cons, List.length_nil]; omega), decN_lo h1]
    · have e1 : decide ((n : Int) > 9) = true := by simpa using (by omega : (n : Int) > 9)
      have em : Int.tmod (n : Int) 10 = ((n % 10 : Nat) : Int) := by rw [Int.tmod_eq_emod_of_nonneg (by omega)]; omega
      have ed : IntKind.wrap .u64 (Int.tdiv (n : Int) 10) = ((n / 10 : Nat) : Int) := by rw [Int.tdiv_eq_ediv_of_nonneg (by omega), wrap_u64]; omega
      rw [e1, cond_true, ← DIG, em, ed, sub_one64 (by omega), ew (n % 10) (by omega), need_yes (by omega), need_yes (by simp only [List.length_cons, List.length_nil]; omega)]
      cases j with
      | zero => simp at h; omega
      | succ j =>
        rw [ih j (n / 10) _ (by rw [Nat.pow_succ] at h; omega) (by omega) (by omega) (by simp only [List.length_append, List.length_cons, List.length_nil]; omega), decN_hi h1]
        simp
theorem decimal_eq {k n : Nat} (hk : 20 < k) (hn : n < 18446744073709551616) : p_key_decimal k (n : Int) = some (decN n) := by
  unfold p_key_decimal joinC
  have := decimal_go (k' := k) 20 k n [] (by have : (10 : Nat) ^ 20 = 100000000000000000000 := rfl
                                             omega) hn hk (by simp)
  rw [List.append_nil] at this
  exact this
theorem number_eq {k : Nat} {s : List UInt8} (hk : s.length < k) (hs : s.length < 1000000) : p_key_number k s = some ((numD s : Nat) : Int) := by
  unfold p_key_number joinC
  have L := loop_count (body := fun (r : List UInt8 × Int × Int × Int → Option Int) y => p_key_number.b1 k (p_key_number.j0 k) r y.1 y.2.1 y.2.2.1 y.2.2.2) (res := some ((numD s : Nat) : Int)) s.length k
    (fun i => (s, ((numD (s.take i) : Nat) : Int), (s.length : Int), (i : Int))) hk ?_ ?_
  · exact L
  · intro i hi rec
    dsimp only
    unfold p_key_number.b1
    have h1 : decide ((i : Int) < (s.length : Int)) = true := by simpa using hi
    have hb : bat s (i : Int) = ((s[i].toNat : Nat) : Int) := by simp [bat, hi]
    have hc := UInt8.toNat_lt s[i]
    have hf : numD (s.take (i + 1)) = (10 * numD (s.take i) % 18446744073709551616 + (s[i].toNat + 256 - 48) % 256 % 10) % 18446744073709551616 := foldl_take _ _ _ hi
    rw [h1, cond_true, need_yes (by omega), hb, wrap_i64 (by omega), hf]
    generalize s[i].toNat = c at *
    generalize numD (s.take i) = n at *
    have e1 : IntKind.wrap .u64 (IntKind.wrap .u8 ((c : Int) - 48)) = (((c + 256 - 48) % 256 : Nat) : Int) := by simp only [wrap_u64, wrap_u8]; omega
    have e2 : IntKind.wrap .u64 (10 * (n : Int)) = ((10 * n % 18446744073709551616 : Nat) : Int) := by rw [wrap_u64]; omega
    rw [e1, e2, Int.tmod_eq_emod_of_nonneg (by omega)]
    have e3 : IntKind.wrap .u64 (((10 * n % 18446744073709551616 : Nat) : Int) + (((c + 256 - 48) % 256 : Nat) : Int) % 10) = (((10 * n % 18446744073709551616 + (c + 256 - 48) % 256 % 10) % 18446744073709551616 : Nat) : Int) := by rw [wrap_u64]; omega
    rw [e3]
    rfl
  · intro rec
    dsimp only
    unfold p_key_number.b1
    have h1 : decide ((s.length : Int) < (s.length : Int)) = false := by simp
    rw [h1, cond_false, List.take_length]
    rfl
theorem dig_dot {n : Nat} (h : n < 16) : dig n ≠ 46 := by
  have : (List.range 16).all (fun n => decide (dig n ≠ 46)) = true := by decide
  have := List.all_eq_true.1 this n (by simpa using h)
  simpa using this
theorem decN_dot : ∀ (n : Nat), (46 : UInt8) ∉ decN n := by
  intro n
  induction n using Nat.strongRecOn with
  | _ n ih =>
    by_cases h : n < 10
    · rw [decN_lo h]; simpa using (dig_dot (n := n) (by omega)).symm
    · rw [decN_hi h, List.mem_append, not_or]
      exact ⟨ih _ (by omega), by simpa using (dig_dot (n := n % 10) (by omega)).symm⟩
theorem hexL_dot {d : List Nat} (hd : ∀ x ∈ d, x < 256) : (46 : UInt8) ∉ hexL d := by
  unfold hexL
  intro h
  obtain ⟨c, hc, h⟩ := List.mem_flatMap.1 h
  have := hd c hc
  simp only [List.mem_cons, List.not_mem_nil, or_false] at h
  rcases h with h | h
  · exact dig_dot (n := c / 16) (by omega) h.symm
  · exact dig_dot (n := c % 16) (by omega) h.symm
theorem Index_eq {s : List UInt8} : p_stringslite_Index s [(46 : UInt8)] = some (Lib.indexByte s 46) := by
  unfold p_stringslite_Index joinC
  have e0 : (([(46 : UInt8)].length : Int) == 0) = false := rfl
  dsimp only
  rw [e0, cond_false]
  unfold p_stringslite_Index.j0
  by_cases h : [(46 : UInt8)] = s
  · subst h
    rfl
  · have e1 : ([(46 : UInt8)] == s) = false := by simpa using h
    have e2 : (([(46 : UInt8)].length : Int) == 1) = true := rfl
    rw [e1, cond_false, e2, cond_true, need_yes (by simp)]
    rfl
theorem Cut_not {s : List UInt8} (h : (46 : UInt8) ∉ s) : p_strings_Cut s [(46 : UInt8)] = some (s, [], false) := by
  unfold p_strings_Cut p_stringslite_Cut
  rw [Index_eq, index_not h]
  rfl
theorem Cut_app {a b : List UInt8} (h : (46 : UInt8) ∉ a) (hl : a.length + b.length < 1000000) : p_strings_Cut (a ++ 46 :: b) [(46 : UInt8)] = some (a, b, true) := by
  unfold p_strings_Cut p_stringslite_Cut
  have e1 : decide ((a.length : Int) ≥ 0) = true := by simp
  have e2 : IntKind.wrap .i64 ((a.length : Int) + ([(46 : UInt8)].length : Int)) = ((a.length + 1 : Nat) : Int) := by rw [wrap_i64 (by simp; omega)]; rfl
  have hlen : (a ++ 46 :: b).length = a.length + b.length + 1 := by simp; omega
  rw [Index_eq, index_app h, Option.bind_some, e1, cond_true, e2, need_yes (by rw [hlen]; omega), need_yes (by rw [hlen]; omega), Option.bind_some]
  have s1 : sub_ (a ++ 46 :: b) 0 (a.length : Int) = a := by simp [sub_]
  have s2 : sub_ (a ++ 46 :: b) ((a.length + 1 : Nat) : Int) ((a ++ 46 :: b).length : Int) = b := by
    rw [sub_, Int.toNat_natCast, Int.toNat_natCast, List.take_length, show a.length + 1 = (a ++ [46]).length from by simp]
    rw [show a ++ 46 :: b = (a ++ [46]) ++ b from by simp, List.drop_left]
  rw [s1, s2]
def okL (n : Nat) (d : List Nat) : Prop := d.length = n ∧ ∀ x ∈ d, x < 256
def ofN (a b : Nat) : List Nat := numL a 8 ++ List.replicate 16 0 ++ numL b 8
theorem ofN_len (a b : Nat) : (ofN a b).length = 32 := by simp [ofN, numL_len]
theorem ofN_ok (a b : Nat) : okL 32 (ofN a b) := by
  refine ⟨ofN_len a b, fun x hx => ?_⟩
  simp only [ofN, List.mem_append, List.mem_replicate] at hx
  rcases hx with (hx | hx) | hx
  · exact numL_lt _ _ x hx
  · omega
  · exact numL_lt _ _ x hx
theorem numsOf_numB (x n : Nat) : numsOf (numB x n) = casts (numL x n) := by rw [numB, numsOf_casts, natsOf_byl (numL_lt x n)]
theorem wideNum8 {k x : Nat} (hk : 8 < k) : p_wide_Num k (x : Int) 8 = some (numB x 8) := wideNum_eq (n := 8) hk (by omega)
theorem keyOf_eq {k a b : Nat} (hk : 8 < k) : p_key_Of k (a : Int) (b : Int) = some (vecN 32 (ofN a b)) := by
  have hz : dflt (T.int IntKind.u8) = (0 : Int) := rfl
  unfold p_key_Of
  rw [wideNum8 hk, Option.bind_some, need_yes (by rw [numsOf_len, numB_len]; decide), wideNum8 hk, Option.bind_some, need_yes (by rw [numsOf_len, numB_len]; decide), hz, numsOf_numB, numsOf_numB, repl_casts]
  have e1 := vcopy_vecN (n := 32) (lo := 0) (l := List.replicate 32 0) (xs := numL a 8) (by simp) (by rw [numL_len]; omega)
  have e2 := vcopy_vecN (n := 32) (lo := 24) (l := numL a 8 ++ List.replicate 24 0) (xs := numL b 8) (by simp [numL_len]) (by rw [numL_len]; omega)
  have q0 : ((0 : Nat) : Int) = 0 := rfl
  have q24 : ((24 : Nat) : Int) = 24 := rfl
  rw [q0] at e1
  rw [q24] at e2
  rw [e1]
  have f1 : (List.replicate 32 0).take 0 ++ numL a 8 ++ (List.replicate 32 0).drop (0 + (numL a 8).length) = numL a 8 ++ List.replicate 24 0 := by rw [numL_len]; simp
  rw [f1, e2]
  congr 2
theorem sub_casts (d : List Nat) (a b : Int) : sub_ (casts d) a b = casts (sub_ d a b) := by simp [sub_, casts]
theorem take_lt {d : List Nat} (hd : ∀ x ∈ d, x < 256) (i : Nat) : ∀ x ∈ d.take i, x < 256 := fun x h => hd x (List.mem_of_mem_take h)
theorem drop_lt {d : List Nat} (hd : ∀ x ∈ d, x < 256) (i : Nat) : ∀ x ∈ d.drop i, x < 256 := fun x h => hd x (List.mem_of_mem_drop h)
theorem split_c1 {k : Nat} {d : List Nat} {o : Nat} (hk : 8 < k) (hd : okL 32 d) (ho : o + 8 ≤ 32) : p_key_Split_c1 k (o : Int) (vecN 32 d) = some ((valL ((d.drop o).take 8) : Nat) : Int) := by
  unfold p_key_Split_c1
  have e : IntKind.wrap .i64 ((o : Int) + 8) = ((o + 8 : Nat) : Int) := by rw [wrap_i64 (by omega)]; omega
  have hs : sub_ d (o : Int) ((o + 8 : Nat) : Int) = (d.drop o).take 8 := by rw [sub_, Int.toNat_natCast, Int.toNat_natCast, List.take_drop, Nat.add_comm]
  rw [e, need_yes (by omega), toList_vecN hd.1, sub_casts, bytesOf_casts, hs, wideVal_eq hk (by rw [List.length_take, List.length_drop, hd.1]; omega) (take_lt (drop_lt hd.2 o) 8)]
  rfl
def va (d : List Nat) : Nat := valL (d.take 8)
def vb (d : List Nat) : Nat := valL (d.drop 24)
theorem va_lt {d : List Nat} (hd : okL 32 d) : va d < 18446744073709551616 := valL_lt (n := 8) (by rw [List.length_take]; omega) (take_lt hd.2 8)
theorem vb_lt {d : List Nat} (hd : okL 32 d) : vb d < 18446744073709551616 := valL_lt (n := 8) (by rw [List.length_drop, hd.1]; omega) (drop_lt hd.2 24)
theorem keySplit_eq {k : Nat} {d : List Nat} (hk : 8 < k) (hd : okL 32 d) : p_key_Split k (vecN 32 d) = some (if ofN (va d) (vb d) = d then (((va d : Nat) : Int), ((vb d : Nat) : Int), true) else (0, 0, false)) := by
  unfold p_key_Split
  have h0 := split_c1 (o := 0) hk hd (by omega)
  have h24 := split_c1 (o := 24) hk hd (by omega)
  have q0 : ((0 : Nat) : Int) = 0 := rfl
  have q24 : ((24 : Nat) : Int) = 24 := rfl
  rw [q0, List.drop_zero] at h0
  rw [q24, List.take_of_length_le (by rw [List.length_drop, hd.1]; omega)] at h24
  rw [h0, Option.bind_some, h24, Option.bind_some, keyOf_eq hk, Option.bind_some]
  by_cases h : ofN (va d) (vb d) = d
  · have e : (!decide (vecN 32 (ofN (valL (d.take 8)) (valL (d.drop 24))) = vecN 32 d)) = false := by
      have : ofN (valL (d.take 8)) (valL (d.drop 24)) = d := h
      rw [this]; simp
    rw [e, cond_false, if_pos h]; rfl
  · have e : (!decide (vecN 32 (ofN (valL (d.take 8)) (valL (d.drop 24))) = vecN 32 d)) = true := by
      have : ¬ vecN 32 (ofN (valL (d.take 8)) (valL (d.drop 24))) = vecN 32 d := fun q => h (vecN_inj (ofN_len _ _) hd.1 q)
      simp [this]
    rw [e, cond_true, if_neg h]
def txt (d : List Nat) : List UInt8 := if ofN (va d) (vb d) = d then decN (va d) ++ [46] ++ decN (vb d) else hexL d
theorem keyHex_eq {k : Nat} {d : List Nat} (hk : 32 < k) (hd : okL 32 d) :
    joinC (p_key_Text.j0 k) (fun (j128 : List Int → Option (List UInt8)) => loopC (fun (r : Vector Int 32 × Int × List Int → Option (List UInt8)) y => p_key_Text.b1 k j128 r y.1 y.2.1 y.2.2) k (vecN 32 d, (0 : Int), [])) = some (hexL d) :=
  sumHex_eq hk hd.1 hd.2
theorem keyText_eq {k : Nat} {d : List Nat} (hk : 32 < k) (hd : okL 32 d) : p_key_Text k (vecN 32 d) = some (txt d) := by
  unfold p_key_Text txt
  rw [keySplit_eq (by omega) hd, Option.bind_some]
  have ha := va_lt hd
  have hb := vb_lt hd
  by_cases h : ofN (va d) (vb d) = d
  · have la := decN_len20 ha
    have lb := decN_len20 hb
    rw [if_pos h, if_pos h]
    dsimp only
    rw [cond_true, decimal_eq (by omega) ha, Option.bind_some, need_yes (by omega), decimal_eq (by omega) hb, Option.bind_some, need_yes (by rw [List.length_append]; simp only [List.length_cons, List.length_nil]; omega)]
  · rw [if_neg h, if_neg h]
    dsimp only
    rw [cond_false]
    exact keyHex_eq hk hd
theorem refBytes_eq {k : Nat} {d : List Nat} (hk : 32 < k) (hd : okL 32 d) : p_dormouseref16_Bytes k (vecN 32 d) = some (byl d) := by
  have hz : dflt (T.int IntKind.u8) = (0 : Int) := rfl
  unfold p_dormouseref16_Bytes joinC
  have L := loop_count (body := fun (r : List UInt8 × Int × Vector Int 32 → Option (List UInt8)) y => p_dormouseref16_Bytes.b1 k (p_dormouseref16_Bytes.j0 k) r y.1 y.2.1 y.2.2) (res := some (byl d)) 32 k
    (fun i => (byl (d.take i), (i : Int), vecN 32 d)) hk ?_ ?_
  · exact L
  · intro i hi rec
    dsimp only
    unfold p_dormouseref16_Bytes.b1
    have h1 : decide ((i : Int) < (32 : Int)) = true := by simpa using (by omega : (i : Int) < 32)
    have hid : i < d.length := by rw [hd.1]; exact hi
    have hg : d.getD i 0 = d[i] := by simp [hid]
    rw [h1, cond_true, need_yes (by omega), hz, at_vecN hi, hg, bytesOf_one, need_yes (by rw [byl_len, List.length_take]; simp only [List.length_cons, List.length_nil]; omega), wrap_i64 (by omega), List.take_succ_eq_append_getElem hid, byl_app]
    rfl
  · intro rec
    dsimp only
    unfold p_dormouseref16_Bytes.b1
    have h1 : decide (((32 : Nat) : Int) < (32 : Int)) = false := by decide
    rw [h1, cond_false, List.take_of_length_le (by rw [hd.1]; omega)]
    rfl
theorem refNum8 {k x : Nat} (hk : 8 < k) (hx : x < 18446744073709551616) : p_dormouseref01_Num k (x : Int) 8 = some (numB x 8) := refNum_eq (n := 8) hk (by omega) hx
theorem refOf16_eq {k a b : Nat} (hk : 8 < k) (ha : a < 18446744073709551616) (hb : b < 18446744073709551616) : p_dormouseref16_Of k (a : Int) (b : Int) = some (byl (ofN a b)) := by
  unfold p_dormouseref16_Of
  rw [refNum8 hk ha, Option.bind_some, need_yes (by rw [numB_len]; omega), refNum8 hk hb, Option.bind_some, need_yes (by rw [List.length_append, numB_len, numB_len]; simp only [List.length_cons, List.length_nil]; omega)]
  unfold ofN numB
  rw [byl_app, byl_app]
  rfl
theorem byl_sub (d : List Nat) (a b : Int) : sub_ (byl d) a b = byl (sub_ d a b) := by simp [sub_, byl]
theorem byl_inj {a b : List Nat} (ha : ∀ x ∈ a, x < 256) (hb : ∀ x ∈ b, x < 256) (h : byl a = byl b) : a = b := by
  rw [← natsOf_byl ha, ← natsOf_byl hb, h]
theorem refSplit_eq {k : Nat} {d : List Nat} (hk : 32 < k) (hd : okL 32 d) : p_dormouseref16_Split k (vecN 32 d) = some (if ofN (va d) (vb d) = d then (((va d : Nat) : Int), ((vb d : Nat) : Int), true) else (0, 0, false)) := by
  unfold p_dormouseref16_Split
  have hl : (byl d).length = 32 := by rw [byl_len, hd.1]
  have s0 : sub_ (byl d) 0 8 = byl (d.take 8) := by rw [byl_sub]; rfl
  have s24 : sub_ (byl d) 24 ((byl d).length : Int) = byl (d.drop 24) := by
    rw [byl_sub, hl]; unfold sub_
    rw [List.take_of_length_le (by rw [hd.1]; exact Nat.le_refl _)]; rfl
  rw [refBytes_eq hk hd, Option.bind_some, need_yes (by rw [hl]; omega), s0, refVal_eq (by omega) (by rw [List.length_take, hd.1]; rfl) (take_lt hd.2 8), Option.bind_some, need_yes (by rw [hl]; omega), s24,
    refVal_eq (by omega) (by rw [List.length_drop, hd.1]) (drop_lt hd.2 24), Option.bind_some]
  have ha := va_lt hd
  have hb := vb_lt hd
  have ho := refOf16_eq (k := k) (by omega) ha hb
  unfold va vb at ho
  rw [ho, Option.bind_some]
  by_cases h : ofN (va d) (vb d) = d
  · have e : (!byl (ofN (valL (d.take 8)) (valL (d.drop 24))) == byl d) = false := by
      have : ofN (valL (d.take 8)) (valL (d.drop 24)) = d := h
      rw [this]; simp
    rw [e, cond_false, if_pos h]; rfl
  · have e : (!byl (ofN (valL (d.take 8)) (valL (d.drop 24))) == byl d) = true := by
      have : ¬ byl (ofN (valL (d.take 8)) (valL (d.drop 24))) = byl d := fun q => h (byl_inj (ofN_ok _ _).2 hd.2 q)
      simpa using this
    rw [e, cond_true, if_neg h]
theorem refText16_eq {k : Nat} {d : List Nat} (hk : 32 < k) (hd : okL 32 d) : p_dormouseref16_Text k (vecN 32 d) = some (txt d) := by
  unfold p_dormouseref16_Text txt
  rw [refSplit_eq hk hd, Option.bind_some]
  have ha := va_lt hd
  have hb := vb_lt hd
  by_cases h : ofN (va d) (vb d) = d
  · have la := decN_len20 ha
    have lb := decN_len20 hb
    rw [if_pos h, if_pos h]
    dsimp only
    rw [cond_true, Digits20 (by omega) ha, Option.bind_some, need_yes (by omega), Digits20 (by omega) hb, Option.bind_some, need_yes (by rw [List.length_append]; simp only [List.length_cons, List.length_nil]; omega)]
  · rw [if_neg h, if_neg h]
    dsimp only
    rw [cond_false, refBytes_eq hk hd, Option.bind_some, refHex_eq (by rw [hd.1]; exact hk) (by rw [hd.1]; omega) hd.2, Option.bind_some]
def hm (s : List UInt8) (i : Nat) : Nat := (max (hexv (byt s i)) 0).toNat
theorem hm_lt (s : List UInt8) (i : Nat) : hm s i < 16 := by
  unfold hm
  by_cases h : 0 ≤ hexv (byt s i)
  · have := (hexv_at (byt_lt s i) h).1; omega
  · omega
def pdN (s : List UInt8) (i : Nat) : List Nat := (List.range 32).map fun j => if 2 * j + 1 < i then 16 * hm s (2 * j) + hm s (2 * j + 1) else if 2 * j < i then hm s (2 * j) else 0
theorem pdN_len (s : List UInt8) (i : Nat) : (pdN s i).length = 32 := by simp [pdN]
theorem pdN_zero (s : List UInt8) : vecN 32 (pdN s 0) = vecN 32 [] := by
  apply Vector.ext
  intro j hj
  rw [vecN_get hj, vecN_get hj]
  simp [pdN, List.getD_eq_getElem?_getD, hj]
theorem pdN_at {s : List UInt8} {i : Nat} (hi : i < 64) : (pdN s i).getD (i / 2) 0 = if i % 2 = 0 then 0 else hm s (i - 1) := by
  have h2 : i / 2 < 32 := by omega
  simp only [pdN, List.getD_eq_getElem?_getD, List.getElem?_map, List.getElem?_range h2, Option.map_some, Option.getD_some]
  rcases Nat.mod_two_eq_zero_or_one i with h | h
  · rw [if_neg (by omega), if_neg (by omega), if_pos h]
  · rw [if_neg (by omega), if_pos (by omega), if_neg (by omega)]
    congr 1; omega
theorem pdN_succ {s : List UInt8} {i : Nat} (hi : i < 64) : (pdN s i).set (i / 2) (16 * (pdN s i).getD (i / 2) 0 + hm s i) = pdN s (i + 1) := by
  rw [pdN_at hi]
  apply List.ext_getElem
  · simp [pdN]
  · intro j h1 h2
    have hj : j < 32 := by simpa [pdN] using h2
    simp only [pdN, List.getElem_set, List.getElem_map, List.getElem_range]
    rcases Nat.mod_two_eq_zero_or_one i with h | h
    · rw [if_pos h]
      by_cases hij : i / 2 = j
      · rw [if_pos hij, if_neg (by omega), if_pos (by omega), Nat.mul_zero, Nat.zero_add]; congr 1; omega
      · rw [if_neg hij]
        by_cases h3 : 2 * j + 1 < i
        · rw [if_pos h3, if_pos (by omega)]
        · rw [if_neg h3, if_neg (by omega), if_neg (by omega), if_neg (by omega)]
    · rw [if_neg (show ¬ i % 2 = 0 by omega)]
      by_cases hij : i / 2 = j
      · rw [if_pos hij, if_pos (by omega)]
        have a1 : i - 1 = 2 * j := by omega
        have a2 : i = 2 * j + 1 := by omega
        rw [a1, a2]
      · rw [if_neg hij]
        by_cases h3 : 2 * j + 1 < i
        · rw [if_pos h3, if_pos (by omega)]
        · rw [if_neg h3, if_neg (by omega), if_neg (by omega), if_neg (by omega)]
theorem pdN_ok (s : List UInt8) (i : Nat) : okL 32 (pdN s i) := by
  refine ⟨pdN_len s i, fun x hx => ?_⟩
  simp only [pdN, List.mem_map, List.mem_range] at hx
  obtain ⟨j, hj, rfl⟩ := hx
  have a := hm_lt s (2 * j)
  have b := hm_lt s (2 * j + 1)
  split
  · omega
  · split <;> omega
theorem zero_ok : okL 32 (List.replicate 32 0) := ⟨by simp, fun x hx => by simp at hx; omega⟩
noncomputable def guess (s : List UInt8) : List Nat :=
  open Classical in
  if h : (46 : UInt8) ∈ s then ofN (numD (Classical.choose (cut_at h))) (numD (Classical.choose (Classical.choose_spec (cut_at h)))) else if s.length = 64 then pdN s 64 else List.replicate 32 0
theorem parse_j0 {k : Nat} {s : List UInt8} {d : List Nat} {v : Vector Int 32} (hk : 64 < k) (hd : okL 32 d) : p_key_Parse.j0 k s v (vecN 32 d) = some (if txt d = s then (vecN 32 d, 0) else (vecN 32 [], 6)) := by
  unfold p_key_Parse.j0
  rw [keyText_eq (by omega) hd, Option.bind_some]
  by_cases h : txt d = s
  · have e : (!txt d == s) = false := by simpa using h
    rw [e, cond_false, if_pos h]
  · have e : (!txt d == s) = true := by simpa using h
    rw [e, cond_true, if_neg h, ← repl_vecN]; rfl
theorem guess_ok (s : List UInt8) : okL 32 (guess s) := by
  unfold guess
  split
  · exact ofN_ok _ _
  · split
    · exact pdN_ok _ _
    · exact zero_ok
theorem parse_eq {k : Nat} {s : List UInt8} (hk : 64 < k) (hks : s.length < k) (hs : s.length < 100000) : p_key_Parse k s = some (if txt (guess s) = s then (vecN 32 (guess s), 0) else (vecN 32 [], 6)) := by
  unfold p_key_Parse joinC
  have hz : dflt (T.int IntKind.u8) = (0 : Int) := rfl
  dsimp only
  by_cases h : (46 : UInt8) ∈ s
  · have hg : guess s = ofN (numD (Classical.choose (cut_at h))) (numD (Classical.choose (Classical.choose_spec (cut_at h)))) := by unfold guess; rw [dif_pos h]
    have hsp := Classical.choose_spec (Classical.choose_spec (cut_at h))
    generalize Classical.choose (Classical.choose_spec (cut_at h)) = b at *
    generalize Classical.choose (cut_at h) = a at *
    obtain ⟨rfl, hna⟩ := hsp
    have hlen : (a ++ 46 :: b).length = a.length + b.length + 1 := by simp; omega
    rw [Cut_app hna (by omega), Option.bind_some]
    dsimp only
    rw [cond_true, number_eq (by omega) (by omega), Option.bind_some, number_eq (by omega) (by omega), Option.bind_some, keyOf_eq (by omega), Option.bind_some, hg]
    exact parse_j0 (by omega) (ofN_ok _ _)
  · rw [Cut_not h, Option.bind_some]
    dsimp only
    rw [cond_false]
    by_cases h64 : s.length = 64
    · have hg : guess s = pdN s 64 := by unfold guess; rw [dif_neg h, if_pos h64]
      have e1 : ((s.length : Int) == 64) = true := by rw [h64]; rfl
      rw [e1, cond_true, hg, hz, repl_vecN]
      have L := loop_count (body := fun (r : List UInt8 × Int × Int × Vector Int 32 × Vector Int 32 → Option (Vector Int 32 × Int)) y => p_key_Parse.b1 k (fun y => p_key_Parse.j0 k y.1 y.2.1 y.2.2) r y.1 y.2.1 y.2.2.1 y.2.2.2.1 y.2.2.2.2) (res := some (if txt (pdN s 64) = s then (vecN 32 (pdN s 64), 0) else (vecN 32 [], 6))) 64 k
        (fun i => (s, (s.length : Int), (i : Int), vecN 32 [], vecN 32 (pdN s i))) (by omega) ?_ ?_
      · rw [pdN_zero] at L
        exact L
      · intro i hi rec
        dsimp only
        unfold p_key_Parse.b1
        have h1 : decide ((i : Int) < (s.length : Int)) = true := by rw [h64]; simpa using (by omega : (i : Int) < 64)
        have e3 : IntKind.wrap .i64 (Int.tdiv (i : Int) 2) = ((i / 2 : Nat) : Int) := by rw [Int.tdiv_eq_ediv_of_nonneg (by omega), wrap_i64 (by omega)]; omega
        have hvl := hm_lt s i
        have hat := pdN_at (s := s) hi
        have hal : (pdN s i).getD (i / 2) 0 < 16 := by
          rw [hat]; split
          · omega
          · exact hm_lt _ _
        have e4 : Max.max (hexv (byt s i)) 0 = ((hm s i : Nat) : Int) := by unfold hm; omega
        have hsucc := pdN_succ (s := s) hi
        have hset := pdN_len s i
        rw [h1, cond_true, need_yes (by omega), ← DIG, index_eq, Option.bind_some, e3, need_yes (by omega), need_yes (by omega), hz, at_vecN (by omega), e4, nib_or hal hvl, vset_vecN2 (by omega), hsucc, wrap_i64 (by omega)]
        rfl
      · intro rec
        dsimp only
        unfold p_key_Parse.b1
        have h1 : decide (((64 : Nat) : Int) < (s.length : Int)) = false := by rw [h64]; decide
        rw [h1, cond_false]
        exact parse_j0 (by omega) (pdN_ok s 64)
    · have hg : guess s = List.replicate 32 0 := by unfold guess; rw [dif_neg h, if_neg h64]
      have e1 : ((s.length : Int) == 64) = false := by simp only [beq_eq_false_iff_ne, ne_eq]; omega
      rw [e1, cond_false, hg, hz, repl_casts]
      exact parse_j0 (by omega) zero_ok
theorem cut_one {a b c d : List UInt8} (h : a ++ 46 :: b = c ++ 46 :: d) (ha : (46 : UInt8) ∉ a) (hc : (46 : UInt8) ∉ c) : a = c ∧ b = d := by
  induction a generalizing c with
  | nil =>
    cases c with
    | nil => simp at h; exact ⟨rfl, h⟩
    | cons x c => simp at h; exact absurd h.1.symm (by simp at hc; exact fun e => hc.1 e.symm)
  | cons y a ih =>
    cases c with
    | nil => simp at h; exact absurd h.1 (by simp at ha; exact fun e => ha.1 e.symm)
    | cons x c =>
      simp at h ha hc
      obtain ⟨h1, h2⟩ := ih h.2 ha.2 hc.2
      exact ⟨by rw [h.1, h1], h2⟩
theorem hm_hexL {d : List Nat} (hd : okL 32 d) : pdN (hexL d) 64 = d := by
  apply List.ext_getElem
  · simp [pdN, hd.1]
  · intro j h1 h2
    have hj : j < 32 := by simpa [pdN] using h1
    simp only [pdN, List.getElem_map, List.getElem_range]
    have hb := hd.2 d[j] (List.getElem_mem _)
    obtain ⟨a, b⟩ := byt_hexL (l := d) (j := j) (by rw [hd.1]; exact hj)
    rw [if_pos (by omega), hm, hm, a, b, hexv_back (by omega), hexv_back (by omega)]; omega
theorem guess_txt {d : List Nat} (hd : okL 32 d) : guess (txt d) = d := by
  unfold txt
  by_cases h : ofN (va d) (vb d) = d
  · rw [if_pos h]
    have hin : (46 : UInt8) ∈ decN (va d) ++ [46] ++ decN (vb d) := by simp
    unfold guess
    rw [dif_pos hin]
    have hsp := Classical.choose_spec (Classical.choose_spec (cut_at hin))
    generalize Classical.choose (Classical.choose_spec (cut_at hin)) = b at *
    generalize Classical.choose (cut_at hin) = a at *
    obtain ⟨e, hna⟩ := hsp
    have e : decN (va d) ++ 46 :: decN (vb d) = a ++ 46 :: b := by rw [← e]; simp
    obtain ⟨rfl, rfl⟩ := cut_one e (decN_dot _) hna
    rw [numD_decN _ (va_lt hd), numD_decN _ (vb_lt hd), h]
  · rw [if_neg h]
    have hn := hexL_dot hd.2
    unfold guess
    rw [dif_neg hn, if_pos (by rw [hexL_len, hd.1]), hm_hexL hd]
theorem txt_len {d : List Nat} (hd : okL 32 d) : (txt d).length ≤ 64 := by
  unfold txt
  split
  · have := decN_len20 (va_lt hd)
    have := decN_len20 (vb_lt hd)
    simp only [List.length_append, List.length_cons, List.length_nil]; omega
  · rw [hexL_len, hd.1]; exact Nat.le_refl _
end Go.Dor.Ky
end

section
/- STRINGS PARTED AT ANY LETTER, plain. -/
set_option linter.unusedVariables false
set_option linter.unusedSimpArgs false
namespace Go.Dor.Ky
open Go.Proofs

theorem split_loop {c : UInt8} {k : Nat} : ∀ (m : Nat) (s : List UInt8) (a : List (List UInt8)) (i fuel : Nat), Lib.countByte s c = m → m < fuel → s.length < 100000 → a.length = i + m + 1 → i + m < 100000 →
    loopC (fun (r : List UInt8 × List UInt8 × Int × Int × Int × List (List UInt8) → Option (List (List UInt8))) y => p_strings_genSplit.b2 k (fun (y : List UInt8 × Int × List (List UInt8)) => p_strings_genSplit.j1 k y.1 y.2.1 y.2.2) r y.1 y.2.1 y.2.2.1 y.2.2.2.1 y.2.2.2.2.1 y.2.2.2.2.2) fuel (s, [c], (0 : Int), ((i + m : Nat) : Int), (i : Int), a) = some (a.take i ++ spl c s)
  | 0, s, a, i, fuel + 1, hc, _, hl, ha, hi => by
    have hn : c ∉ s := by
      unfold Lib.countByte at hc
      exact List.count_eq_zero.1 hc
    unfold loopC
    dsimp only
    unfold p_strings_genSplit.b2
    have h1 : decide ((i : Int) < ((i + 0 : Nat) : Int)) = false := by simp
    rw [h1, cond_false]
    dsimp only
    unfold p_strings_genSplit.j1 lset
    have e1 : IntKind.wrap .i64 ((i : Int) + 1) = ((i + 1 : Nat) : Int) := by rw [wrap_i64 (by omega)]; omega
    rw [e1, need_yes (by omega), need_yes (by rw [List.length_set]; omega), Int.toNat_natCast, Int.toNat_natCast, take_set (by omega), spl_not hn]
  | m + 1, s, a, i, fuel + 1, hc, hf, hl, ha, hi => by
    have hin : c ∈ s := by
      unfold Lib.countByte at hc
      exact List.count_pos_iff.1 (by omega)
    obtain ⟨u, b, rfl, hn⟩ := cut_at hin
    have hcb : Lib.countByte b c = m := by
      have h2 := spl_len (c := c) (u ++ c :: b)
      rw [spl_app hn, List.length_cons, spl_len, hc] at h2
      omega
    have hlen : (u ++ c :: b).length = u.length + b.length + 1 := by simp; omega
    unfold loopC
    dsimp only
    unfold p_strings_genSplit.b2
    have h1 : decide ((i : Int) < ((i + (m + 1) : Nat) : Int)) = true := by simp; omega
    have h2 : decide ((u.length : Int) < 0) = false := by simp
    have h0 : ([c].length : Int) = 1 := rfl
    have e1 : IntKind.wrap .i64 ((u.length : Int) + 0) = (u.length : Int) := by rw [wrap_i64 (by omega)]; omega
    have e2 : IntKind.wrap .i64 ((u.length : Int) + 1) = ((u.length + 1 : Nat) : Int) := by rw [wrap_i64 (by omega)]; omega
    have e3 : IntKind.wrap .i64 ((i : Int) + 1) = ((i + 1 : Nat) : Int) := by rw [wrap_i64 (by omega)]; omega
    have s1 : sub_ (u ++ c :: b) 0 (u.length : Int) = u := by simp [sub_]
    have s2 : sub_ (u ++ c :: b) ((u.length + 1 : Nat) : Int) ((u ++ c :: b).length : Int) = b := by
      rw [sub_, Int.toNat_natCast, Int.toNat_natCast, List.take_length, show u.length + 1 = (u ++ [c]).length from by simp]
      rw [show u ++ c :: b = (u ++ [c]) ++ b from by simp, List.drop_left]
    rw [h1, cond_true, IndexS hn, Option.bind_some, h2, cond_false, h0, e1, e2, e3, s1, s2, need_yes (by rw [hlen]; omega), need_yes (by omega), need_yes (by rw [hlen]; omega)]
    have ih := split_loop (k := k) m b (lset a (i : Int) u) (i + 1) fuel hcb (by omega) (by omega) (by unfold lset; rw [List.length_set]; omega) (by omega)
    rw [show i + 1 + m = i + (m + 1) from by omega] at ih
    have hia : i < a.length := by omega
    have hs := take_set (x := u) hia
    unfold p_strings_genSplit.b2 at ih
    rw [ih, spl_app hn]
    clear ih
    unfold lset
    rw [Int.toNat_natCast, hs]
    generalize spl c b = z
    generalize a.take i = w
    exact congrArg some (List.append_assoc w [u] z)
theorem Split_eq {c : UInt8} {s : List UInt8} (hl : s.length < 1900) : p_strings_Split 2000 s [c] = some (spl c s) := by
  have hle := spl_le (c := c) s
  rw [spl_len] at hle
  have e0 : ((-1 : Int) == 0) = false := rfl
  have e1 : ([c] == []) = false := rfl
  have e2 : decide ((-1 : Int) < 0) = true := by decide
  unfold p_strings_Split p_strings_genSplit joinC
  rw [e0, cond_false, e1, cond_false, e2]
  dsimp only
  rw [cond_true, CountS, Option.bind_some]
  generalize hc : Lib.countByte s c = m at *
  have e3 : IntKind.wrap .i64 ((m : Int) + 1) = ((m + 1 : Nat) : Int) := by rw [wrap_i64 (by omega)]; omega
  have e4 : IntKind.wrap .i64 ((s.length : Int) + 1) = ((s.length + 1 : Nat) : Int) := by rw [wrap_i64 (by omega)]; omega
  have e5 : Min.min ((m + 1 : Nat) : Int) ((s.length + 1 : Nat) : Int) = ((m + 1 : Nat) : Int) := by omega
  have e6 : IntKind.wrap .i64 (((m + 1 : Nat) : Int) - 1) = ((0 + m : Nat) : Int) := by rw [wrap_i64 (by omega)]; omega
  unfold p_strings_genSplit.j0 joinC
  rw [e3, e4, e5, e6, tbD9, need_yes (by omega), Int.toNat_natCast]
  have L := split_loop (k := 2000) m s (List.replicate (m + 1) (dflt T.str)) 0 2000 hc (by omega) (by omega) (by simp) (by omega)
  rw [show (((0 : Nat) : Int)) = (0 : Int) from rfl] at L
  dsimp only
  rw [L]
  rfl
end Go.Dor.Ky
end

section
/- STEPS: their words and parts, what may be, and their lines, on both sides. -/
set_option linter.unusedVariables false
set_option linter.unusedSimpArgs false
namespace Go.Dor.Ky
open Go.Proofs

abbrev St := Int × Vector Int 32 × List UInt8
def WORDS : List (List UInt8) := [[103, 101, 116], [112, 117, 116], [100, 101, 108, 101, 116, 101], [116, 111, 117, 99, 104], [114, 111, 108, 108], [114, 101, 115, 117, 114, 114, 101, 99, 116], [99, 111, 109, 109, 105, 116], [97, 98, 111, 114, 116], [111, 112, 101, 110], [98, 97, 99, 107]]
def wordN (n : Nat) : List UInt8 := WORDS.getD n []
def PARTS : List Nat := [1, 2, 1, 1, 0, 2, 0, 0, 0, 1]
def partN (n : Nat) : Nat := PARTS.getD n 0
def wordZ (e : Int) : List UInt8 := if 0 ≤ e ∧ e ≤ 9 then wordN e.toNat else []
def partZ (e : Int) : Nat := if 0 ≤ e ∧ e ≤ 9 then partN e.toNat else 0
theorem ten {e : Int} (h : 0 ≤ e ∧ e ≤ 9) : ∃ n : Nat, e = (n : Int) ∧ n < 10 := ⟨e.toNat, by omega, by omega⟩
theorem word_all : (List.range 10).all (fun (n : Nat) => decide (p_cmd_word (n : Int) = some (wordN n) ∧ wordN n ≠ [] ∧ (32 : UInt8) ∉ wordN n ∧ (10 : UInt8) ∉ wordN n ∧ (wordN n).length ≤ 10 ∧ p_dormouseref38_Word (n : Int) = some (wordN n))) = true := by decide +kernel
theorem word_at {n : Nat} (h : n < 10) : p_cmd_word (n : Int) = some (wordN n) ∧ wordN n ≠ [] ∧ (32 : UInt8) ∉ wordN n ∧ (10 : UInt8) ∉ wordN n ∧ (wordN n).length ≤ 10 ∧ p_dormouseref38_Word (n : Int) = some (wordN n) := by
  have := List.all_eq_true.1 word_all n (by simpa using h)
  simpa only [decide_eq_true_eq] using this
theorem part_all : (List.range 10).all (fun (n : Nat) => decide (p_cmd_parts (n : Int) = some ((partN n : Nat) : Int) ∧ partN n ≤ 2)) = true := by decide +kernel
theorem part_at {n : Nat} (h : n < 10) : p_cmd_parts (n : Int) = some ((partN n : Nat) : Int) ∧ partN n ≤ 2 := by
  have := List.all_eq_true.1 part_all n (by simpa using h)
  simpa only [decide_eq_true_eq] using this
theorem ten_ne {e c : Int} (h : ¬ (0 ≤ e ∧ e ≤ 9)) (hc : 0 ≤ c ∧ c ≤ 9) : (e == c) = false := by
  simp only [beq_eq_false_iff_ne, ne_eq]; omega
theorem word_eq (e : Int) : p_cmd_word e = some (wordZ e) := by
  by_cases h : 0 ≤ e ∧ e ≤ 9
  · obtain ⟨n, rfl, hn⟩ := ten h
    unfold wordZ
    rw [if_pos h, (word_at hn).1, Int.toNat_natCast]
  · unfold wordZ p_cmd_word
    rw [if_neg h, ten_ne h (by omega), ten_ne h (by omega), ten_ne h (by omega), ten_ne h (by omega), ten_ne h (by omega), ten_ne h (by omega), ten_ne h (by omega), ten_ne h (by omega), ten_ne h (by omega), ten_ne h (by omega)]
    rfl
theorem part_eq (e : Int) : p_cmd_parts e = some ((partZ e : Nat) : Int) := by
  by_cases h : 0 ≤ e ∧ e ≤ 9
  · obtain ⟨n, rfl, hn⟩ := ten h
    unfold partZ
    rw [if_pos h, (part_at hn).1, Int.toNat_natCast]
  · unfold partZ p_cmd_parts joinC
    rw [if_neg h, ten_ne h (by omega), ten_ne h (by omega)]
    unfold p_cmd_parts.j3 p_cmd_parts.j0
    dsimp only
    rw [cond_false, cond_false, ten_ne h (by omega), ten_ne h (by omega), ten_ne h (by omega), ten_ne h (by omega)]
    rfl
theorem part_le (e : Int) : partZ e ≤ 2 := by
  unfold partZ
  split
  · rename_i h
    exact (part_at (by omega)).2
  · omega
theorem wordZ_ne {e : Int} (h : 0 ≤ e ∧ e ≤ 9) : wordZ e ≠ [] := by
  unfold wordZ
  rw [if_pos h]
  exact (word_at (by omega)).2.1
def Z0 : Vector Int 32 := Vector.replicate 32 0
theorem bparts_Z0 : bparts (32 : Nat) (dflt (T.int IntKind.u8)) [] = Z0 := rfl
def mayC (s : St) : Bool := decide (0 ≤ s.1 ∧ s.1 ≤ 9 ∧ s.2.2.length ≤ 70000 ∧ (partZ s.1 < 2 → s.2.2 = []) ∧ (partZ s.1 < 1 → s.2.1 = Z0))
theorem Check_eq (e : Int) (v : Vector Int 32) (t : List UInt8) : p_cmd_Check (e, v, t) = some (if mayC (e, v, t) then 0 else 2) := by
  have hw : ∀ w : List UInt8, (!w == []) = !decide (w = []) := by intro w; cases w <;> rfl
  unfold p_cmd_Check joinC p_cmd_Check.j0
  dsimp only
  rw [part_eq, Option.bind_some, word_eq, Option.bind_some, bparts_Z0]
  by_cases h : 0 ≤ e ∧ e ≤ 9
  · have h3 : (wordZ e == []) = false := by simpa using wordZ_ne h
    rw [h3, cond_false]
    unfold mayC
    dsimp only
    generalize partZ e = p
    rw [hw]
    by_cases hl : (t.length : Int) > 70000
    · have hl2 : ¬ t.length ≤ 70000 := by omega
      rw [decide_eq_true hl]
      simp [hl2]
    · have hl2 : t.length ≤ 70000 := by omega
      rw [decide_eq_false hl, cond_false]
      by_cases h2 : (p : Int) < 2
      · have h2' : p < 2 := by omega
        rw [decide_eq_true h2]
        by_cases ht : t = []
        · by_cases h1 : (p : Int) < 1
          · have h1' : p < 1 := by omega
            rw [decide_eq_true h1]
            by_cases hv : v = Z0 <;> simp [h, ht, h1', hv]
          · have h1' : ¬ p < 1 := by omega
            rw [decide_eq_false h1]
            simp [h, ht, h1']
        · simp [h2', ht]
      · have h2' : ¬ p < 2 := by omega
        have h1' : ¬ p < 1 := by omega
        rw [decide_eq_false h2, decide_eq_false (by omega : ¬ (p : Int) < 1)]
        simp [h, h2', h1', hl2]
  · have h3 : wordZ e = [] := by unfold wordZ; rw [if_neg h]
    have hm : mayC (e, v, t) = false := by
      unfold mayC
      simp only [decide_eq_false_iff_not]
      intro hh; exact h ⟨hh.1, hh.2.1⟩
    rw [h3, hm]
    rfl
theorem May_eq (e : Int) (v : Vector Int 32) (t : List UInt8) : p_dormouseref38_May (e, v, t) = some (mayC (e, v, t)) := by
  have hw : ∀ w : List UInt8, (!w == []) = !decide (w = []) := by intro w; cases w <;> rfl
  unfold p_dormouseref38_May joinC
  dsimp only
  by_cases h0 : e < 0
  · have hm : mayC (e, v, t) = false := by unfold mayC; simp only [decide_eq_false_iff_not]; omega
    rw [decide_eq_true h0, hm]; rfl
  · by_cases h9 : e > 9
    · have hm : mayC (e, v, t) = false := by unfold mayC; simp only [decide_eq_false_iff_not]; omega
      rw [decide_eq_false h0, decide_eq_true h9, hm]; rfl
    · rw [decide_eq_false h0, decide_eq_false h9, cond_false, cond_false]
      unfold p_dormouseref38_May.j0 joinC
      by_cases hl : (t.length : Int) > 70000
      · have hm : mayC (e, v, t) = false := by
          unfold mayC; simp only [decide_eq_false_iff_not]; intro hh; have := hh.2.2.1; omega
        rw [decide_eq_true hl, hm]; rfl
      · have hl2 : t.length ≤ 70000 := by omega
        rw [decide_eq_false hl, cond_false]
        dsimp only
        rw [hw]
        unfold p_dormouseref38_May.j1 p_dormouseref38_May.j2 p_dormouseref38_May.j3 joinC
        rw [bparts_Z0]
        have hn : e = 0 ∨ e = 1 ∨ e = 2 ∨ e = 3 ∨ e = 4 ∨ e = 5 ∨ e = 6 ∨ e = 7 ∨ e = 8 ∨ e = 9 := by omega
        unfold mayC
        dsimp only
        rcases hn with rfl | rfl | rfl | rfl | rfl | rfl | rfl | rfl | rfl | rfl <;> by_cases ht : t = [] <;> by_cases hv : v = Z0 <;> simp [ht, hv, hl2, partZ, partN, PARTS]
def lineC (e : Int) (d : List Nat) (t : List UInt8) : List UInt8 := wordZ e ++ ((if partZ e < 1 then [] else 32 :: txt d) ++ (if partZ e < 2 then [] else 32 :: hexS t))
theorem wordZ_len (e : Int) : (wordZ e).length ≤ 10 := by
  unfold wordZ
  split
  · rename_i h
    exact (word_at (by omega)).2.2.2.2.1
  · simp
theorem join1 {w : List UInt8} : Lib.join [w] [32] = w := by rw [Lib.join_cons]; simp [Lib.joinTail]
theorem join2 {w a : List UInt8} : Lib.join [w, a] [32] = w ++ 32 :: a := by rw [Lib.join_cons]; simp [Lib.joinTail]
theorem join3 {w a b : List UInt8} : Lib.join [w, a, b] [32] = w ++ (32 :: a ++ 32 :: b) := by rw [Lib.join_cons]; simp [Lib.joinTail]
theorem joinS {l : List (List UInt8)} {sep r : List UInt8} (h1 : l.length ≤ 3) (h2 : Lib.join l sep = r) (h3 : r.length < 1000000) : p_strings_Join l sep = some r := by
  subst h2
  unfold p_strings_Join
  rw [need_yes (by omega), need_yes (by omega)]
theorem Text_eq {k : Nat} {e : Int} {d : List Nat} {t : List UInt8} (hk : 32 < k) (hd : okL 32 d) (ht : mayC (e, vecN 32 d, t) = true → t.length < k) :
    p_cmd_Text k (e, vecN 32 d, t) = some (if mayC (e, vecN 32 d, t) then (lineC e d t, 0) else ([], 2)) := by
  unfold p_cmd_Text
  dsimp only
  rw [Check_eq, Option.bind_some]
  by_cases hm : mayC (e, vecN 32 d, t) = true
  · have e0 : ((0 : Int) != 0) = false := rfl
    have htk := ht hm
    have hm2 := hm
    simp only [mayC, decide_eq_true_eq] at hm2
    rw [if_pos hm, if_pos hm, e0, cond_false, word_eq, Option.bind_some, keyText_eq hk hd, Option.bind_some, cmdHex_eq htk (by omega), Option.bind_some, part_eq, Option.bind_some]
    have hp := part_le e
    have hwl := wordZ_len e
    have htl := txt_len hd
    have hhl := hexS_len t
    have e1 : IntKind.wrap .i64 (1 + ((partZ e : Nat) : Int)) = ((1 + partZ e : Nat) : Int) := by rw [wrap_i64 (by omega)]; omega
    rw [e1, need_yes (by simp only [List.length_cons, List.length_nil]; omega), Int.toNat_natCast]
    unfold lineC
    generalize wordZ e = w at *
    generalize txt d = a at *
    generalize hexS t = b at *
    have h3 : partZ e = 0 ∨ partZ e = 1 ∨ partZ e = 2 := by omega
    rcases h3 with h3 | h3 | h3
    · rw [h3, if_pos (by omega), if_pos (by omega), joinS (l := List.take (1 + 0) [w, a, b]) (r := w) (by simp) join1 (by omega)]
      simp
    · rw [h3, if_neg (by omega), if_pos (by omega), joinS (l := List.take (1 + 1) [w, a, b]) (r := w ++ 32 :: a) (by simp) join2 (by simp only [List.length_append, List.length_cons]; omega)]
      simp
    · rw [h3, if_neg (by omega), if_neg (by omega), joinS (l := List.take (1 + 2) [w, a, b]) (r := w ++ (32 :: a ++ 32 :: b)) (by simp) join3 (by simp only [List.length_append, List.length_cons]; omega)]
      simp
  · have e0 : ((2 : Int) != 0) = true := rfl
    rw [if_neg hm, if_neg hm, e0, cond_true]
theorem Line_eq {k : Nat} {e : Int} {d : List Nat} {t : List UInt8} (hk : 32 < k) (hd : okL 32 d) (ht : t.length < k) (htl : t.length < 100000) (he : 0 ≤ e ∧ e ≤ 9) :
    p_dormouseref38_Line k (e, vecN 32 d, t) = some (lineC e d t) := by
  have hwl := wordZ_len e
  have hal := txt_len hd
  have hhl := hexS_len t
  have hn : e = 0 ∨ e = 1 ∨ e = 2 ∨ e = 3 ∨ e = 4 ∨ e = 5 ∨ e = 6 ∨ e = 7 ∨ e = 8 ∨ e = 9 := by omega
  have h1 : p_dormouseref38_Word e = some (wordZ e) := by
    obtain ⟨n, rfl, hn10⟩ := ten he
    unfold wordZ
    rw [if_pos he, (word_at hn10).2.2.2.2.2, Int.toNat_natCast]
  have hj : ∀ (c : Bool), c = decide (partZ e < 1) → p_dormouseref38_Line.j0 k (wordZ e) c (e, vecN 32 d, t) = some (lineC e d t) := by
    intro c hc
    unfold lineC p_dormouseref38_Line.j0 joinC
    by_cases hp : partZ e < 1
    · rw [hc, decide_eq_true hp, cond_true, if_pos hp, if_pos (by omega)]; simp
    · rw [hc, decide_eq_false hp, cond_false, if_neg hp, need_yes (by omega)]
      dsimp only
      rw [refText16_eq hk hd, Option.bind_some, need_yes (by simp only [List.length_append, List.length_cons, List.length_nil]; omega)]
      have hj2 : ∀ (c : Bool), c = !decide (partZ e < 2) → p_dormouseref38_Line.j2 k (p_dormouseref38_Line.j1 k) (wordZ e ++ [32] ++ txt d) c (e, vecN 32 d, t) = some (wordZ e ++ (32 :: txt d ++ if partZ e < 2 then [] else 32 :: hexS t)) := by
        intro c hc
        unfold p_dormouseref38_Line.j2
        by_cases hp : partZ e < 2
        · rw [hc, decide_eq_true hp, if_pos hp, Bool.not_true, cond_false]; unfold p_dormouseref38_Line.j1; simp
        · rw [hc, decide_eq_false hp, if_neg hp, Bool.not_false, cond_true, need_yes (by simp only [List.length_append, List.length_cons, List.length_nil]; omega), ref38Hex_eq ht htl, Option.bind_some, need_yes (by simp only [List.length_append, List.length_cons, List.length_nil]; omega)]
          unfold p_dormouseref38_Line.j1; simp
      rcases hn with h | h | h | h | h | h | h | h | h | h <;> rw [h] at hj2 ⊢ <;> exact hj2 _ rfl
  unfold p_dormouseref38_Line joinC
  dsimp only
  rw [h1, Option.bind_some]
  rcases hn with h | h | h | h | h | h | h | h | h | h <;> rw [h] at hj ⊢ <;> exact hj _ rfl
end Go.Dor.Ky
end

section
/- STEPS READ, plain. -/
set_option linter.unusedVariables false
set_option linter.unusedSimpArgs false
namespace Go.Dor.Ky
open Go.Proofs

def kindF (w : List UInt8) : Nat → Nat → Int
  | 0, _ => -1
  | m + 1, i => if wordN i = w then (i : Int) else kindF w m (i + 1)
def kindZ (w : List UInt8) : Int := kindF w 10 0
theorem kindF_at (w : List UInt8) : ∀ (m i : Nat), i + m = 10 → (kindF w m i = -1 ∧ ∀ j, i ≤ j → j < 10 → wordN j ≠ w) ∨ (∃ n : Nat, kindF w m i = (n : Int) ∧ n < 10 ∧ wordN n = w)
  | 0, i, h => .inl ⟨rfl, fun j h1 h2 => by omega⟩
  | m + 1, i, h => by
    unfold kindF
    by_cases e : wordN i = w
    · rw [if_pos e]; exact .inr ⟨i, rfl, by omega, e⟩
    · rw [if_neg e]
      rcases kindF_at w m (i + 1) (by omega) with ⟨h1, h2⟩ | h1
      · refine .inl ⟨h1, fun j h3 h4 => ?_⟩
        by_cases hj : j = i
        · subst hj; exact e
        · exact h2 j (by omega) h4
      · exact .inr h1
theorem kind_loop {k' : Nat} {w : List UInt8} : ∀ (m i fuel : Nat), i + m = 10 → m < fuel →
    loopC (fun (r : List UInt8 × Int → Option Int) y => p_cmd_kind.b1 k' (fun _ => p_cmd_kind.j0 k') r y.1 y.2) fuel (w, (i : Int)) = some (kindF w m i)
  | 0, i, fuel + 1, h, _ => by
    unfold loopC
    dsimp only
    unfold p_cmd_kind.b1 p_cmd_kind.j0
    rw [decide_eq_false (by omega), cond_false]
    rfl
  | m + 1, i, fuel + 1, h, hf => by
    have ih := kind_loop (k' := k') (w := w) m (i + 1) fuel (by omega) (by omega)
    unfold loopC
    dsimp only
    generalize loopC (fun (r : List UInt8 × Int → Option Int) y => p_cmd_kind.b1 k' (fun _ => p_cmd_kind.j0 k') r y.1 y.2) fuel = rec at *
    unfold p_cmd_kind.b1
    have e2 : IntKind.wrap .i64 ((i : Int) + 1) = ((i + 1 : Nat) : Int) := by rw [wrap_i64 (by omega)]; omega
    rw [decide_eq_true (by omega), cond_true, (word_at (by omega)).1, Option.bind_some, e2, kindF]
    by_cases e : wordN i = w
    · rw [if_pos e, e]; simp
    · have e' : (wordN i == w) = false := by simpa using e
      rw [if_neg e, e', cond_false, ih]
theorem kind_eq {k : Nat} {w : List UInt8} (hk : 10 < k) : p_cmd_kind k w = some (kindZ w) := by
  unfold p_cmd_kind joinC
  exact kind_loop 10 0 k (by omega) hk
theorem word_inj_all : (List.range 10).all (fun (n : Nat) => decide (kindZ (wordN n) = (n : Int))) = true := by decide +kernel
theorem kind_word {n : Nat} (h : n < 10) : kindZ (wordN n) = (n : Int) := by
  have := List.all_eq_true.1 word_inj_all n (by simpa using h)
  simpa only [decide_eq_true_eq] using this
theorem kind_wordZ {e : Int} (h : 0 ≤ e ∧ e ≤ 9) : kindZ (wordZ e) = e := by
  obtain ⟨n, rfl, hn⟩ := ten h
  unfold wordZ
  rw [if_pos h, Int.toNat_natCast, kind_word hn]
theorem kindZ_at (w : List UInt8) : kindZ w = -1 ∨ (0 ≤ kindZ w ∧ kindZ w ≤ 9) := by
  rcases kindF_at w 10 0 rfl with ⟨h, _⟩ | ⟨n, h, h2, _⟩
  · exact .inl h
  · right; unfold kindZ; rw [h]; omega
def wAt (l : List (List UInt8)) (i : Nat) : List UInt8 := l.getD i []
theorem c1_eq {l : List (List UInt8)} {i : Nat} : p_cmd_Parse_c1 (i : Int) l = some (wAt l i) := by
  unfold p_cmd_Parse_c1 wAt
  by_cases h : i < l.length
  · rw [decide_eq_true (by omega), cond_true, need_yes (by omega)]
    unfold at_
    rw [Int.toNat_natCast]; rfl
  · rw [decide_eq_false (by omega), cond_false, List.getD_eq_getElem?_getD, List.getElem?_eq_none (by omega)]; rfl
noncomputable def keyR (w : List UInt8) : List Nat := open Classical in if txt (guess w) = w then guess w else []
noncomputable def keyV (w : List UInt8) : List Nat := open Classical in if txt (guess w) = w then guess w else List.replicate 32 0
theorem keyV_ok (w : List UInt8) : okL 32 (keyV w) := by
  unfold keyV
  split
  · exact guess_ok w
  · exact zero_ok
theorem keyV_txt {d : List Nat} (hd : okL 32 d) : keyV (txt d) = d := by
  unfold keyV
  rw [guess_txt hd, if_pos rfl]
theorem Z0_vecN : Z0 = vecN 32 (List.replicate 32 0) := repl_casts
theorem keyParse_eq {k : Nat} {w : List UInt8} (hk : 64 < k) (hw : w.length < k) (hw2 : w.length < 100000) : ∃ q, p_key_Parse k w = some (vecN 32 (keyV w), q) := by
  rw [parse_eq hk hw hw2]
  unfold keyV
  by_cases h : txt (guess w) = w
  · rw [if_pos h, if_pos h]; exact ⟨_, rfl⟩
  · rw [if_neg h, if_neg h, ← repl_vecN, repl_casts]; exact ⟨_, rfl⟩
theorem spl_mem_len {c : UInt8} : ∀ (s w : List UInt8), w ∈ spl c s → w.length ≤ s.length
  | [], w, h => by simp [spl] at h; subst h; simp
  | x :: s, w, h => by
    rw [spl] at h
    by_cases e : x = c
    · rw [if_pos e] at h
      rcases List.mem_cons.1 h with rfl | h
      · simp
      · have := spl_mem_len s w h; simp only [List.length_cons]; omega
    · rw [if_neg e] at h
      have hs := spl_mem_len (c := c) s
      cases hz : spl c s with
      | nil => rw [hz] at h; simp at h; subst h; simp
      | cons y z =>
        rw [hz] at h hs
        rcases List.mem_cons.1 h with rfl | h
        · have := hs y (by simp); simp only [List.length_cons]; omega
        · have := hs w (by simp [h]); simp only [List.length_cons]; omega
theorem wAt_len {c : UInt8} (s : List UInt8) (i : Nat) : (wAt (spl c s) i).length ≤ s.length := by
  unfold wAt
  rw [List.getD_eq_getElem?_getD]
  cases h : (spl c s)[i]? with
  | none => simp
  | some w => exact spl_mem_len s w (List.mem_of_getElem? h)
noncomputable def guessD (line : List UInt8) : List Nat := open Classical in if partZ (kindZ (wAt (spl 32 line) 0)) < 1 then List.replicate 32 0 else keyV (wAt (spl 32 line) 1)
noncomputable def guessT (line : List UInt8) : List UInt8 := open Classical in if partZ (kindZ (wAt (spl 32 line) 0)) < 2 then [] else (bytR (wAt (spl 32 line) 2)).1
theorem guessD_ok (line : List UInt8) : okL 32 (guessD line) := by
  unfold guessD
  split
  · exact zero_ok
  · exact keyV_ok _
theorem guessT_len (line : List UInt8) : (guessT line).length ≤ line.length := by
  unfold guessT
  split
  · simp
  · exact Nat.le_trans (bytR_len _) (wAt_len _ _)
def okC (line : List UInt8) (e : Int) (d : List Nat) (t : List UInt8) : Prop := mayC (e, vecN 32 d, t) = true ∧ lineC e d t = line
noncomputable def parseC (line : List UInt8) : St × Int :=
  open Classical in if kindZ (wAt (spl 32 line) 0) < 0 then ((0, Z0, []), 15) else
    if okC line (kindZ (wAt (spl 32 line) 0)) (guessD line) (guessT line) then ((kindZ (wAt (spl 32 line) 0), vecN 32 (guessD line), guessT line), 0) else ((0, Z0, []), 6)
theorem cparse_j1 {k : Nat} {line : List UInt8} {x : St} {e : Int} {d : List Nat} {t : List UInt8} (hk : 32 < k) (hd : okL 32 d) (ht : t.length < k) :
    p_cmd_Parse.j1 k line x (e, vecN 32 d, t) = some (open Classical in if okC line e d t then ((e, vecN 32 d, t), 0) else ((0, Z0, []), 6)) := by
  unfold p_cmd_Parse.j1 joinC p_cmd_Parse.j2
  dsimp only
  rw [Text_eq hk hd (fun _ => ht), Option.bind_some]
  by_cases hm : mayC (e, vecN 32 d, t) = true
  · have e0 : ((0 : Int) != 0) = false := rfl
    rw [if_pos hm]
    dsimp only
    rw [e0, cond_false]
    by_cases hl : lineC e d t = line
    · have e1 : (!lineC e d t == line) = false := by simpa using hl
      rw [e1, cond_false, if_pos ⟨hm, hl⟩]
    · have e1 : (!lineC e d t == line) = true := by simpa using hl
      rw [e1, cond_true, if_neg (fun h => hl h.2)]
      rfl
  · have e0 : ((2 : Int) != 0) = true := rfl
    rw [if_neg hm]
    dsimp only
    rw [e0, cond_true, cond_true, if_neg (fun h => hm h.1)]
    rfl
theorem cparse_j0 {line : List UInt8} {x : St} {d : List Nat} (hl : line.length < 1900) (hd : okL 32 d) :
    p_cmd_Parse.j0 2000 line x (kindZ (wAt (spl 32 line) 0), vecN 32 d, []) (spl 32 line) = some (open Classical in if okC line (kindZ (wAt (spl 32 line) 0)) d (guessT line) then ((kindZ (wAt (spl 32 line) 0), vecN 32 d, guessT line), 0) else ((0, Z0, []), 6)) := by
  have hg := guessT_len line
  unfold p_cmd_Parse.j0 joinC
  dsimp only
  rw [part_eq, Option.bind_some]
  unfold guessT at *
  by_cases h : partZ (kindZ (wAt (spl 32 line) 0)) < 2
  · rw [decide_eq_false (by omega), cond_false, if_pos h]
    exact cparse_j1 (by omega) hd (by simp)
  · have hw := wAt_len (c := 32) line 2
    rw [if_neg h] at hg
    have hc : p_cmd_Parse_c1 2 (spl 32 line) = some (wAt (spl 32 line) 2) := c1_eq (i := 2)
    rw [decide_eq_true (by omega), cond_true, if_neg h, hc, Option.bind_some, Bytes_eq (by omega) (by omega), Option.bind_some]
    exact cparse_j1 (by omega) hd (by omega)
theorem Parse_eq {line : List UInt8} (hl : line.length < 1900) : p_cmd_Parse 2000 line = some (parseC line) := by
  have hc : p_cmd_Parse_c1 0 (spl 32 line) = some (wAt (spl 32 line) 0) := c1_eq (i := 0)
  have hc1 : p_cmd_Parse_c1 1 (spl 32 line) = some (wAt (spl 32 line) 1) := c1_eq (i := 1)
  have hw := wAt_len (c := 32) line 1
  unfold p_cmd_Parse joinC parseC
  rw [Split_eq hl, Option.bind_some, hc, Option.bind_some, kind_eq (by omega), Option.bind_some]
  by_cases h : kindZ (wAt (spl 32 line) 0) < 0
  · rw [decide_eq_true h, cond_true, if_pos h]
    rfl
  · rw [decide_eq_false h, cond_false, if_neg h]
    dsimp only
    rw [part_eq, Option.bind_some]
    unfold guessD
    by_cases h1 : partZ (kindZ (wAt (spl 32 line) 0)) < 1
    · rw [decide_eq_false (by omega), cond_false, if_pos h1]
      have := cparse_j0 (x := (0, Z0, [])) hl zero_ok
      rw [← Z0_vecN] at this ⊢
      exact this
    · obtain ⟨q, hq⟩ := keyParse_eq (k := 2000) (w := wAt (spl 32 line) 1) (by omega) (by omega) (by omega)
      rw [decide_eq_true (by omega), cond_true, if_neg h1, hc1, Option.bind_some, hq, Option.bind_some]
      exact cparse_j0 hl (keyV_ok _)
end Go.Dor.Ky
end

section
/- WHAT A CALLER HANDS IN, AS DATA; a law of data, called. Plain lemmas over any program. -/
namespace Go.Dor
open Go.RowKit (Below)

def chainF (P : Program) : Nat → List Field → Option Nat
  | o, [] => some o
  | o, f :: l => bif Nat.beq f.offset o then chainF P (o + P.cellsOf f.type) l else none
/-- types of data whose parts lie one behind the other -/
def tiled (P : Program) : Nat → TypeId → Bool
  | 0, _ => false
  | n + 1, t =>
    match P.underlying t with
    | some (.int _) | some .bool | some .string => true
    | some (.array m e) => Nat.beq (P.cellsOf t) (m * P.cellsOf e) && tiled P n e
    | some (.slice e) => Nat.blt 0 (P.cellsOf e) && tiled P n e
    | some (.struct fs) => (match chainF P 0 fs.toList with | some s => Nat.beq s (P.cellsOf t) | none => false) && fs.toList.all (fun f => tiled P n f.type)
    | _ => false

theorem pieces {α : Type} {Q : α → List Value → Prop} (k : Nat) : ∀ (m : Nat) (cs : List Value), cs.length = m * k → (∀ i, i < m → ∃ d, Q d ((cs.drop (i * k)).take k)) → ∃ (l : List α) (ys : List (List Value)), l.length = m ∧ cs = ys.flatten ∧ Al2 Q l ys
  | 0, cs, hl, _ => ⟨[], [], rfl, by simpa using hl, trivial⟩
  | m + 1, cs, hl, h => by
    obtain ⟨d, hd⟩ := h 0 (by omega)
    have hl' : (cs.drop k).length = m * k := by rw [List.length_drop, hl, Nat.add_mul]; omega
    obtain ⟨l, ys, h1, h2, h3⟩ := pieces k m (cs.drop k) hl' fun i hi => by
      obtain ⟨d, hd⟩ := h (i + 1) (by omega)
      refine ⟨d, ?_⟩
      rw [List.drop_drop]
      have : k + i * k = (i + 1) * k := by rw [Nat.add_mul]; omega
      rw [this]; exact hd
    refine ⟨d :: l, cs.take k :: ys, by simp [h1], ?_, ?_, h3⟩
    · rw [List.flatten_cons, ← h2, List.take_append_drop]
    · simpa using hd

/-- data that a program can hold: each number fits its kind -/
def okD : (t : T) → den t → Prop
  | .int k, n => (Lit.int k n).wf = true
  | .pair a b, x => okD a x.1 ∧ okD b x.2
  | .arr _ e, x => ∀ y ∈ x.toList, okD e y
  | .sl e, x => x.length ≤ 9223372036854775807 ∧ ∀ y ∈ x, okD e y
  | .str, _ => True
  | .bool, _ => True
  | .flt _, _ => True
  | .unit, _ => True
theorem al2_split {α β : Type} {Q : α → β → Prop} {R : α → Prop} : ∀ {l : List α} {m : List β}, Al2 (fun a b => Q a b ∧ R a) l m → Al2 Q l m ∧ ∀ a ∈ l, R a
  | [], [], _ => ⟨trivial, by simp⟩
  | a :: l, b :: m, h => by
    obtain ⟨h1, h2⟩ := al2_split (l := l) (m := m) h.2
    exact ⟨⟨h.1.1, h1⟩, fun x hx => (List.mem_cons.1 hx).elim (fun e => e ▸ h.1.2) (h2 x)⟩

theorem list_of {α : Type} {Q : Nat → α → Prop} : ∀ (n : Nat), (∀ i, i < n → ∃ p, Q i p) → ∃ l : List α, l.length = n ∧ ∀ i p, l[i]? = some p → Q i p
  | 0, _ => ⟨[], rfl, by simp⟩
  | n + 1, h => by
    obtain ⟨l, h1, h2⟩ := list_of n fun i hi => h i (by omega)
    obtain ⟨p, hp⟩ := h n (by omega)
    refine ⟨l ++ [p], by simp [h1], fun i q hq => ?_⟩
    by_cases hlt : i < n
    · rw [List.getElem?_append_left (by omega)] at hq; exact h2 i q hq
    · have hi : i < (l ++ [p]).length := (List.getElem?_eq_some_iff.1 hq).1
      have : i = n := by simp [h1] at hi; omega
      subst this
      rw [List.getElem?_append_right (by omega), h1] at hq
      simp at hq; subst hq; exact hp

theorem al2_of {α β : Type} {Q : α → β → Prop} : ∀ (l : List (α × β)), (∀ (i : Nat) p, l[i]? = some p → Q p.1 p.2) → Al2 Q (l.map (·.1)) (l.map (·.2))
  | [], _ => trivial
  | p :: l, h => ⟨h 0 p rfl, al2_of l fun i q hq => h (i + 1) q hq⟩

section
variable {H : Type} {enc : TypeId × Value → H} {P : Program} {w : World} {spare : Nat → Bool} {held : Bool}

theorem fields_at {I : Nat → Prop} {cs : List Value} {n s : Nat} : ∀ (l : List Field) (o : Nat) (cl : List T), chainF P o l = some s → cs.length = s → (∀ c, codeT P n 0 = c → True) →
    l.foldr (fun f acc => match codeT P n f.type, acc with | some a, some l => some (a :: l) | _, _ => none) (some []) = some cl →
    (∀ f ∈ l, ∀ c, codeT P n f.type = some c → ∃ d : den c, At w I c d ((cs.drop f.offset).take (P.cellsOf f.type)) ∧ okD c d) → ∃ d : den (mkT cl), At w I (mkT cl) d (cs.drop o) ∧ okD (mkT cl) d
  | [], o, cl, hc, hl, _, hf, _ => by
    cases hf
    simp only [chainF, Option.some.injEq] at hc
    exact ⟨(), List.drop_eq_nil_of_le (by omega), trivial⟩
  | [f], o, cl, hc, hl, _, hf, h => by
    simp only [chainF, cond_eq_ite] at hc
    split at hc
    · rename_i ho
      have ho := Nat.eq_of_beq_eq_true ho
      simp only [Option.some.injEq] at hc
      simp only [List.foldr_cons, List.foldr_nil] at hf
      split at hf
      · rename_i a l' ha hl'
        cases hf; cases hl'
        obtain ⟨d, hd, hk⟩ := h f (by simp) a ha
        refine ⟨d, ?_, hk⟩
        rw [ho, List.take_of_length_le (by rw [List.length_drop]; omega)] at hd
        exact hd
      · cases hf
    · cases hc
  | f :: f2 :: l, o, cl, hc, hl, ht, hf, h => by
    rw [chainF, cond_eq_ite] at hc
    split at hc
    · rename_i ho
      have ho := Nat.eq_of_beq_eq_true ho
      rw [List.foldr_cons] at hf
      split at hf
      · rename_i a l' ha hl'
        cases hf
        obtain ⟨d, hd, hk⟩ := h f (by simp) a ha
        obtain ⟨d2, hd2, hk2⟩ := fields_at (f2 :: l) _ l' hc hl ht hl' fun g hg => h g (List.mem_cons_of_mem _ hg)
        have hne : ∃ b r, l' = b :: r := by
          rw [List.foldr_cons] at hl'
          split at hl'
          · cases hl'; exact ⟨_, _, rfl⟩
          · cases hl'
        obtain ⟨b, r, rfl⟩ := hne
        refine ⟨(d, d2), ⟨_, _, ?_, hd, hd2⟩, hk, hk2⟩
        rw [ho, ← List.drop_drop, List.take_append_drop]
      · cases hf
    · cases hc

theorem cell_heap {b o : Nat} {y : Value} (hc : w.cell? ⟨b, o, none⟩ = some y) : ∃ cur t fz, w.heap[b]? = some (.cells cur t fz) := by
  simp only [World.cell?] at hc
  split at hc
  · rename_i cur t fz hb
    exact ⟨_, _, _, hb⟩
  · cases hc

theorem mapM_get {α β : Type} {f : α → Option β} : ∀ {l0 : List α} {l : List β}, l0.mapM f = some l → l.length = l0.length ∧ ∀ (i : Nat) a, l0[i]? = some a → f a = l[i]?
  | [], l, h => by
    simp only [List.mapM_nil] at h
    cases h
    exact ⟨rfl, by simp⟩
  | a :: l0, l, h => by
    rw [List.mapM_cons] at h
    cases ha : f a with
    | none => rw [ha] at h; cases h
    | some b =>
      rw [ha] at h
      cases hl : l0.mapM f with
      | none => rw [hl] at h; cases h
      | some bs =>
        rw [hl] at h
        have h : some (b :: bs) = some l := h
        cases h
        obtain ⟨h1, h2⟩ := mapM_get hl
        refine ⟨by simp [h1], fun i x hx => ?_⟩
        cases i with
        | zero => simp at hx; subst hx; simpa using ha
        | succ i => simp at hx; simpa using h2 i x hx
theorem cells_get {base k : Nat} {a : Addr} {l : List Value} (h : w.cells? base a k = some l) : l.length = k ∧ ∀ i, i < k → w.cell? (a.add i) = l[i]? := by
  unfold World.cells? at h
  split at h
  · obtain ⟨h1, h2⟩ := mapM_get h
    exact ⟨by simpa using h1, fun i hi => h2 i i (by simp [hi])⟩
  · cases h

/-- what a caller hands in reads as data -/
theorem trod_at (hsp : ∀ b, spare b = true) : ∀ (n : Nat) (t : TypeId) (c : T) (fuel : Nat) (cs : List Value) (x : DataW H × List MemPlace), codeT P n t = some c → tiled P n t = true →
    DataW.trod enc P w 0 spare held fuel t cs = some x → ∃ d : den c, At w (fun b => b < w.heap.size) c d cs ∧ okD c d
  | 0, t, c, fuel, cs, x, hc, _, _ => by cases hc
  | n + 1, t, c, fuel, cs, x, hc, hd, h => by
    unfold codeT at hc
    unfold tiled at hd
    split at hc
    · rename_i k ht
      cases hc
      obtain ⟨y, rfl, _, hwf⟩ := DataW.trod_int ht h
      exact ⟨y, rfl, hwf⟩
    · rename_i ht
      cases hc
      obtain ⟨y, rfl, _⟩ := DataW.trod_bool ht h
      exact ⟨y, rfl, trivial⟩
    · rename_i ht
      cases hc
      obtain ⟨y, rfl, _⟩ := DataW.trod_string ht h
      exact ⟨y.data.toList, by simp [At, sv], trivial⟩
    · rename_i k ht
      rw [ht] at hd; cases hd
    · rename_i m e ht
      rw [ht] at hd
      simp only [Bool.and_eq_true] at hd
      obtain ⟨hd1, hd2⟩ := hd
      have hd1 := Nat.eq_of_beq_eq_true hd1
      split at hc
      · rename_i ce hce
        cases hc
        obtain ⟨xs, q, _, _, h1, h2, h3⟩ := DataW.trod_array ht h
        obtain ⟨l, ys, k1, k2, k3⟩ := pieces (Q := fun d y => At w (fun b => b < w.heap.size) ce d y ∧ okD ce d) (P.cellsOf e) m cs (by rw [h1, hd1]) fun i hi => by
          have := h3 i hi
          rw [List.getElem?_eq_getElem (by omega)] at this
          exact trod_at hsp n e ce _ _ _ hce hd2 this
        obtain ⟨k3, k4⟩ := al2_split k3
        refine ⟨⟨l.toArray, by simpa using k1⟩, ⟨ys, k2, ?_⟩, fun y hy => k4 y (by simpa using hy)⟩
        simpa using k3
      · cases hc
    · rename_i e ht
      rw [ht] at hd
      simp only [Bool.and_eq_true] at hd
      obtain ⟨hd1, hd2⟩ := hd
      have hd1 : 0 < P.cellsOf e := by simpa [Nat.blt_eq] using hd1
      split at hc
      · rename_i ce hce
        cases hc
        rcases DataW.trod_slice ht h with ⟨rfl, _⟩ | ⟨a, len, cap, elems, rest, q, _, rfl, _, _, hlc, hcm, hel, he, hrest, _⟩
        · exact ⟨[], ⟨_, rfl, [], ⟨by simp, .inl ⟨⟨none, rfl⟩, rfl⟩⟩, trivial, by simp [vfoot]⟩, Nat.zero_le _, fun y hy => by cases hy⟩
        · obtain ⟨hr1, hr2⟩ := hrest (hsp _)
          by_cases hcap : cap = 0
          · subst hcap
            have hl0 : len = 0 := by omega
            subst hl0
            exact ⟨[], ⟨_, rfl, [], ⟨by simp, .inl ⟨⟨_, rfl⟩, rfl⟩⟩, trivial, by simp [vfoot]⟩, Nat.zero_le _, fun y hy => by cases hy⟩
          · -- a cell is there
            have h0 : ∃ y, w.cell? (a.add 0) = some y := by
              have key : ∀ {o : Option (DataW H × List MemPlace)} {i : Nat}, i = 0 → (w.cells? 0 (a.add (i * P.cellsOf e)) (P.cellsOf e)).bind (DataW.trod enc P w 0 spare held q e) = o → o.isSome = true → ∃ y, w.cell? (a.add 0) = some y := by
                intro o i hi hb ho
                subst hi
                cases hcl : w.cells? 0 (a.add (0 * P.cellsOf e)) (P.cellsOf e) with
                | none => rw [hcl] at hb; subst hb; cases ho
                | some l =>
                  obtain ⟨k1, k2⟩ := cells_get hcl
                  have := k2 0 hd1
                  rw [List.getElem?_eq_getElem (by omega)] at this
                  exact ⟨l[0]'(by omega), by simpa [Addr.add] using this⟩
              by_cases hl0 : len = 0
              · exact key (i := len + 0) (by omega) (hr2 0 (by omega)) (by rw [List.getElem?_eq_getElem (by omega)]; rfl)
              · exact key (i := 0) rfl (he 0 (by omega)) (by rw [List.getElem?_eq_getElem (by omega)]; rfl)
            obtain ⟨y0, hy0⟩ := h0
            have hspot := World.cell?_spot hy0
            obtain ⟨b, off, spot⟩ := a
            have hspot : spot = none := by simpa [Addr.add] using hspot
            subst hspot
            have hadd : ∀ i, (⟨b, off, none⟩ : Addr).add i = ⟨b, off + i, none⟩ := fun i => by simp [Addr.add]
            have hadd2 : ∀ o i, (⟨b, o, none⟩ : Addr).add i = ⟨b, o + i, none⟩ := fun o i => by simp [Addr.add]
            rw [hadd] at hy0
            obtain ⟨cur, bt, fz, hb⟩ := cell_heap hy0
            obtain ⟨l, k1, k2⟩ := list_of (α := den ce × List Value) (Q := fun i p => (At w (fun b => b < w.heap.size) ce p.1 p.2 ∧ okD ce p.1) ∧ p.2.length = P.cellsOf e ∧ ∀ j, j < P.cellsOf e → cur[off + (i * P.cellsOf e + j)]? = p.2[j]?) len fun i hi => by
              have h1 := he i hi
              rw [List.getElem?_eq_getElem (by omega)] at h1
              cases hcl : w.cells? 0 ((⟨b, off, none⟩ : Addr).add (i * P.cellsOf e)) (P.cellsOf e) with
              | none => rw [hcl] at h1; cases h1
              | some cl =>
                rw [hcl] at h1
                obtain ⟨d, hdd⟩ := trod_at hsp n e ce _ _ _ hce hd2 h1
                obtain ⟨k1, k2⟩ := cells_get hcl
                refine ⟨(d, cl), hdd, k1, fun j hj => ?_⟩
                have := k2 j hj
                rw [← this, hadd2, hadd2, World.cell?, hb]
                simp [Nat.add_assoc]
            have hal := al2_of (Q := fun d y => At w (fun b => b < w.heap.size) ce d y ∧ okD ce d) l fun i p hp => (k2 i p hp).1
            obtain ⟨hal, hok⟩ := al2_split hal
            refine ⟨l.map (·.1), ⟨_, rfl, l.map (·.2), ⟨fun y hy => ?_, .inr ⟨b, off, cap, cur, bt, fz, by simp [k1], by simpa [k1] using hlc, hb, fun j y hj => ?_⟩⟩, hal, fun q hq => ?_⟩, by rw [List.length_map, k1]; unfold maxLen at hcm; omega, fun y hy => hok y hy⟩
            · obtain ⟨z, hz⟩ := List.getElem?_of_mem hy
              obtain ⟨d, _, hQ⟩ : ∃ d : den ce, True ∧ At w (fun b => b < w.heap.size) ce d y := by
                rw [List.getElem?_map] at hz
                cases hlz : l[z]? with
                | none => rw [hlz] at hz; cases hz
                | some p => rw [hlz] at hz; cases hz; exact ⟨p.1, trivial, (k2 z p hlz).1.1⟩
              exact At.len _ _ _ hQ
            · have hz : ∀ y ∈ l.map (·.2), y.length = P.cellsOf e := fun y hy => by
                obtain ⟨p, hp, rfl⟩ := List.mem_map.1 hy
                obtain ⟨z, hz⟩ := List.getElem?_of_mem hp
                exact (k2 z p hz).2.1
              have hjl := (List.getElem?_eq_some_iff.1 hj).1
              have hfl : (l.map (·.2)).flatten.length = l.length * P.cellsOf e := by
                have : ∀ (ys : List (List Value)), (∀ y ∈ ys, y.length = P.cellsOf e) → ys.flatten.length = ys.length * P.cellsOf e := by
                  intro ys
                  induction ys with
                  | nil => simp
                  | cons y ys ih =>
                    intro h
                    rw [List.flatten_cons, List.length_append, ih fun z hz => h z (List.mem_cons_of_mem _ hz), h y (by simp), List.length_cons, Nat.add_mul]; omega
                rw [this _ hz, List.length_map]
              have hdiv : j / P.cellsOf e < l.length := Nat.div_lt_of_lt_mul (by rw [Nat.mul_comm]; omega)
              have hmod : j % P.cellsOf e < P.cellsOf e := Nat.mod_lt _ hd1
              have hp : l[j / P.cellsOf e]? = some l[j / P.cellsOf e] := List.getElem?_eq_getElem hdiv
              obtain ⟨_, _, h5⟩ := k2 _ _ hp
              have h6 := flat_at hz (j := j / P.cellsOf e) (k := j % P.cellsOf e) (x := (l[j / P.cellsOf e]).2) (by rw [List.getElem?_map, hp]; rfl) hmod
              have hjj : j / P.cellsOf e * P.cellsOf e + j % P.cellsOf e = j := by rw [Nat.mul_comm]; exact Nat.div_add_mod _ _
              have h7 := h5 _ hmod
              rw [hjj] at h6 h7
              rw [h7, ← h6]; exact hj
            · simp only [vfoot, hcap, if_false, Option.some.injEq] at hq
              subst hq
              exact (Array.getElem?_eq_some_iff.1 hb).1
      · cases hc
    · rename_i fs ht
      rw [ht] at hd
      simp only [Bool.and_eq_true] at hd
      obtain ⟨hd1, hd2⟩ := hd
      split at hc
      · rename_i cl hcl
        cases hc
        split at hd1
        · rename_i s hs
          have hd1 := Nat.eq_of_beq_eq_true hd1
          obtain ⟨xs, q, _, _, h1, h2, h3⟩ := DataW.trod_struct ht h
          have := fields_at (w := w) (I := fun b => b < w.heap.size) (cs := cs) (n := n) fs.toList 0 cl hs (by rw [h1, hd1]) (fun _ _ => trivial) hcl fun f hf c hc => by
            obtain ⟨i, hi⟩ := List.getElem?_of_mem hf
            have hi' : fs[i]? = some f := by simpa using hi
            have h4 := h3 i f hi'
            have hlt : i < fs.size := (Array.getElem?_eq_some_iff.1 hi').1
            rw [List.getElem?_eq_getElem (by omega)] at h4
            exact trod_at hsp n f.type c _ _ _ hc (List.all_eq_true.1 hd2 f hf) h4
          simpa using this
        · cases hd1
      · cases hc
    · cases hc

end
end Go.Dor
namespace Go.Dor
open Go.RowKit (Below)
section
variable {H : Type} {enc : TypeId × Value → H} {P : Program} {w w' : World}

/-- all that stands at the beginning may be read -/
noncomputable def m0 (w : World) : Mem := memOf (lentOf [] fun _ => undef) (fun _ => True) w [] (fun _ => undef) w

theorem m0_imm {b : Nat} (h : b < w.heap.size) : (m0 w).I b := ⟨h, .inr (.inl trivial), fun id hid => by simp [lives, liveO] at hid⟩
theorem at_m0 {c : T} {d : den c} {cs : List Value} (h : At w (fun b => b < w.heap.size) c d cs) : At (m0 w).w (m0 w).I c d cs := At.mono (fun _ hb => ⟨m0_imm hb, rfl⟩) _ _ _ h

theorem arg_ok {t : TypeId} {v : Value} {d : DataW H} {p : List MemPlace} {c : T} (h : DataW.Trod enc P w 0 (fun _ => true) true t v d p) (hc : codeT P depth t = some c) (ht : tiled P depth t = true) : ∃ a : den c, At (m0 w).w (m0 w).I c a v.cells.toList ∧ okD c a := by
  obtain ⟨fuel, h⟩ := h
  obtain ⟨a, ha, hk⟩ := trod_at (fun _ => rfl) _ _ _ _ _ _ hc ht h
  exact ⟨a, at_m0 ha, hk⟩
theorem arg_at {t : TypeId} {v : Value} {d : DataW H} {p : List MemPlace} {c : T} (h : DataW.Trod enc P w 0 (fun _ => true) true t v d p) (hc : codeT P depth t = some c) (ht : tiled P depth t = true) : ∃ a : den c, At (m0 w).w (m0 w).I c a v.cells.toList := by
  obtain ⟨a, ha, _⟩ := arg_ok h hc ht
  exact ⟨a, ha⟩

theorem rv_ag {c : T} {a : den c} {v : Value} {cs : Array Value} (hv : v = .agg cs) (h : At (m0 w).w (m0 w).I c a v.cells.toList) : Rv (m0 w) (.ag (Dor.enc c a)) v := by
  obtain ⟨s, h1, h2⟩ := At.enc _ _ _ h
  refine ⟨s, ?_, h2⟩
  subst hv
  have h1 : cs.toList = s.flatten := h1
  simp [ag, cells, ← h1]

/-- a law of data, called -/
theorem law_calls {f : FuncId} {vd : List Vd} {q : HL (Ds.ts ⟨vd, []⟩) → Option (HL (Ds.ts ⟨[.one (.im .bool)], []⟩))} (hS : Entry.Sound P f ⟨⟨vd, []⟩, ⟨[.one (.im .bool)], []⟩, q⟩) {vals : List Value} {x : HL (Ds.ts ⟨vd, []⟩)}
    (hv : Al2 (Rv (m0 w)) (givenV ⟨vd, []⟩ id x).1 vals) (hq : q x = some true) : Calls P f vals.toArray w fun e w' => e = .returned (.bool true) ∧ Below w.heap.size w w' := by
  have hg : givenO ⟨vd, []⟩ id x = [] := rfl
  have hs : Start ⟨vd, []⟩ x (fun _ => True) w (fun _ => undef) vals := by
    refine ⟨?_, hv⟩
    refine ⟨rfl, rfl, rfl, Nat.le_refl _, fun _ _ _ => rfl, fun b _ => ?_, fun id o hid => ?_, fun id hid => ?_, fun i j hi => ?_⟩
    · rintro ⟨i, hi, _⟩
      rw [hg] at hi
      simp [lives, liveO] at hi
    · rw [hg] at hid; simp at hid
    · rw [hg] at hid; simp [lives, liveO] at hid
    · rw [hg] at hi; simp [lives, liveO] at hi
  refine (hS.out x true hq (fun _ => True) w (fun _ => undef) vals hs).mono fun e w' ⟨vs, g', he, R', hv', _⟩ => ?_
  have hv' : Al2 (Rv (memOf (lentOf (givenO ⟨vd, []⟩ id x) fun _ => undef) (fun _ => True) w (givenO ⟨[.one (.im .bool)], []⟩ id true) g' w')) [.one (.b true)] vs := hv'
  obtain ⟨v, vs, rfl, h1, h2⟩ := hv'.cons_left
  have := h2.nil_left
  subst this
  have h1 := rv_bool h1
  subst h1
  refine ⟨he, R'.os, R'.tape, R'.output, R'.size, fun b hb => R'.old b hb ?_⟩
  rintro ⟨i, hi, _⟩
  have hg' : lives ([] : Hm) i := hi
  simp [lives, liveO] at hg'

theorem trodAll_stays (hl : laidOutB P = true) (hb : Below w.heap.size w w') : ∀ {ts : List TypeId} {vs : List Value} {ds : List (DataW H)} {ps : List MemPlace}, (∀ t ∈ ts, P.readableRec t = true ∧ t < P.types.size) →
    DataW.TrodAll enc P w 0 (fun _ => true) true ts vs ds ps → (∀ x ∈ ps, x.block < w.heap.size) → DataW.TrodAll enc P w' 0 (fun b => decide (b < w.heap.size)) true ts vs ds ps
  | [], [], [], _, _, h, _ => h
  | t :: ts, v :: vs, d :: ds, ps, hr, h, hlt => by
    obtain ⟨p, q, h1, h2, rfl⟩ := h
    exact ⟨p, q, Go.RowKit.Below.trod hl (hr t (by simp)).1 (hr t (by simp)).2 h1 hb (fun x hx => hlt x (List.mem_append_left _ hx)), trodAll_stays hl hb (fun u hu => hr u (List.mem_cons_of_mem _ hu)) h2 (fun x hx => hlt x (List.mem_append_right _ hx)), rfl⟩

end
end Go.Dor
end

section
/- THE LAWS OF A STEP'S LINE AND OF A LINE'S STEP, plain. -/
set_option linter.unusedVariables false
set_option linter.unusedSimpArgs false
namespace Go.Dor.Ky
open Go.Proofs

theorem vec_nats {n : Nat} (x : Vector Int n) (h : okD (.arr n (.int .u8)) x) : ∃ d : List Nat, x = vecN n d ∧ d.length = n ∧ ∀ y ∈ d, y < 256 := by
  have h : ∀ y ∈ x.toList, (Lit.int .u8 y).wf = true := h
  have hr : ∀ y ∈ x.toList, 0 ≤ y ∧ y < 256 := fun y hy => by
    have := h y hy
    simp only [Lit.wf, Bool.and_eq_true, decide_eq_true_eq] at this
    have a : IntKind.min .u8 = 0 := rfl
    have b : IntKind.max .u8 = 255 := rfl
    omega
  refine ⟨x.toList.map Int.toNat, ?_, by simp, fun y hy => ?_⟩
  · apply Vector.ext
    intro i hi
    rw [vecN_get hi]
    have hm : x[i] ∈ x.toList := by simp
    have := hr _ hm
    have e : (x.toList.map Int.toNat).getD i 0 = x[i].toNat := by simp [hi]
    rw [e]; omega
  · obtain ⟨z, hz, rfl⟩ := List.mem_map.1 hy
    have := hr z hz
    omega
theorem hexL_32 {d : List Nat} (hd : ∀ x ∈ d, x < 256) : (32 : UInt8) ∉ hexL d := by
  unfold hexL
  intro h
  rw [List.mem_flatMap] at h
  obtain ⟨c, hc, h⟩ := h
  have := hd c hc
  rcases List.mem_cons.1 h with h | h
  · exact dig_32 (n := c / 16) (by omega) h.symm
  · rcases List.mem_cons.1 h with h | h
    · exact dig_32 (n := c % 16) (by omega) h.symm
    · cases h
theorem txt_32 {d : List Nat} (hd : okL 32 d) : (32 : UInt8) ∉ txt d := by
  unfold txt
  split
  · intro h
    rcases List.mem_append.1 h with h | h
    · rcases List.mem_append.1 h with h | h
      · exact decN_32 _ h
      · simp at h
    · exact decN_32 _ h
  · exact hexL_32 hd.2
theorem hexS_32 (t : List UInt8) : (32 : UInt8) ∉ hexS t := by
  unfold hexS
  split
  · simp
  · exact hexL_32 (natsOf_lt t)
theorem wordZ_32 (e : Int) : (32 : UInt8) ∉ wordZ e := by
  unfold wordZ
  split
  · exact (word_at (by omega)).2.2.1
  · simp
theorem spl_line {e : Int} {d : List Nat} {t : List UInt8} (hd : okL 32 d) : wAt (spl 32 (lineC e d t)) 0 = wordZ e ∧ (¬ partZ e < 1 → wAt (spl 32 (lineC e d t)) 1 = txt d) ∧ (¬ partZ e < 2 → wAt (spl 32 (lineC e d t)) 2 = hexS t) := by
  unfold lineC
  by_cases h1 : partZ e < 1
  · have h2 : partZ e < 2 := by omega
    rw [if_pos h1, if_pos h2, List.append_nil, List.append_nil, spl_not (wordZ_32 e)]
    exact ⟨rfl, fun h => absurd h1 h, fun h => absurd h2 h⟩
  · rw [if_neg h1, List.cons_append, spl_app (wordZ_32 e)]
    by_cases h2 : partZ e < 2
    · rw [if_pos h2, List.append_nil, spl_not (txt_32 hd)]
      exact ⟨rfl, fun _ => rfl, fun h => absurd h2 h⟩
    · rw [if_neg h2, spl_app (txt_32 hd), spl_not (hexS_32 t)]
      exact ⟨rfl, fun _ => rfl, fun _ => rfl⟩
theorem parse_line {e : Int} {d : List Nat} {t : List UInt8} (hd : okL 32 d) (hm : mayC (e, vecN 32 d, t) = true) : parseC (lineC e d t) = ((e, vecN 32 d, t), 0) := by
  have hm2 := hm
  simp only [mayC, decide_eq_true_eq] at hm2
  obtain ⟨h0, h9, _, h2, h1⟩ := hm2
  obtain ⟨s0, s1, s2⟩ := spl_line (e := e) (t := t) hd
  have hk := kind_wordZ ⟨h0, h9⟩
  have hD : guessD (lineC e d t) = d := by
    unfold guessD
    rw [s0, hk]
    by_cases hp : partZ e < 1
    · rw [if_pos hp]
      have := h1 hp
      rw [Z0_vecN] at this
      exact (vecN_inj hd.1 zero_ok.1 this).symm
    · rw [if_neg hp, s1 hp, keyV_txt hd]
  have hT : guessT (lineC e d t) = t := by
    unfold guessT
    rw [s0, hk]
    by_cases hp : partZ e < 2
    · rw [if_pos hp, h2 hp]
    · rw [if_neg hp, s2 hp, bytR_hexS]
  unfold parseC
  rw [s0, hk, hD, hT, if_neg (by omega), if_pos ⟨hm, rfl⟩]
theorem parseC_cases (line : List UInt8) : (kindZ (wAt (spl 32 line) 0) < 0 ∧ parseC line = ((0, Z0, []), 15)) ∨ (¬ kindZ (wAt (spl 32 line) 0) < 0 ∧ parseC line = ((0, Z0, []), 6)) ∨
    (¬ kindZ (wAt (spl 32 line) 0) < 0 ∧ ∃ e d t, parseC line = ((e, vecN 32 d, t), 0) ∧ okL 32 d ∧ mayC (e, vecN 32 d, t) = true ∧ lineC e d t = line ∧ t.length ≤ line.length) := by
  unfold parseC
  by_cases h : kindZ (wAt (spl 32 line) 0) < 0
  · rw [if_pos h]; exact .inl ⟨h, rfl⟩
  · rw [if_neg h]
    by_cases h2 : okC line (kindZ (wAt (spl 32 line) 0)) (guessD line) (guessT line)
    · rw [if_pos h2]
      exact .inr (.inr ⟨h, _, _, _, rfl, guessD_ok line, h2.1, h2.2, guessT_len line⟩)
    · rw [if_neg h2]
      exact .inr (.inl ⟨h, rfl⟩)
theorem lineC_len {e : Int} {d : List Nat} {t : List UInt8} (hd : okL 32 d) : (lineC e d t).length ≤ 77 + 2 * t.length := by
  have := wordZ_len e
  have := txt_len hd
  have := hexS_len t
  unfold lineC
  rw [List.length_append, List.length_append]
  split <;> split <;> simp only [List.length_nil, List.length_cons] <;> omega
theorem texts_j0 {e : Int} {d : List Nat} {t : List UInt8} (hd : okL 32 d) (ht : t.length ≤ 500 ∨ 70000 < t.length) : p_dormouselaw38_CmdTexts.j0 2000 false (e, vecN 32 d, t) = some true := by
  have ht2 : mayC (e, vecN 32 d, t) = true → t.length < 2000 := by
    intro h
    simp only [mayC, decide_eq_true_eq] at h
    omega
  unfold p_dormouselaw38_CmdTexts.j0 joinC
  dsimp only
  rw [cond_false, Text_eq (by omega) hd ht2, Option.bind_some, May_eq, Option.bind_some, Check_eq, Option.bind_some]
  by_cases hm : mayC (e, vecN 32 d, t) = true
  · have e0 : ((0 : Int) == 0) = true := rfl
    have hm2 := hm
    simp only [mayC, decide_eq_true_eq] at hm2
    have hl := lineC_len (e := e) (t := t) hd
    simp only [hm, if_true]
    rw [e0, Bool.not_true, cond_false, Parse_eq (by omega), Option.bind_some, parse_line hd hm, awake38, Option.bind_some, cond_true, cond_true, Line_eq (by omega) hd (by omega) (by omega) ⟨hm2.1, hm2.2.1⟩, Option.bind_some]
    unfold p_dormouselaw38_CmdTexts.j2
    simp
  · have hm' : mayC (e, vecN 32 d, t) = false := by simpa using hm
    have e0 : ((2 : Int) == 0) = false := rfl
    simp only [hm', Bool.false_eq_true, if_false]
    rw [e0, awake38, Option.bind_some]
    rfl
theorem law_CmdTexts (x : Int × Vector Int 32 × List UInt8) (hx : okD (.pair (.int .i64) (.pair (.arr 32 (.int .u8)) .str)) x) : p_dormouselaw38_CmdTexts 2000 x = some true := by
  obtain ⟨e, v, t⟩ := x
  obtain ⟨d, rfl, h1, h2⟩ := vec_nats v hx.2.1
  have hd : okL 32 d := ⟨h1, h2⟩
  have hj : ∀ y, p_dormouselaw38_CmdTexts.j0 2000 true y = some true := by
    intro y
    unfold p_dormouselaw38_CmdTexts.j0
    rw [cond_true, awake38]; rfl
  unfold p_dormouselaw38_CmdTexts joinC
  dsimp only
  by_cases g1 : (t.length : Int) > 500
  · rw [decide_eq_true g1, cond_true]
    by_cases g2 : (t.length : Int) ≤ 70000
    · rw [decide_eq_true g2, cond_true]; exact hj _
    · rw [decide_eq_false g2, cond_false]
      by_cases g3 : (t.length : Int) > 71000
      · rw [decide_eq_true g3]; exact hj _
      · rw [decide_eq_false g3]; exact texts_j0 hd (by omega)
  · rw [decide_eq_false g1, cond_false, decide_eq_false (by omega)]
    exact texts_j0 hd (by omega)
end Go.Dor.Ky
end

section
/- THE LAW OF A LINE'S STEP, plain. -/
set_option linter.unusedVariables false
set_option linter.unusedSimpArgs false
namespace Go.Dor.Ky
open Go.Proofs

theorem known_loop {k' : Nat} {w : List UInt8} : ∀ (m i fuel : Nat), i + m = 10 → m < fuel →
    loopC (fun (r : List UInt8 × Int → Option Bool) y => p_dormouseref38_Known.b2 k' (fun _ => p_dormouseref38_Known.j1 k') r y.1 y.2) fuel (w, (i : Int)) = some (!decide (kindF w m i < 0))
  | 0, i, fuel + 1, h, _ => by
    unfold loopC
    dsimp only
    unfold p_dormouseref38_Known.b2 p_dormouseref38_Known.j1
    rw [decide_eq_false (by omega), cond_false]
    rfl
  | m + 1, i, fuel + 1, h, hf => by
    have ih := known_loop (k' := k') (w := w) m (i + 1) fuel (by omega) (by omega)
    unfold loopC
    dsimp only
    generalize loopC (fun (r : List UInt8 × Int → Option Bool) y => p_dormouseref38_Known.b2 k' (fun _ => p_dormouseref38_Known.j1 k') r y.1 y.2) fuel = rec at *
    unfold p_dormouseref38_Known.b2
    have e2 : IntKind.wrap .i64 ((i : Int) + 1) = ((i + 1 : Nat) : Int) := by rw [wrap_i64 (by omega)]; omega
    rw [decide_eq_true (by omega), cond_true, (word_at (by omega)).2.2.2.2.2, Option.bind_some, e2, kindF]
    by_cases e : wordN i = w
    · rw [if_pos e, e, decide_eq_false (by omega)]; simp
    · have e' : (wordN i == w) = false := by simpa using e
      rw [if_neg e, e', cond_false, ih]
theorem known_j0 {w : List UInt8} : p_dormouseref38_Known.j0 2000 w = some (!decide (kindZ w < 0)) := by
  unfold p_dormouseref38_Known.j0 joinC
  exact known_loop 10 0 2000 (by omega) (by omega)
/-- the letters ahead of the first blank -/
def fw (l : List UInt8) : List UInt8 := l.takeWhile fun c => c != 32
theorem spl_head : ∀ (s : List UInt8), wAt (spl 32 s) 0 = fw s
  | [] => rfl
  | x :: s => by
    have ih := spl_head s
    unfold fw at ih ⊢
    rw [spl, List.takeWhile_cons]
    by_cases e : x = 32
    · rw [if_pos e, e]; rfl
    · have e' : (x != 32) = true := by simpa using e
      rw [if_neg e, e', if_pos rfl, ← ih]
      cases spl 32 s with
      | nil => rfl
      | cons y z => rfl
theorem fw_loop {l : List UInt8} (hl : l.length < 2000) : ∀ (m i fuel : Nat) (w : List UInt8), i + m = l.length → m < fuel → w.length ≤ i →
    loopC (fun (r : List UInt8 × List UInt8 × Int → Option Bool) y => p_dormouseref38_Known.b3 2000 (p_dormouseref38_Known.j0 2000) r y.1 y.2.1 y.2.2) fuel (l, w, (i : Int)) = p_dormouseref38_Known.j0 2000 (w ++ fw (l.drop i))
  | 0, i, fuel + 1, w, h, _, _ => by
    unfold loopC
    dsimp only
    unfold p_dormouseref38_Known.b3 joinC p_dormouseref38_Known.j4
    rw [decide_eq_false (by omega), List.drop_of_length_le (by omega)]
    unfold fw
    rw [List.takeWhile_nil, List.append_nil]
    rfl
  | m + 1, i, fuel + 1, w, h, hf, hw => by
    have hi : i < l.length := by omega
    have ih := fun w hw => fw_loop hl m (i + 1) fuel w (by omega) (by omega) hw
    unfold loopC
    dsimp only
    generalize loopC (fun (r : List UInt8 × List UInt8 × Int → Option Bool) y => p_dormouseref38_Known.b3 2000 (p_dormouseref38_Known.j0 2000) r y.1 y.2.1 y.2.2) fuel = rec at *
    unfold p_dormouseref38_Known.b3 joinC p_dormouseref38_Known.j4
    have e2 : IntKind.wrap .i64 ((i : Int) + 1) = ((i + 1 : Nat) : Int) := by rw [wrap_i64 (by omega)]; omega
    have hb : bat l (i : Int) = ((l[i].toNat : Nat) : Int) := by rw [bat_byt, byt, List.getD_eq_getElem?_getD, List.getElem?_eq_getElem hi]; rfl
    have hs : sub_ l (i : Int) ((i + 1 : Nat) : Int) = [l[i]] := by
      unfold sub_
      rw [Int.toNat_natCast, Int.toNat_natCast, List.take_succ_eq_append_getElem hi, List.drop_append_of_le_length (by rw [List.length_take]; omega), List.drop_of_length_le (by rw [List.length_take]; omega)]
      rfl
    dsimp only
    rw [decide_eq_true (by omega), cond_true, need_yes (by omega), hb, e2, hs, List.drop_eq_getElem_cons hi]
    unfold fw
    rw [List.takeWhile_cons]
    by_cases e : l[i] = 32
    · have e' : (((l[i].toNat : Nat) : Int) != 32) = false := by rw [e]; rfl
      have e3 : (l[i] != 32) = false := by rw [e]; rfl
      rw [e', e3]
      rw [cond_false, if_neg (by simp), List.append_nil]
    · have hne : l[i].toNat ≠ 32 := fun h => e (UInt8.toNat_inj.1 h)
      have e' : (((l[i].toNat : Nat) : Int) != 32) = true := by simp only [bne_iff_ne, ne_eq]; omega
      have e3 : (l[i] != 32) = true := by simpa using e
      rw [e', e3]
      rw [cond_true, if_pos rfl, need_yes (by omega), need_yes (by simp only [List.length_cons, List.length_nil]; omega), ih _ (by simp only [List.length_append, List.length_cons, List.length_nil]; omega)]
      unfold fw
      rw [List.append_assoc]
      rfl
theorem Known_eq {l : List UInt8} (hl : l.length < 1900) : p_dormouseref38_Known 2000 l = some (!decide (kindZ (wAt (spl 32 l) 0) < 0)) := by
  unfold p_dormouseref38_Known joinC
  have := fw_loop (l := l) (by omega) l.length 0 2000 [] (by omega) (by omega) (by simp)
  rw [List.nil_append, List.drop_zero, ← spl_head, known_j0] at this
  exact this
theorem law_CmdParses (l : List UInt8) : p_dormouselaw38_CmdParses 2000 l = some true := by
  unfold p_dormouselaw38_CmdParses joinC
  by_cases h1 : ((l.length : Nat) : Int) > 500
  · rw [decide_eq_true h1, cond_true, awake38]; rfl
  · rw [decide_eq_false h1, cond_false, Parse_eq (by omega), Option.bind_some]
    have hz : Vector.replicate (32 : Nat) (dflt (T.int IntKind.u8)) = Z0 := rfl
    rcases parseC_cases l with ⟨hk, h⟩ | ⟨hk, h⟩ | ⟨hk, e, d, t, h, hd, hm, hl, ht⟩
    · rw [h, Known_eq (by omega), awake38, decide_eq_true hk, hz]
      simp [p_dormouselaw38_CmdParses.j0]
    · rw [h, Known_eq (by omega), awake38, decide_eq_false hk, hz]
      simp [p_dormouselaw38_CmdParses.j0]
    · have hm2 := hm
      simp only [mayC, decide_eq_true_eq] at hm2
      have e0 : ((0 : Int) != 0) = false := rfl
      rw [h]
      dsimp only
      rw [e0, cond_false, awake38, Option.bind_some, cond_true, May_eq, Option.bind_some, hm, cond_true, Line_eq (by omega) hd (by omega) (by omega) ⟨hm2.1, hm2.2.1⟩, Option.bind_some, hl]
      unfold p_dormouselaw38_CmdParses.j1
      simp
end Go.Dor.Ky
end

section
/- AN ARGUMENT OF A LAW, as data of its type: numbers fit, the value reads as the data. -/
namespace Go.Dor
section
variable {H : Type} {enc' : TypeId × Value → H} {P : Program} {w : World}

def vOf : (c : T) → den c → V
  | .int k, n => .one (.i k n)
  | .bool, x => .one (.b x)
  | .str, l => .one (.s l)
  | .flt k, n => .one (.f k n)
  | .sl e, xs => .one (.ro e xs)
  | .unit, x => .ag (enc .unit x)
  | .pair a b, x => .ag (enc (.pair a b) x)
  | .arr n e, x => .ag (enc (.arr n e) x)

def aggT : T → Bool
  | .unit | .pair .. | .arr .. => true
  | _ => false

theorem okWide_agg {t : TypeId} {r : Reach} {base : Nat} {v : Value} (hv : Value.okWide P w r base t v) (hg : (∃ fs, P.underlying t = some (.struct fs)) ∨ ∃ m e, P.underlying t = some (.array m e)) : ∃ cs, v = .agg cs := by
  rcases hg with ⟨fs, hg⟩ | ⟨m, e, hg⟩ <;>
  · simp only [Value.okWide, hg] at hv
    obtain ⟨cs, h1, _⟩ := hv
    exact ⟨cs, h1⟩

theorem one_cells {v : Value} (h : ∀ cs, v ≠ .agg cs) : v.cells.toList = [v] := by
  cases v <;> first | rfl | exact absurd rfl (h _)

theorem arg_rv {t : TypeId} {v : Value} {d : DataW H} {p : List MemPlace} {c : T} (hag : (match P.underlying t with | some (.struct _) | some (.array _ _) => true | _ => false) = aggT c)
    (h : DataW.Trod enc' P w 0 (fun _ => true) true t v d p) (hc : codeT P depth t = some c) (ht : tiled P depth t = true) {r : Reach} {base : Nat} (hv : Value.okWide P w r base t v) : ∃ a : den c, Rv (m0 w) (vOf c a) v ∧ okD c a := by
  obtain ⟨a, ha, hk⟩ := arg_ok h hc ht
  refine ⟨a, ?_, hk⟩
  cases hx : aggT c with
  | true =>
    rw [hx] at hag
    have hcs : ∃ cs, v = .agg cs := by
      split at hag
      · rename_i fs hu; exact okWide_agg hv (.inl ⟨_, hu⟩)
      · rename_i m e hu; exact okWide_agg hv (.inr ⟨_, _, hu⟩)
      · cases hag
    obtain ⟨cs, hcs⟩ := hcs
    cases c <;> first | exact rv_ag hcs ha | cases hx
  | false =>
    rw [hx] at hag
    have hne : ∀ cs, v ≠ .agg cs := by
      rintro cs rfl
      split at hag
      · cases hag
      · cases hag
      · rename_i h1 h2
        unfold Value.okWide at hv
        split at hv
        · rename_i hu; exact h1 _ hu
        · rename_i hu; exact h2 _ _ hu
        · unfold Cell.okWide at hv
          cases hu : P.underlying t with
          | none => rw [hu] at hv; simp [Cell.ok, hu] at hv
          | some u => cases u <;> simp_all [Cell.ok]
    rw [one_cells hne] at ha
    cases c <;> first | exact ha | cases hx
end
end Go.Dor
end

section
/- CmdParses AT EVERY INPUT: true; each argument reads behind the call as it read before. No condition but the row's own. -/
namespace Go.Proofs.YtlejphdgfoejaaaDoor
open Go.ChangeShapes Go.WideShapes Go.ChangeAt Go.RowKit

theorem cmdParses_ownNone : ownKnob Tryd.prog.godebug = none := by kernel_rfl
theorem cmdParses_laidOk : laidOutB Tryd.prog = true := by kernel_rfl
/-- A world that meets the condition: the listed variables' cells laid. -/
noncomputable def cmdParses_laidWorld (os : Os) : World :=
  let w0 := World.holding Tryd.prog os ⟨#[], #[], []⟩
  let put (h : Array Obj) (g : Nat) (cs : Array Value) : Array Obj := h.modify g fun
    | .cells _ t frozen => .cells cs t frozen
    | o => o
  let h1 := put w0.heap 1 (Go.Pinned.utf8FirstZ.map fun (z : Nat) => Value.int .u8 (z : Int)).toArray
  let h2 := put h1 2 (([128, 191, 160, 191, 128, 159, 144, 191, 128, 143, 0, 0, 0, 0, 0, 0, 0, 0, 0, 0, 0, 0, 0, 0, 0, 0, 0, 0, 0, 0, 0, 0] : List Int).map fun z => Value.int .u8 z).toArray
  { w0 with heap := h2 }
set_option maxRecDepth 100000 in
theorem cmdParses_laid_met (os : Os) (args : Array Value) : laidMet Tryd.prog Rows.cmdParsesRow.laid ((cmdParses_laidWorld os).forCall (fun _ _ => 0) ⟨#[], args, []⟩).memory :=
  (LaidIn.of_run [1, 2] 8 (by kernel_rfl) (by kernel_rfl) (by kernel_rfl) (by kernel_rfl)).met
set_option maxRecDepth 100000 in
theorem cmdParses_laidWorld_met (os : Os) (args : Array Value) : laidMetH Tryd.prog Rows.cmdParsesRow.laid ((cmdParses_laidWorld os).forCall (fun _ _ => 0) ⟨#[], args, []⟩).memory :=
  cmdParses_laid_met os args
set_option maxRecDepth 100000 in
theorem cmdParses_lifted (os : Os) (started : os.Started) (H : Type) (enc : TypeId × Value → H) :
    ReturnsInHanded {} Tryd.checked os 7 .any (fun w args => (Rows.cmdParsesSpec.pre enc Tryd.prog Tryd.f7 [] false w args ∧ laidMetH Tryd.prog Rows.cmdParsesRow.laid w) ∧ sizedMet enc Tryd.prog Tryd.f7 (OpenSpec.ofChange Rows.cmdParsesSpec) false w args) (Rows.cmdParsesSpec.post enc Tryd.prog Tryd.f7 false true false false) := by
  refine returnsInHanded_of_change_and (C := Tryd.checked) (X := fun w _ => laidMetH Tryd.prog Rows.cmdParsesRow.laid w) (fun _ _ _ hh h => h.of_heap hh) cmdParses_ownNone started (by kernel_rfl) Tryd.func7
    (ChangeSpec.witness_at (enc := enc) (C := Tryd.checked) (os := os) (X := fun w _ => laidMetH Tryd.prog Rows.cmdParsesRow.laid w) false (cmdParses_laidWorld os) #[.string ⟨#[]⟩] 8 rfl (by kernel_rfl) (by kernel_rfl) (by kernel_rfl) (by kernel_rfl) (by kernel_rfl) (cmdParses_laidWorld_met os _)) ?_
  intro W base args ds gs before hval0 hW _ _ _ _
  have hval : ∀ (j : Nat) t v, Tryd.f7.params[j]? = some t → args[j]? = some v → Value.okWide Tryd.prog W .any base t v := hval0
  have hW' := hW
  obtain ⟨p, q, hA0, hV, rfl, _, _⟩ := hW
  have hA : DataW.TrodAll enc Tryd.prog W 0 (fun _ => true) true Tryd.f7.params.toList args.toList ds p := hA0
  have hA2 := hA
  rw [Tryd.params7] at hA hval
  obtain ⟨rfl, rfl⟩ := trodVars_none hV
  simp only [List.append_nil] at hW'
  have hlt : ∀ x ∈ p, x.block < W.heap.size := fun x hx => by simpa using hW'.lt x hx
  obtain ⟨v0, d0, rfl, rfl, h0⟩ := trodAll_one hA
  obtain ⟨a0, r0, k0⟩ := Dor.arg_rv (c := .str) (by kernel_rfl) h0 (by kernel_rfl) (by kernel_rfl) (hval 0 _ v0 rfl rfl)
  have hk := Dor.Ky.law_CmdParses a0
  refine (Dor.law_calls (Dor.s_dormouselaw38_CmdParses 2000) (vals := [v0]) (x := a0) (w := W) ⟨r0, trivial⟩ hk).mono fun e W' ⟨he, hnx⟩ => ⟨_, he, ?_⟩
  refine ⟨_, _, _, [] ++ [], p, [], hW', trodAll_mk1 (shut_bool (by kernel_rfl) true), ?_, rfl, hnx.frame _, fun h => by cases h⟩
  exact Dor.trodAll_stays cmdParses_laidOk hnx (by decide +kernel) hA2 hlt

theorem cmdParses_holds : Rows.CmdParsesSaid :=
  OpenClaim.holds_of_wide 7 Tryd.f7 rfl rfl rfl rfl rfl rfl rfl ⟨rfl, rfl, rfl, rfl, rfl⟩ rfl rfl rfl rfl rfl (by kernel_rfl) Tryd.func7 (by kernel_rfl)
    (of_decide_eq_true (by kernel_rfl)) (by unfold Func.isWrapper; first | (rw [if_pos (by decide +kernel)]; kernel_rfl) | (rw [if_neg (by decide +kernel)]; exact ⟨rfl, rfl⟩))
    (fun os started H enc _ => cmdParses_lifted os started H enc)

theorem cmdParses_card : Rows.CmdParsesCardSaid :=
  Claim7.holds_tied_plain_at .later [] [.data, .pinned] true (true, "a7d258ae0b702be9d261bb6c8bd45ae7ef8974bff8ff2809bc8c206916b8e966") false
    cmdParses_holds (fun _ h => by cases h) (by kernel_rfl) (fun _ h => by cases h) cmdParses_row_tie rfl ⟨rfl, rfl⟩ (by kernel_rfl) rfl
    (fun f fn hf hfn => by
      obtain rfl : f = 7 := Option.some.inj ((show Tryd.prog.funcNamed "dormouse/dormouselaw38.CmdParses" = some 7 by kernel_rfl).symm.trans hf) |>.symm
      obtain rfl : fn = Tryd.f7 := (Option.some.inj (Tryd.func7.symm.trans hfn)).symm
      exact ⟨by kernel_rfl, fun j t ht => by
        have h3 : (Tryd.f7.params.toList.all fun t => !Tryd.prog.wantsStandIn t) = true := by kernel_rfl
        have hm : t ∈ Tryd.f7.params.toList := by rw [Array.mem_toList_iff]; exact Array.mem_of_getElem? ht
        exact (show Tryd.prog.wantsStandIn t = false by simpa using List.all_eq_true.1 h3 t hm)⟩)
    (by kernel_rfl)

end Go.Proofs.YtlejphdgfoejaaaDoor
end
