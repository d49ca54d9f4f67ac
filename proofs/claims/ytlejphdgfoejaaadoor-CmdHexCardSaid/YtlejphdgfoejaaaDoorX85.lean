/- THE ROW, AND WHAT IT STANDS ON: the texts Wc Ra Zl Zm R8, one behind the other. -/
import Derived.Test.YtlejphdgfoejaaaDoorX84
import Derived.KernelRfl
import Derived.Test.YtlejphdgfoejaaaDoorX83
import Derived.ProofKit
import Derived.OpenShut
import Derived.WideShapes
import Derived.Test.YtlejphdgfoejaaaDoorRows
import Derived.SizedLaws
import Derived.ChangeSame
import Derived.ChangeVars
import Derived.JoinedOf
import Derived.LaidLaws
import Derived.LaidHandle
import Derived.Lib.LaidIn
import Derived.Handed
import Derived.Test.YtlejphdgfoejaaaDoorTie
import Derived.Test.YtlejphdgfoejaaaDoorCards
import Derived.SevenTiedAt
section
/- The functions that the law calls, as the machine shows them. -/
namespace Go.Dor
open Go.Proofs
set_option maxRecDepth 100000
set_option linter.unusedVariables false
noncomputable section

/- dormouse/cmd.Parse$1: function 46 -/
noncomputable def p_cmd_Parse_c1 (x119 : Int) (x120 : List (List UInt8)) : Option (List UInt8) :=
  bif (decide (x119 < (↑(List.length x120) : Int))) then need ((0 : Int) ≤ x119 ∧ x119 < (↑(List.length x120) : Int)) (some (at_ (dflt T.str) x120 x119)) else some []
noncomputable def e_cmd_Parse_c1 : Entry := ⟨Ds.mk [Vd.one (Ld.im (T.int IntKind.i64)), Vd.one (Ld.ptr (0) (0))] [Od.rdT (67) (T.sl T.str)], Ds.mk [Vd.one (Ld.im T.str)] [Od.gone], fun x => p_cmd_Parse_c1 x.1 x.2⟩
noncomputable def c_cmd_Parse_c1 : Cx := ⟨Tryd.prog, [], [], [], [], [], 1, 12, [(76, 0), (83, 1)], fun _ _ _ => none⟩
theorem q_cmd_Parse_c1 (x : HL (e_cmd_Parse_c1).pre.ts) : runF (c_cmd_Parse_c1) 0 Tryd.f46 (e_cmd_Parse_c1).pre (e_cmd_Parse_c1).post x = (e_cmd_Parse_c1).fn x := by kernel_rfl
theorem s_cmd_Parse_c1 : Entry.Sound Tryd.prog 46 (e_cmd_Parse_c1) := runF_sound (X := c_cmd_Parse_c1) (pre := (e_cmd_Parse_c1).pre) (post := (e_cmd_Parse_c1).post) (q := (e_cmd_Parse_c1).fn) ⟨dOk_nil, x_ext, x_mo⟩ Tryd.func46 (q_cmd_Parse_c1)

/- dormouse/cmd.word: function 43 -/
noncomputable def p_cmd_word (x131 : Int) : Option (List UInt8) :=
  bif (x131 == (0 : Int)) then some ([(103 : UInt8), (101 : UInt8), (116 : UInt8)]) else bif (x131 == (1 : Int)) then some ([(112 : UInt8), (117 : UInt8), (116 : UInt8)]) else bif (x131 == (2 : Int)) then some ([(100 : UInt8), (101 : UInt8), (108 : UInt8), (101 : UInt8), (116 : UInt8), (101 : UInt8)]) else bif (x131 == (3 : Int)) then some ([(116 : UInt8), (111 : UInt8), (117 : UInt8), (99 : UInt8), (104 : UInt8)]) else bif (x131 == (4 : Int)) then some ([(114 : UInt8), (111 : UInt8), (108 : UInt8), (108 : UInt8)]) else bif (x131 == (5 : Int)) then some ([(114 : UInt8), (101 : UInt8), (115 : UInt8), (117 : UInt8), (114 : UInt8), (114 : UInt8), (101 : UInt8), (99 : UInt8), (116 : UInt8)]) else bif (x131 == (6 : Int)) then some ([(99 : UInt8), (111 : UInt8), (109 : UInt8), (109 : UInt8), (105 : UInt8), (116 : UInt8)]) else bif (x131 == (7 : Int)) then some ([(97 : UInt8), (98 : UInt8), (111 : UInt8), (114 : UInt8), (116 : UInt8)]) else bif (x131 == (8 : Int)) then some ([(111 : UInt8), (112 : UInt8), (101 : UInt8), (110 : UInt8)]) else bif (x131 == (9 : Int)) then some ([(98 : UInt8), (97 : UInt8), (99 : UInt8), (107 : UInt8)]) else some []
noncomputable def e_cmd_word : Entry := ⟨Ds.mk [Vd.one (Ld.im (T.int IntKind.i64))] [], Ds.mk [Vd.one (Ld.im T.str)] [], fun x => p_cmd_word x⟩
noncomputable def c_cmd_word : Cx := ⟨Tryd.prog, [], [], [], [], [], 0, 24, [(76, 0), (83, 1)], fun _ _ _ => none⟩
theorem q_cmd_word (x : HL (e_cmd_word).pre.ts) : runF (c_cmd_word) 0 Tryd.f43 (e_cmd_word).pre (e_cmd_word).post x = (e_cmd_word).fn x := by kernel_rfl
theorem s_cmd_word : Entry.Sound Tryd.prog 43 (e_cmd_word) := runF_sound (X := c_cmd_word) (pre := (e_cmd_word).pre) (post := (e_cmd_word).post) (q := (e_cmd_word).fn) ⟨dOk_nil, x_ext, x_mo⟩ Tryd.func43 (q_cmd_word)

/- dormouse/cmd.kind: function 47 -/
noncomputable def p_cmd_kind.j0 (k : Nat) : Option Int :=
  some (-1 : Int)
noncomputable def p_cmd_kind.b1 (k : Nat) (j139 : Unit → Option Int) (rec137 : List UInt8 × Int → Option Int) (x134 : List UInt8) (x135 : Int) : Option Int :=
  bif (decide (x135 < (10 : Int))) then Option.bind (p_cmd_word x135) fun t136 => bif (t136 == x134) then some x135 else rec137 (x134, IntKind.wrap IntKind.i64 (x135 + (1 : Int))) else j139 ()
noncomputable def p_cmd_kind (k : Nat) (x133 : List UInt8) : Option Int :=
  joinC (fun (y : Unit) => p_cmd_kind.j0 k) fun (j139 : Unit → Option Int) => loopC (fun (r : List UInt8 × Int → Option Int) y => p_cmd_kind.b1 k j139 r y.1 y.2) k (x133, (0 : Int))
noncomputable def e_cmd_kind (k : Nat) : Entry := ⟨Ds.mk [Vd.one (Ld.im T.str)] [], Ds.mk [Vd.one (Ld.im (T.int IntKind.i64))] [], fun x => p_cmd_kind k x⟩
noncomputable def c_cmd_kind (k : Nat) : Cx := ⟨Tryd.prog, [(43, e_cmd_word)], [(7, Sd.mk [] (Ds.mk [] []))], [], [(2, Sd.mk [0, 4] (Ds.mk [Vd.one (Ld.im T.str), Vd.one (Ld.im (T.int IntKind.i64))] []))], [], 0, 13, [(76, 0), (83, 1)], fun _ _ _ => none⟩
theorem q_cmd_kind (k : Nat) (x : HL (e_cmd_kind k).pre.ts) : runF (c_cmd_kind k) k Tryd.f47 (e_cmd_kind k).pre (e_cmd_kind k).post x = (e_cmd_kind k).fn x := by kernel_rfl
theorem s_cmd_kind (k : Nat) : Entry.Sound Tryd.prog 47 (e_cmd_kind k) := runF_sound (X := c_cmd_kind k) (pre := (e_cmd_kind k).pre) (post := (e_cmd_kind k).post) (q := (e_cmd_kind k).fn) ⟨(dOk_cons (s_cmd_word) dOk_nil), x_ext, x_mo⟩ Tryd.func47 (q_cmd_kind k)

/- dormouse/cmd.parts: function 45 -/
noncomputable def p_cmd_parts.j0 (x158 : Int) : Option Int :=
  some x158
noncomputable def p_cmd_parts.j1 (j159 : Int → Option Int) (x155 : Int) : Option Int :=
  j159 (IntKind.wrap IntKind.i64 (x155 + (1 : Int)))
noncomputable def p_cmd_parts.j2 (j156 : Int → Option Int) (x152 : Int) : Option Int :=
  j156 (IntKind.wrap IntKind.i64 (x152 + (1 : Int)))
noncomputable def p_cmd_parts.j3 (j156 : Int → Option Int) (j159 : Int → Option Int) (x148 : Int) (x149 : Int) : Option Int :=
  bif (x149 == (0 : Int)) then bif (x149 == (0 : Int)) then j156 x148 else j159 x148 else bif (x149 == (2 : Int)) then bif (x149 == (2 : Int)) then j156 x148 else j159 x148 else bif (x149 == (3 : Int)) then bif (x149 == (3 : Int)) then j156 x148 else j159 x148 else bif (x149 == (9 : Int)) then j156 x148 else j159 x148
noncomputable def p_cmd_parts (x147 : Int) : Option Int :=
  joinC (p_cmd_parts.j0) fun (j159 : Int → Option Int) => joinC (p_cmd_parts.j1 j159) fun (j156 : Int → Option Int) => joinC (p_cmd_parts.j2 j156) fun (j153 : Int → Option Int) => joinC (fun (y : Int × Int) => p_cmd_parts.j3 j156 j159 y.1 y.2) fun (j150 : Int × Int → Option Int) => bif (x147 == (1 : Int)) then bif (x147 == (1 : Int)) then j153 (0 : Int) else j150 ((0 : Int), x147) else bif (x147 == (5 : Int)) then j153 (0 : Int) else j150 ((0 : Int), x147)
noncomputable def e_cmd_parts : Entry := ⟨Ds.mk [Vd.one (Ld.im (T.int IntKind.i64))] [], Ds.mk [Vd.one (Ld.im (T.int IntKind.i64))] [], fun x => p_cmd_parts x⟩
noncomputable def c_cmd_parts : Cx := ⟨Tryd.prog, [], [(5, Sd.mk [3, 4] (Ds.mk [Vd.one (Ld.im (T.int IntKind.i64)), Vd.one (Ld.im (T.int IntKind.i64))] [])), (9, Sd.mk [3] (Ds.mk [Vd.one (Ld.im (T.int IntKind.i64))] [])), (10, Sd.mk [3] (Ds.mk [Vd.one (Ld.im (T.int IntKind.i64))] [])), (11, Sd.mk [3] (Ds.mk [Vd.one (Ld.im (T.int IntKind.i64))] []))], [], [], [], 0, 18, [(76, 0), (83, 1)], fun _ _ _ => none⟩
theorem q_cmd_parts (x : HL (e_cmd_parts).pre.ts) : runF (c_cmd_parts) 0 Tryd.f45 (e_cmd_parts).pre (e_cmd_parts).post x = (e_cmd_parts).fn x := by kernel_rfl
theorem s_cmd_parts : Entry.Sound Tryd.prog 45 (e_cmd_parts) := runF_sound (X := c_cmd_parts) (pre := (e_cmd_parts).pre) (post := (e_cmd_parts).post) (q := (e_cmd_parts).fn) ⟨dOk_nil, x_ext, x_mo⟩ Tryd.func45 (q_cmd_parts)

/- dormouse/key.number: function 61 -/
noncomputable def p_key_number.j0 (k : Nat) (x201 : Int) : Option Int :=
  some x201
noncomputable def p_key_number.b1 (k : Nat) (j202 : Int → Option Int) (rec199 : List UInt8 × Int × Int × Int → Option Int) (x194 : List UInt8) (x195 : Int) (x196 : Int) (x197 : Int) : Option Int :=
  bif (decide (x197 < x196)) then need ((0 : Int) ≤ x197 ∧ x197 < (↑(List.length x194) : Int)) (rec199 (x194, IntKind.wrap IntKind.u64 (IntKind.wrap IntKind.u64 ((10 : Int) * x195) + Int.tmod (IntKind.wrap IntKind.u64 (IntKind.wrap IntKind.u8 (bat x194 x197 - (48 : Int)))) (10 : Int)), x196, IntKind.wrap IntKind.i64 (x197 + (1 : Int)))) else j202 x195
noncomputable def p_key_number (k : Nat) (x193 : List UInt8) : Option Int :=
  joinC (p_key_number.j0 k) fun (j202 : Int → Option Int) => loopC (fun (r : List UInt8 × Int × Int × Int → Option Int) y => p_key_number.b1 k j202 r y.1 y.2.1 y.2.2.1 y.2.2.2) k (x193, (0 : Int), (↑(List.length x193) : Int), (0 : Int))
noncomputable def e_key_number (k : Nat) : Entry := ⟨Ds.mk [Vd.one (Ld.im T.str)] [], Ds.mk [Vd.one (Ld.im (T.int IntKind.u64))] [], fun x => p_key_number k x⟩
noncomputable def c_key_number (k : Nat) : Cx := ⟨Tryd.prog, [], [(7, Sd.mk [3] (Ds.mk [Vd.one (Ld.im (T.int IntKind.u64))] []))], [], [(3, Sd.mk [0, 3, 6, 7] (Ds.mk [Vd.one (Ld.im T.str), Vd.one (Ld.im (T.int IntKind.u64)), Vd.one (Ld.im (T.int IntKind.i64)), Vd.one (Ld.im (T.int IntKind.i64))] []))], [], 0, 21, [(76, 0), (83, 1)], fun _ _ _ => none⟩
theorem q_key_number (k : Nat) (x : HL (e_key_number k).pre.ts) : runF (c_key_number k) k Tryd.f61 (e_key_number k).pre (e_key_number k).post x = (e_key_number k).fn x := by kernel_rfl
theorem s_key_number (k : Nat) : Entry.Sound Tryd.prog 61 (e_key_number k) := runF_sound (X := c_key_number k) (pre := (e_key_number k).pre) (post := (e_key_number k).post) (q := (e_key_number k).fn) ⟨dOk_nil, x_ext, x_mo⟩ Tryd.func61 (q_key_number k)

/- dormouse/wide.Num: function 73 -/
noncomputable def p_wide_Num.j0 (k : Nat) (x223 : Int) (x224 : Vector Int (8)) : Option (List UInt8) :=
  need ((0 : Int) ≤ (0 : Int) ∧ (0 : Int) ≤ x223 ∧ x223 ≤ (↑(8 : Nat) : Int)) (some (bytesOf (sub_ (Vector.toList x224) (0 : Int) x223)))
noncomputable def p_wide_Num.b1 (k : Nat) (j226 : Int × Vector Int (8) → Option (List UInt8)) (rec221 : Int × Int × Int × Int × Vector Int (8) → Option (List UInt8)) (x215 : Int) (x216 : Int) (x217 : Int) (x218 : Int) (x219 : Vector Int (8)) : Option (List UInt8) :=
  bif (decide (x218 < x217)) then need ((0 : Int) ≤ x218 ∧ x218 < (↑(8 : Nat) : Int)) (rec221 (ishr IntKind.u64 x215 (8 : Int), x216, x217, IntKind.wrap IntKind.i64 (x218 + (1 : Int)), vset x219 x218 (IntKind.wrap IntKind.u8 x215))) else j226 (x216, x219)
noncomputable def p_wide_Num (k : Nat) (x213 : Int) (x214 : Int) : Option (List UInt8) :=
  joinC (fun (y : Int × Vector Int (8)) => p_wide_Num.j0 k y.1 y.2) fun (j226 : Int × Vector Int (8) → Option (List UInt8)) => loopC (fun (r : Int × Int × Int × Int × Vector Int (8) → Option (List UInt8)) y => p_wide_Num.b1 k j226 r y.1 y.2.1 y.2.2.1 y.2.2.2.1 y.2.2.2.2) k (x213, Min.min (Max.max x214 (0 : Int)) (8 : Int), Min.min (Max.max x214 (0 : Int)) (8 : Int), (0 : Int), Vector.replicate (8 : Nat) (dflt (T.int IntKind.u8)))
noncomputable def e_wide_Num (k : Nat) : Entry := ⟨Ds.mk [Vd.one (Ld.im (T.int IntKind.u64)), Vd.one (Ld.im (T.int IntKind.i64))] [], Ds.mk [Vd.one (Ld.im T.str)] [], fun x => p_wide_Num k x.1 x.2⟩
noncomputable def c_wide_Num (k : Nat) : Cx := ⟨Tryd.prog, [], [(9, Sd.mk [5, 6] (Ds.mk [Vd.one (Ld.ptr (0) (0)), Vd.one (Ld.im (T.int IntKind.i64))] [Od.blkT (108) (T.arr (8) (T.int IntKind.u8))]))], [], [(4, Sd.mk [0, 5, 6, 11, 12] (Ds.mk [Vd.one (Ld.im (T.int IntKind.u64)), Vd.one (Ld.ptr (0) (0)), Vd.one (Ld.im (T.int IntKind.i64)), Vd.one (Ld.im (T.int IntKind.i64)), Vd.one (Ld.im (T.int IntKind.i64))] [Od.blkT (108) (T.arr (8) (T.int IntKind.u8))]))], [], 0, 25, [(76, 0), (83, 1)], fun _ _ _ => none⟩
theorem q_wide_Num (k : Nat) (x : HL (e_wide_Num k).pre.ts) : runF (c_wide_Num k) k Tryd.f73 (e_wide_Num k).pre (e_wide_Num k).post x = (e_wide_Num k).fn x := by kernel_rfl
theorem s_wide_Num (k : Nat) : Entry.Sound Tryd.prog 73 (e_wide_Num k) := runF_sound (X := c_wide_Num k) (pre := (e_wide_Num k).pre) (post := (e_wide_Num k).post) (q := (e_wide_Num k).fn) ⟨dOk_nil, x_ext, x_mo⟩ Tryd.func73 (q_wide_Num k)

/- dormouse/key.Of: function 60 -/
noncomputable def p_key_Of (k : Nat) (x236 : Int) (x237 : Int) : Option (Vector Int (32)) :=
  Option.bind (p_wide_Num k x236 (8 : Int)) fun t238 => need ((↑(List.length (numsOf t238)) : Int) ≤ (8 : Int) - (0 : Int)) (Option.bind (p_wide_Num k x237 (8 : Int)) fun t240 => need ((↑(List.length (numsOf t240)) : Int) ≤ (↑(32 : Nat) : Int) - (24 : Int)) (some (vcopy (vcopy (Vector.replicate (32 : Nat) (dflt (T.int IntKind.u8))) (0 : Int) (numsOf t238)) (24 : Int) (numsOf t240))))
noncomputable def e_key_Of (k : Nat) : Entry := ⟨Ds.mk [Vd.one (Ld.im (T.int IntKind.u64)), Vd.one (Ld.im (T.int IntKind.u64))] [], Ds.mk [Vd.st (T.arr (32) (T.int IntKind.u8))] [], fun x => p_key_Of k x.1 x.2⟩
noncomputable def c_key_Of (k : Nat) : Cx := ⟨Tryd.prog, [(73, e_wide_Num k)], [], [], [], [(2, ([(0, 2), (1, 2), (2, 0)], [(3, Bool.false)], [])), (3, ([(0, 2), (1, 2), (2, 0)], [(3, Bool.false)], []))], 0, 15, [(76, 0), (83, 1)], fun _ _ _ => none⟩
theorem q_key_Of (k : Nat) (x : HL (e_key_Of k).pre.ts) : runF (c_key_Of k) k Tryd.f60 (e_key_Of k).pre (e_key_Of k).post x = (e_key_Of k).fn x := by kernel_rfl
theorem s_key_Of (k : Nat) : Entry.Sound Tryd.prog 60 (e_key_Of k) := runF_sound (X := c_key_Of k) (pre := (e_key_Of k).pre) (post := (e_key_Of k).post) (q := (e_key_Of k).fn) ⟨(dOk_cons (s_wide_Num k) dOk_nil), x_ext, x_mo⟩ Tryd.func60 (q_key_Of k)

/- dormouse/wide.Val: function 72 -/
noncomputable def p_wide_Val.j0 (k : Nat) (x294 : Int) : Option Int :=
  some x294
noncomputable def p_wide_Val.b1 (k : Nat) (j295 : Int → Option Int) (rec292 : List UInt8 × Int × Int → Option Int) (x288 : List UInt8) (x289 : Int) (x290 : Int) : Option Int :=
  bif (decide (x290 ≥ (0 : Int))) then need ((0 : Int) ≤ x290 ∧ x290 < (↑(List.length x288) : Int)) (rec292 (x288, ior IntKind.u64 (ishl IntKind.u64 x289 (8 : Int)) (IntKind.wrap IntKind.u64 (bat x288 x290)), IntKind.wrap IntKind.i64 (x290 - (1 : Int)))) else j295 x289
noncomputable def p_wide_Val (k : Nat) (x287 : List UInt8) : Option Int :=
  joinC (p_wide_Val.j0 k) fun (j295 : Int → Option Int) => loopC (fun (r : List UInt8 × Int × Int → Option Int) y => p_wide_Val.b1 k j295 r y.1 y.2.1 y.2.2) k (x287, (0 : Int), IntKind.wrap IntKind.i64 (Min.min (↑(List.length x287) : Int) (8 : Int) - (1 : Int)))
noncomputable def e_wide_Val (k : Nat) : Entry := ⟨Ds.mk [Vd.one (Ld.im T.str)] [], Ds.mk [Vd.one (Ld.im (T.int IntKind.u64))] [], fun x => p_wide_Val k x⟩
noncomputable def c_wide_Val (k : Nat) : Cx := ⟨Tryd.prog, [], [(6, Sd.mk [3] (Ds.mk [Vd.one (Ld.im (T.int IntKind.u64))] []))], [], [(3, Sd.mk [0, 3, 4] (Ds.mk [Vd.one (Ld.im T.str), Vd.one (Ld.im (T.int IntKind.u64)), Vd.one (Ld.im (T.int IntKind.i64))] []))], [], 0, 21, [(76, 0), (83, 1)], fun _ _ _ => none⟩
theorem q_wide_Val (k : Nat) (x : HL (e_wide_Val k).pre.ts) : runF (c_wide_Val k) k Tryd.f72 (e_wide_Val k).pre (e_wide_Val k).post x = (e_wide_Val k).fn x := by kernel_rfl
theorem s_wide_Val (k : Nat) : Entry.Sound Tryd.prog 72 (e_wide_Val k) := runF_sound (X := c_wide_Val k) (pre := (e_wide_Val k).pre) (post := (e_wide_Val k).post) (q := (e_wide_Val k).fn) ⟨dOk_nil, x_ext, x_mo⟩ Tryd.func72 (q_wide_Val k)

/- dormouse/key.Split$1: function 71 -/
noncomputable def p_key_Split_c1 (k : Nat) (x298 : Int) (x299 : Vector Int (32)) : Option Int :=
  need ((0 : Int) ≤ x298 ∧ x298 ≤ IntKind.wrap IntKind.i64 (x298 + (8 : Int)) ∧ IntKind.wrap IntKind.i64 (x298 + (8 : Int)) ≤ (↑(32 : Nat) : Int)) (Option.bind (p_wide_Val k (bytesOf (sub_ (Vector.toList x299) x298 (IntKind.wrap IntKind.i64 (x298 + (8 : Int)))))) fun t301 => some t301)
noncomputable def e_key_Split_c1 (k : Nat) : Entry := ⟨Ds.mk [Vd.one (Ld.im (T.int IntKind.i64)), Vd.one (Ld.ptr (0) (0))] [Od.rdT (43) (T.arr (32) (T.int IntKind.u8))], Ds.mk [Vd.one (Ld.im (T.int IntKind.u64))] [Od.gone], fun x => p_key_Split_c1 k x.1 x.2⟩
noncomputable def c_key_Split_c1 (k : Nat) : Cx := ⟨Tryd.prog, [(72, e_wide_Val k)], [], [], [], [], 1, 10, [(76, 0), (83, 1)], fun _ _ _ => none⟩
theorem q_key_Split_c1 (k : Nat) (x : HL (e_key_Split_c1 k).pre.ts) : runF (c_key_Split_c1 k) k Tryd.f71 (e_key_Split_c1 k).pre (e_key_Split_c1 k).post x = (e_key_Split_c1 k).fn x := by kernel_rfl
theorem s_key_Split_c1 (k : Nat) : Entry.Sound Tryd.prog 71 (e_key_Split_c1 k) := runF_sound (X := c_key_Split_c1 k) (pre := (e_key_Split_c1 k).pre) (post := (e_key_Split_c1 k).post) (q := (e_key_Split_c1 k).fn) ⟨(dOk_cons (s_wide_Val k) dOk_nil), x_ext, x_mo⟩ Tryd.func71 (q_key_Split_c1 k)

/- dormouse/key.Split: function 58 -/
noncomputable def p_key_Split (k : Nat) (x308 : Vector Int (32)) : Option (Int × Int × Bool) :=
  Option.bind (p_key_Split_c1 k (0 : Int) x308) fun t309 => Option.bind (p_key_Split_c1 k (24 : Int) x308) fun t310 => Option.bind (p_key_Of k t309 t310) fun t311 => bif (!decide (t311 = x308)) then some ((0 : Int), (0 : Int), Bool.false) else some (t309, t310, Bool.true)
noncomputable def e_key_Split (k : Nat) : Entry := ⟨Ds.mk [Vd.st (T.arr (32) (T.int IntKind.u8))] [], Ds.mk [Vd.one (Ld.im (T.int IntKind.u64)), Vd.one (Ld.im (T.int IntKind.u64)), Vd.one (Ld.im T.bool)] [], fun x => p_key_Split k x⟩
noncomputable def c_key_Split (k : Nat) : Cx := ⟨Tryd.prog, [(60, e_key_Of k), (71, e_key_Split_c1 k)], [], [], [], [(3, ([(0, 2), (1, 2), (2, 0), (3, 1), (4, 2)], [], []))], 0, 20, [(76, 0), (83, 1)], fun _ _ _ => none⟩
theorem q_key_Split (k : Nat) (x : HL (e_key_Split k).pre.ts) : runF (c_key_Split k) k Tryd.f58 (e_key_Split k).pre (e_key_Split k).post x = (e_key_Split k).fn x := by kernel_rfl
theorem s_key_Split (k : Nat) : Entry.Sound Tryd.prog 58 (e_key_Split k) := runF_sound (X := c_key_Split k) (pre := (e_key_Split k).pre) (post := (e_key_Split k).post) (q := (e_key_Split k).fn) ⟨(dOk_cons (s_key_Of k) (dOk_cons (s_key_Split_c1 k) dOk_nil)), x_ext, x_mo⟩ Tryd.func58 (q_key_Split k)

/- dormouse/key.decimal: function 59 -/
noncomputable def p_key_decimal.j0 (k : Nat) (x323 : Int) (x324 : List UInt8) : Option (List UInt8) :=
  need ((0 : Int) ≤ x323 ∧ x323 ≤ IntKind.wrap IntKind.u64 (x323 + (1 : Int)) ∧ IntKind.wrap IntKind.u64 (x323 + (1 : Int)) ≤ (↑(16) : Int)) (need (List.length (sub_ [(48 : UInt8), (49 : UInt8), (50 : UInt8), (51 : UInt8), (52 : UInt8), (53 : UInt8), (54 : UInt8), (55 : UInt8), (56 : UInt8), (57 : UInt8), (97 : UInt8), (98 : UInt8), (99 : UInt8), (100 : UInt8), (101 : UInt8), (102 : UInt8)] x323 (IntKind.wrap IntKind.u64 (x323 + (1 : Int)))) + List.length x324 ≤ (9223372036854775807 : Nat)) (some (sub_ [(48 : UInt8), (49 : UInt8), (50 : UInt8), (51 : UInt8), (52 : UInt8), (53 : UInt8), (54 : UInt8), (55 : UInt8), (56 : UInt8), (57 : UInt8), (97 : UInt8), (98 : UInt8), (99 : UInt8), (100 : UInt8), (101 : UInt8), (102 : UInt8)] x323 (IntKind.wrap IntKind.u64 (x323 + (1 : Int))) ++ x324)))
noncomputable def p_key_decimal.b1 (k : Nat) (j327 : Int × List UInt8 → Option (List UInt8)) (rec321 : Int × List UInt8 → Option (List UInt8)) (x317 : Int) (x318 : List UInt8) : Option (List UInt8) :=
  bif (decide (x317 > (9 : Int))) then need ((0 : Int) ≤ Int.tmod x317 (10 : Int) ∧ Int.tmod x317 (10 : Int) ≤ IntKind.wrap IntKind.u64 (Int.tmod x317 (10 : Int) + (1 : Int)) ∧ IntKind.wrap IntKind.u64 (Int.tmod x317 (10 : Int) + (1 : Int)) ≤ (↑(16) : Int)) (need (List.length (sub_ [(48 : UInt8), (49 : UInt8), (50 : UInt8), (51 : UInt8), (52 : UInt8), (53 : UInt8), (54 : UInt8), (55 : UInt8), (56 : UInt8), (57 : UInt8), (97 : UInt8), (98 : UInt8), (99 : UInt8), (100 : UInt8), (101 : UInt8), (102 : UInt8)] (Int.tmod x317 (10 : Int)) (IntKind.wrap IntKind.u64 (Int.tmod x317 (10 : Int) + (1 : Int)))) + List.length x318 ≤ (9223372036854775807 : Nat)) (rec321 (IntKind.wrap IntKind.u64 (Int.tdiv x317 (10 : Int)), sub_ [(48 : UInt8), (49 : UInt8), (50 : UInt8), (51 : UInt8), (52 : UInt8), (53 : UInt8), (54 : UInt8), (55 : UInt8), (56 : UInt8), (57 : UInt8), (97 : UInt8), (98 : UInt8), (99 : UInt8), (100 : UInt8), (101 : UInt8), (102 : UInt8)] (Int.tmod x317 (10 : Int)) (IntKind.wrap IntKind.u64 (Int.tmod x317 (10 : Int) + (1 : Int))) ++ x318))) else j327 (x317, x318)
noncomputable def p_key_decimal (k : Nat) (x316 : Int) : Option (List UInt8) :=
  joinC (fun (y : Int × List UInt8) => p_key_decimal.j0 k y.1 y.2) fun (j327 : Int × List UInt8 → Option (List UInt8)) => loopC (fun (r : Int × List UInt8 → Option (List UInt8)) y => p_key_decimal.b1 k j327 r y.1 y.2) k (x316, [])
noncomputable def e_key_decimal (k : Nat) : Entry := ⟨Ds.mk [Vd.one (Ld.im (T.int IntKind.u64))] [], Ds.mk [Vd.one (Ld.im T.str)] [], fun x => p_key_decimal k x⟩
noncomputable def c_key_decimal (k : Nat) : Cx := ⟨Tryd.prog, [], [(5, Sd.mk [0, 3] (Ds.mk [Vd.one (Ld.im (T.int IntKind.u64)), Vd.one (Ld.im T.str)] []))], [], [(2, Sd.mk [0, 3] (Ds.mk [Vd.one (Ld.im (T.int IntKind.u64)), Vd.one (Ld.im T.str)] []))], [], 0, 22, [(76, 0), (83, 1)], fun _ _ _ => none⟩
theorem q_key_decimal (k : Nat) (x : HL (e_key_decimal k).pre.ts) : runF (c_key_decimal k) k Tryd.f59 (e_key_decimal k).pre (e_key_decimal k).post x = (e_key_decimal k).fn x := by kernel_rfl
theorem s_key_decimal (k : Nat) : Entry.Sound Tryd.prog 59 (e_key_decimal k) := runF_sound (X := c_key_decimal k) (pre := (e_key_decimal k).pre) (post := (e_key_decimal k).post) (q := (e_key_decimal k).fn) ⟨dOk_nil, x_ext, x_mo⟩ Tryd.func59 (q_key_decimal k)

/- dormouse/key.Text: function 44 -/
noncomputable def p_key_Text.j0 (k : Nat) (x364 : List Int) : Option (List UInt8) :=
  some (bytesOf x364)
noncomputable def p_key_Text.b1 (k : Nat) (j365 : List Int → Option (List UInt8)) (rec362 : Vector Int (32) × Int × List Int → Option (List UInt8)) (x355 : Vector Int (32)) (x356 : Int) (x357 : List Int) : Option (List UInt8) :=
  bif (decide (x356 < (32 : Int))) then need ((0 : Int) ≤ x356 ∧ x356 < (↑(32) : Int)) (need ((0 : Int) ≤ ishr IntKind.u8 (at_ (dflt (T.int IntKind.u8)) (Vector.toList x355) x356) (4 : Int) ∧ ishr IntKind.u8 (at_ (dflt (T.int IntKind.u8)) (Vector.toList x355) x356) (4 : Int) < (↑(16) : Int)) (need ((0 : Int) ≤ iand IntKind.u8 (at_ (dflt (T.int IntKind.u8)) (Vector.toList x355) x356) (15 : Int) ∧ iand IntKind.u8 (at_ (dflt (T.int IntKind.u8)) (Vector.toList x355) x356) (15 : Int) < (↑(16) : Int)) (need ((List.length x357 + List.length [bat [(48 : UInt8), (49 : UInt8), (50 : UInt8), (51 : UInt8), (52 : UInt8), (53 : UInt8), (54 : UInt8), (55 : UInt8), (56 : UInt8), (57 : UInt8), (97 : UInt8), (98 : UInt8), (99 : UInt8), (100 : UInt8), (101 : UInt8), (102 : UInt8)] (ishr IntKind.u8 (at_ (dflt (T.int IntKind.u8)) (Vector.toList x355) x356) (4 : Int)), bat [(48 : UInt8), (49 : UInt8), (50 : UInt8), (51 : UInt8), (52 : UInt8), (53 : UInt8), (54 : UInt8), (55 : UInt8), (56 : UInt8), (57 : UInt8), (97 : UInt8), (98 : UInt8), (99 : UInt8), (100 : UInt8), (101 : UInt8), (102 : UInt8)] (iand IntKind.u8 (at_ (dflt (T.int IntKind.u8)) (Vector.toList x355) x356) (15 : Int))]) * Go.TypeInfo.bytes (Go.Tables.types (Go.Program.toTables Go.Proofs.Tryd.prog))[(5 : Nat)] ≤ (140737488355328 : Nat)) (rec362 (x355, IntKind.wrap IntKind.i64 (x356 + (1 : Int)), x357 ++ [bat [(48 : UInt8), (49 : UInt8), (50 : UInt8), (51 : UInt8), (52 : UInt8), (53 : UInt8), (54 : UInt8), (55 : UInt8), (56 : UInt8), (57 : UInt8), (97 : UInt8), (98 : UInt8), (99 : UInt8), (100 : UInt8), (101 : UInt8), (102 : UInt8)] (ishr IntKind.u8 (at_ (dflt (T.int IntKind.u8)) (Vector.toList x355) x356) (4 : Int)), bat [(48 : UInt8), (49 : UInt8), (50 : UInt8), (51 : UInt8), (52 : UInt8), (53 : UInt8), (54 : UInt8), (55 : UInt8), (56 : UInt8), (57 : UInt8), (97 : UInt8), (98 : UInt8), (99 : UInt8), (100 : UInt8), (101 : UInt8), (102 : UInt8)] (iand IntKind.u8 (at_ (dflt (T.int IntKind.u8)) (Vector.toList x355) x356) (15 : Int))]))))) else j365 x357
noncomputable def p_key_Text (k : Nat) (x349 : Vector Int (32)) : Option (List UInt8) :=
  Option.bind (p_key_Split k x349) fun t350 => bif (Prod.snd (Prod.snd t350)) then Option.bind (p_key_decimal k (Prod.fst t350)) fun t351 => need (List.length t351 + 1 ≤ (9223372036854775807 : Nat)) (Option.bind (p_key_decimal k (Prod.fst (Prod.snd t350))) fun t353 => need (List.length (t351 ++ [(46 : UInt8)]) + List.length t353 ≤ (9223372036854775807 : Nat)) (some (t351 ++ [(46 : UInt8)] ++ t353))) else joinC (p_key_Text.j0 k) fun (j365 : List Int → Option (List UInt8)) => loopC (fun (r : Vector Int (32) × Int × List Int → Option (List UInt8)) y => p_key_Text.b1 k j365 r y.1 y.2.1 y.2.2) k (x349, (0 : Int), [])
noncomputable def e_key_Text (k : Nat) : Entry := ⟨Ds.mk [Vd.st (T.arr (32) (T.int IntKind.u8))] [], Ds.mk [Vd.one (Ld.im T.str)] [], fun x => p_key_Text k x⟩
noncomputable def c_key_Text (k : Nat) : Cx := ⟨Tryd.prog, [(58, e_key_Split k), (59, e_key_decimal k)], [(10, Sd.mk [6] (Ds.mk [Vd.one (Ld.own (0))] [Od.arr (5) (T.int IntKind.u8)]))], [], [(6, Sd.mk [6, 22, 23] (Ds.mk [Vd.one (Ld.own (0)), Vd.st (T.arr (32) (T.int IntKind.u8)), Vd.one (Ld.im (T.int IntKind.i64))] [Od.arr (5) (T.int IntKind.u8)]))], [(8, ([(0, 2), (1, 2), (2, 2), (3, 2), (4, 2), (5, 2), (6, 2)], [(7, Bool.false), (8, Bool.false), (9, Bool.false)], []))], 0, 38, [(76, 0), (83, 1)], fun _ _ _ => none⟩
theorem q_key_Text (k : Nat) (x : HL (e_key_Text k).pre.ts) : runF (c_key_Text k) k Tryd.f44 (e_key_Text k).pre (e_key_Text k).post x = (e_key_Text k).fn x := by kernel_rfl
theorem s_key_Text (k : Nat) : Entry.Sound Tryd.prog 44 (e_key_Text k) := runF_sound (X := c_key_Text k) (pre := (e_key_Text k).pre) (post := (e_key_Text k).post) (q := (e_key_Text k).fn) ⟨(dOk_cons (s_key_Split k) (dOk_cons (s_key_decimal k) dOk_nil)), x_ext, x_mo⟩ Tryd.func44 (q_key_Text k)

/- dormouse/key.Parse: function 48 -/
noncomputable def p_key_Parse.j0 (k : Nat) (x384 : List UInt8) (x385 : Vector Int (32)) (x386 : Vector Int (32)) : Option (Vector Int (32) × Int) :=
  Option.bind (p_key_Text k x386) fun t387 => bif (!t387 == x384) then some (bparts (32 : Nat) (dflt (T.int IntKind.u8)) [], (6 : Int)) else some (x386, (0 : Int))
noncomputable def p_key_Parse.b1 (k : Nat) (j388 : List UInt8 × Vector Int (32) × Vector Int (32) → Option (Vector Int (32) × Int)) (rec382 : List UInt8 × Int × Int × Vector Int (32) × Vector Int (32) → Option (Vector Int (32) × Int)) (x373 : List UInt8) (x374 : Int) (x375 : Int) (x376 : Vector Int (32)) (x377 : Vector Int (32)) : Option (Vector Int (32) × Int) :=
  bif (decide (x375 < x374)) then need ((0 : Int) ≤ x375 ∧ x375 < (↑(List.length x373) : Int)) (Option.bind (p_strings_IndexByte [(48 : UInt8), (49 : UInt8), (50 : UInt8), (51 : UInt8), (52 : UInt8), (53 : UInt8), (54 : UInt8), (55 : UInt8), (56 : UInt8), (57 : UInt8), (97 : UInt8), (98 : UInt8), (99 : UInt8), (100 : UInt8), (101 : UInt8), (102 : UInt8)] (bat x373 x375)) fun t379 => need ((0 : Int) ≤ IntKind.wrap IntKind.i64 (Int.tdiv x375 (2 : Int)) ∧ IntKind.wrap IntKind.i64 (Int.tdiv x375 (2 : Int)) < (↑(32 : Nat) : Int)) (need ((0 : Int) ≤ IntKind.wrap IntKind.i64 (Int.tdiv x375 (2 : Int)) ∧ IntKind.wrap IntKind.i64 (Int.tdiv x375 (2 : Int)) < (↑(32 : Nat) : Int)) (rec382 (x373, x374, IntKind.wrap IntKind.i64 (x375 + (1 : Int)), x376, vset x377 (IntKind.wrap IntKind.i64 (Int.tdiv x375 (2 : Int))) (ior IntKind.u8 (ishl IntKind.u8 (at_ (dflt (T.int IntKind.u8)) (Vector.toList x377) (IntKind.wrap IntKind.i64 (Int.tdiv x375 (2 : Int)))) (4 : Int)) (IntKind.wrap IntKind.u8 (Max.max t379 (0 : Int)))))))) else j388 (x373, x376, x377)
noncomputable def p_key_Parse (k : Nat) (x368 : List UInt8) : Option (Vector Int (32) × Int) :=
  joinC (fun (y : List UInt8 × Vector Int (32) × Vector Int (32)) => p_key_Parse.j0 k y.1 y.2.1 y.2.2) fun (j388 : List UInt8 × Vector Int (32) × Vector Int (32) → Option (Vector Int (32) × Int)) => Option.bind (p_strings_Cut x368 [(46 : UInt8)]) fun t369 => bif (Prod.snd (Prod.snd t369)) then Option.bind (p_key_number k (Prod.fst t369)) fun t370 => Option.bind (p_key_number k (Prod.fst (Prod.snd t369))) fun t371 => Option.bind (p_key_Of k t370 t371) fun t372 => j388 (x368, Vector.replicate (32 : Nat) (dflt (T.int IntKind.u8)), t372) else bif ((↑(List.length x368) : Int) == (64 : Int)) then loopC (fun (r : List UInt8 × Int × Int × Vector Int (32) × Vector Int (32) → Option (Vector Int (32) × Int)) y => p_key_Parse.b1 k j388 r y.1 y.2.1 y.2.2.1 y.2.2.2.1 y.2.2.2.2) k (x368, (↑(List.length x368) : Int), (0 : Int), Vector.replicate (32 : Nat) (dflt (T.int IntKind.u8)), Vector.replicate (32 : Nat) (dflt (T.int IntKind.u8))) else j388 (x368, Vector.replicate (32 : Nat) (dflt (T.int IntKind.u8)), Vector.replicate (32 : Nat) (dflt (T.int IntKind.u8)))
noncomputable def e_key_Parse (k : Nat) : Entry := ⟨Ds.mk [Vd.one (Ld.im T.str)] [], Ds.mk [Vd.st (T.arr (32) (T.int IntKind.u8)), Vd.one (Ld.im (T.int IntKind.i64))] [], fun x => p_key_Parse k x⟩
noncomputable def c_key_Parse (k : Nat) : Cx := ⟨Tryd.prog, [(38, e_strings_Cut), (61, e_key_number k), (60, e_key_Of k), (51, e_strings_IndexByte), (44, e_key_Text k)], [(12, Sd.mk [0, 2, 4] (Ds.mk [Vd.one (Ld.im T.str), Vd.one (Ld.ptr (0) (0)), Vd.one (Ld.ptr (1) (0))] [Od.blkT (43) (T.arr (32) (T.int IntKind.u8)), Od.blkT (43) (T.arr (32) (T.int IntKind.u8))]))], [], [(7, Sd.mk [0, 2, 4, 26, 27] (Ds.mk [Vd.one (Ld.im T.str), Vd.one (Ld.ptr (0) (0)), Vd.one (Ld.ptr (1) (0)), Vd.one (Ld.im (T.int IntKind.i64)), Vd.one (Ld.im (T.int IntKind.i64))] [Od.blkT (43) (T.arr (32) (T.int IntKind.u8)), Od.blkT (43) (T.arr (32) (T.int IntKind.u8))]))], [], 0, 53, [(76, 0), (83, 1)], fun _ _ _ => none⟩
theorem q_key_Parse (k : Nat) (x : HL (e_key_Parse k).pre.ts) : runF (c_key_Parse k) k Tryd.f48 (e_key_Parse k).pre (e_key_Parse k).post x = (e_key_Parse k).fn x := by kernel_rfl
theorem s_key_Parse (k : Nat) : Entry.Sound Tryd.prog 48 (e_key_Parse k) := runF_sound (X := c_key_Parse k) (pre := (e_key_Parse k).pre) (post := (e_key_Parse k).post) (q := (e_key_Parse k).fn) ⟨(dOk_cons (s_strings_Cut) (dOk_cons (s_key_number k) (dOk_cons (s_key_Of k) (dOk_cons (s_strings_IndexByte) (dOk_cons (s_key_Text k) dOk_nil))))), x_ext, x_mo⟩ Tryd.func48 (q_key_Parse k)

/- dormouse/cmd.Check: function 24 -/
noncomputable def p_cmd_Check.j0 (x516 : Bool) : Option Int :=
  bif x516 then some (2 : Int) else some (0 : Int)
noncomputable def p_cmd_Check (x513 : Int × Vector Int (32) × List UInt8) : Option Int :=
  Option.bind (p_cmd_parts (Prod.fst x513)) fun t514 => joinC (p_cmd_Check.j0) fun (j517 : Bool → Option Int) => Option.bind (p_cmd_word (Prod.fst x513)) fun t515 => bif (t515 == []) then j517 Bool.true else bif (decide ((↑(List.length (Prod.snd (Prod.snd x513))) : Int) > (70000 : Int))) then j517 Bool.true else bif (decide (t514 < (2 : Int))) then bif (!Prod.snd (Prod.snd x513) == []) then j517 Bool.true else bif (decide (t514 < (1 : Int))) then j517 (!decide (Prod.fst (Prod.snd x513) = bparts (32 : Nat) (dflt (T.int IntKind.u8)) [])) else j517 Bool.false else bif (decide (t514 < (1 : Int))) then j517 (!decide (Prod.fst (Prod.snd x513) = bparts (32 : Nat) (dflt (T.int IntKind.u8)) [])) else j517 Bool.false
noncomputable def e_cmd_Check : Entry := ⟨Ds.mk [Vd.st (T.pair (T.int IntKind.i64) (T.pair (T.arr (32) (T.int IntKind.u8)) T.str))] [], Ds.mk [Vd.one (Ld.im (T.int IntKind.i64))] [], fun x => p_cmd_Check x⟩
noncomputable def c_cmd_Check : Cx := ⟨Tryd.prog, [(43, e_cmd_word), (45, e_cmd_parts)], [], [(2, Sd.mk [35] (Ds.mk [Vd.one (Ld.im T.bool)] []))], [], [], 0, 36, [(76, 0), (83, 1)], fun _ _ _ => none⟩
theorem q_cmd_Check (x : HL (e_cmd_Check).pre.ts) : runF (c_cmd_Check) 0 Tryd.f24 (e_cmd_Check).pre (e_cmd_Check).post x = (e_cmd_Check).fn x := by kernel_rfl
theorem s_cmd_Check : Entry.Sound Tryd.prog 24 (e_cmd_Check) := runF_sound (X := c_cmd_Check) (pre := (e_cmd_Check).pre) (post := (e_cmd_Check).post) (q := (e_cmd_Check).fn) ⟨(dOk_cons (s_cmd_word) (dOk_cons (s_cmd_parts) dOk_nil)), x_ext, x_mo⟩ Tryd.func24 (q_cmd_Check)

/- dormouse/cmd.Text: function 22 -/
noncomputable def p_cmd_Text (k : Nat) (x537 : Int × Vector Int (32) × List UInt8) : Option (List UInt8 × Int) :=
  Option.bind (p_cmd_Check (Prod.fst x537, Prod.fst (Prod.snd x537), Prod.snd (Prod.snd x537))) fun t538 => bif (t538 != (0 : Int)) then some ([], t538) else Option.bind (p_cmd_word (Prod.fst x537)) fun t539 => Option.bind (p_key_Text k (Prod.fst (Prod.snd x537))) fun t540 => Option.bind (p_cmd_Hex k (Prod.snd (Prod.snd x537))) fun t541 => Option.bind (p_cmd_parts (Prod.fst x537)) fun t542 => need ((0 : Int) ≤ (0 : Int) ∧ (0 : Int) ≤ IntKind.wrap IntKind.i64 ((1 : Int) + t542) ∧ IntKind.wrap IntKind.i64 ((1 : Int) + t542) ≤ (↑(List.length [t539, t540, t541]) : Int)) (Option.bind (p_strings_Join (List.take (Int.toNat (IntKind.wrap IntKind.i64 ((1 : Int) + t542))) [t539, t540, t541]) [(32 : UInt8)]) fun t544 => some (t544, (0 : Int)))
noncomputable def e_cmd_Text (k : Nat) : Entry := ⟨Ds.mk [Vd.st (T.pair (T.int IntKind.i64) (T.pair (T.arr (32) (T.int IntKind.u8)) T.str))] [], Ds.mk [Vd.one (Ld.im T.str), Vd.one (Ld.im (T.int IntKind.i64))] [], fun x => p_cmd_Text k x⟩
noncomputable def c_cmd_Text (k : Nat) : Cx := ⟨Tryd.prog, [(43, e_cmd_word), (45, e_cmd_parts), (44, e_key_Text k), (28, e_cmd_Hex k), (24, e_cmd_Check), (40, e_strings_Join)], [], [], [], [(4, ([(0, 2), (1, 1), (2, 0), (3, 2), (4, 1), (5, 0), (6, 2), (7, 1), (8, 0)], [(9, Bool.false), (10, Bool.false)], []))], 0, 28, [(76, 0), (83, 1)], fun _ _ _ => none⟩
theorem q_cmd_Text (k : Nat) (x : HL (e_cmd_Text k).pre.ts) : runF (c_cmd_Text k) k Tryd.f22 (e_cmd_Text k).pre (e_cmd_Text k).post x = (e_cmd_Text k).fn x := by kernel_rfl
theorem s_cmd_Text (k : Nat) : Entry.Sound Tryd.prog 22 (e_cmd_Text k) := runF_sound (X := c_cmd_Text k) (pre := (e_cmd_Text k).pre) (post := (e_cmd_Text k).post) (q := (e_cmd_Text k).fn) ⟨(dOk_cons (s_cmd_word) (dOk_cons (s_cmd_parts) (dOk_cons (s_key_Text k) (dOk_cons (s_cmd_Hex k) (dOk_cons (s_cmd_Check) (dOk_cons (s_strings_Join) dOk_nil)))))), x_ext, x_mo⟩ Tryd.func22 (q_cmd_Text k)

/- dormouse/cmd.Parse: function 25 -/
noncomputable def p_cmd_Parse.j2 (k : Nat) (x564 : Bool) (x565 : Int × Vector Int (32) × List UInt8) (x566 : Int × Vector Int (32) × List UInt8) : Option ((Int × Vector Int (32) × List UInt8) × Int) :=
  bif x564 then some (((0 : Int), Vector.replicate (32 : Nat) (dflt (T.int IntKind.u8)), []), (6 : Int)) else some ((Prod.fst x566, Prod.fst (Prod.snd x566), Prod.snd (Prod.snd x566)), (0 : Int))
noncomputable def p_cmd_Parse.j1 (k : Nat) (x560 : List UInt8) (x561 : Int × Vector Int (32) × List UInt8) (x562 : Int × Vector Int (32) × List UInt8) : Option ((Int × Vector Int (32) × List UInt8) × Int) :=
  Option.bind (p_cmd_Text k (Prod.fst x562, Prod.fst (Prod.snd x562), Prod.snd (Prod.snd x562))) fun t563 => joinC (fun (y : Bool × (Int × Vector Int (32) × List UInt8) × Int × Vector Int (32) × List UInt8) => p_cmd_Parse.j2 k y.1 y.2.1 y.2.2) fun (j567 : Bool × (Int × Vector Int (32) × List UInt8) × Int × Vector Int (32) × List UInt8 → Option ((Int × Vector Int (32) × List UInt8) × Int)) => bif (Prod.snd t563 != (0 : Int)) then j567 (Bool.true, (Prod.fst x561, Prod.fst (Prod.snd x561), Prod.snd (Prod.snd x561)), Prod.fst x562, Prod.fst (Prod.snd x562), Prod.snd (Prod.snd x562)) else j567 (!Prod.fst t563 == x560, (Prod.fst x561, Prod.fst (Prod.snd x561), Prod.snd (Prod.snd x561)), Prod.fst x562, Prod.fst (Prod.snd x562), Prod.snd (Prod.snd x562))
noncomputable def p_cmd_Parse.j0 (k : Nat) (x553 : List UInt8) (x554 : Int × Vector Int (32) × List UInt8) (x555 : Int × Vector Int (32) × List UInt8) (x556 : List (List UInt8)) : Option ((Int × Vector Int (32) × List UInt8) × Int) :=
  joinC (fun (y : List UInt8 × (Int × Vector Int (32) × List UInt8) × Int × Vector Int (32) × List UInt8) => p_cmd_Parse.j1 k y.1 y.2.1 y.2.2) fun (j569 : List UInt8 × (Int × Vector Int (32) × List UInt8) × Int × Vector Int (32) × List UInt8 → Option ((Int × Vector Int (32) × List UInt8) × Int)) => Option.bind (p_cmd_parts (Prod.fst x555)) fun t557 => bif (decide (t557 > (1 : Int))) then Option.bind (p_cmd_Parse_c1 (2 : Int) x556) fun t558 => Option.bind (p_cmd_Bytes k t558) fun t559 => j569 (x553, (Prod.fst x554, Prod.fst (Prod.snd x554), Prod.snd (Prod.snd x554)), Prod.fst x555, Prod.fst (Prod.snd x555), Prod.fst t559) else j569 (x553, (Prod.fst x554, Prod.fst (Prod.snd x554), Prod.snd (Prod.snd x554)), Prod.fst x555, Prod.fst (Prod.snd x555), Prod.snd (Prod.snd x555))
noncomputable def p_cmd_Parse (k : Nat) (x546 : List UInt8) : Option ((Int × Vector Int (32) × List UInt8) × Int) :=
  Option.bind (p_strings_Split k x546 [(32 : UInt8)]) fun t547 => Option.bind (p_cmd_Parse_c1 (0 : Int) t547) fun t548 => Option.bind (p_cmd_kind k t548) fun t549 => bif (decide (t549 < (0 : Int))) then some (((0 : Int), Vector.replicate (32 : Nat) (dflt (T.int IntKind.u8)), []), (15 : Int)) else joinC (fun (y : List UInt8 × (Int × Vector Int (32) × List UInt8) × (Int × Vector Int (32) × List UInt8) × List (List UInt8)) => p_cmd_Parse.j0 k y.1 y.2.1 y.2.2.1 y.2.2.2) fun (j571 : List UInt8 × (Int × Vector Int (32) × List UInt8) × (Int × Vector Int (32) × List UInt8) × List (List UInt8) → Option ((Int × Vector Int (32) × List UInt8) × Int)) => Option.bind (p_cmd_parts t549) fun t550 => bif (decide (t550 > (0 : Int))) then Option.bind (p_cmd_Parse_c1 (1 : Int) t547) fun t551 => Option.bind (p_key_Parse k t551) fun t552 => j571 (x546, ((0 : Int), Vector.replicate (32 : Nat) (dflt (T.int IntKind.u8)), []), (t549, Prod.fst t552, []), t547) else j571 (x546, ((0 : Int), Vector.replicate (32 : Nat) (dflt (T.int IntKind.u8)), []), (t549, Vector.replicate (32 : Nat) (dflt (T.int IntKind.u8)), []), t547)
noncomputable def e_cmd_Parse (k : Nat) : Entry := ⟨Ds.mk [Vd.one (Ld.im T.str)] [], Ds.mk [Vd.st (T.pair (T.int IntKind.i64) (T.pair (T.arr (32) (T.int IntKind.u8)) T.str)), Vd.one (Ld.im (T.int IntKind.i64))] [], fun x => p_cmd_Parse k x⟩
noncomputable def c_cmd_Parse (k : Nat) : Cx := ⟨Tryd.prog, [(39, e_strings_Split k), (46, e_cmd_Parse_c1), (47, e_cmd_kind k), (45, e_cmd_parts), (48, e_key_Parse k), (29, e_cmd_Bytes k), (22, e_cmd_Text k)], [(8, Sd.mk [0, 2, 5, 6] (Ds.mk [Vd.one (Ld.im T.str), Vd.one (Ld.ptr (0) (0)), Vd.one (Ld.fn (46) [1]), Vd.one (Ld.ptr (2) (0))] [Od.blkT (45) (T.pair (T.int IntKind.i64) (T.pair (T.arr (32) (T.int IntKind.u8)) T.str)), Od.blk (67) [Ld.own (3)], Od.blkT (45) (T.pair (T.int IntKind.i64) (T.pair (T.arr (32) (T.int IntKind.u8)) T.str)), Od.arr (9) T.str])), (10, Sd.mk [0, 2, 6] (Ds.mk [Vd.one (Ld.im T.str), Vd.one (Ld.ptr (0) (0)), Vd.one (Ld.ptr (1) (0))] [Od.blkT (45) (T.pair (T.int IntKind.i64) (T.pair (T.arr (32) (T.int IntKind.u8)) T.str)), Od.blkT (45) (T.pair (T.int IntKind.i64) (T.pair (T.arr (32) (T.int IntKind.u8)) T.str))]))], [(11, Sd.mk [2, 6, 53] (Ds.mk [Vd.one (Ld.ptr (0) (0)), Vd.one (Ld.ptr (1) (0)), Vd.one (Ld.im T.bool)] [Od.blkT (45) (T.pair (T.int IntKind.i64) (T.pair (T.arr (32) (T.int IntKind.u8)) T.str)), Od.blkT (45) (T.pair (T.int IntKind.i64) (T.pair (T.arr (32) (T.int IntKind.u8)) T.str))]))], [], [], 0, 56, [(76, 0), (83, 1)], fun _ _ _ => none⟩
theorem q_cmd_Parse (k : Nat) (x : HL (e_cmd_Parse k).pre.ts) : runF (c_cmd_Parse k) k Tryd.f25 (e_cmd_Parse k).pre (e_cmd_Parse k).post x = (e_cmd_Parse k).fn x := by kernel_rfl
theorem s_cmd_Parse (k : Nat) : Entry.Sound Tryd.prog 25 (e_cmd_Parse k) := runF_sound (X := c_cmd_Parse k) (pre := (e_cmd_Parse k).pre) (post := (e_cmd_Parse k).post) (q := (e_cmd_Parse k).fn) ⟨(dOk_cons (s_strings_Split k) (dOk_cons (s_cmd_Parse_c1) (dOk_cons (s_cmd_kind k) (dOk_cons (s_cmd_parts) (dOk_cons (s_key_Parse k) (dOk_cons (s_cmd_Bytes k) (dOk_cons (s_cmd_Text k) dOk_nil))))))), x_ext, x_mo⟩ Tryd.func25 (q_cmd_Parse k)

/- dormouse/cmd.All: function 33 -/
noncomputable def p_cmd_All.j0 (k : Nat) (x594 : List (Int × Vector Int (32) × List UInt8)) : Option (Int × Int × List (Int × Vector Int (32) × List UInt8)) :=
  some ((0 : Int), (0 : Int), x594)
noncomputable def p_cmd_All.j2 (k : Nat) (rec592 : Int × Int × List (Int × Vector Int (32) × List UInt8) × List (List UInt8) → Option (Int × Int × List (Int × Vector Int (32) × List UInt8))) (x586 : Int) (x587 : Int) (x588 : List (Int × Vector Int (32) × List UInt8)) (x589 : List (List UInt8)) : Option (Int × Int × List (Int × Vector Int (32) × List UInt8)) :=
  rec592 (x586, IntKind.wrap IntKind.i64 (x587 + (1 : Int)), x588, x589)
noncomputable def p_cmd_All.b1 (k : Nat) (j595 : List (Int × Vector Int (32) × List UInt8) → Option (Int × Int × List (Int × Vector Int (32) × List UInt8))) (rec592 : Int × Int × List (Int × Vector Int (32) × List UInt8) × List (List UInt8) → Option (Int × Int × List (Int × Vector Int (32) × List UInt8))) (x579 : Int) (x580 : Int) (x581 : List (Int × Vector Int (32) × List UInt8)) (x582 : List (List UInt8)) : Option (Int × Int × List (Int × Vector Int (32) × List UInt8)) :=
  bif (decide (x580 < x579)) then joinC (fun (y : Int × Int × List (Int × Vector Int (32) × List UInt8) × List (List UInt8)) => p_cmd_All.j2 k rec592 y.1 y.2.1 y.2.2.1 y.2.2.2) fun (j590 : Int × Int × List (Int × Vector Int (32) × List UInt8) × List (List UInt8) → Option (Int × Int × List (Int × Vector Int (32) × List UInt8))) => need ((0 : Int) ≤ x580 ∧ x580 < (↑(List.length x582) : Int)) (bif (at_ (dflt T.str) x582 x580 == []) then j590 (x579, x580, x581, x582) else Option.bind (p_cmd_Parse k (at_ (dflt T.str) x582 x580)) fun t584 => bif (Prod.snd t584 != (0 : Int)) then some (IntKind.wrap IntKind.i64 (x580 + (1 : Int)), Prod.snd t584, []) else need ((List.length x581 + List.length [(Prod.fst (Prod.fst t584), Prod.fst (Prod.snd (Prod.fst t584)), Prod.snd (Prod.snd (Prod.fst t584)))]) * Go.TypeInfo.bytes (Go.Tables.types (Go.Program.toTables Go.Proofs.Tryd.prog))[(45 : Nat)] ≤ (140737488355328 : Nat)) (j590 (x579, x580, x581 ++ [(Prod.fst (Prod.fst t584), Prod.fst (Prod.snd (Prod.fst t584)), Prod.snd (Prod.snd (Prod.fst t584)))], x582))) else j595 x581
noncomputable def p_cmd_All (k : Nat) (x577 : List UInt8) : Option (Int × Int × List (Int × Vector Int (32) × List UInt8)) :=
  joinC (p_cmd_All.j0 k) fun (j595 : List (Int × Vector Int (32) × List UInt8) → Option (Int × Int × List (Int × Vector Int (32) × List UInt8))) => Option.bind (p_strings_Split k x577 [(10 : UInt8)]) fun t578 => loopC (fun (r : Int × Int × List (Int × Vector Int (32) × List UInt8) × List (List UInt8) → Option (Int × Int × List (Int × Vector Int (32) × List UInt8))) y => p_cmd_All.b1 k j595 r y.1 y.2.1 y.2.2.1 y.2.2.2) k ((↑(List.length t578) : Int), (0 : Int), [], t578)
noncomputable def e_cmd_All (k : Nat) : Entry := ⟨Ds.mk [Vd.one (Ld.im T.str)] [], Ds.mk [Vd.one (Ld.own (0)), Vd.one (Ld.im (T.int IntKind.i64)), Vd.one (Ld.im (T.int IntKind.i64))] [Od.arr (45) (T.pair (T.int IntKind.i64) (T.pair (T.arr (32) (T.int IntKind.u8)) T.str))], fun x => p_cmd_All k x⟩
noncomputable def c_cmd_All (k : Nat) : Cx := ⟨Tryd.prog, [(39, e_strings_Split k), (25, e_cmd_Parse k)], [(10, Sd.mk [5, 11, 12, 13] (Ds.mk [Vd.one (Ld.own (0)), Vd.one (Ld.own (1)), Vd.one (Ld.im (T.int IntKind.i64)), Vd.one (Ld.im (T.int IntKind.i64))] [Od.arr (45) (T.pair (T.int IntKind.i64) (T.pair (T.arr (32) (T.int IntKind.u8)) T.str)), Od.arr (9) T.str])), (11, Sd.mk [5] (Ds.mk [Vd.one (Ld.own (0))] [Od.arr (45) (T.pair (T.int IntKind.i64) (T.pair (T.arr (32) (T.int IntKind.u8)) T.str))]))], [], [(3, Sd.mk [5, 11, 12, 13] (Ds.mk [Vd.one (Ld.own (0)), Vd.one (Ld.own (1)), Vd.one (Ld.im (T.int IntKind.i64)), Vd.one (Ld.im (T.int IntKind.i64))] [Od.arr (45) (T.pair (T.int IntKind.i64) (T.pair (T.arr (32) (T.int IntKind.u8)) T.str)), Od.arr (9) T.str]))], [], 0, 36, [(76, 0), (83, 1)], fun _ _ _ => none⟩
theorem q_cmd_All (k : Nat) (x : HL (e_cmd_All k).pre.ts) : runF (c_cmd_All k) k Tryd.f33 (e_cmd_All k).pre (e_cmd_All k).post x = (e_cmd_All k).fn x := by kernel_rfl
theorem s_cmd_All (k : Nat) : Entry.Sound Tryd.prog 33 (e_cmd_All k) := runF_sound (X := c_cmd_All k) (pre := (e_cmd_All k).pre) (post := (e_cmd_All k).post) (q := (e_cmd_All k).fn) ⟨(dOk_cons (s_strings_Split k) (dOk_cons (s_cmd_Parse k) dOk_nil)), x_ext, x_mo⟩ Tryd.func33 (q_cmd_All k)

/- dormouse/dormouselaw38.awake: function 21 -/
noncomputable def p_dormouselaw38_awake.j0 (k : Nat) (x603 : Bool) : Option Bool :=
  some x603
noncomputable def p_dormouselaw38_awake (k : Nat) : Option Bool :=
  Option.bind (p_cmd_Parse k [(112 : UInt8), (117 : UInt8), (116 : UInt8), (32 : UInt8), (49 : UInt8), (46 : UInt8), (50 : UInt8), (32 : UInt8), (54 : UInt8), (49 : UInt8), (54 : UInt8), (50 : UInt8)]) fun t598 => Option.bind (p_cmd_Text k (Prod.fst (Prod.fst t598), Prod.fst (Prod.snd (Prod.fst t598)), Prod.snd (Prod.snd (Prod.fst t598)))) fun t599 => Option.bind (p_cmd_All k [(114 : UInt8), (111 : UInt8), (108 : UInt8), (108 : UInt8), (10 : UInt8), (10 : UInt8), (119 : UInt8), (104 : UInt8), (97 : UInt8), (116 : UInt8), (10 : UInt8)]) fun t600 => Option.bind (p_cmd_Bytes k [(45 : UInt8)]) fun t601 => joinC (p_dormouselaw38_awake.j0 k) fun (j604 : Bool → Option Bool) => bif (Prod.fst (Prod.fst t598) == (1 : Int)) then bif (Prod.snd (Prod.snd (Prod.fst t598)) == [(97 : UInt8), (98 : UInt8)]) then bif (Prod.snd t598 == (0 : Int)) then bif (Prod.fst t599 == [(112 : UInt8), (117 : UInt8), (116 : UInt8), (32 : UInt8), (49 : UInt8), (46 : UInt8), (50 : UInt8), (32 : UInt8), (54 : UInt8), (49 : UInt8), (54 : UInt8), (50 : UInt8)]) then bif (Prod.snd t599 == (0 : Int)) then bif ((↑(List.length (Prod.snd (Prod.snd t600))) : Int) == (0 : Int)) then bif (Prod.fst t600 == (3 : Int)) then bif (Prod.fst (Prod.snd t600) == (15 : Int)) then bif (Prod.fst t601 == []) then bif (Prod.snd t601) then Option.bind (p_cmd_Hex k [(97 : UInt8)]) fun t602 => j604 (t602 == [(54 : UInt8), (49 : UInt8)]) else j604 Bool.false else j604 Bool.false else j604 Bool.false else j604 Bool.false else j604 Bool.false else j604 Bool.false else j604 Bool.false else j604 Bool.false else j604 Bool.false else j604 Bool.false
noncomputable def e_dormouselaw38_awake (k : Nat) : Entry := ⟨Ds.mk [] [], Ds.mk [Vd.one (Ld.im T.bool)] [], fun x => p_dormouselaw38_awake k⟩
noncomputable def c_dormouselaw38_awake (k : Nat) : Cx := ⟨Tryd.prog, [(28, e_cmd_Hex k), (29, e_cmd_Bytes k), (22, e_cmd_Text k), (25, e_cmd_Parse k), (33, e_cmd_All k)], [], [(5, Sd.mk [0] (Ds.mk [Vd.one (Ld.im T.bool)] []))], [], [], 0, 72, [(76, 0), (83, 1)], fun _ _ _ => none⟩
theorem q_dormouselaw38_awake (k : Nat) (x : HL (e_dormouselaw38_awake k).pre.ts) : runF (c_dormouselaw38_awake k) k Tryd.f21 (e_dormouselaw38_awake k).pre (e_dormouselaw38_awake k).post x = (e_dormouselaw38_awake k).fn x := by kernel_rfl
theorem s_dormouselaw38_awake (k : Nat) : Entry.Sound Tryd.prog 21 (e_dormouselaw38_awake k) := runF_sound (X := c_dormouselaw38_awake k) (pre := (e_dormouselaw38_awake k).pre) (post := (e_dormouselaw38_awake k).post) (q := (e_dormouselaw38_awake k).fn) ⟨(dOk_cons (s_cmd_Hex k) (dOk_cons (s_cmd_Bytes k) (dOk_cons (s_cmd_Text k) (dOk_cons (s_cmd_Parse k) (dOk_cons (s_cmd_All k) dOk_nil))))), x_ext, x_mo⟩ Tryd.func21 (q_dormouselaw38_awake k)

/- dormouse/dormouseref38.May: function 23 -/
noncomputable def p_dormouseref38_May.j3 (x628 : Bool) : Option Bool :=
  some x628
noncomputable def p_dormouseref38_May.j2 (x624 : Bool) (x625 : Int × Vector Int (32) × List UInt8) : Option Bool :=
  joinC (p_dormouseref38_May.j3) fun (j629 : Bool → Option Bool) => bif !x624 then j629 Bool.true else j629 (decide (Prod.fst (Prod.snd x625) = bparts (32 : Nat) (dflt (T.int IntKind.u8)) []))
noncomputable def p_dormouseref38_May.j1 (x620 : Bool) (x621 : Int × Vector Int (32) × List UInt8) : Option Bool :=
  bif x620 then some Bool.false else joinC (fun (y : Bool × Int × Vector Int (32) × List UInt8) => p_dormouseref38_May.j2 y.1 y.2) fun (j626 : Bool × Int × Vector Int (32) × List UInt8 → Option Bool) => bif (Prod.fst x621 == (4 : Int)) then j626 (Bool.true, Prod.fst x621, Prod.fst (Prod.snd x621), Prod.snd (Prod.snd x621)) else bif (decide (Prod.fst x621 ≥ (6 : Int))) then j626 (decide (Prod.fst x621 ≤ (8 : Int)), Prod.fst x621, Prod.fst (Prod.snd x621), Prod.snd (Prod.snd x621)) else j626 (Bool.false, Prod.fst x621, Prod.fst (Prod.snd x621), Prod.snd (Prod.snd x621))
noncomputable def p_dormouseref38_May.j0 (x616 : Bool) (x617 : Int × Vector Int (32) × List UInt8) : Option Bool :=
  bif x616 then some Bool.false else joinC (fun (y : Bool × Int × Vector Int (32) × List UInt8) => p_dormouseref38_May.j1 y.1 y.2) fun (j622 : Bool × Int × Vector Int (32) × List UInt8 → Option Bool) => bif (Prod.fst x617 != (1 : Int)) then bif (Prod.fst x617 != (5 : Int)) then j622 (!Prod.snd (Prod.snd x617) == [], Prod.fst x617, Prod.fst (Prod.snd x617), Prod.snd (Prod.snd x617)) else j622 (Bool.false, Prod.fst x617, Prod.fst (Prod.snd x617), Prod.snd (Prod.snd x617)) else j622 (Bool.false, Prod.fst x617, Prod.fst (Prod.snd x617), Prod.snd (Prod.snd x617))
noncomputable def p_dormouseref38_May (x615 : Int × Vector Int (32) × List UInt8) : Option Bool :=
  joinC (fun (y : Bool × Int × Vector Int (32) × List UInt8) => p_dormouseref38_May.j0 y.1 y.2) fun (j618 : Bool × Int × Vector Int (32) × List UInt8 → Option Bool) => bif (decide (Prod.fst x615 < (0 : Int))) then j618 (Bool.true, Prod.fst x615, Prod.fst (Prod.snd x615), Prod.snd (Prod.snd x615)) else bif (decide (Prod.fst x615 > (9 : Int))) then j618 (Bool.true, Prod.fst x615, Prod.fst (Prod.snd x615), Prod.snd (Prod.snd x615)) else j618 (decide ((↑(List.length (Prod.snd (Prod.snd x615))) : Int) > (70000 : Int)), Prod.fst x615, Prod.fst (Prod.snd x615), Prod.snd (Prod.snd x615))
noncomputable def e_dormouseref38_May : Entry := ⟨Ds.mk [Vd.st (T.pair (T.int IntKind.i64) (T.pair (T.arr (32) (T.int IntKind.u8)) T.str))] [], Ds.mk [Vd.one (Ld.im T.bool)] [], fun x => p_dormouseref38_May x⟩
noncomputable def c_dormouseref38_May : Cx := ⟨Tryd.prog, [], [], [(1, Sd.mk [1, 17] (Ds.mk [Vd.one (Ld.ptr (0) (0)), Vd.one (Ld.im T.bool)] [Od.blkT (45) (T.pair (T.int IntKind.i64) (T.pair (T.arr (32) (T.int IntKind.u8)) T.str))])), (3, Sd.mk [1, 30] (Ds.mk [Vd.one (Ld.ptr (0) (0)), Vd.one (Ld.im T.bool)] [Od.blkT (45) (T.pair (T.int IntKind.i64) (T.pair (T.arr (32) (T.int IntKind.u8)) T.str))])), (5, Sd.mk [1, 3] (Ds.mk [Vd.one (Ld.ptr (0) (0)), Vd.one (Ld.im T.bool)] [Od.blkT (45) (T.pair (T.int IntKind.i64) (T.pair (T.arr (32) (T.int IntKind.u8)) T.str))])), (6, Sd.mk [2] (Ds.mk [Vd.one (Ld.im T.bool)] []))], [], [], 0, 52, [(76, 0), (83, 1)], fun _ _ _ => none⟩
theorem q_dormouseref38_May (x : HL (e_dormouseref38_May).pre.ts) : runF (c_dormouseref38_May) 0 Tryd.f23 (e_dormouseref38_May).pre (e_dormouseref38_May).post x = (e_dormouseref38_May).fn x := by kernel_rfl
theorem s_dormouseref38_May : Entry.Sound Tryd.prog 23 (e_dormouseref38_May) := runF_sound (X := c_dormouseref38_May) (pre := (e_dormouseref38_May).pre) (post := (e_dormouseref38_May).post) (q := (e_dormouseref38_May).fn) ⟨dOk_nil, x_ext, x_mo⟩ Tryd.func23 (q_dormouseref38_May)

/- dormouse/dormouseref38.Word: function 49 -/
noncomputable def p_dormouseref38_Word (x650 : Int) : Option (List UInt8) :=
  need ((0 : Int) ≤ x650 ∧ x650 < (↑(10) : Int)) (some (at_ (dflt T.str) [[(103 : UInt8), (101 : UInt8), (116 : UInt8)], [(112 : UInt8), (117 : UInt8), (116 : UInt8)], [(100 : UInt8), (101 : UInt8), (108 : UInt8), (101 : UInt8), (116 : UInt8), (101 : UInt8)], [(116 : UInt8), (111 : UInt8), (117 : UInt8), (99 : UInt8), (104 : UInt8)], [(114 : UInt8), (111 : UInt8), (108 : UInt8), (108 : UInt8)], [(114 : UInt8), (101 : UInt8), (115 : UInt8), (117 : UInt8), (114 : UInt8), (114 : UInt8), (101 : UInt8), (99 : UInt8), (116 : UInt8)], [(99 : UInt8), (111 : UInt8), (109 : UInt8), (109 : UInt8), (105 : UInt8), (116 : UInt8)], [(97 : UInt8), (98 : UInt8), (111 : UInt8), (114 : UInt8), (116 : UInt8)], [(111 : UInt8), (112 : UInt8), (101 : UInt8), (110 : UInt8)], [(98 : UInt8), (97 : UInt8), (99 : UInt8), (107 : UInt8)]] x650))
noncomputable def e_dormouseref38_Word : Entry := ⟨Ds.mk [Vd.one (Ld.im (T.int IntKind.i64))] [], Ds.mk [Vd.one (Ld.im T.str)] [], fun x => p_dormouseref38_Word x⟩
noncomputable def c_dormouseref38_Word : Cx := ⟨Tryd.prog, [], [], [], [], [], 0, 7, [(76, 0), (83, 1)], fun _ _ _ => none⟩
theorem q_dormouseref38_Word (x : HL (e_dormouseref38_Word).pre.ts) : runF (c_dormouseref38_Word) 0 Tryd.f49 (e_dormouseref38_Word).pre (e_dormouseref38_Word).post x = (e_dormouseref38_Word).fn x := by kernel_rfl
theorem s_dormouseref38_Word : Entry.Sound Tryd.prog 49 (e_dormouseref38_Word) := runF_sound (X := c_dormouseref38_Word) (pre := (e_dormouseref38_Word).pre) (post := (e_dormouseref38_Word).post) (q := (e_dormouseref38_Word).fn) ⟨dOk_nil, x_ext, x_mo⟩ Tryd.func49 (q_dormouseref38_Word)

/- dormouse/dormouseref16.Bytes: function 63 -/
noncomputable def p_dormouseref16_Bytes.j0 (k : Nat) (x674 : List UInt8) : Option (List UInt8) :=
  some x674
noncomputable def p_dormouseref16_Bytes.b1 (k : Nat) (j675 : List UInt8 → Option (List UInt8)) (rec672 : List UInt8 × Int × Vector Int (32) → Option (List UInt8)) (x667 : List UInt8) (x668 : Int) (x669 : Vector Int (32)) : Option (List UInt8) :=
  bif (decide (x668 < (32 : Int))) then need ((0 : Int) ≤ x668 ∧ x668 < (↑(32 : Nat) : Int)) (need (List.length x667 + List.length (bytesOf [at_ (dflt (T.int IntKind.u8)) (Vector.toList x669) x668]) ≤ (9223372036854775807 : Nat)) (rec672 (x667 ++ bytesOf [at_ (dflt (T.int IntKind.u8)) (Vector.toList x669) x668], IntKind.wrap IntKind.i64 (x668 + (1 : Int)), x669))) else j675 x667
noncomputable def p_dormouseref16_Bytes (k : Nat) (x666 : Vector Int (32)) : Option (List UInt8) :=
  joinC (p_dormouseref16_Bytes.j0 k) fun (j675 : List UInt8 → Option (List UInt8)) => loopC (fun (r : List UInt8 × Int × Vector Int (32) → Option (List UInt8)) y => p_dormouseref16_Bytes.b1 k j675 r y.1 y.2.1 y.2.2) k ([], (0 : Int), x666)
noncomputable def e_dormouseref16_Bytes (k : Nat) : Entry := ⟨Ds.mk [Vd.st (T.arr (32) (T.int IntKind.u8))] [], Ds.mk [Vd.one (Ld.im T.str)] [], fun x => p_dormouseref16_Bytes k x⟩
noncomputable def c_dormouseref16_Bytes (k : Nat) : Cx := ⟨Tryd.prog, [], [(6, Sd.mk [3] (Ds.mk [Vd.one (Ld.im T.str)] []))], [], [(3, Sd.mk [1, 3, 4] (Ds.mk [Vd.one (Ld.ptr (0) (0)), Vd.one (Ld.im T.str), Vd.one (Ld.im (T.int IntKind.i64))] [Od.blkT (43) (T.arr (32) (T.int IntKind.u8))]))], [], 0, 17, [(76, 0), (83, 1)], fun _ _ _ => none⟩
theorem q_dormouseref16_Bytes (k : Nat) (x : HL (e_dormouseref16_Bytes k).pre.ts) : runF (c_dormouseref16_Bytes k) k Tryd.f63 (e_dormouseref16_Bytes k).pre (e_dormouseref16_Bytes k).post x = (e_dormouseref16_Bytes k).fn x := by kernel_rfl
theorem s_dormouseref16_Bytes (k : Nat) : Entry.Sound Tryd.prog 63 (e_dormouseref16_Bytes k) := runF_sound (X := c_dormouseref16_Bytes k) (pre := (e_dormouseref16_Bytes k).pre) (post := (e_dormouseref16_Bytes k).post) (q := (e_dormouseref16_Bytes k).fn) ⟨dOk_nil, x_ext, x_mo⟩ Tryd.func63 (q_dormouseref16_Bytes k)

/- dormouse/dormouseref01.Val: function 74 -/
noncomputable def p_dormouseref01_Val.j0 (k : Nat) (x697 : Int) : Option Int :=
  some x697
noncomputable def p_dormouseref01_Val.j2 (k : Nat) (rec695 : List UInt8 × Int × Int × Int → Option Int) (j698 : Int → Option Int) (x687 : List UInt8) (x688 : Int) (x689 : Int) (x690 : Int) (x691 : Bool) : Option Int :=
  bif x691 then need ((0 : Int) ≤ x690 ∧ x690 < (↑(List.length x687) : Int)) (rec695 (x687, IntKind.wrap IntKind.u64 (x688 + IntKind.wrap IntKind.u64 (x689 * IntKind.wrap IntKind.u64 (bat x687 x690))), IntKind.wrap IntKind.u64 (x689 * (256 : Int)), IntKind.wrap IntKind.i64 (x690 + (1 : Int)))) else j698 x688
noncomputable def p_dormouseref01_Val.b1 (k : Nat) (j698 : Int → Option Int) (rec695 : List UInt8 × Int × Int × Int → Option Int) (x683 : List UInt8) (x684 : Int) (x685 : Int) (x686 : Int) : Option Int :=
  joinC (fun (y : List UInt8 × Int × Int × Int × Bool) => p_dormouseref01_Val.j2 k rec695 j698 y.1 y.2.1 y.2.2.1 y.2.2.2.1 y.2.2.2.2) fun (j692 : List UInt8 × Int × Int × Int × Bool → Option Int) => bif (decide (x686 < (↑(List.length x683) : Int))) then j692 (x683, x684, x685, x686, decide (x686 < (8 : Int))) else j692 (x683, x684, x685, x686, Bool.false)
noncomputable def p_dormouseref01_Val (k : Nat) (x682 : List UInt8) : Option Int :=
  joinC (p_dormouseref01_Val.j0 k) fun (j698 : Int → Option Int) => loopC (fun (r : List UInt8 × Int × Int × Int → Option Int) y => p_dormouseref01_Val.b1 k j698 r y.1 y.2.1 y.2.2.1 y.2.2.2) k (x682, (0 : Int), (1 : Int), (0 : Int))
noncomputable def e_dormouseref01_Val (k : Nat) : Entry := ⟨Ds.mk [Vd.one (Ld.im T.str)] [], Ds.mk [Vd.one (Ld.im (T.int IntKind.u64))] [], fun x => p_dormouseref01_Val k x⟩
noncomputable def c_dormouseref01_Val (k : Nat) : Cx := ⟨Tryd.prog, [], [(8, Sd.mk [3] (Ds.mk [Vd.one (Ld.im (T.int IntKind.u64))] []))], [(4, Sd.mk [0, 3, 4, 5, 13] (Ds.mk [Vd.one (Ld.im T.str), Vd.one (Ld.im (T.int IntKind.u64)), Vd.one (Ld.im (T.int IntKind.u64)), Vd.one (Ld.im (T.int IntKind.i64)), Vd.one (Ld.im T.bool)] []))], [(4, Sd.mk [0, 3, 4, 5] (Ds.mk [Vd.one (Ld.im T.str), Vd.one (Ld.im (T.int IntKind.u64)), Vd.one (Ld.im (T.int IntKind.u64)), Vd.one (Ld.im (T.int IntKind.i64))] []))], [], 0, 27, [(76, 0), (83, 1)], fun _ _ _ => none⟩
theorem q_dormouseref01_Val (k : Nat) (x : HL (e_dormouseref01_Val k).pre.ts) : runF (c_dormouseref01_Val k) k Tryd.f74 (e_dormouseref01_Val k).pre (e_dormouseref01_Val k).post x = (e_dormouseref01_Val k).fn x := by kernel_rfl
theorem s_dormouseref01_Val (k : Nat) : Entry.Sound Tryd.prog 74 (e_dormouseref01_Val k) := runF_sound (X := c_dormouseref01_Val k) (pre := (e_dormouseref01_Val k).pre) (post := (e_dormouseref01_Val k).post) (q := (e_dormouseref01_Val k).fn) ⟨dOk_nil, x_ext, x_mo⟩ Tryd.func74 (q_dormouseref01_Val k)

/- dormouse/dormouseref01.Num: function 85 -/
noncomputable def p_dormouseref01_Num.j0 (k : Nat) (x720 : List UInt8) : Option (List UInt8) :=
  some x720
noncomputable def p_dormouseref01_Num.b1 (k : Nat) (j721 : List UInt8 → Option (List UInt8)) (rec718 : Int × Int × List UInt8 × Int → Option (List UInt8)) (x713 : Int) (x714 : Int) (x715 : List UInt8) (x716 : Int) : Option (List UInt8) :=
  bif (decide (x716 < x714)) then need (List.length x715 + List.length (bytesOf [IntKind.wrap IntKind.u8 (Int.tmod x713 (256 : Int))]) ≤ (9223372036854775807 : Nat)) (rec718 (IntKind.wrap IntKind.u64 (Int.tdiv x713 (256 : Int)), x714, x715 ++ bytesOf [IntKind.wrap IntKind.u8 (Int.tmod x713 (256 : Int))], IntKind.wrap IntKind.i64 (x716 + (1 : Int)))) else j721 x715
noncomputable def p_dormouseref01_Num (k : Nat) (x711 : Int) (x712 : Int) : Option (List UInt8) :=
  joinC (p_dormouseref01_Num.j0 k) fun (j721 : List UInt8 → Option (List UInt8)) => loopC (fun (r : Int × Int × List UInt8 × Int → Option (List UInt8)) y => p_dormouseref01_Num.b1 k j721 r y.1 y.2.1 y.2.2.1 y.2.2.2) k (x711, x712, [], (0 : Int))
noncomputable def e_dormouseref01_Num (k : Nat) : Entry := ⟨Ds.mk [Vd.one (Ld.im (T.int IntKind.u64)), Vd.one (Ld.im (T.int IntKind.i64))] [], Ds.mk [Vd.one (Ld.im T.str)] [], fun x => p_dormouseref01_Num k x.1 x.2⟩
noncomputable def c_dormouseref01_Num (k : Nat) : Cx := ⟨Tryd.prog, [], [(7, Sd.mk [5] (Ds.mk [Vd.one (Ld.im T.str)] []))], [], [(3, Sd.mk [0, 1, 5, 6] (Ds.mk [Vd.one (Ld.im (T.int IntKind.u64)), Vd.one (Ld.im (T.int IntKind.i64)), Vd.one (Ld.im T.str), Vd.one (Ld.im (T.int IntKind.i64))] []))], [], 0, 22, [(76, 0), (83, 1)], fun _ _ _ => none⟩
theorem q_dormouseref01_Num (k : Nat) (x : HL (e_dormouseref01_Num k).pre.ts) : runF (c_dormouseref01_Num k) k Tryd.f85 (e_dormouseref01_Num k).pre (e_dormouseref01_Num k).post x = (e_dormouseref01_Num k).fn x := by kernel_rfl
theorem s_dormouseref01_Num (k : Nat) : Entry.Sound Tryd.prog 85 (e_dormouseref01_Num k) := runF_sound (X := c_dormouseref01_Num k) (pre := (e_dormouseref01_Num k).pre) (post := (e_dormouseref01_Num k).post) (q := (e_dormouseref01_Num k).fn) ⟨dOk_nil, x_ext, x_mo⟩ Tryd.func85 (q_dormouseref01_Num k)

/- dormouse/dormouseref16.Of: function 75 -/
noncomputable def p_dormouseref16_Of (k : Nat) (x724 : Int) (x725 : Int) : Option (List UInt8) :=
  Option.bind (p_dormouseref01_Num k x724 (8 : Int)) fun t726 => need (List.length t726 + 16 ≤ (9223372036854775807 : Nat)) (Option.bind (p_dormouseref01_Num k x725 (8 : Int)) fun t728 => need (List.length (t726 ++ [(0 : UInt8), (0 : UInt8), (0 : UInt8), (0 : UInt8), (0 : UInt8), (0 : UInt8), (0 : UInt8), (0 : UInt8), (0 : UInt8), (0 : UInt8), (0 : UInt8), (0 : UInt8), (0 : UInt8), (0 : UInt8), (0 : UInt8), (0 : UInt8)]) + List.length t728 ≤ (9223372036854775807 : Nat)) (some (t726 ++ [(0 : UInt8), (0 : UInt8), (0 : UInt8), (0 : UInt8), (0 : UInt8), (0 : UInt8), (0 : UInt8), (0 : UInt8), (0 : UInt8), (0 : UInt8), (0 : UInt8), (0 : UInt8), (0 : UInt8), (0 : UInt8), (0 : UInt8), (0 : UInt8)] ++ t728)))
noncomputable def e_dormouseref16_Of (k : Nat) : Entry := ⟨Ds.mk [Vd.one (Ld.im (T.int IntKind.u64)), Vd.one (Ld.im (T.int IntKind.u64))] [], Ds.mk [Vd.one (Ld.im T.str)] [], fun x => p_dormouseref16_Of k x.1 x.2⟩
noncomputable def c_dormouseref16_Of (k : Nat) : Cx := ⟨Tryd.prog, [(85, e_dormouseref01_Num k)], [], [], [], [], 0, 11, [(76, 0), (83, 1)], fun _ _ _ => none⟩
theorem q_dormouseref16_Of (k : Nat) (x : HL (e_dormouseref16_Of k).pre.ts) : runF (c_dormouseref16_Of k) k Tryd.f75 (e_dormouseref16_Of k).pre (e_dormouseref16_Of k).post x = (e_dormouseref16_Of k).fn x := by kernel_rfl
theorem s_dormouseref16_Of (k : Nat) : Entry.Sound Tryd.prog 75 (e_dormouseref16_Of k) := runF_sound (X := c_dormouseref16_Of k) (pre := (e_dormouseref16_Of k).pre) (post := (e_dormouseref16_Of k).post) (q := (e_dormouseref16_Of k).fn) ⟨(dOk_cons (s_dormouseref01_Num k) dOk_nil), x_ext, x_mo⟩ Tryd.func75 (q_dormouseref16_Of k)

/- dormouse/dormouseref16.Split: function 62 -/
noncomputable def p_dormouseref16_Split (k : Nat) (x731 : Vector Int (32)) : Option (Int × Int × Bool) :=
  Option.bind (p_dormouseref16_Bytes k x731) fun t732 => need ((0 : Int) ≤ (0 : Int) ∧ (0 : Int) ≤ (8 : Int) ∧ (8 : Int) ≤ (↑(List.length t732) : Int)) (Option.bind (p_dormouseref01_Val k (sub_ t732 (0 : Int) (8 : Int))) fun t734 => need ((0 : Int) ≤ (24 : Int) ∧ (24 : Int) ≤ (↑(List.length t732) : Int) ∧ (↑(List.length t732) : Int) ≤ (↑(List.length t732) : Int)) (Option.bind (p_dormouseref01_Val k (sub_ t732 (24 : Int) (↑(List.length t732) : Int))) fun t736 => Option.bind (p_dormouseref16_Of k t734 t736) fun t737 => bif (!t737 == t732) then some ((0 : Int), (0 : Int), Bool.false) else some (t734, t736, Bool.true)))
noncomputable def e_dormouseref16_Split (k : Nat) : Entry := ⟨Ds.mk [Vd.st (T.arr (32) (T.int IntKind.u8))] [], Ds.mk [Vd.one (Ld.im (T.int IntKind.u64)), Vd.one (Ld.im (T.int IntKind.u64)), Vd.one (Ld.im T.bool)] [], fun x => p_dormouseref16_Split k x⟩
noncomputable def c_dormouseref16_Split (k : Nat) : Cx := ⟨Tryd.prog, [(63, e_dormouseref16_Bytes k), (74, e_dormouseref01_Val k), (75, e_dormouseref16_Of k)], [], [], [], [], 0, 23, [(76, 0), (83, 1)], fun _ _ _ => none⟩
theorem q_dormouseref16_Split (k : Nat) (x : HL (e_dormouseref16_Split k).pre.ts) : runF (c_dormouseref16_Split k) k Tryd.f62 (e_dormouseref16_Split k).pre (e_dormouseref16_Split k).post x = (e_dormouseref16_Split k).fn x := by kernel_rfl
theorem s_dormouseref16_Split (k : Nat) : Entry.Sound Tryd.prog 62 (e_dormouseref16_Split k) := runF_sound (X := c_dormouseref16_Split k) (pre := (e_dormouseref16_Split k).pre) (post := (e_dormouseref16_Split k).post) (q := (e_dormouseref16_Split k).fn) ⟨(dOk_cons (s_dormouseref16_Bytes k) (dOk_cons (s_dormouseref01_Val k) (dOk_cons (s_dormouseref16_Of k) dOk_nil))), x_ext, x_mo⟩ Tryd.func62 (q_dormouseref16_Split k)

/- dormouse/dormouseref16.Text: function 50 -/
noncomputable def p_dormouseref16_Text (k : Nat) (x791 : Vector Int (32)) : Option (List UInt8) :=
  Option.bind (p_dormouseref16_Split k x791) fun t792 => bif (Prod.snd (Prod.snd t792)) then Option.bind (p_dormouseref16_Digits k (Prod.fst t792)) fun t793 => need (List.length t793 + 1 ≤ (9223372036854775807 : Nat)) (Option.bind (p_dormouseref16_Digits k (Prod.fst (Prod.snd t792))) fun t795 => need (List.length (t793 ++ [(46 : UInt8)]) + List.length t795 ≤ (9223372036854775807 : Nat)) (some (t793 ++ [(46 : UInt8)] ++ t795))) else Option.bind (p_dormouseref16_Bytes k x791) fun t797 => Option.bind (p_dormouseref03_Hex k t797) fun t798 => some t798
noncomputable def e_dormouseref16_Text (k : Nat) : Entry := ⟨Ds.mk [Vd.st (T.arr (32) (T.int IntKind.u8))] [], Ds.mk [Vd.one (Ld.im T.str)] [], fun x => p_dormouseref16_Text k x⟩
noncomputable def c_dormouseref16_Text (k : Nat) : Cx := ⟨Tryd.prog, [(63, e_dormouseref16_Bytes k), (62, e_dormouseref16_Split k), (36, e_dormouseref16_Digits k), (37, e_dormouseref03_Hex k)], [], [], [], [], 0, 22, [(76, 0), (83, 1)], fun _ _ _ => none⟩
theorem q_dormouseref16_Text (k : Nat) (x : HL (e_dormouseref16_Text k).pre.ts) : runF (c_dormouseref16_Text k) k Tryd.f50 (e_dormouseref16_Text k).pre (e_dormouseref16_Text k).post x = (e_dormouseref16_Text k).fn x := by kernel_rfl
theorem s_dormouseref16_Text (k : Nat) : Entry.Sound Tryd.prog 50 (e_dormouseref16_Text k) := runF_sound (X := c_dormouseref16_Text k) (pre := (e_dormouseref16_Text k).pre) (post := (e_dormouseref16_Text k).post) (q := (e_dormouseref16_Text k).fn) ⟨(dOk_cons (s_dormouseref16_Bytes k) (dOk_cons (s_dormouseref16_Split k) (dOk_cons (s_dormouseref16_Digits k) (dOk_cons (s_dormouseref03_Hex k) dOk_nil)))), x_ext, x_mo⟩ Tryd.func50 (q_dormouseref16_Text k)

/- dormouse/dormouseref38.Hex: function 30 -/
noncomputable def p_dormouseref38_Hex (k : Nat) (x817 : List UInt8) : Option (List UInt8) :=
  bif (x817 == []) then some ([(45 : UInt8)]) else Option.bind (p_dormouseref03_Hex k x817) fun t818 => some t818
noncomputable def e_dormouseref38_Hex (k : Nat) : Entry := ⟨Ds.mk [Vd.one (Ld.im T.str)] [], Ds.mk [Vd.one (Ld.im T.str)] [], fun x => p_dormouseref38_Hex k x⟩
noncomputable def c_dormouseref38_Hex (k : Nat) : Cx := ⟨Tryd.prog, [(37, e_dormouseref03_Hex k)], [], [], [], [], 0, 7, [(76, 0), (83, 1)], fun _ _ _ => none⟩
theorem q_dormouseref38_Hex (k : Nat) (x : HL (e_dormouseref38_Hex k).pre.ts) : runF (c_dormouseref38_Hex k) k Tryd.f30 (e_dormouseref38_Hex k).pre (e_dormouseref38_Hex k).post x = (e_dormouseref38_Hex k).fn x := by kernel_rfl
theorem s_dormouseref38_Hex (k : Nat) : Entry.Sound Tryd.prog 30 (e_dormouseref38_Hex k) := runF_sound (X := c_dormouseref38_Hex k) (pre := (e_dormouseref38_Hex k).pre) (post := (e_dormouseref38_Hex k).post) (q := (e_dormouseref38_Hex k).fn) ⟨(dOk_cons (s_dormouseref03_Hex k) dOk_nil), x_ext, x_mo⟩ Tryd.func30 (q_dormouseref38_Hex k)

/- dormouse/dormouseref38.Line: function 26 -/
noncomputable def p_dormouseref38_Line.j1 (k : Nat) (x838 : List UInt8) : Option (List UInt8) :=
  some x838
noncomputable def p_dormouseref38_Line.j2 (k : Nat) (j839 : List UInt8 → Option (List UInt8)) (x830 : List UInt8) (x831 : Bool) (x832 : Int × Vector Int (32) × List UInt8) : Option (List UInt8) :=
  bif x831 then need (List.length x830 + 1 ≤ (9223372036854775807 : Nat)) (Option.bind (p_dormouseref38_Hex k (Prod.snd (Prod.snd x832))) fun t836 => need (List.length (x830 ++ [(32 : UInt8)]) + List.length t836 ≤ (9223372036854775807 : Nat)) (j839 (x830 ++ [(32 : UInt8)] ++ t836))) else j839 x830
noncomputable def p_dormouseref38_Line.j0 (k : Nat) (x822 : List UInt8) (x823 : Bool) (x824 : Int × Vector Int (32) × List UInt8) : Option (List UInt8) :=
  bif x823 then some x822 else need (List.length x822 + 1 ≤ (9223372036854775807 : Nat)) (Option.bind (p_dormouseref16_Text k (Prod.fst (Prod.snd x824))) fun t828 => need (List.length (x822 ++ [(32 : UInt8)]) + List.length t828 ≤ (9223372036854775807 : Nat)) (joinC (p_dormouseref38_Line.j1 k) fun (j839 : List UInt8 → Option (List UInt8)) => joinC (fun (y : List UInt8 × Bool × Int × Vector Int (32) × List UInt8) => p_dormouseref38_Line.j2 k j839 y.1 y.2.1 y.2.2) fun (j833 : List UInt8 × Bool × Int × Vector Int (32) × List UInt8 → Option (List UInt8)) => bif (Prod.fst x824 == (1 : Int)) then j833 (x822 ++ [(32 : UInt8)] ++ t828, Bool.true, Prod.fst x824, Prod.fst (Prod.snd x824), Prod.snd (Prod.snd x824)) else j833 (x822 ++ [(32 : UInt8)] ++ t828, Prod.fst x824 == (5 : Int), Prod.fst x824, Prod.fst (Prod.snd x824), Prod.snd (Prod.snd x824))))
noncomputable def p_dormouseref38_Line (k : Nat) (x820 : Int × Vector Int (32) × List UInt8) : Option (List UInt8) :=
  Option.bind (p_dormouseref38_Word (Prod.fst x820)) fun t821 => joinC (fun (y : List UInt8 × Bool × Int × Vector Int (32) × List UInt8) => p_dormouseref38_Line.j0 k y.1 y.2.1 y.2.2) fun (j825 : List UInt8 × Bool × Int × Vector Int (32) × List UInt8 → Option (List UInt8)) => bif (Prod.fst x820 == (4 : Int)) then j825 (t821, Bool.true, Prod.fst x820, Prod.fst (Prod.snd x820), Prod.snd (Prod.snd x820)) else bif (decide (Prod.fst x820 ≥ (6 : Int))) then j825 (t821, decide (Prod.fst x820 ≤ (8 : Int)), Prod.fst x820, Prod.fst (Prod.snd x820), Prod.snd (Prod.snd x820)) else j825 (t821, Bool.false, Prod.fst x820, Prod.fst (Prod.snd x820), Prod.snd (Prod.snd x820))
noncomputable def e_dormouseref38_Line (k : Nat) : Entry := ⟨Ds.mk [Vd.st (T.pair (T.int IntKind.i64) (T.pair (T.arr (32) (T.int IntKind.u8)) T.str))] [], Ds.mk [Vd.one (Ld.im T.str)] [], fun x => p_dormouseref38_Line k x⟩
noncomputable def c_dormouseref38_Line (k : Nat) : Cx := ⟨Tryd.prog, [(49, e_dormouseref38_Word), (50, e_dormouseref16_Text k), (30, e_dormouseref38_Hex k)], [(7, Sd.mk [3] (Ds.mk [Vd.one (Ld.im T.str)] []))], [(2, Sd.mk [1, 3, 19] (Ds.mk [Vd.one (Ld.ptr (0) (0)), Vd.one (Ld.im T.str), Vd.one (Ld.im T.bool)] [Od.blkT (45) (T.pair (T.int IntKind.i64) (T.pair (T.arr (32) (T.int IntKind.u8)) T.str))])), (5, Sd.mk [1, 3, 34] (Ds.mk [Vd.one (Ld.ptr (0) (0)), Vd.one (Ld.im T.str), Vd.one (Ld.im T.bool)] [Od.blkT (45) (T.pair (T.int IntKind.i64) (T.pair (T.arr (32) (T.int IntKind.u8)) T.str))]))], [], [], 0, 42, [(76, 0), (83, 1)], fun _ _ _ => none⟩
theorem q_dormouseref38_Line (k : Nat) (x : HL (e_dormouseref38_Line k).pre.ts) : runF (c_dormouseref38_Line k) k Tryd.f26 (e_dormouseref38_Line k).pre (e_dormouseref38_Line k).post x = (e_dormouseref38_Line k).fn x := by kernel_rfl
theorem s_dormouseref38_Line (k : Nat) : Entry.Sound Tryd.prog 26 (e_dormouseref38_Line k) := runF_sound (X := c_dormouseref38_Line k) (pre := (e_dormouseref38_Line k).pre) (post := (e_dormouseref38_Line k).post) (q := (e_dormouseref38_Line k).fn) ⟨(dOk_cons (s_dormouseref38_Word) (dOk_cons (s_dormouseref16_Text k) (dOk_cons (s_dormouseref38_Hex k) dOk_nil))), x_ext, x_mo⟩ Tryd.func26 (q_dormouseref38_Line k)

/- dormouse/dormouselaw38.CmdTexts: function 6 -/
noncomputable def p_dormouselaw38_CmdTexts.j1 (k : Nat) (x852 : Bool) : Option Bool :=
  some x852
noncomputable def p_dormouselaw38_CmdTexts.j2 (k : Nat) (x858 : Bool) : Option Bool :=
  some x858
noncomputable def p_dormouselaw38_CmdTexts.j0 (k : Nat) (x843 : Bool) (x844 : Int × Vector Int (32) × List UInt8) : Option Bool :=
  bif x843 then Option.bind (p_dormouselaw38_awake k) fun t847 => some t847 else Option.bind (p_cmd_Text k (Prod.fst x844, Prod.fst (Prod.snd x844), Prod.snd (Prod.snd x844))) fun t848 => Option.bind (p_dormouseref38_May (Prod.fst x844, Prod.fst (Prod.snd x844), Prod.snd (Prod.snd x844))) fun t849 => Option.bind (p_cmd_Check (Prod.fst x844, Prod.fst (Prod.snd x844), Prod.snd (Prod.snd x844))) fun t850 => bif (!(t850 == (0 : Int)) == t849) then some Bool.false else bif !t849 then joinC (p_dormouselaw38_CmdTexts.j1 k) fun (j853 : Bool → Option Bool) => Option.bind (p_dormouselaw38_awake k) fun t851 => bif t851 then bif (Prod.fst t848 == []) then j853 (Prod.snd t848 == (2 : Int)) else j853 Bool.false else j853 Bool.false else Option.bind (p_cmd_Parse k (Prod.fst t848)) fun t855 => joinC (p_dormouselaw38_CmdTexts.j2 k) fun (j859 : Bool → Option Bool) => Option.bind (p_dormouselaw38_awake k) fun t856 => bif t856 then bif (Prod.snd t848 == (0 : Int)) then Option.bind (p_dormouseref38_Line k (Prod.fst x844, Prod.fst (Prod.snd x844), Prod.snd (Prod.snd x844))) fun t857 => bif (Prod.fst t848 == t857) then bif (Prod.fst (Prod.fst t855) == Prod.fst x844 && (decide (Prod.fst (Prod.snd (Prod.fst t855)) = Prod.fst (Prod.snd x844)) && (Prod.snd (Prod.snd (Prod.fst t855)) == Prod.snd (Prod.snd x844) && Bool.true))) then j859 (Prod.snd t855 == (0 : Int)) else j859 Bool.false else j859 Bool.false else j859 Bool.false else j859 Bool.false
noncomputable def p_dormouselaw38_CmdTexts (k : Nat) (x842 : Int × Vector Int (32) × List UInt8) : Option Bool :=
  joinC (fun (y : Bool × Int × Vector Int (32) × List UInt8) => p_dormouselaw38_CmdTexts.j0 k y.1 y.2) fun (j845 : Bool × Int × Vector Int (32) × List UInt8 → Option Bool) => bif (decide ((↑(List.length (Prod.snd (Prod.snd x842))) : Int) > (500 : Int))) then bif (decide ((↑(List.length (Prod.snd (Prod.snd x842))) : Int) ≤ (70000 : Int))) then j845 (Bool.true, Prod.fst x842, Prod.fst (Prod.snd x842), Prod.snd (Prod.snd x842)) else j845 (decide ((↑(List.length (Prod.snd (Prod.snd x842))) : Int) > (71000 : Int)), Prod.fst x842, Prod.fst (Prod.snd x842), Prod.snd (Prod.snd x842)) else j845 (decide ((↑(List.length (Prod.snd (Prod.snd x842))) : Int) > (71000 : Int)), Prod.fst x842, Prod.fst (Prod.snd x842), Prod.snd (Prod.snd x842))
noncomputable def e_dormouselaw38_CmdTexts (k : Nat) : Entry := ⟨Ds.mk [Vd.st (T.pair (T.int IntKind.i64) (T.pair (T.arr (32) (T.int IntKind.u8)) T.str))] [], Ds.mk [Vd.one (Ld.im T.bool)] [], fun x => p_dormouselaw38_CmdTexts k x⟩
noncomputable def c_dormouselaw38_CmdTexts (k : Nat) : Cx := ⟨Tryd.prog, [(24, e_cmd_Check), (22, e_cmd_Text k), (25, e_cmd_Parse k), (21, e_dormouselaw38_awake k), (23, e_dormouseref38_May), (26, e_dormouseref38_Line k)], [], [(1, Sd.mk [1, 23] (Ds.mk [Vd.one (Ld.ptr (0) (0)), Vd.one (Ld.im T.bool)] [Od.blkT (45) (T.pair (T.int IntKind.i64) (T.pair (T.arr (32) (T.int IntKind.u8)) T.str))])), (8, Sd.mk [2] (Ds.mk [Vd.one (Ld.im T.bool)] [])), (10, Sd.mk [2] (Ds.mk [Vd.one (Ld.im T.bool)] []))], [], [], 0, 73, [(76, 0), (83, 1)], fun _ _ _ => none⟩
theorem q_dormouselaw38_CmdTexts (k : Nat) (x : HL (e_dormouselaw38_CmdTexts k).pre.ts) : runF (c_dormouselaw38_CmdTexts k) k Tryd.f6 (e_dormouselaw38_CmdTexts k).pre (e_dormouselaw38_CmdTexts k).post x = (e_dormouselaw38_CmdTexts k).fn x := by kernel_rfl
theorem s_dormouselaw38_CmdTexts (k : Nat) : Entry.Sound Tryd.prog 6 (e_dormouselaw38_CmdTexts k) := runF_sound (X := c_dormouselaw38_CmdTexts k) (pre := (e_dormouselaw38_CmdTexts k).pre) (post := (e_dormouselaw38_CmdTexts k).post) (q := (e_dormouselaw38_CmdTexts k).fn) ⟨(dOk_cons (s_cmd_Check) (dOk_cons (s_cmd_Text k) (dOk_cons (s_cmd_Parse k) (dOk_cons (s_dormouselaw38_awake k) (dOk_cons (s_dormouseref38_May) (dOk_cons (s_dormouseref38_Line k) dOk_nil)))))), x_ext, x_mo⟩ Tryd.func6 (q_dormouselaw38_CmdTexts k)

/- dormouse/dormouseref38.Known: function 27 -/
noncomputable def p_dormouseref38_Known.j1 (k : Nat) : Option Bool :=
  some Bool.false
noncomputable def p_dormouseref38_Known.b2 (k : Nat) (j888 : Unit → Option Bool) (rec886 : List UInt8 × Int → Option Bool) (x883 : List UInt8) (x884 : Int) : Option Bool :=
  bif (decide (x884 < (10 : Int))) then Option.bind (p_dormouseref38_Word x884) fun t885 => bif (t885 == x883) then some Bool.true else rec886 (x883, IntKind.wrap IntKind.i64 (x884 + (1 : Int))) else j888 ()
noncomputable def p_dormouseref38_Known.j0 (k : Nat) (x882 : List UInt8) : Option Bool :=
  joinC (fun (y : Unit) => p_dormouseref38_Known.j1 k) fun (j888 : Unit → Option Bool) => loopC (fun (r : List UInt8 × Int → Option Bool) y => p_dormouseref38_Known.b2 k j888 r y.1 y.2) k (x882, (0 : Int))
noncomputable def p_dormouseref38_Known.j4 (k : Nat) (rec880 : List UInt8 × List UInt8 × Int → Option Bool) (j890 : List UInt8 → Option Bool) (x872 : List UInt8) (x873 : List UInt8) (x874 : Int) (x875 : Bool) : Option Bool :=
  bif x875 then need ((0 : Int) ≤ x874 ∧ x874 ≤ IntKind.wrap IntKind.i64 (x874 + (1 : Int)) ∧ IntKind.wrap IntKind.i64 (x874 + (1 : Int)) ≤ (↑(List.length x872) : Int)) (need (List.length x873 + List.length (sub_ x872 x874 (IntKind.wrap IntKind.i64 (x874 + (1 : Int)))) ≤ (9223372036854775807 : Nat)) (rec880 (x872, x873 ++ sub_ x872 x874 (IntKind.wrap IntKind.i64 (x874 + (1 : Int))), IntKind.wrap IntKind.i64 (x874 + (1 : Int))))) else j890 x873
noncomputable def p_dormouseref38_Known.b3 (k : Nat) (j890 : List UInt8 → Option Bool) (rec880 : List UInt8 × List UInt8 × Int → Option Bool) (x868 : List UInt8) (x869 : List UInt8) (x870 : Int) : Option Bool :=
  joinC (fun (y : List UInt8 × List UInt8 × Int × Bool) => p_dormouseref38_Known.j4 k rec880 j890 y.1 y.2.1 y.2.2.1 y.2.2.2) fun (j876 : List UInt8 × List UInt8 × Int × Bool → Option Bool) => bif (decide (x870 < (↑(List.length x868) : Int))) then need ((0 : Int) ≤ x870 ∧ x870 < (↑(List.length x868) : Int)) (j876 (x868, x869, x870, bat x868 x870 != (32 : Int))) else j876 (x868, x869, x870, Bool.false)
noncomputable def p_dormouseref38_Known (k : Nat) (x867 : List UInt8) : Option Bool :=
  joinC (p_dormouseref38_Known.j0 k) fun (j890 : List UInt8 → Option Bool) => loopC (fun (r : List UInt8 × List UInt8 × Int → Option Bool) y => p_dormouseref38_Known.b3 k j890 r y.1 y.2.1 y.2.2) k (x867, [], (0 : Int))
noncomputable def e_dormouseref38_Known (k : Nat) : Entry := ⟨Ds.mk [Vd.one (Ld.im T.str)] [], Ds.mk [Vd.one (Ld.im T.bool)] [], fun x => p_dormouseref38_Known k x⟩
noncomputable def c_dormouseref38_Known (k : Nat) : Cx := ⟨Tryd.prog, [(49, e_dormouseref38_Word)], [(6, Sd.mk [3] (Ds.mk [Vd.one (Ld.im T.str)] [])), (11, Sd.mk [] (Ds.mk [] []))], [(3, Sd.mk [0, 3, 4, 15] (Ds.mk [Vd.one (Ld.im T.str), Vd.one (Ld.im T.str), Vd.one (Ld.im (T.int IntKind.i64)), Vd.one (Ld.im T.bool)] []))], [(3, Sd.mk [0, 3, 4] (Ds.mk [Vd.one (Ld.im T.str), Vd.one (Ld.im T.str), Vd.one (Ld.im (T.int IntKind.i64))] [])), (7, Sd.mk [3, 5] (Ds.mk [Vd.one (Ld.im T.str), Vd.one (Ld.im (T.int IntKind.i64))] []))], [], 0, 33, [(76, 0), (83, 1)], fun _ _ _ => none⟩
theorem q_dormouseref38_Known (k : Nat) (x : HL (e_dormouseref38_Known k).pre.ts) : runF (c_dormouseref38_Known k) k Tryd.f27 (e_dormouseref38_Known k).pre (e_dormouseref38_Known k).post x = (e_dormouseref38_Known k).fn x := by kernel_rfl
theorem s_dormouseref38_Known (k : Nat) : Entry.Sound Tryd.prog 27 (e_dormouseref38_Known k) := runF_sound (X := c_dormouseref38_Known k) (pre := (e_dormouseref38_Known k).pre) (post := (e_dormouseref38_Known k).post) (q := (e_dormouseref38_Known k).fn) ⟨(dOk_cons (s_dormouseref38_Word) dOk_nil), x_ext, x_mo⟩ Tryd.func27 (q_dormouseref38_Known k)

/- dormouse/dormouselaw38.CmdParses: function 7 -/
noncomputable def p_dormouselaw38_CmdParses.j0 (k : Nat) (x898 : Bool) : Option Bool :=
  some x898
noncomputable def p_dormouselaw38_CmdParses.j1 (k : Nat) (x904 : Bool) : Option Bool :=
  some x904
noncomputable def p_dormouselaw38_CmdParses (k : Nat) (x893 : List UInt8) : Option Bool :=
  bif (decide ((↑(List.length x893) : Int) > (500 : Int))) then Option.bind (p_dormouselaw38_awake k) fun t894 => some t894 else Option.bind (p_cmd_Parse k x893) fun t895 => bif (Prod.snd t895 != (0 : Int)) then joinC (p_dormouselaw38_CmdParses.j0 k) fun (j899 : Bool → Option Bool) => Option.bind (p_dormouselaw38_awake k) fun t896 => bif t896 then bif (Prod.fst (Prod.fst t895) == (0 : Int) && (decide (Prod.fst (Prod.snd (Prod.fst t895)) = Vector.replicate (32 : Nat) (dflt (T.int IntKind.u8))) && (Prod.snd (Prod.snd (Prod.fst t895)) == [] && Bool.true))) then Option.bind (p_dormouseref38_Known k x893) fun t897 => bif ((Prod.snd t895 == (15 : Int)) == !t897) then bif (Prod.snd t895 == (15 : Int)) then j899 Bool.true else j899 (Prod.snd t895 == (6 : Int)) else j899 Bool.false else j899 Bool.false else j899 Bool.false else joinC (p_dormouselaw38_CmdParses.j1 k) fun (j905 : Bool → Option Bool) => Option.bind (p_dormouselaw38_awake k) fun t901 => bif t901 then Option.bind (p_dormouseref38_May (Prod.fst (Prod.fst t895), Prod.fst (Prod.snd (Prod.fst t895)), Prod.snd (Prod.snd (Prod.fst t895)))) fun t902 => bif t902 then Option.bind (p_dormouseref38_Line k (Prod.fst (Prod.fst t895), Prod.fst (Prod.snd (Prod.fst t895)), Prod.snd (Prod.snd (Prod.fst t895)))) fun t903 => j905 (t903 == x893) else j905 Bool.false else j905 Bool.false
noncomputable def e_dormouselaw38_CmdParses (k : Nat) : Entry := ⟨Ds.mk [Vd.one (Ld.im T.str)] [], Ds.mk [Vd.one (Ld.im T.bool)] [], fun x => p_dormouselaw38_CmdParses k x⟩
noncomputable def c_dormouselaw38_CmdParses (k : Nat) : Cx := ⟨Tryd.prog, [(25, e_cmd_Parse k), (21, e_dormouselaw38_awake k), (23, e_dormouseref38_May), (26, e_dormouseref38_Line k), (27, e_dormouseref38_Known k)], [], [(5, Sd.mk [2] (Ds.mk [Vd.one (Ld.im T.bool)] [])), (6, Sd.mk [2] (Ds.mk [Vd.one (Ld.im T.bool)] []))], [], [], 0, 49, [(76, 0), (83, 1)], fun _ _ _ => none⟩
theorem q_dormouselaw38_CmdParses (k : Nat) (x : HL (e_dormouselaw38_CmdParses k).pre.ts) : runF (c_dormouselaw38_CmdParses k) k Tryd.f7 (e_dormouselaw38_CmdParses k).pre (e_dormouselaw38_CmdParses k).post x = (e_dormouselaw38_CmdParses k).fn x := by kernel_rfl
theorem s_dormouselaw38_CmdParses (k : Nat) : Entry.Sound Tryd.prog 7 (e_dormouselaw38_CmdParses k) := runF_sound (X := c_dormouselaw38_CmdParses k) (pre := (e_dormouselaw38_CmdParses k).pre) (post := (e_dormouselaw38_CmdParses k).post) (q := (e_dormouselaw38_CmdParses k).fn) ⟨(dOk_cons (s_cmd_Parse k) (dOk_cons (s_dormouselaw38_awake k) (dOk_cons (s_dormouseref38_May) (dOk_cons (s_dormouseref38_Line k) (dOk_cons (s_dormouseref38_Known k) dOk_nil))))), x_ext, x_mo⟩ Tryd.func7 (q_dormouselaw38_CmdParses k)

/- dormouse/dormouselaw38.CmdHex: function 8 -/
noncomputable def p_dormouselaw38_CmdHex.j1 (k : Nat) (x922 : Bool) : Option Bool :=
  some x922
noncomputable def p_dormouselaw38_CmdHex.j0 (k : Nat) (x910 : List UInt8) (x911 : List UInt8) (x912 : Bool) : Option Bool :=
  bif x912 then Option.bind (p_dormouselaw38_awake k) fun t915 => some t915 else Option.bind (p_cmd_Hex k x910) fun t916 => Option.bind (p_cmd_Bytes k t916) fun t917 => Option.bind (p_cmd_Bytes k x911) fun t918 => joinC (p_dormouselaw38_CmdHex.j1 k) fun (j923 : Bool → Option Bool) => Option.bind (p_dormouselaw38_awake k) fun t919 => bif t919 then Option.bind (p_dormouseref38_Hex k x910) fun t920 => bif (t916 == t920) then bif (Prod.fst t917 == x910) then bif (Prod.snd t917) then bif (Prod.snd t918) then Option.bind (p_dormouseref38_Hex k (Prod.fst t918)) fun t921 => bif (t921 == x911) then j923 Bool.true else bif (!Prod.snd t918) then j923 (Prod.fst t918 == []) else j923 Bool.false else bif (!Prod.snd t918) then j923 (Prod.fst t918 == []) else j923 Bool.false else j923 Bool.false else j923 Bool.false else j923 Bool.false else j923 Bool.false
noncomputable def p_dormouselaw38_CmdHex (k : Nat) (x908 : List UInt8) (x909 : List UInt8) : Option Bool :=
  joinC (fun (y : List UInt8 × List UInt8 × Bool) => p_dormouselaw38_CmdHex.j0 k y.1 y.2.1 y.2.2) fun (j913 : List UInt8 × List UInt8 × Bool → Option Bool) => bif (decide ((↑(List.length x908) : Int) > (300 : Int))) then j913 (x908, x909, Bool.true) else j913 (x908, x909, decide ((↑(List.length x909) : Int) > (300 : Int)))
noncomputable def e_dormouselaw38_CmdHex (k : Nat) : Entry := ⟨Ds.mk [Vd.one (Ld.im T.str), Vd.one (Ld.im T.str)] [], Ds.mk [Vd.one (Ld.im T.bool)] [], fun x => p_dormouselaw38_CmdHex k x.1 x.2⟩
noncomputable def c_dormouselaw38_CmdHex (k : Nat) : Cx := ⟨Tryd.prog, [(28, e_cmd_Hex k), (29, e_cmd_Bytes k), (21, e_dormouselaw38_awake k), (30, e_dormouseref38_Hex k)], [], [(1, Sd.mk [0, 1, 17] (Ds.mk [Vd.one (Ld.im T.str), Vd.one (Ld.im T.str), Vd.one (Ld.im T.bool)] [])), (6, Sd.mk [4] (Ds.mk [Vd.one (Ld.im T.bool)] []))], [], [], 0, 63, [(76, 0), (83, 1)], fun _ _ _ => none⟩
theorem q_dormouselaw38_CmdHex (k : Nat) (x : HL (e_dormouselaw38_CmdHex k).pre.ts) : runF (c_dormouselaw38_CmdHex k) k Tryd.f8 (e_dormouselaw38_CmdHex k).pre (e_dormouselaw38_CmdHex k).post x = (e_dormouselaw38_CmdHex k).fn x := by kernel_rfl
theorem s_dormouselaw38_CmdHex (k : Nat) : Entry.Sound Tryd.prog 8 (e_dormouselaw38_CmdHex k) := runF_sound (X := c_dormouselaw38_CmdHex k) (pre := (e_dormouselaw38_CmdHex k).pre) (post := (e_dormouselaw38_CmdHex k).post) (q := (e_dormouselaw38_CmdHex k).fn) ⟨(dOk_cons (s_cmd_Hex k) (dOk_cons (s_cmd_Bytes k) (dOk_cons (s_dormouselaw38_awake k) (dOk_cons (s_dormouseref38_Hex k) dOk_nil)))), x_ext, x_mo⟩ Tryd.func8 (q_dormouselaw38_CmdHex k)

/- dormouse/dormouselaw37.Light: function 31 -/
noncomputable def p_dormouselaw37_Light.j0 (k : Nat) (x935 : List (Int × Vector Int (32) × List UInt8)) : Option Bool :=
  some (decide ((↑(List.length x935) : Int) ≤ (30 : Int)))
noncomputable def p_dormouselaw37_Light.b1 (k : Nat) (j936 : List (Int × Vector Int (32) × List UInt8) → Option Bool) (rec933 : List (Int × Vector Int (32) × List UInt8) × Int → Option Bool) (x930 : List (Int × Vector Int (32) × List UInt8)) (x931 : Int) : Option Bool :=
  bif (decide (x931 < (↑(List.length x930) : Int))) then need ((0 : Int) ≤ x931 ∧ x931 < (↑(List.length x930) : Int)) (bif (decide ((↑(List.length (Prod.snd (Prod.snd (at_ (dflt (T.pair (T.int IntKind.i64) (T.pair (T.arr (32) (T.int IntKind.u8)) T.str))) x930 x931)))) : Int) > (3000 : Int))) then some Bool.false else rec933 (x930, IntKind.wrap IntKind.i64 (x931 + (1 : Int)))) else j936 x930
noncomputable def p_dormouselaw37_Light (k : Nat) (x929 : List (Int × Vector Int (32) × List UInt8)) : Option Bool :=
  joinC (p_dormouselaw37_Light.j0 k) fun (j936 : List (Int × Vector Int (32) × List UInt8) → Option Bool) => loopC (fun (r : List (Int × Vector Int (32) × List UInt8) × Int → Option Bool) y => p_dormouselaw37_Light.b1 k j936 r y.1 y.2) k (x929, (0 : Int))
noncomputable def e_dormouselaw37_Light (k : Nat) : Entry := ⟨Ds.mk [Vd.one (Ld.im (T.sl (T.pair (T.int IntKind.i64) (T.pair (T.arr (32) (T.int IntKind.u8)) T.str))))] [], Ds.mk [Vd.one (Ld.im T.bool)] [], fun x => p_dormouselaw37_Light k x⟩
noncomputable def c_dormouselaw37_Light (k : Nat) : Cx := ⟨Tryd.prog, [], [(6, Sd.mk [0] (Ds.mk [Vd.one (Ld.im (T.sl (T.pair (T.int IntKind.i64) (T.pair (T.arr (32) (T.int IntKind.u8)) T.str))))] []))], [], [(2, Sd.mk [0, 3] (Ds.mk [Vd.one (Ld.im (T.sl (T.pair (T.int IntKind.i64) (T.pair (T.arr (32) (T.int IntKind.u8)) T.str)))), Vd.one (Ld.im (T.int IntKind.i64))] []))], [], 0, 20, [(76, 0), (83, 1)], fun _ _ _ => none⟩
theorem q_dormouselaw37_Light (k : Nat) (x : HL (e_dormouselaw37_Light k).pre.ts) : runF (c_dormouselaw37_Light k) k Tryd.f31 (e_dormouselaw37_Light k).pre (e_dormouselaw37_Light k).post x = (e_dormouselaw37_Light k).fn x := by kernel_rfl
theorem s_dormouselaw37_Light (k : Nat) : Entry.Sound Tryd.prog 31 (e_dormouselaw37_Light k) := runF_sound (X := c_dormouselaw37_Light k) (pre := (e_dormouselaw37_Light k).pre) (post := (e_dormouselaw37_Light k).post) (q := (e_dormouselaw37_Light k).fn) ⟨dOk_nil, x_ext, x_mo⟩ Tryd.func31 (q_dormouselaw37_Light k)

/- dormouse/cmd.Print: function 32 -/
noncomputable def p_cmd_Print.j0 (k : Nat) (x1023 : List Int) : Option (List UInt8 × Int) :=
  none
noncomputable def p_cmd_Print.b1 (k : Nat) (j1024 : List Int → Option (List UInt8 × Int)) (rec1021 : List (Int × Vector Int (32) × List UInt8) × Int × Int × List Int → Option (List UInt8 × Int)) (x1015 : List (Int × Vector Int (32) × List UInt8)) (x1016 : Int) (x1017 : Int) (x1018 : List Int) : Option (List UInt8 × Int) :=
  bif (decide (x1017 < x1016)) then need ((0 : Int) ≤ x1017 ∧ x1017 < (↑(List.length x1015) : Int)) (Option.bind (p_cmd_Text k (Prod.fst (at_ (dflt (T.pair (T.int IntKind.i64) (T.pair (T.arr (32) (T.int IntKind.u8)) T.str))) x1015 x1017), Prod.fst (Prod.snd (at_ (dflt (T.pair (T.int IntKind.i64) (T.pair (T.arr (32) (T.int IntKind.u8)) T.str))) x1015 x1017)), Prod.snd (Prod.snd (at_ (dflt (T.pair (T.int IntKind.i64) (T.pair (T.arr (32) (T.int IntKind.u8)) T.str))) x1015 x1017)))) fun t1020 => bif (Prod.snd t1020 != (0 : Int)) then some ([], Prod.snd t1020) else none) else j1024 x1018
noncomputable def p_cmd_Print (k : Nat) (x1014 : List (Int × Vector Int (32) × List UInt8)) : Option (List UInt8 × Int) :=
  joinC (p_cmd_Print.j0 k) fun (j1024 : List Int → Option (List UInt8 × Int)) => loopC (fun (r : List (Int × Vector Int (32) × List UInt8) × Int × Int × List Int → Option (List UInt8 × Int)) y => p_cmd_Print.b1 k j1024 r y.1 y.2.1 y.2.2.1 y.2.2.2) k (x1014, (↑(List.length x1014) : Int), (0 : Int), [])
noncomputable def e_cmd_Print (k : Nat) : Entry := ⟨Ds.mk [Vd.one (Ld.im (T.sl (T.pair (T.int IntKind.i64) (T.pair (T.arr (32) (T.int IntKind.u8)) T.str))))] [], Ds.mk [Vd.one (Ld.im T.str), Vd.one (Ld.im (T.int IntKind.i64))] [], fun x => p_cmd_Print k x⟩
noncomputable def c_cmd_Print (k : Nat) : Cx := ⟨Tryd.prog, [(22, e_cmd_Text k)], [(11, Sd.mk [4] (Ds.mk [Vd.one (Ld.ptr (0) (0))] [Od.blk (82) [Ld.np, Ld.own (1)], Od.arr (5) (T.int IntKind.u8)]))], [], [(3, Sd.mk [4, 9, 10, 11] (Ds.mk [Vd.one (Ld.ptr (0) (0)), Vd.one (Ld.im (T.sl (T.pair (T.int IntKind.i64) (T.pair (T.arr (32) (T.int IntKind.u8)) T.str)))), Vd.one (Ld.im (T.int IntKind.i64)), Vd.one (Ld.im (T.int IntKind.i64))] [Od.blk (82) [Ld.np, Ld.own (1)], Od.arr (5) (T.int IntKind.u8)]))], [], 0, 28, [(76, 0), (83, 1)], fun _ _ _ => none⟩
theorem q_cmd_Print (k : Nat) (x : HL (e_cmd_Print k).pre.ts) : runF (c_cmd_Print k) k Tryd.f32 (e_cmd_Print k).pre (e_cmd_Print k).post x = (e_cmd_Print k).fn x := by kernel_rfl
theorem s_cmd_Print (k : Nat) : Entry.Sound Tryd.prog 32 (e_cmd_Print k) := runF_sound (X := c_cmd_Print k) (pre := (e_cmd_Print k).pre) (post := (e_cmd_Print k).post) (q := (e_cmd_Print k).fn) ⟨(dOk_cons (s_cmd_Text k) dOk_nil), x_ext, x_mo⟩ Tryd.func32 (q_cmd_Print k)

/- dormouse/dormouseref38.Lines: function 54 -/
noncomputable def p_dormouseref38_Lines.j0 (k : Nat) (x1144 : List (List UInt8)) (x1145 : List Int) : Option (List (List UInt8) × List Int) :=
  some (x1144, x1145)
noncomputable def p_dormouseref38_Lines.j2 (k : Nat) (rec1142 : List UInt8 × List UInt8 × Int × Int × List (List UInt8) × List Int → Option (List (List UInt8) × List Int)) (x1134 : List UInt8) (x1135 : List UInt8) (x1136 : Int) (x1137 : Int) (x1138 : List (List UInt8)) (x1139 : List Int) : Option (List (List UInt8) × List Int) :=
  rec1142 (x1134, x1135, x1136, IntKind.wrap IntKind.i64 (x1137 + (1 : Int)), x1138, x1139)
noncomputable def p_dormouseref38_Lines.j4 (k : Nat) (j1140 : List UInt8 × List UInt8 × Int × Int × List (List UInt8) × List Int → Option (List (List UInt8) × List Int)) (x1127 : List UInt8) (x1128 : Int) (x1129 : Int) (x1130 : List (List UInt8)) (x1131 : List Int) : Option (List (List UInt8) × List Int) :=
  j1140 (x1127, [], IntKind.wrap IntKind.i64 (x1128 + (1 : Int)), x1129, x1130, x1131)
noncomputable def p_dormouseref38_Lines.j3 (k : Nat) (j1140 : List UInt8 × List UInt8 × Int × Int × List (List UInt8) × List Int → Option (List (List UInt8) × List Int)) (x1114 : List UInt8) (x1115 : List UInt8) (x1116 : Int) (x1117 : Int) (x1118 : Bool) (x1119 : List (List UInt8)) (x1120 : List Int) : Option (List (List UInt8) × List Int) :=
  bif x1118 then need ((0 : Int) ≤ x1117 ∧ x1117 ≤ IntKind.wrap IntKind.i64 (x1117 + (1 : Int)) ∧ IntKind.wrap IntKind.i64 (x1117 + (1 : Int)) ≤ (↑(List.length x1114) : Int)) (need (List.length x1115 + List.length (sub_ x1114 x1117 (IntKind.wrap IntKind.i64 (x1117 + (1 : Int)))) ≤ (9223372036854775807 : Nat)) (j1140 (x1114, x1115 ++ sub_ x1114 x1117 (IntKind.wrap IntKind.i64 (x1117 + (1 : Int))), x1116, x1117, x1119, x1120))) else joinC (fun (y : List UInt8 × Int × Int × List (List UInt8) × List Int) => p_dormouseref38_Lines.j4 k j1140 y.1 y.2.1 y.2.2.1 y.2.2.2.1 y.2.2.2.2) fun (j1132 : List UInt8 × Int × Int × List (List UInt8) × List Int → Option (List (List UInt8) × List Int)) => bif (!x1115 == []) then need ((List.length x1119 + List.length [x1115]) * Go.TypeInfo.bytes (Go.Tables.types (Go.Program.toTables Go.Proofs.Tryd.prog))[(9 : Nat)] ≤ (140737488355328 : Nat)) (need ((List.length x1120 + List.length [x1116]) * Go.TypeInfo.bytes (Go.Tables.types (Go.Program.toTables Go.Proofs.Tryd.prog))[(3 : Nat)] ≤ (140737488355328 : Nat)) (j1132 (x1114, x1116, x1117, x1119 ++ [x1115], x1120 ++ [x1116]))) else j1132 (x1114, x1116, x1117, x1119, x1120)
noncomputable def p_dormouseref38_Lines.b1 (k : Nat) (j1146 : List (List UInt8) × List Int → Option (List (List UInt8) × List Int)) (rec1142 : List UInt8 × List UInt8 × Int × Int × List (List UInt8) × List Int → Option (List (List UInt8) × List Int)) (x1107 : List UInt8) (x1108 : List UInt8) (x1109 : Int) (x1110 : Int) (x1111 : List (List UInt8)) (x1112 : List Int) : Option (List (List UInt8) × List Int) :=
  bif (decide (x1110 ≤ (↑(List.length x1107) : Int))) then joinC (fun (y : List UInt8 × List UInt8 × Int × Int × List (List UInt8) × List Int) => p_dormouseref38_Lines.j2 k rec1142 y.1 y.2.1 y.2.2.1 y.2.2.2.1 y.2.2.2.2.1 y.2.2.2.2.2) fun (j1140 : List UInt8 × List UInt8 × Int × Int × List (List UInt8) × List Int → Option (List (List UInt8) × List Int)) => joinC (fun (y : List UInt8 × List UInt8 × Int × Int × Bool × List (List UInt8) × List Int) => p_dormouseref38_Lines.j3 k j1140 y.1 y.2.1 y.2.2.1 y.2.2.2.1 y.2.2.2.2.1 y.2.2.2.2.2.1 y.2.2.2.2.2.2) fun (j1121 : List UInt8 × List UInt8 × Int × Int × Bool × List (List UInt8) × List Int → Option (List (List UInt8) × List Int)) => bif (decide (x1110 < (↑(List.length x1107) : Int))) then need ((0 : Int) ≤ x1110 ∧ x1110 < (↑(List.length x1107) : Int)) (j1121 (x1107, x1108, x1109, x1110, bat x1107 x1110 != (10 : Int), x1111, x1112)) else j1121 (x1107, x1108, x1109, x1110, Bool.false, x1111, x1112) else j1146 (x1111, x1112)
noncomputable def p_dormouseref38_Lines (k : Nat) (x1106 : List UInt8) : Option (List (List UInt8) × List Int) :=
  joinC (fun (y : List (List UInt8) × List Int) => p_dormouseref38_Lines.j0 k y.1 y.2) fun (j1146 : List (List UInt8) × List Int → Option (List (List UInt8) × List Int)) => loopC (fun (r : List UInt8 × List UInt8 × Int × Int × List (List UInt8) × List Int → Option (List (List UInt8) × List Int)) y => p_dormouseref38_Lines.b1 k j1146 r y.1 y.2.1 y.2.2.1 y.2.2.2.1 y.2.2.2.2.1 y.2.2.2.2.2) k (x1106, [], (1 : Int), (0 : Int), [], [])
noncomputable def e_dormouseref38_Lines (k : Nat) : Entry := ⟨Ds.mk [Vd.one (Ld.im T.str)] [], Ds.mk [Vd.one (Ld.own (0)), Vd.one (Ld.own (1))] [Od.arr (9) T.str, Od.arr (3) (T.int IntKind.i64)], fun x => p_dormouseref38_Lines k x⟩
noncomputable def c_dormouseref38_Lines (k : Nat) : Cx := ⟨Tryd.prog, [], [(13, Sd.mk [0, 4, 5, 7, 8] (Ds.mk [Vd.one (Ld.im T.str), Vd.one (Ld.own (0)), Vd.one (Ld.own (1)), Vd.one (Ld.im (T.int IntKind.i64)), Vd.one (Ld.im (T.int IntKind.i64))] [Od.arr (9) T.str, Od.arr (3) (T.int IntKind.i64)])), (7, Sd.mk [0, 4, 5, 6, 7, 8] (Ds.mk [Vd.one (Ld.im T.str), Vd.one (Ld.own (0)), Vd.one (Ld.own (1)), Vd.one (Ld.im T.str), Vd.one (Ld.im (T.int IntKind.i64)), Vd.one (Ld.im (T.int IntKind.i64))] [Od.arr (9) T.str, Od.arr (3) (T.int IntKind.i64)])), (15, Sd.mk [4, 5] (Ds.mk [Vd.one (Ld.own (0)), Vd.one (Ld.own (1))] [Od.arr (9) T.str, Od.arr (3) (T.int IntKind.i64)]))], [(8, Sd.mk [0, 4, 5, 6, 7, 8, 24] (Ds.mk [Vd.one (Ld.im T.str), Vd.one (Ld.own (0)), Vd.one (Ld.own (1)), Vd.one (Ld.im T.str), Vd.one (Ld.im (T.int IntKind.i64)), Vd.one (Ld.im (T.int IntKind.i64)), Vd.one (Ld.im T.bool)] [Od.arr (9) T.str, Od.arr (3) (T.int IntKind.i64)]))], [(6, Sd.mk [0, 4, 5, 6, 7, 8] (Ds.mk [Vd.one (Ld.im T.str), Vd.one (Ld.own (0)), Vd.one (Ld.own (1)), Vd.one (Ld.im T.str), Vd.one (Ld.im (T.int IntKind.i64)), Vd.one (Ld.im (T.int IntKind.i64))] [Od.arr (9) T.str, Od.arr (3) (T.int IntKind.i64)]))], [], 0, 46, [(76, 0), (83, 1)], fun _ _ _ => none⟩
theorem q_dormouseref38_Lines (k : Nat) (x : HL (e_dormouseref38_Lines k).pre.ts) : runF (c_dormouseref38_Lines k) k Tryd.f54 (e_dormouseref38_Lines k).pre (e_dormouseref38_Lines k).post x = (e_dormouseref38_Lines k).fn x := by kernel_rfl
theorem s_dormouseref38_Lines (k : Nat) : Entry.Sound Tryd.prog 54 (e_dormouseref38_Lines k) := runF_sound (X := c_dormouseref38_Lines k) (pre := (e_dormouseref38_Lines k).pre) (post := (e_dormouseref38_Lines k).post) (q := (e_dormouseref38_Lines k).fn) ⟨dOk_nil, x_ext, x_mo⟩ Tryd.func54 (q_dormouseref38_Lines k)

/- dormouse/dormouselaw38.read: function 34 -/
noncomputable def p_dormouselaw38_read.j1 (k : Nat) (x1217 : Bool) : Option Bool :=
  some x1217
noncomputable def p_dormouselaw38_read.j0 (k : Nat) (x1213 : Int) (x1214 : Int) (x1215 : List (Int × Vector Int (32) × List UInt8)) (x1216 : List (List UInt8)) : Option Bool :=
  joinC (p_dormouselaw38_read.j1 k) fun (j1218 : Bool → Option Bool) => bif (x1214 == (0 : Int)) then bif (x1213 == (0 : Int)) then j1218 ((↑(List.length x1215) : Int) == (↑(List.length x1216) : Int)) else j1218 Bool.false else j1218 Bool.false
noncomputable def p_dormouselaw38_read.j3 (k : Nat) (x1198 : Bool) : Option Bool :=
  some x1198
noncomputable def p_dormouselaw38_read.j4 (k : Nat) (rec1211 : Int × Int × Int × List (Int × Vector Int (32) × List UInt8) × List (List UInt8) × List Int → Option Bool) (x1202 : Int) (x1203 : Int) (x1204 : Int) (x1205 : Bool) (x1206 : List (Int × Vector Int (32) × List UInt8)) (x1207 : List (List UInt8)) (x1208 : List Int) : Option Bool :=
  bif x1205 then some Bool.false else rec1211 (x1202, x1203, IntKind.wrap IntKind.i64 (x1204 + (1 : Int)), x1206, x1207, x1208)
noncomputable def p_dormouselaw38_read.b2 (k : Nat) (j1220 : Int × Int × List (Int × Vector Int (32) × List UInt8) × List (List UInt8) → Option Bool) (rec1211 : Int × Int × Int × List (Int × Vector Int (32) × List UInt8) × List (List UInt8) × List Int → Option Bool) (x1189 : Int) (x1190 : Int) (x1191 : Int) (x1192 : List (Int × Vector Int (32) × List UInt8)) (x1193 : List (List UInt8)) (x1194 : List Int) : Option Bool :=
  bif (decide (x1191 < (↑(List.length x1193) : Int))) then need ((0 : Int) ≤ x1191 ∧ x1191 < (↑(List.length x1193) : Int)) (Option.bind (p_cmd_Parse k (at_ (dflt T.str) x1193 x1191)) fun t1196 => bif (Prod.snd t1196 != (0 : Int)) then joinC (p_dormouselaw38_read.j3 k) fun (j1199 : Bool → Option Bool) => bif ((↑(List.length x1192) : Int) == (0 : Int)) then need ((0 : Int) ≤ x1191 ∧ x1191 < (↑(List.length x1194) : Int)) (bif (x1189 == at_ (dflt (T.int IntKind.i64)) x1194 x1191) then j1199 (x1190 == Prod.snd t1196) else j1199 Bool.false) else j1199 Bool.false else joinC (fun (y : Int × Int × Int × Bool × List (Int × Vector Int (32) × List UInt8) × List (List UInt8) × List Int) => p_dormouselaw38_read.j4 k rec1211 y.1 y.2.1 y.2.2.1 y.2.2.2.1 y.2.2.2.2.1 y.2.2.2.2.2.1 y.2.2.2.2.2.2) fun (j1209 : Int × Int × Int × Bool × List (Int × Vector Int (32) × List UInt8) × List (List UInt8) × List Int → Option Bool) => bif (x1190 == (0 : Int)) then bif (decide (x1191 ≥ (↑(List.length x1192) : Int))) then j1209 (x1189, x1190, x1191, Bool.true, x1192, x1193, x1194) else need ((0 : Int) ≤ x1191 ∧ x1191 < (↑(List.length x1192) : Int)) (j1209 (x1189, x1190, x1191, !(Prod.fst (at_ (dflt (T.pair (T.int IntKind.i64) (T.pair (T.arr (32) (T.int IntKind.u8)) T.str))) x1192 x1191) == Prod.fst (Prod.fst t1196) && (decide (Prod.fst (Prod.snd (at_ (dflt (T.pair (T.int IntKind.i64) (T.pair (T.arr (32) (T.int IntKind.u8)) T.str))) x1192 x1191)) = Prod.fst (Prod.snd (Prod.fst t1196))) && (Prod.snd (Prod.snd (at_ (dflt (T.pair (T.int IntKind.i64) (T.pair (T.arr (32) (T.int IntKind.u8)) T.str))) x1192 x1191)) == Prod.snd (Prod.snd (Prod.fst t1196)) && Bool.true))), x1192, x1193, x1194)) else j1209 (x1189, x1190, x1191, Bool.false, x1192, x1193, x1194)) else j1220 (x1189, x1190, x1192, x1193)
noncomputable def p_dormouselaw38_read (k : Nat) (x1186 : List UInt8) : Option Bool :=
  Option.bind (p_cmd_All k x1186) fun t1187 => Option.bind (p_dormouseref38_Lines k x1186) fun t1188 => joinC (fun (y : Int × Int × List (Int × Vector Int (32) × List UInt8) × List (List UInt8)) => p_dormouselaw38_read.j0 k y.1 y.2.1 y.2.2.1 y.2.2.2) fun (j1220 : Int × Int × List (Int × Vector Int (32) × List UInt8) × List (List UInt8) → Option Bool) => loopC (fun (r : Int × Int × Int × List (Int × Vector Int (32) × List UInt8) × List (List UInt8) × List Int → Option Bool) y => p_dormouselaw38_read.b2 k j1220 r y.1 y.2.1 y.2.2.1 y.2.2.2.1 y.2.2.2.2.1 y.2.2.2.2.2) k (Prod.fst t1187, Prod.fst (Prod.snd t1187), (0 : Int), Prod.snd (Prod.snd t1187), Prod.fst t1188, Prod.snd t1188)
noncomputable def e_dormouselaw38_read (k : Nat) : Entry := ⟨Ds.mk [Vd.one (Ld.im T.str)] [], Ds.mk [Vd.one (Ld.im T.bool)] [], fun x => p_dormouselaw38_read k x⟩
noncomputable def c_dormouselaw38_read (k : Nat) : Cx := ⟨Tryd.prog, [(25, e_cmd_Parse k), (33, e_cmd_All k), (54, e_dormouseref38_Lines k)], [(11, Sd.mk [3, 4, 5, 6] (Ds.mk [Vd.one (Ld.own (0)), Vd.one (Ld.im (T.int IntKind.i64)), Vd.one (Ld.im (T.int IntKind.i64)), Vd.one (Ld.own (1))] [Od.arr (45) (T.pair (T.int IntKind.i64) (T.pair (T.arr (32) (T.int IntKind.u8)) T.str)), Od.arr (9) T.str]))], [(8, Sd.mk [2] (Ds.mk [Vd.one (Ld.im T.bool)] [])), (9, Sd.mk [3, 4, 5, 6, 7, 8, 69] (Ds.mk [Vd.one (Ld.own (0)), Vd.one (Ld.im (T.int IntKind.i64)), Vd.one (Ld.im (T.int IntKind.i64)), Vd.one (Ld.own (1)), Vd.one (Ld.own (2)), Vd.one (Ld.im (T.int IntKind.i64)), Vd.one (Ld.im T.bool)] [Od.arr (45) (T.pair (T.int IntKind.i64) (T.pair (T.arr (32) (T.int IntKind.u8)) T.str)), Od.arr (9) T.str, Od.arr (3) (T.int IntKind.i64)])), (11, Sd.mk [2] (Ds.mk [Vd.one (Ld.im T.bool)] []))], [(4, Sd.mk [3, 4, 5, 6, 7, 8] (Ds.mk [Vd.one (Ld.own (0)), Vd.one (Ld.im (T.int IntKind.i64)), Vd.one (Ld.im (T.int IntKind.i64)), Vd.one (Ld.own (1)), Vd.one (Ld.own (2)), Vd.one (Ld.im (T.int IntKind.i64))] [Od.arr (45) (T.pair (T.int IntKind.i64) (T.pair (T.arr (32) (T.int IntKind.u8)) T.str)), Od.arr (9) T.str, Od.arr (3) (T.int IntKind.i64)]))], [(9, ([(0, 2), (1, 2), (2, 2), (3, 2), (4, 2), (5, 2), (6, 2), (7, 2), (8, 2), (9, 2), (10, 2), (11, 1), (12, 1), (13, 2), (14, 2), (15, 2)], [], []))], 0, 83, [(76, 0), (83, 1)], fun _ _ _ => none⟩
theorem q_dormouselaw38_read (k : Nat) (x : HL (e_dormouselaw38_read k).pre.ts) : runF (c_dormouselaw38_read k) k Tryd.f34 (e_dormouselaw38_read k).pre (e_dormouselaw38_read k).post x = (e_dormouselaw38_read k).fn x := by kernel_rfl
theorem s_dormouselaw38_read (k : Nat) : Entry.Sound Tryd.prog 34 (e_dormouselaw38_read k) := runF_sound (X := c_dormouselaw38_read k) (pre := (e_dormouselaw38_read k).pre) (post := (e_dormouselaw38_read k).post) (q := (e_dormouselaw38_read k).fn) ⟨(dOk_cons (s_cmd_Parse k) (dOk_cons (s_cmd_All k) (dOk_cons (s_dormouseref38_Lines k) dOk_nil))), x_ext, x_mo⟩ Tryd.func34 (q_dormouselaw38_read k)

/- dormouse/dormouselaw38.CmdAll: function 9 -/
noncomputable def p_dormouselaw38_CmdAll.j5 (k : Nat) (x1383 : Bool) : Option Bool :=
  some x1383
noncomputable def p_dormouselaw38_CmdAll.j4 (k : Nat) (x1380 : List UInt8) : Option Bool :=
  joinC (p_dormouselaw38_CmdAll.j5 k) fun (j1384 : Bool → Option Bool) => Option.bind (p_dormouselaw38_awake k) fun t1381 => bif t1381 then Option.bind (p_dormouselaw38_read k x1380) fun t1382 => j1384 t1382 else j1384 Bool.false
noncomputable def p_dormouselaw38_CmdAll.j7 (k : Nat) (rec1378 : List (Int × Vector Int (32) × List UInt8) × List UInt8 × Bool × Int × List (Int × Vector Int (32) × List UInt8) → Option Bool) (j1386 : List UInt8 → Option Bool) (x1368 : List (Int × Vector Int (32) × List UInt8)) (x1369 : List UInt8) (x1370 : Bool) (x1371 : Int) (x1372 : Bool) (x1373 : List (Int × Vector Int (32) × List UInt8)) : Option Bool :=
  bif x1372 then need ((0 : Int) ≤ x1371 ∧ x1371 < (↑(List.length x1373) : Int)) (need ((0 : Int) ≤ x1371 ∧ x1371 < (↑(List.length x1368) : Int)) (bif (!(Prod.fst (at_ (dflt (T.pair (T.int IntKind.i64) (T.pair (T.arr (32) (T.int IntKind.u8)) T.str))) x1373 x1371) == Prod.fst (at_ (dflt (T.pair (T.int IntKind.i64) (T.pair (T.arr (32) (T.int IntKind.u8)) T.str))) x1368 x1371) && (decide (Prod.fst (Prod.snd (at_ (dflt (T.pair (T.int IntKind.i64) (T.pair (T.arr (32) (T.int IntKind.u8)) T.str))) x1373 x1371)) = Prod.fst (Prod.snd (at_ (dflt (T.pair (T.int IntKind.i64) (T.pair (T.arr (32) (T.int IntKind.u8)) T.str))) x1368 x1371))) && (Prod.snd (Prod.snd (at_ (dflt (T.pair (T.int IntKind.i64) (T.pair (T.arr (32) (T.int IntKind.u8)) T.str))) x1373 x1371)) == Prod.snd (Prod.snd (at_ (dflt (T.pair (T.int IntKind.i64) (T.pair (T.arr (32) (T.int IntKind.u8)) T.str))) x1368 x1371)) && Bool.true)))) then some Bool.false else rec1378 (x1368, x1369, x1370, IntKind.wrap IntKind.i64 (x1371 + (1 : Int)), x1373))) else j1386 x1369
noncomputable def p_dormouselaw38_CmdAll.b6 (k : Nat) (j1386 : List UInt8 → Option Bool) (rec1378 : List (Int × Vector Int (32) × List UInt8) × List UInt8 × Bool × Int × List (Int × Vector Int (32) × List UInt8) → Option Bool) (x1363 : List (Int × Vector Int (32) × List UInt8)) (x1364 : List UInt8) (x1365 : Bool) (x1366 : Int) (x1367 : List (Int × Vector Int (32) × List UInt8)) : Option Bool :=
  joinC (fun (y : List (Int × Vector Int (32) × List UInt8) × List UInt8 × Bool × Int × Bool × List (Int × Vector Int (32) × List UInt8)) => p_dormouselaw38_CmdAll.j7 k rec1378 j1386 y.1 y.2.1 y.2.2.1 y.2.2.2.1 y.2.2.2.2.1 y.2.2.2.2.2) fun (j1374 : List (Int × Vector Int (32) × List UInt8) × List UInt8 × Bool × Int × Bool × List (Int × Vector Int (32) × List UInt8) → Option Bool) => bif (decide (x1366 < (↑(List.length x1367) : Int))) then j1374 (x1363, x1364, x1365, x1366, !x1365, x1367) else j1374 (x1363, x1364, x1365, x1366, Bool.false, x1367)
noncomputable def p_dormouselaw38_CmdAll.j3 (k : Nat) (x1356 : List (Int × Vector Int (32) × List UInt8)) (x1357 : List UInt8) (x1358 : Bool) (x1359 : Bool) (x1360 : List (Int × Vector Int (32) × List UInt8)) : Option Bool :=
  bif x1359 then some Bool.false else joinC (p_dormouselaw38_CmdAll.j4 k) fun (j1386 : List UInt8 → Option Bool) => loopC (fun (r : List (Int × Vector Int (32) × List UInt8) × List UInt8 × Bool × Int × List (Int × Vector Int (32) × List UInt8) → Option Bool) y => p_dormouselaw38_CmdAll.b6 k j1386 r y.1 y.2.1 y.2.2.1 y.2.2.2.1 y.2.2.2.2) k (x1356, x1357, x1358, (0 : Int), x1360)
noncomputable def p_dormouselaw38_CmdAll.j2 (k : Nat) (x1348 : List (Int × Vector Int (32) × List UInt8)) (x1349 : List UInt8) (x1350 : Bool) (x1351 : List UInt8) (x1352 : Bool) : Option Bool :=
  bif x1352 then some Bool.false else Option.bind (p_cmd_All k x1351) fun t1355 => joinC (fun (y : List (Int × Vector Int (32) × List UInt8) × List UInt8 × Bool × Bool × List (Int × Vector Int (32) × List UInt8)) => p_dormouselaw38_CmdAll.j3 k y.1 y.2.1 y.2.2.1 y.2.2.2.1 y.2.2.2.2) fun (j1361 : List (Int × Vector Int (32) × List UInt8) × List UInt8 × Bool × Bool × List (Int × Vector Int (32) × List UInt8) → Option Bool) => bif !x1350 then bif (Prod.fst (Prod.snd t1355) != (0 : Int)) then j1361 (x1348, x1349, x1350, Bool.true, Prod.snd (Prod.snd t1355)) else bif (Prod.fst t1355 != (0 : Int)) then j1361 (x1348, x1349, x1350, Bool.true, Prod.snd (Prod.snd t1355)) else j1361 (x1348, x1349, x1350, (↑(List.length (Prod.snd (Prod.snd t1355))) : Int) != (↑(List.length x1348) : Int), Prod.snd (Prod.snd t1355)) else j1361 (x1348, x1349, x1350, Bool.false, Prod.snd (Prod.snd t1355))
noncomputable def p_dormouselaw38_CmdAll.j1 (k : Nat) (x1343 : List (Int × Vector Int (32) × List UInt8)) (x1344 : List UInt8) (x1345 : List UInt8) (x1346 : Bool) : Option Bool :=
  Option.bind (p_cmd_Print k x1343) fun t1347 => joinC (fun (y : List (Int × Vector Int (32) × List UInt8) × List UInt8 × Bool × List UInt8 × Bool) => p_dormouselaw38_CmdAll.j2 k y.1 y.2.1 y.2.2.1 y.2.2.2.1 y.2.2.2.2) fun (j1353 : List (Int × Vector Int (32) × List UInt8) × List UInt8 × Bool × List UInt8 × Bool → Option Bool) => bif (!x1346 == (Prod.snd t1347 == (2 : Int))) then j1353 (x1343, x1344, x1346, Prod.fst t1347, Bool.true) else bif !x1346 then bif (Prod.snd t1347 != (0 : Int)) then j1353 (x1343, x1344, x1346, Prod.fst t1347, Bool.true) else j1353 (x1343, x1344, x1346, Prod.fst t1347, !Prod.fst t1347 == x1345) else j1353 (x1343, x1344, x1346, Prod.fst t1347, Bool.false)
noncomputable def p_dormouselaw38_CmdAll.j9 (k : Nat) (rec1341 : List (Int × Vector Int (32) × List UInt8) × List UInt8 × List UInt8 × Bool × Int → Option Bool) (x1334 : List (Int × Vector Int (32) × List UInt8)) (x1335 : List UInt8) (x1336 : List UInt8) (x1337 : Bool) (x1338 : Int) : Option Bool :=
  rec1341 (x1334, x1335, x1336, x1337, IntKind.wrap IntKind.i64 (x1338 + (1 : Int)))
noncomputable def p_dormouselaw38_CmdAll.j10 (k : Nat) (j1339 : List (Int × Vector Int (32) × List UInt8) × List UInt8 × List UInt8 × Bool × Int → Option Bool) (x1323 : List (Int × Vector Int (32) × List UInt8)) (x1324 : List UInt8) (x1325 : List UInt8) (x1326 : Bool) (x1327 : Int) : Option Bool :=
  bif !x1326 then need ((0 : Int) ≤ x1327 ∧ x1327 < (↑(List.length x1323) : Int)) (Option.bind (p_dormouseref38_Line k (Prod.fst (at_ (dflt (T.pair (T.int IntKind.i64) (T.pair (T.arr (32) (T.int IntKind.u8)) T.str))) x1323 x1327), Prod.fst (Prod.snd (at_ (dflt (T.pair (T.int IntKind.i64) (T.pair (T.arr (32) (T.int IntKind.u8)) T.str))) x1323 x1327)), Prod.snd (Prod.snd (at_ (dflt (T.pair (T.int IntKind.i64) (T.pair (T.arr (32) (T.int IntKind.u8)) T.str))) x1323 x1327)))) fun t1331 => need (List.length x1325 + List.length t1331 ≤ (9223372036854775807 : Nat)) (need (List.length (x1325 ++ t1331) + 1 ≤ (9223372036854775807 : Nat)) (j1339 (x1323, x1324, x1325 ++ t1331 ++ [(10 : UInt8)], x1326, x1327)))) else j1339 (x1323, x1324, x1325, x1326, x1327)
noncomputable def p_dormouselaw38_CmdAll.b8 (k : Nat) (j1388 : List (Int × Vector Int (32) × List UInt8) × List UInt8 × List UInt8 × Bool → Option Bool) (rec1341 : List (Int × Vector Int (32) × List UInt8) × List UInt8 × List UInt8 × Bool × Int → Option Bool) (x1316 : List (Int × Vector Int (32) × List UInt8)) (x1317 : List UInt8) (x1318 : List UInt8) (x1319 : Bool) (x1320 : Int) : Option Bool :=
  bif (decide (x1320 < (↑(List.length x1316) : Int))) then joinC (fun (y : List (Int × Vector Int (32) × List UInt8) × List UInt8 × List UInt8 × Bool × Int) => p_dormouselaw38_CmdAll.j9 k rec1341 y.1 y.2.1 y.2.2.1 y.2.2.2.1 y.2.2.2.2) fun (j1339 : List (Int × Vector Int (32) × List UInt8) × List UInt8 × List UInt8 × Bool × Int → Option Bool) => joinC (fun (y : List (Int × Vector Int (32) × List UInt8) × List UInt8 × List UInt8 × Bool × Int) => p_dormouselaw38_CmdAll.j10 k j1339 y.1 y.2.1 y.2.2.1 y.2.2.2.1 y.2.2.2.2) fun (j1328 : List (Int × Vector Int (32) × List UInt8) × List UInt8 × List UInt8 × Bool × Int → Option Bool) => bif x1319 then j1328 (x1316, x1317, x1318, Bool.true, x1320) else need ((0 : Int) ≤ x1320 ∧ x1320 < (↑(List.length x1316) : Int)) (Option.bind (p_dormouseref38_May (Prod.fst (at_ (dflt (T.pair (T.int IntKind.i64) (T.pair (T.arr (32) (T.int IntKind.u8)) T.str))) x1316 x1320), Prod.fst (Prod.snd (at_ (dflt (T.pair (T.int IntKind.i64) (T.pair (T.arr (32) (T.int IntKind.u8)) T.str))) x1316 x1320)), Prod.snd (Prod.snd (at_ (dflt (T.pair (T.int IntKind.i64) (T.pair (T.arr (32) (T.int IntKind.u8)) T.str))) x1316 x1320)))) fun t1322 => j1328 (x1316, x1317, x1318, !t1322, x1320)) else j1388 (x1316, x1317, x1318, x1319)
noncomputable def p_dormouselaw38_CmdAll.j0 (k : Nat) (x1310 : List (Int × Vector Int (32) × List UInt8)) (x1311 : List UInt8) (x1312 : Bool) : Option Bool :=
  bif x1312 then Option.bind (p_dormouselaw38_awake k) fun t1315 => some t1315 else joinC (fun (y : List (Int × Vector Int (32) × List UInt8) × List UInt8 × List UInt8 × Bool) => p_dormouselaw38_CmdAll.j1 k y.1 y.2.1 y.2.2.1 y.2.2.2) fun (j1388 : List (Int × Vector Int (32) × List UInt8) × List UInt8 × List UInt8 × Bool → Option Bool) => loopC (fun (r : List (Int × Vector Int (32) × List UInt8) × List UInt8 × List UInt8 × Bool × Int → Option Bool) y => p_dormouselaw38_CmdAll.b8 k j1388 r y.1 y.2.1 y.2.2.1 y.2.2.2.1 y.2.2.2.2) k (x1310, x1311, [], Bool.false, (0 : Int))
noncomputable def p_dormouselaw38_CmdAll (k : Nat) (x1307 : List (Int × Vector Int (32) × List UInt8)) (x1308 : List UInt8) : Option Bool :=
  joinC (fun (y : List (Int × Vector Int (32) × List UInt8) × List UInt8 × Bool) => p_dormouselaw38_CmdAll.j0 k y.1 y.2.1 y.2.2) fun (j1313 : List (Int × Vector Int (32) × List UInt8) × List UInt8 × Bool → Option Bool) => Option.bind (p_dormouselaw37_Light k x1307) fun t1309 => bif !t1309 then j1313 (x1307, x1308, Bool.true) else j1313 (x1307, x1308, decide ((↑(List.length x1308) : Int) > (600 : Int)))
noncomputable def e_dormouselaw38_CmdAll (k : Nat) : Entry := ⟨Ds.mk [Vd.one (Ld.im (T.sl (T.pair (T.int IntKind.i64) (T.pair (T.arr (32) (T.int IntKind.u8)) T.str)))), Vd.one (Ld.im T.str)] [], Ds.mk [Vd.one (Ld.im T.bool)] [], fun x => p_dormouselaw38_CmdAll k x.1 x.2⟩
noncomputable def c_dormouselaw38_CmdAll (k : Nat) : Cx := ⟨Tryd.prog, [(33, e_cmd_All k), (21, e_dormouselaw38_awake k), (23, e_dormouseref38_May), (26, e_dormouseref38_Line k), (31, e_dormouselaw37_Light k), (32, e_cmd_Print k), (34, e_dormouselaw38_read k)], [(7, Sd.mk [0, 1, 5, 6, 7] (Ds.mk [Vd.one (Ld.im (T.sl (T.pair (T.int IntKind.i64) (T.pair (T.arr (32) (T.int IntKind.u8)) T.str)))), Vd.one (Ld.im T.str), Vd.one (Ld.im T.str), Vd.one (Ld.im T.bool), Vd.one (Ld.im (T.int IntKind.i64))] [])), (11, Sd.mk [0, 1, 5, 6] (Ds.mk [Vd.one (Ld.im (T.sl (T.pair (T.int IntKind.i64) (T.pair (T.arr (32) (T.int IntKind.u8)) T.str)))), Vd.one (Ld.im T.str), Vd.one (Ld.im T.str), Vd.one (Ld.im T.bool)] [])), (22, Sd.mk [1] (Ds.mk [Vd.one (Ld.im T.str)] []))], [(1, Sd.mk [0, 1, 21] (Ds.mk [Vd.one (Ld.im (T.sl (T.pair (T.int IntKind.i64) (T.pair (T.arr (32) (T.int IntKind.u8)) T.str)))), Vd.one (Ld.im T.str), Vd.one (Ld.im T.bool)] [])), (8, Sd.mk [0, 1, 5, 6, 7] (Ds.mk [Vd.one (Ld.im (T.sl (T.pair (T.int IntKind.i64) (T.pair (T.arr (32) (T.int IntKind.u8)) T.str)))), Vd.one (Ld.im T.str), Vd.one (Ld.im T.str), Vd.one (Ld.im T.bool), Vd.one (Ld.im (T.int IntKind.i64))] [])), (12, Sd.mk [0, 1, 6, 8, 69] (Ds.mk [Vd.one (Ld.im (T.sl (T.pair (T.int IntKind.i64) (T.pair (T.arr (32) (T.int IntKind.u8)) T.str)))), Vd.one (Ld.im T.str), Vd.one (Ld.im T.bool), Vd.one (Ld.im T.str), Vd.one (Ld.im T.bool)] [])), (15, Sd.mk [0, 1, 6, 10, 92] (Ds.mk [Vd.one (Ld.im (T.sl (T.pair (T.int IntKind.i64) (T.pair (T.arr (32) (T.int IntKind.u8)) T.str)))), Vd.one (Ld.im T.str), Vd.one (Ld.im T.bool), Vd.one (Ld.own (0)), Vd.one (Ld.im T.bool)] [Od.arr (45) (T.pair (T.int IntKind.i64) (T.pair (T.arr (32) (T.int IntKind.u8)) T.str))])), (18, Sd.mk [0, 1, 6, 10, 13, 100] (Ds.mk [Vd.one (Ld.im (T.sl (T.pair (T.int IntKind.i64) (T.pair (T.arr (32) (T.int IntKind.u8)) T.str)))), Vd.one (Ld.im T.str), Vd.one (Ld.im T.bool), Vd.one (Ld.own (0)), Vd.one (Ld.im (T.int IntKind.i64)), Vd.one (Ld.im T.bool)] [Od.arr (45) (T.pair (T.int IntKind.i64) (T.pair (T.arr (32) (T.int IntKind.u8)) T.str))])), (22, Sd.mk [4] (Ds.mk [Vd.one (Ld.im T.bool)] []))], [(6, Sd.mk [0, 1, 5, 6, 7] (Ds.mk [Vd.one (Ld.im (T.sl (T.pair (T.int IntKind.i64) (T.pair (T.arr (32) (T.int IntKind.u8)) T.str)))), Vd.one (Ld.im T.str), Vd.one (Ld.im T.str), Vd.one (Ld.im T.bool), Vd.one (Ld.im (T.int IntKind.i64))] [])), (18, Sd.mk [0, 1, 6, 10, 13] (Ds.mk [Vd.one (Ld.im (T.sl (T.pair (T.int IntKind.i64) (T.pair (T.arr (32) (T.int IntKind.u8)) T.str)))), Vd.one (Ld.im T.str), Vd.one (Ld.im T.bool), Vd.one (Ld.own (0)), Vd.one (Ld.im (T.int IntKind.i64))] [Od.arr (45) (T.pair (T.int IntKind.i64) (T.pair (T.arr (32) (T.int IntKind.u8)) T.str))]))], [(20, ([(0, 2), (1, 2), (2, 2), (3, 1), (4, 2), (5, 2), (6, 2), (7, 1), (8, 2)], [], []))], 0, 117, [(76, 0), (83, 1)], fun _ _ _ => none⟩
theorem q_dormouselaw38_CmdAll (k : Nat) (x : HL (e_dormouselaw38_CmdAll k).pre.ts) : runF (c_dormouselaw38_CmdAll k) k Tryd.f9 (e_dormouselaw38_CmdAll k).pre (e_dormouselaw38_CmdAll k).post x = (e_dormouselaw38_CmdAll k).fn x := by kernel_rfl
theorem s_dormouselaw38_CmdAll (k : Nat) : Entry.Sound Tryd.prog 9 (e_dormouselaw38_CmdAll k) := runF_sound (X := c_dormouselaw38_CmdAll k) (pre := (e_dormouselaw38_CmdAll k).pre) (post := (e_dormouselaw38_CmdAll k).post) (q := (e_dormouselaw38_CmdAll k).fn) ⟨(dOk_cons (s_cmd_All k) (dOk_cons (s_dormouselaw38_awake k) (dOk_cons (s_dormouseref38_May) (dOk_cons (s_dormouseref38_Line k) (dOk_cons (s_dormouselaw37_Light k) (dOk_cons (s_cmd_Print k) (dOk_cons (s_dormouselaw38_read k) dOk_nil))))))), x_ext, x_mo⟩ Tryd.func9 (q_dormouselaw38_CmdAll k)
end
end Go.Dor
end

section
/- THE LAW OF BYTES AS DIGITS, plain. -/
set_option linter.unusedVariables false
set_option linter.unusedSimpArgs false
namespace Go.Dor
open Go.Proofs

set_option maxRecDepth 100000 in
theorem awake38 : p_dormouselaw38_awake 2000 = some true := by kernel_rfl
theorem ref38Hex_eq {k : Nat} {s : List UInt8} (hk : s.length < k) (hs : s.length < 100000) : p_dormouseref38_Hex k s = some (hexS s) := by
  unfold p_dormouseref38_Hex hexS
  by_cases h : s = []
  · subst h; rfl
  · have e : (s == []) = false := by simpa using h
    have := refHex_eq (k := k) (d := natsOf s) (by rw [natsOf_len]; exact hk) (by rw [natsOf_len]; omega) (natsOf_lt s)
    rw [byl_natsOf] at this
    rw [e, cond_false, this, if_neg h]
    rfl
theorem hexS_len (s : List UInt8) : (hexS s).length ≤ 1 + 2 * s.length := by
  unfold hexS
  split
  · simp
  · rw [hexL_len, natsOf_len]; omega
theorem bytR_hexS (s : List UInt8) : bytR (hexS s) = (s, true) := by
  unfold hexS
  by_cases h : s = []
  · subst h; rfl
  · rw [if_neg h]; exact bytR_hex h
theorem bytR_back (t : List UInt8) : ((bytR t).2 = true ∧ hexS (bytR t).1 = t) ∨ ((bytR t).2 = false ∧ (bytR t).1 = []) := by
  unfold bytR
  split
  · rename_i h; left; subst h; exact ⟨rfl, rfl⟩
  · split
    · right; exact ⟨rfl, rfl⟩
    · rename_i h1 h2
      left
      refine ⟨rfl, ?_⟩
      exact Classical.byContradiction fun h3 => h2 (Or.inr h3)
theorem law_CmdHex (s t : List UInt8) : p_dormouselaw38_CmdHex 2000 s t = some true := by
  unfold p_dormouselaw38_CmdHex joinC
  dsimp only
  have hj : ∀ a y, p_dormouselaw38_CmdHex.j0 2000 a y true = some true := by
    intro a y
    unfold p_dormouselaw38_CmdHex.j0
    rw [cond_true, awake38]; rfl
  by_cases h1 : ((s.length : Nat) : Int) > 300
  · rw [decide_eq_true h1, cond_true]; exact hj _ _
  · rw [decide_eq_false h1, cond_false]
    by_cases h2 : ((t.length : Nat) : Int) > 300
    · rw [decide_eq_true h2]; exact hj _ _
    · rw [decide_eq_false h2]
      have hl := hexS_len s
      have hb := bytR_len t
      unfold p_dormouselaw38_CmdHex.j0 joinC
      rw [cond_false, cmdHex_eq (by omega) (by omega), Option.bind_some, Bytes_eq (by omega) (by omega), Option.bind_some, Bytes_eq (by omega) (by omega), Option.bind_some]
      dsimp only
      rw [awake38, Option.bind_some, cond_true, ref38Hex_eq (by omega) (by omega), Option.bind_some, bytR_hexS]
      have e1 : ∀ x : List UInt8, (x == x) = true := by intro x; simp
      dsimp only
      rw [e1, e1, cond_true, cond_true, cond_true, ref38Hex_eq (by omega) (by omega), Option.bind_some]
      rcases bytR_back t with ⟨e, e'⟩ | ⟨e, e'⟩
      · rw [e, e', e1, cond_true, cond_true]; rfl
      · rw [e, e', cond_false, Bool.not_false, cond_true]; rfl
end Go.Dor
end

section
/- WHAT A CALLER HANDS IN, AS DATA; a law of data, called. Plain lemmas over any program. -/
namespace Go.Dor
open Go.RowKit (Below)

def chainF (P : Program) : Nat → List Field → Option Nat
  | o, [] => some o
  | o, f :: l => bif Nat.beq f.offset o then chainF P (o + P.cellsOf f.type) l else none
/-- types of data whose parts lie one behind the other -/
def tiled (P : Program) : Nat → TypeId → Bool
  | 0, _ => false
  | n + 1, t =>
    match P.underlying t with
    | some (.int _) | some .bool | some .string => true
    | some (.array m e) => Nat.beq (P.cellsOf t) (m * P.cellsOf e) && tiled P n e
    | some (.slice e) => Nat.blt 0 (P.cellsOf e) && tiled P n e
    | some (.struct fs) => (match chainF P 0 fs.toList with | some s => Nat.beq s (P.cellsOf t) | none => false) && fs.toList.all (fun f => tiled P n f.type)
    | _ => false

theorem pieces {α : Type} {Q : α → List Value → Prop} (k : Nat) : ∀ (m : Nat) (cs : List Value), cs.length = m * k → (∀ i, i < m → ∃ d, Q d ((cs.drop (i * k)).take k)) → ∃ (l : List α) (ys : List (List Value)), l.length = m ∧ cs = ys.flatten ∧ Al2 Q l ys
  | 0, cs, hl, _ => ⟨[], [], rfl, by simpa using hl, trivial⟩
  | m + 1, cs, hl, h => by
    obtain ⟨d, hd⟩ := h 0 (by omega)
    have hl' : (cs.drop k).length = m * k := by rw [List.length_drop, hl, Nat.add_mul]; omega
    obtain ⟨l, ys, h1, h2, h3⟩ := pieces k m (cs.drop k) hl' fun i hi => by
      obtain ⟨d, hd⟩ := h (i + 1) (by omega)
      refine ⟨d, ?_⟩
      rw [List.drop_drop]
      have : k + i * k = (i + 1) * k := by rw [Nat.add_mul]; omega
      rw [this]; exact hd
    refine ⟨d :: l, cs.take k :: ys, by simp [h1], ?_, ?_, h3⟩
    · rw [List.flatten_cons, ← h2, List.take_append_drop]
    · simpa using hd

/-- data that a program can hold: each number fits its kind -/
def okD : (t : T) → den t → Prop
  | .int k, n => (Lit.int k n).wf = true
  | .pair a b, x => okD a x.1 ∧ okD b x.2
  | .arr _ e, x => ∀ y ∈ x.toList, okD e y
  | .sl e, x => ∀ y ∈ x, okD e y
  | .str, _ => True
  | .bool, _ => True
  | .flt _, _ => True
  | .unit, _ => True
theorem al2_split {α β : Type} {Q : α → β → Prop} {R : α → Prop} : ∀ {l : List α} {m : List β}, Al2 (fun a b => Q a b ∧ R a) l m → Al2 Q l m ∧ ∀ a ∈ l, R a
  | [], [], _ => ⟨trivial, by simp⟩
  | a :: l, b :: m, h => by
    obtain ⟨h1, h2⟩ := al2_split (l := l) (m := m) h.2
    exact ⟨⟨h.1.1, h1⟩, fun x hx => (List.mem_cons.1 hx).elim (fun e => e ▸ h.1.2) (h2 x)⟩

theorem list_of {α : Type} {Q : Nat → α → Prop} : ∀ (n : Nat), (∀ i, i < n → ∃ p, Q i p) → ∃ l : List α, l.length = n ∧ ∀ i p, l[i]? = some p → Q i p
  | 0, _ => ⟨[], rfl, by simp⟩
  | n + 1, h => by
    obtain ⟨l, h1, h2⟩ := list_of n fun i hi => h i (by omega)
    obtain ⟨p, hp⟩ := h n (by omega)
    refine ⟨l ++ [p], by simp [h1], fun i q hq => ?_⟩
    by_cases hlt : i < n
    · rw [List.getElem?_append_left (by omega)] at hq; exact h2 i q hq
    · have hi : i < (l ++ [p]).length := (List.getElem?_eq_some_iff.1 hq).1
      have : i = n := by simp [h1] at hi; omega
      subst this
      rw [List.getElem?_append_right (by omega), h1] at hq
      simp at hq; subst hq; exact hp

theorem al2_of {α β : Type} {Q : α → β → Prop} : ∀ (l : List (α × β)), (∀ (i : Nat) p, l[i]? = some p → Q p.1 p.2) → Al2 Q (l.map (·.1)) (l.map (·.2))
  | [], _ => trivial
  | p :: l, h => ⟨h 0 p rfl, al2_of l fun i q hq => h (i + 1) q hq⟩

section
variable {H : Type} {enc : TypeId × Value → H} {P : Program} {w : World} {spare : Nat → Bool} {held : Bool}

theorem fields_at {I : Nat → Prop} {cs : List Value} {n s : Nat} : ∀ (l : List Field) (o : Nat) (cl : List T), chainF P o l = some s → cs.length = s → (∀ c, codeT P n 0 = c → True) →
    l.foldr (fun f acc => match codeT P n f.type, acc with | some a, some l => some (a :: l) | _, _ => none) (some []) = some cl →
    (∀ f ∈ l, ∀ c, codeT P n f.type = some c → ∃ d : den c, At w I c d ((cs.drop f.offset).take (P.cellsOf f.type)) ∧ okD c d) → ∃ d : den (mkT cl), At w I (mkT cl) d (cs.drop o) ∧ okD (mkT cl) d
  | [], o, cl, hc, hl, _, hf, _ => by
    cases hf
    simp only [chainF, Option.some.injEq] at hc
    exact ⟨(), List.drop_eq_nil_of_le (by omega), trivial⟩
  | [f], o, cl, hc, hl, _, hf, h => by
    simp only [chainF, cond_eq_ite] at hc
    split at hc
    · rename_i ho
      have ho := Nat.eq_of_beq_eq_true ho
      simp only [Option.some.injEq] at hc
      simp only [List.foldr_cons, List.foldr_nil] at hf
      split at hf
      · rename_i a l' ha hl'
        cases hf; cases hl'
        obtain ⟨d, hd, hk⟩ := h f (by simp) a ha
        refine ⟨d, ?_, hk⟩
        rw [ho, List.take_of_length_le (by rw [List.length_drop]; omega)] at hd
        exact hd
      · cases hf
    · cases hc
  | f :: f2 :: l, o, cl, hc, hl, ht, hf, h => by
    rw [chainF, cond_eq_ite] at hc
    split at hc
    · rename_i ho
      have ho := Nat.eq_of_beq_eq_true ho
      rw [List.foldr_cons] at hf
      split at hf
      · rename_i a l' ha hl'
        cases hf
        obtain ⟨d, hd, hk⟩ := h f (by simp) a ha
        obtain ⟨d2, hd2, hk2⟩ := fields_at (f2 :: l) _ l' hc hl ht hl' fun g hg => h g (List.mem_cons_of_mem _ hg)
        have hne : ∃ b r, l' = b :: r := by
          rw [List.foldr_cons] at hl'
          split at hl'
          · cases hl'; exact ⟨_, _, rfl⟩
          · cases hl'
        obtain ⟨b, r, rfl⟩ := hne
        refine ⟨(d, d2), ⟨_, _, ?_, hd, hd2⟩, hk, hk2⟩
        rw [ho, ← List.drop_drop, List.take_append_drop]
      · cases hf
    · cases hc

theorem cell_heap {b o : Nat} {y : Value} (hc : w.cell? ⟨b, o, none⟩ = some y) : ∃ cur t fz, w.heap[b]? = some (.cells cur t fz) := by
  simp only [World.cell?] at hc
  split at hc
  · rename_i cur t fz hb
    exact ⟨_, _, _, hb⟩
  · cases hc

theorem mapM_get {α β : Type} {f : α → Option β} : ∀ {l0 : List α} {l : List β}, l0.mapM f = some l → l.length = l0.length ∧ ∀ (i : Nat) a, l0[i]? = some a → f a = l[i]?
  | [], l, h => by
    simp only [List.mapM_nil] at h
    cases h
    exact ⟨rfl, by simp⟩
  | a :: l0, l, h => by
    rw [List.mapM_cons] at h
    cases ha : f a with
    | none => rw [ha] at h; cases h
    | some b =>
      rw [ha] at h
      cases hl : l0.mapM f with
      | none => rw [hl] at h; cases h
      | some bs =>
        rw [hl] at h
        have h : some (b :: bs) = some l := h
        cases h
        obtain ⟨h1, h2⟩ := mapM_get hl
        refine ⟨by simp [h1], fun i x hx => ?_⟩
        cases i with
        | zero => simp at hx; subst hx; simpa using ha
        | succ i => simp at hx; simpa using h2 i x hx
theorem cells_get {base k : Nat} {a : Addr} {l : List Value} (h : w.cells? base a k = some l) : l.length = k ∧ ∀ i, i < k → w.cell? (a.add i) = l[i]? := by
  unfold World.cells? at h
  split at h
  · obtain ⟨h1, h2⟩ := mapM_get h
    exact ⟨by simpa using h1, fun i hi => h2 i i (by simp [hi])⟩
  · cases h

/-- what a caller hands in reads as data -/
theorem trod_at (hsp : ∀ b, spare b = true) : ∀ (n : Nat) (t : TypeId) (c : T) (fuel : Nat) (cs : List Value) (x : DataW H × List MemPlace), codeT P n t = some c → tiled P n t = true →
    DataW.trod enc P w 0 spare held fuel t cs = some x → ∃ d : den c, At w (fun b => b < w.heap.size) c d cs ∧ okD c d
  | 0, t, c, fuel, cs, x, hc, _, _ => by cases hc
  | n + 1, t, c, fuel, cs, x, hc, hd, h => by
    unfold codeT at hc
    unfold tiled at hd
    split at hc
    · rename_i k ht
      cases hc
      obtain ⟨y, rfl, _, hwf⟩ := DataW.trod_int ht h
      exact ⟨y, rfl, hwf⟩
    · rename_i ht
      cases hc
      obtain ⟨y, rfl, _⟩ := DataW.trod_bool ht h
      exact ⟨y, rfl, trivial⟩
    · rename_i ht
      cases hc
      obtain ⟨y, rfl, _⟩ := DataW.trod_string ht h
      exact ⟨y.data.toList, by simp [At, sv], trivial⟩
    · rename_i k ht
      rw [ht] at hd; cases hd
    · rename_i m e ht
      rw [ht] at hd
      simp only [Bool.and_eq_true] at hd
      obtain ⟨hd1, hd2⟩ := hd
      have hd1 := Nat.eq_of_beq_eq_true hd1
      split at hc
      · rename_i ce hce
        cases hc
        obtain ⟨xs, q, _, _, h1, h2, h3⟩ := DataW.trod_array ht h
        obtain ⟨l, ys, k1, k2, k3⟩ := pieces (Q := fun d y => At w (fun b => b < w.heap.size) ce d y ∧ okD ce d) (P.cellsOf e) m cs (by rw [h1, hd1]) fun i hi => by
          have := h3 i hi
          rw [List.getElem?_eq_getElem (by omega)] at this
          exact trod_at hsp n e ce _ _ _ hce hd2 this
        obtain ⟨k3, k4⟩ := al2_split k3
        refine ⟨⟨l.toArray, by simpa using k1⟩, ⟨ys, k2, ?_⟩, fun y hy => k4 y (by simpa using hy)⟩
        simpa using k3
      · cases hc
    · rename_i e ht
      rw [ht] at hd
      simp only [Bool.and_eq_true] at hd
      obtain ⟨hd1, hd2⟩ := hd
      have hd1 : 0 < P.cellsOf e := by simpa [Nat.blt_eq] using hd1
      split at hc
      · rename_i ce hce
        cases hc
        rcases DataW.trod_slice ht h with ⟨rfl, _⟩ | ⟨a, len, cap, elems, rest, q, _, rfl, _, _, hlc, hcm, hel, he, hrest, _⟩
        · exact ⟨[], ⟨_, rfl, [], ⟨by simp, .inl ⟨⟨none, rfl⟩, rfl⟩⟩, trivial, by simp [vfoot]⟩, fun y hy => by cases hy⟩
        · obtain ⟨hr1, hr2⟩ := hrest (hsp _)
          by_cases hcap : cap = 0
          · subst hcap
            have hl0 : len = 0 := by omega
            subst hl0
            exact ⟨[], ⟨_, rfl, [], ⟨by simp, .inl ⟨⟨_, rfl⟩, rfl⟩⟩, trivial, by simp [vfoot]⟩, fun y hy => by cases hy⟩
          · -- a cell is there
            have h0 : ∃ y, w.cell? (a.add 0) = some y := by
              have key : ∀ {o : Option (DataW H × List MemPlace)} {i : Nat}, i = 0 → (w.cells? 0 (a.add (i * P.cellsOf e)) (P.cellsOf e)).bind (DataW.trod enc P w 0 spare held q e) = o → o.isSome = true → ∃ y, w.cell? (a.add 0) = some y := by
                intro o i hi hb ho
                subst hi
                cases hcl : w.cells? 0 (a.add (0 * P.cellsOf e)) (P.cellsOf e) with
                | none => rw [hcl] at hb; subst hb; cases ho
                | some l =>
                  obtain ⟨k1, k2⟩ := cells_get hcl
                  have := k2 0 hd1
                  rw [List.getElem?_eq_getElem (by omega)] at this
                  exact ⟨l[0]'(by omega), by simpa [Addr.add] using this⟩
              by_cases hl0 : len = 0
              · exact key (i := len + 0) (by omega) (hr2 0 (by omega)) (by rw [List.getElem?_eq_getElem (by omega)]; rfl)
              · exact key (i := 0) rfl (he 0 (by omega)) (by rw [List.getElem?_eq_getElem (by omega)]; rfl)
            obtain ⟨y0, hy0⟩ := h0
            have hspot := World.cell?_spot hy0
            obtain ⟨b, off, spot⟩ := a
            have hspot : spot = none := by simpa [Addr.add] using hspot
            subst hspot
            have hadd : ∀ i, (⟨b, off, none⟩ : Addr).add i = ⟨b, off + i, none⟩ := fun i => by simp [Addr.add]
            have hadd2 : ∀ o i, (⟨b, o, none⟩ : Addr).add i = ⟨b, o + i, none⟩ := fun o i => by simp [Addr.add]
            rw [hadd] at hy0
            obtain ⟨cur, bt, fz, hb⟩ := cell_heap hy0
            obtain ⟨l, k1, k2⟩ := list_of (α := den ce × List Value) (Q := fun i p => (At w (fun b => b < w.heap.size) ce p.1 p.2 ∧ okD ce p.1) ∧ p.2.length = P.cellsOf e ∧ ∀ j, j < P.cellsOf e → cur[off + (i * P.cellsOf e + j)]? = p.2[j]?) len fun i hi => by
              have h1 := he i hi
              rw [List.getElem?_eq_getElem (by omega)] at h1
              cases hcl : w.cells? 0 ((⟨b, off, none⟩ : Addr).add (i * P.cellsOf e)) (P.cellsOf e) with
              | none => rw [hcl] at h1; cases h1
              | some cl =>
                rw [hcl] at h1
                obtain ⟨d, hdd⟩ := trod_at hsp n e ce _ _ _ hce hd2 h1
                obtain ⟨k1, k2⟩ := cells_get hcl
                refine ⟨(d, cl), hdd, k1, fun j hj => ?_⟩
                have := k2 j hj
                rw [← this, hadd2, hadd2, World.cell?, hb]
                simp [Nat.add_assoc]
            have hal := al2_of (Q := fun d y => At w (fun b => b < w.heap.size) ce d y ∧ okD ce d) l fun i p hp => (k2 i p hp).1
            obtain ⟨hal, hok⟩ := al2_split hal
            refine ⟨l.map (·.1), ⟨_, rfl, l.map (·.2), ⟨fun y hy => ?_, .inr ⟨b, off, cap, cur, bt, fz, by simp [k1], by simpa [k1] using hlc, hb, fun j y hj => ?_⟩⟩, hal, fun q hq => ?_⟩, fun y hy => hok y hy⟩
            · obtain ⟨z, hz⟩ := List.getElem?_of_mem hy
              obtain ⟨d, _, hQ⟩ : ∃ d : den ce, True ∧ At w (fun b => b < w.heap.size) ce d y := by
                rw [List.getElem?_map] at hz
                cases hlz : l[z]? with
                | none => rw [hlz] at hz; cases hz
                | some p => rw [hlz] at hz; cases hz; exact ⟨p.1, trivial, (k2 z p hlz).1.1⟩
              exact At.len _ _ _ hQ
            · have hz : ∀ y ∈ l.map (·.2), y.length = P.cellsOf e := fun y hy => by
                obtain ⟨p, hp, rfl⟩ := List.mem_map.1 hy
                obtain ⟨z, hz⟩ := List.getElem?_of_mem hp
                exact (k2 z p hz).2.1
              have hjl := (List.getElem?_eq_some_iff.1 hj).1
              have hfl : (l.map (·.2)).flatten.length = l.length * P.cellsOf e := by
                have : ∀ (ys : List (List Value)), (∀ y ∈ ys, y.length = P.cellsOf e) → ys.flatten.length = ys.length * P.cellsOf e := by
                  intro ys
                  induction ys with
                  | nil => simp
                  | cons y ys ih =>
                    intro h
                    rw [List.flatten_cons, List.length_append, ih fun z hz => h z (List.mem_cons_of_mem _ hz), h y (by simp), List.length_cons, Nat.add_mul]; omega
                rw [this _ hz, List.length_map]
              have hdiv : j / P.cellsOf e < l.length := Nat.div_lt_of_lt_mul (by rw [Nat.mul_comm]; omega)
              have hmod : j % P.cellsOf e < P.cellsOf e := Nat.mod_lt _ hd1
              have hp : l[j / P.cellsOf e]? = some l[j / P.cellsOf e] := List.getElem?_eq_getElem hdiv
              obtain ⟨_, _, h5⟩ := k2 _ _ hp
              have h6 := flat_at hz (j := j / P.cellsOf e) (k := j % P.cellsOf e) (x := (l[j / P.cellsOf e]).2) (by rw [List.getElem?_map, hp]; rfl) hmod
              have hjj : j / P.cellsOf e * P.cellsOf e + j % P.cellsOf e = j := by rw [Nat.mul_comm]; exact Nat.div_add_mod _ _
              have h7 := h5 _ hmod
              rw [hjj] at h6 h7
              rw [h7, ← h6]; exact hj
            · simp only [vfoot, hcap, if_false, Option.some.injEq] at hq
              subst hq
              exact (Array.getElem?_eq_some_iff.1 hb).1
      · cases hc
    · rename_i fs ht
      rw [ht] at hd
      simp only [Bool.and_eq_true] at hd
      obtain ⟨hd1, hd2⟩ := hd
      split at hc
      · rename_i cl hcl
        cases hc
        split at hd1
        · rename_i s hs
          have hd1 := Nat.eq_of_beq_eq_true hd1
          obtain ⟨xs, q, _, _, h1, h2, h3⟩ := DataW.trod_struct ht h
          have := fields_at (w := w) (I := fun b => b < w.heap.size) (cs := cs) (n := n) fs.toList 0 cl hs (by rw [h1, hd1]) (fun _ _ => trivial) hcl fun f hf c hc => by
            obtain ⟨i, hi⟩ := List.getElem?_of_mem hf
            have hi' : fs[i]? = some f := by simpa using hi
            have h4 := h3 i f hi'
            have hlt : i < fs.size := (Array.getElem?_eq_some_iff.1 hi').1
            rw [List.getElem?_eq_getElem (by omega)] at h4
            exact trod_at hsp n f.type c _ _ _ hc (List.all_eq_true.1 hd2 f hf) h4
          simpa using this
        · cases hd1
      · cases hc
    · cases hc

end
end Go.Dor
namespace Go.Dor
open Go.RowKit (Below)
section
variable {H : Type} {enc : TypeId × Value → H} {P : Program} {w w' : World}

/-- all that stands at the beginning may be read -/
noncomputable def m0 (w : World) : Mem := memOf (lentOf [] fun _ => undef) (fun _ => True) w [] (fun _ => undef) w

theorem m0_imm {b : Nat} (h : b < w.heap.size) : (m0 w).I b := ⟨h, .inr (.inl trivial), fun id hid => by simp [lives, liveO] at hid⟩
theorem at_m0 {c : T} {d : den c} {cs : List Value} (h : At w (fun b => b < w.heap.size) c d cs) : At (m0 w).w (m0 w).I c d cs := At.mono (fun _ hb => ⟨m0_imm hb, rfl⟩) _ _ _ h

theorem arg_ok {t : TypeId} {v : Value} {d : DataW H} {p : List MemPlace} {c : T} (h : DataW.Trod enc P w 0 (fun _ => true) true t v d p) (hc : codeT P depth t = some c) (ht : tiled P depth t = true) : ∃ a : den c, At (m0 w).w (m0 w).I c a v.cells.toList ∧ okD c a := by
  obtain ⟨fuel, h⟩ := h
  obtain ⟨a, ha, hk⟩ := trod_at (fun _ => rfl) _ _ _ _ _ _ hc ht h
  exact ⟨a, at_m0 ha, hk⟩
theorem arg_at {t : TypeId} {v : Value} {d : DataW H} {p : List MemPlace} {c : T} (h : DataW.Trod enc P w 0 (fun _ => true) true t v d p) (hc : codeT P depth t = some c) (ht : tiled P depth t = true) : ∃ a : den c, At (m0 w).w (m0 w).I c a v.cells.toList := by
  obtain ⟨a, ha, _⟩ := arg_ok h hc ht
  exact ⟨a, ha⟩

theorem rv_ag {c : T} {a : den c} {v : Value} {cs : Array Value} (hv : v = .agg cs) (h : At (m0 w).w (m0 w).I c a v.cells.toList) : Rv (m0 w) (.ag (Dor.enc c a)) v := by
  obtain ⟨s, h1, h2⟩ := At.enc _ _ _ h
  refine ⟨s, ?_, h2⟩
  subst hv
  have h1 : cs.toList = s.flatten := h1
  simp [ag, cells, ← h1]

/-- a law of data, called -/
theorem law_calls {f : FuncId} {vd : List Vd} {q : HL (Ds.ts ⟨vd, []⟩) → Option (HL (Ds.ts ⟨[.one (.im .bool)], []⟩))} (hS : Entry.Sound P f ⟨⟨vd, []⟩, ⟨[.one (.im .bool)], []⟩, q⟩) {vals : List Value} {x : HL (Ds.ts ⟨vd, []⟩)}
    (hv : Al2 (Rv (m0 w)) (givenV ⟨vd, []⟩ id x).1 vals) (hq : q x = some true) : Calls P f vals.toArray w fun e w' => e = .returned (.bool true) ∧ Below w.heap.size w w' := by
  have hg : givenO ⟨vd, []⟩ id x = [] := rfl
  have hs : Start ⟨vd, []⟩ x (fun _ => True) w (fun _ => undef) vals := by
    refine ⟨?_, hv⟩
    refine ⟨rfl, rfl, rfl, Nat.le_refl _, fun _ _ _ => rfl, fun b _ => ?_, fun id o hid => ?_, fun id hid => ?_, fun i j hi => ?_⟩
    · rintro ⟨i, hi, _⟩
      rw [hg] at hi
      simp [lives, liveO] at hi
    · rw [hg] at hid; simp at hid
    · rw [hg] at hid; simp [lives, liveO] at hid
    · rw [hg] at hi; simp [lives, liveO] at hi
  refine (hS.out x true hq (fun _ => True) w (fun _ => undef) vals hs).mono fun e w' ⟨vs, g', he, R', hv', _⟩ => ?_
  have hv' : Al2 (Rv (memOf (lentOf (givenO ⟨vd, []⟩ id x) fun _ => undef) (fun _ => True) w (givenO ⟨[.one (.im .bool)], []⟩ id true) g' w')) [.one (.b true)] vs := hv'
  obtain ⟨v, vs, rfl, h1, h2⟩ := hv'.cons_left
  have := h2.nil_left
  subst this
  have h1 := rv_bool h1
  subst h1
  refine ⟨he, R'.os, R'.tape, R'.output, R'.size, fun b hb => R'.old b hb ?_⟩
  rintro ⟨i, hi, _⟩
  have hg' : lives ([] : Hm) i := hi
  simp [lives, liveO] at hg'

theorem trodAll_stays (hl : laidOutB P = true) (hb : Below w.heap.size w w') : ∀ {ts : List TypeId} {vs : List Value} {ds : List (DataW H)} {ps : List MemPlace}, (∀ t ∈ ts, P.readableRec t = true ∧ t < P.types.size) →
    DataW.TrodAll enc P w 0 (fun _ => true) true ts vs ds ps → (∀ x ∈ ps, x.block < w.heap.size) → DataW.TrodAll enc P w' 0 (fun b => decide (b < w.heap.size)) true ts vs ds ps
  | [], [], [], _, _, h, _ => h
  | t :: ts, v :: vs, d :: ds, ps, hr, h, hlt => by
    obtain ⟨p, q, h1, h2, rfl⟩ := h
    exact ⟨p, q, Go.RowKit.Below.trod hl (hr t (by simp)).1 (hr t (by simp)).2 h1 hb (fun x hx => hlt x (List.mem_append_left _ hx)), trodAll_stays hl hb (fun u hu => hr u (List.mem_cons_of_mem _ hu)) h2 (fun x hx => hlt x (List.mem_append_right _ hx)), rfl⟩

end
end Go.Dor
end

section
/- AN ARGUMENT OF A LAW, as data of its type: numbers fit, the value reads as the data. -/
namespace Go.Dor
section
variable {H : Type} {enc' : TypeId × Value → H} {P : Program} {w : World}

def vOf : (c : T) → den c → V
  | .int k, n => .one (.i k n)
  | .bool, x => .one (.b x)
  | .str, l => .one (.s l)
  | .flt k, n => .one (.f k n)
  | .sl e, xs => .one (.ro e xs)
  | .unit, x => .ag (enc .unit x)
  | .pair a b, x => .ag (enc (.pair a b) x)
  | .arr n e, x => .ag (enc (.arr n e) x)

def aggT : T → Bool
  | .unit | .pair .. | .arr .. => true
  | _ => false

theorem okWide_agg {t : TypeId} {r : Reach} {base : Nat} {v : Value} (hv : Value.okWide P w r base t v) (hg : (∃ fs, P.underlying t = some (.struct fs)) ∨ ∃ m e, P.underlying t = some (.array m e)) : ∃ cs, v = .agg cs := by
  rcases hg with ⟨fs, hg⟩ | ⟨m, e, hg⟩ <;>
  · simp only [Value.okWide, hg] at hv
    obtain ⟨cs, h1, _⟩ := hv
    exact ⟨cs, h1⟩

theorem one_cells {v : Value} (h : ∀ cs, v ≠ .agg cs) : v.cells.toList = [v] := by
  cases v <;> first | rfl | exact absurd rfl (h _)

theorem arg_rv {t : TypeId} {v : Value} {d : DataW H} {p : List MemPlace} {c : T} (hag : (match P.underlying t with | some (.struct _) | some (.array _ _) => true | _ => false) = aggT c)
    (h : DataW.Trod enc' P w 0 (fun _ => true) true t v d p) (hc : codeT P depth t = some c) (ht : tiled P depth t = true) {r : Reach} {base : Nat} (hv : Value.okWide P w r base t v) : ∃ a : den c, Rv (m0 w) (vOf c a) v ∧ okD c a := by
  obtain ⟨a, ha, hk⟩ := arg_ok h hc ht
  refine ⟨a, ?_, hk⟩
  cases hx : aggT c with
  | true =>
    rw [hx] at hag
    have hcs : ∃ cs, v = .agg cs := by
      split at hag
      · rename_i fs hu; exact okWide_agg hv (.inl ⟨_, hu⟩)
      · rename_i m e hu; exact okWide_agg hv (.inr ⟨_, _, hu⟩)
      · cases hag
    obtain ⟨cs, hcs⟩ := hcs
    cases c <;> first | exact rv_ag hcs ha | cases hx
  | false =>
    rw [hx] at hag
    have hne : ∀ cs, v ≠ .agg cs := by
      rintro cs rfl
      split at hag
      · cases hag
      · cases hag
      · rename_i h1 h2
        unfold Value.okWide at hv
        split at hv
        · rename_i hu; exact h1 _ hu
        · rename_i hu; exact h2 _ _ hu
        · unfold Cell.okWide at hv
          cases hu : P.underlying t with
          | none => rw [hu] at hv; simp [Cell.ok, hu] at hv
          | some u => cases u <;> simp_all [Cell.ok]
    rw [one_cells hne] at ha
    cases c <;> first | exact ha | cases hx
end
end Go.Dor
end

section
/- CmdHex AT EVERY INPUT: true; each argument reads behind the call as it read before. No condition but the row's own. -/
namespace Go.Proofs.YtlejphdgfoejaaaDoor
open Go.ChangeShapes Go.WideShapes Go.ChangeAt Go.RowKit

theorem cmdHex_ownNone : ownKnob Tryd.prog.godebug = none := by kernel_rfl
theorem cmdHex_laidOk : laidOutB Tryd.prog = true := by kernel_rfl
/-- A world that meets the condition: the listed variables' cells laid. -/
noncomputable def cmdHex_laidWorld (os : Os) : World :=
  let w0 := World.holding Tryd.prog os ⟨#[], #[], []⟩
  let put (h : Array Obj) (g : Nat) (cs : Array Value) : Array Obj := h.modify g fun
    | .cells _ t frozen => .cells cs t frozen
    | o => o
  let h1 := put w0.heap 1 (Go.Pinned.utf8FirstZ.map fun (z : Nat) => Value.int .u8 (z : Int)).toArray
  let h2 := put h1 2 (([128, 191, 160, 191, 128, 159, 144, 191, 128, 143, 0, 0, 0, 0, 0, 0, 0, 0, 0, 0, 0, 0, 0, 0, 0, 0, 0, 0, 0, 0, 0, 0] : List Int).map fun z => Value.int .u8 z).toArray
  { w0 with heap := h2 }
set_option maxRecDepth 100000 in
theorem cmdHex_laid_met (os : Os) (args : Array Value) : laidMet Tryd.prog Rows.cmdHexRow.laid ((cmdHex_laidWorld os).forCall (fun _ _ => 0) ⟨#[], args, []⟩).memory :=
  (LaidIn.of_run [1, 2] 8 (by kernel_rfl) (by kernel_rfl) (by kernel_rfl) (by kernel_rfl)).met
set_option maxRecDepth 100000 in
theorem cmdHex_laidWorld_met (os : Os) (args : Array Value) : laidMetH Tryd.prog Rows.cmdHexRow.laid ((cmdHex_laidWorld os).forCall (fun _ _ => 0) ⟨#[], args, []⟩).memory :=
  cmdHex_laid_met os args
set_option maxRecDepth 100000 in
theorem cmdHex_lifted (os : Os) (started : os.Started) (H : Type) (enc : TypeId × Value → H) :
    ReturnsInHanded {} Tryd.checked os 8 .any (fun w args => (Rows.cmdHexSpec.pre enc Tryd.prog Tryd.f8 [] false w args ∧ laidMetH Tryd.prog Rows.cmdHexRow.laid w) ∧ sizedMet enc Tryd.prog Tryd.f8 (OpenSpec.ofChange Rows.cmdHexSpec) false w args) (Rows.cmdHexSpec.post enc Tryd.prog Tryd.f8 false true false false) := by
  refine returnsInHanded_of_change_and (C := Tryd.checked) (X := fun w _ => laidMetH Tryd.prog Rows.cmdHexRow.laid w) (fun _ _ _ hh h => h.of_heap hh) cmdHex_ownNone started (by kernel_rfl) Tryd.func8
    (ChangeSpec.witness_at (enc := enc) (C := Tryd.checked) (os := os) (X := fun w _ => laidMetH Tryd.prog Rows.cmdHexRow.laid w) false (cmdHex_laidWorld os) #[.string ⟨#[]⟩, .string ⟨#[]⟩] 8 rfl (by kernel_rfl) (by kernel_rfl) (by kernel_rfl) (by kernel_rfl) (by kernel_rfl) (cmdHex_laidWorld_met os _)) ?_
  intro W base args ds gs before hval0 hW _ _ _ _
  have hval : ∀ (j : Nat) t v, Tryd.f8.params[j]? = some t → args[j]? = some v → Value.okWide Tryd.prog W .any base t v := hval0
  have hW' := hW
  obtain ⟨p, q, hA0, hV, rfl, _, _⟩ := hW
  have hA : DataW.TrodAll enc Tryd.prog W 0 (fun _ => true) true Tryd.f8.params.toList args.toList ds p := hA0
  have hA2 := hA
  rw [Tryd.params8] at hA hval
  obtain ⟨rfl, rfl⟩ := trodVars_none hV
  simp only [List.append_nil] at hW'
  have hlt : ∀ x ∈ p, x.block < W.heap.size := fun x hx => by simpa using hW'.lt x hx
  obtain ⟨v0, v1, d0, d1, p0, p1, rfl, rfl, rfl, h0, h1⟩ := trodAll_two hA
  obtain ⟨a0, r0, k0⟩ := Dor.arg_rv (c := .str) (by kernel_rfl) h0 (by kernel_rfl) (by kernel_rfl) (hval 0 _ v0 rfl rfl)
  obtain ⟨a1, r1, k1⟩ := Dor.arg_rv (c := .str) (by kernel_rfl) h1 (by kernel_rfl) (by kernel_rfl) (hval 1 _ v1 rfl rfl)
  have hk := Dor.law_CmdHex a0 a1
  refine (Dor.law_calls (Dor.s_dormouselaw38_CmdHex 2000) (vals := [v0, v1]) (x := (a0, a1)) (w := W) ⟨r0, r1, trivial⟩ hk).mono fun e W' ⟨he, hnx⟩ => ⟨_, he, ?_⟩
  refine ⟨_, _, _, [] ++ [], p0 ++ p1, [], hW', trodAll_mk1 (shut_bool (by kernel_rfl) true), ?_, rfl, hnx.frame _, fun h => by cases h⟩
  exact Dor.trodAll_stays cmdHex_laidOk hnx (by decide +kernel) hA2 hlt

theorem cmdHex_holds : Rows.CmdHexSaid :=
  OpenClaim.holds_of_wide 8 Tryd.f8 rfl rfl rfl rfl rfl rfl rfl ⟨rfl, rfl, rfl, rfl, rfl⟩ rfl rfl rfl rfl rfl (by kernel_rfl) Tryd.func8 (by kernel_rfl)
    (of_decide_eq_true (by kernel_rfl)) (by unfold Func.isWrapper; first | (rw [if_pos (by decide +kernel)]; kernel_rfl) | (rw [if_neg (by decide +kernel)]; exact ⟨rfl, rfl⟩))
    (fun os started H enc _ => cmdHex_lifted os started H enc)

theorem cmdHex_card : Rows.CmdHexCardSaid :=
  Claim7.holds_tied_plain_at .later [] [.data, .pinned] true (true, "a7d258ae0b702be9d261bb6c8bd45ae7ef8974bff8ff2809bc8c206916b8e966") false
    cmdHex_holds (fun _ h => by cases h) (by kernel_rfl) (fun _ h => by cases h) cmdHex_row_tie rfl ⟨rfl, rfl⟩ (by kernel_rfl) rfl
    (fun f fn hf hfn => by
      obtain rfl : f = 8 := Option.some.inj ((show Tryd.prog.funcNamed "dormouse/dormouselaw38.CmdHex" = some 8 by kernel_rfl).symm.trans hf) |>.symm
      obtain rfl : fn = Tryd.f8 := (Option.some.inj (Tryd.func8.symm.trans hfn)).symm
      exact ⟨by kernel_rfl, fun j t ht => by
        have h3 : (Tryd.f8.params.toList.all fun t => !Tryd.prog.wantsStandIn t) = true := by kernel_rfl
        have hm : t ∈ Tryd.f8.params.toList := by rw [Array.mem_toList_iff]; exact Array.mem_of_getElem? ht
        exact (show Tryd.prog.wantsStandIn t = false by simpa using List.all_eq_true.1 h3 t hm)⟩)
    (by kernel_rfl)

end Go.Proofs.YtlejphdgfoejaaaDoor
end
