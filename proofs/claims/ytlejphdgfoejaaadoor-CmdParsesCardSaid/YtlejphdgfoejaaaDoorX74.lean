/- PART 4 OF WHAT THE ROW STANDS ON: the texts W Pa Pb Pc Pd Zo Zq Zr, one behind the other. -/
import Derived.Test.YtlejphdgfoejaaaDoorX73
import Derived.Test.YtlejphdgfoejaaaDoorProg
import Derived.KernelRfl
import Derived.Test.YtlejphdgfoejaaaDoorX72
import Derived.Room.Shelf.Join48
section
/- The functions that the law calls, as the machine shows them. -/
namespace Go.Dor
open Go.Proofs
set_option maxRecDepth 100000
set_option linter.unusedVariables false
noncomputable section
theorem x_mo : Tryd.prog.follows .mixedOrders = true := by kernel_rfl
theorem x_ext76 : ExternOf Tryd.prog 76 (externFn 0) := ⟨⟨_, Tryd.func76, by kernel_rfl, by kernel_rfl, by kernel_rfl, by kernel_rfl⟩⟩
theorem x_ext83 : ExternOf Tryd.prog 83 (externFn 1) := ⟨⟨_, Tryd.func83, by kernel_rfl, by kernel_rfl, by kernel_rfl, by kernel_rfl⟩⟩
theorem x_ext : ∀ f kd, findA [(76, 0), (83, 1)] f = some kd → ExternOf Tryd.prog f (externFn kd) := (ext_cons (kd := 0) x_ext76 (ext_cons (kd := 1) x_ext83 ext_nil))

/- dormouse/reply.Check: function 13 -/
noncomputable def p_reply_Check.j0 (x13 : Bool) : Option Int :=
  bif x13 then some (2 : Int) else some (0 : Int)
noncomputable def p_reply_Check (x12 : Int × List UInt8) : Option Int :=
  joinC (p_reply_Check.j0) fun (j14 : Bool → Option Int) => bif (decide (Prod.fst x12 < (0 : Int))) then j14 Bool.true else bif (decide (Prod.fst x12 > (18 : Int))) then j14 Bool.true else bif (Prod.fst x12 != (0 : Int)) then j14 (!Prod.snd x12 == []) else j14 Bool.false
noncomputable def e_reply_Check : Entry := ⟨Ds.mk [Vd.st (T.pair (T.int IntKind.i64) T.str)] [], Ds.mk [Vd.one (Ld.im (T.int IntKind.i64))] [], fun x => p_reply_Check x⟩
noncomputable def c_reply_Check : Cx := ⟨Tryd.prog, [], [], [(1, Sd.mk [20] (Ds.mk [Vd.one (Ld.im T.bool)] []))], [], [], 0, 21, [(76, 0), (83, 1)], fun _ _ _ => none⟩
theorem q_reply_Check (x : HL (e_reply_Check).pre.ts) : runF (c_reply_Check) 0 Tryd.f13 (e_reply_Check).pre (e_reply_Check).post x = (e_reply_Check).fn x := by kernel_rfl
theorem s_reply_Check : Entry.Sound Tryd.prog 13 (e_reply_Check) := runF_sound (X := c_reply_Check) (pre := (e_reply_Check).pre) (post := (e_reply_Check).post) (q := (e_reply_Check).fn) ⟨dOk_nil, x_ext, x_mo⟩ Tryd.func13 (q_reply_Check)

/- dormouse/reply.number: function 35 -/
noncomputable def p_reply_number (x26 : Int) : Option (List UInt8) :=
  bif (decide (x26 > (9 : Int))) then need ((0 : Int) ≤ IntKind.wrap IntKind.i64 (Int.tdiv x26 (10 : Int)) ∧ IntKind.wrap IntKind.i64 (Int.tdiv x26 (10 : Int)) ≤ IntKind.wrap IntKind.i64 (IntKind.wrap IntKind.i64 (Int.tdiv x26 (10 : Int)) + (1 : Int)) ∧ IntKind.wrap IntKind.i64 (IntKind.wrap IntKind.i64 (Int.tdiv x26 (10 : Int)) + (1 : Int)) ≤ (↑(10) : Int)) (need ((0 : Int) ≤ Int.tmod x26 (10 : Int) ∧ Int.tmod x26 (10 : Int) ≤ IntKind.wrap IntKind.i64 (Int.tmod x26 (10 : Int) + (1 : Int)) ∧ IntKind.wrap IntKind.i64 (Int.tmod x26 (10 : Int) + (1 : Int)) ≤ (↑(10) : Int)) (need (List.length (sub_ [(48 : UInt8), (49 : UInt8), (50 : UInt8), (51 : UInt8), (52 : UInt8), (53 : UInt8), (54 : UInt8), (55 : UInt8), (56 : UInt8), (57 : UInt8)] (IntKind.wrap IntKind.i64 (Int.tdiv x26 (10 : Int))) (IntKind.wrap IntKind.i64 (IntKind.wrap IntKind.i64 (Int.tdiv x26 (10 : Int)) + (1 : Int)))) + List.length (sub_ [(48 : UInt8), (49 : UInt8), (50 : UInt8), (51 : UInt8), (52 : UInt8), (53 : UInt8), (54 : UInt8), (55 : UInt8), (56 : UInt8), (57 : UInt8)] (Int.tmod x26 (10 : Int)) (IntKind.wrap IntKind.i64 (Int.tmod x26 (10 : Int) + (1 : Int)))) ≤ (9223372036854775807 : Nat)) (some (sub_ [(48 : UInt8), (49 : UInt8), (50 : UInt8), (51 : UInt8), (52 : UInt8), (53 : UInt8), (54 : UInt8), (55 : UInt8), (56 : UInt8), (57 : UInt8)] (IntKind.wrap IntKind.i64 (Int.tdiv x26 (10 : Int))) (IntKind.wrap IntKind.i64 (IntKind.wrap IntKind.i64 (Int.tdiv x26 (10 : Int)) + (1 : Int))) ++ sub_ [(48 : UInt8), (49 : UInt8), (50 : UInt8), (51 : UInt8), (52 : UInt8), (53 : UInt8), (54 : UInt8), (55 : UInt8), (56 : UInt8), (57 : UInt8)] (Int.tmod x26 (10 : Int)) (IntKind.wrap IntKind.i64 (Int.tmod x26 (10 : Int) + (1 : Int))))))) else need ((0 : Int) ≤ x26 ∧ x26 ≤ IntKind.wrap IntKind.i64 (x26 + (1 : Int)) ∧ IntKind.wrap IntKind.i64 (x26 + (1 : Int)) ≤ (↑(10) : Int)) (some (sub_ [(48 : UInt8), (49 : UInt8), (50 : UInt8), (51 : UInt8), (52 : UInt8), (53 : UInt8), (54 : UInt8), (55 : UInt8), (56 : UInt8), (57 : UInt8)] x26 (IntKind.wrap IntKind.i64 (x26 + (1 : Int)))))
noncomputable def e_reply_number : Entry := ⟨Ds.mk [Vd.one (Ld.im (T.int IntKind.i64))] [], Ds.mk [Vd.one (Ld.im T.str)] [], fun x => p_reply_number x⟩
noncomputable def c_reply_number : Cx := ⟨Tryd.prog, [], [], [], [], [(3, ([(0, 2), (1, 2), (2, 2), (3, 2), (4, 2), (5, 2), (6, 2), (7, 2), (8, 2), (9, 2), (10, 2), (11, 2), (12, 2), (13, 2)], [], []))], 0, 24, [(76, 0), (83, 1)], fun _ _ _ => none⟩
theorem q_reply_number (x : HL (e_reply_number).pre.ts) : runF (c_reply_number) 0 Tryd.f35 (e_reply_number).pre (e_reply_number).post x = (e_reply_number).fn x := by kernel_rfl
theorem s_reply_number : Entry.Sound Tryd.prog 35 (e_reply_number) := runF_sound (X := c_reply_number) (pre := (e_reply_number).pre) (post := (e_reply_number).post) (q := (e_reply_number).fn) ⟨dOk_nil, x_ext, x_mo⟩ Tryd.func35 (q_reply_number)

/- dormouse/cmd.Hex: function 28 -/
noncomputable def p_cmd_Hex.j0 (k : Nat) (x64 : List Int) : Option (List UInt8) :=
  some (bytesOf x64)
noncomputable def p_cmd_Hex.b1 (k : Nat) (j65 : List Int → Option (List UInt8)) (rec62 : List UInt8 × Int × Int × List Int → Option (List UInt8)) (x53 : List UInt8) (x54 : Int) (x55 : Int) (x56 : List Int) : Option (List UInt8) :=
  bif (decide (x55 < x54)) then need ((0 : Int) ≤ x55 ∧ x55 < (↑(List.length x53) : Int)) (need ((0 : Int) ≤ ishr IntKind.u8 (bat x53 x55) (4 : Int) ∧ ishr IntKind.u8 (bat x53 x55) (4 : Int) < (↑(16) : Int)) (need ((0 : Int) ≤ x55 ∧ x55 < (↑(List.length x53) : Int)) (need ((0 : Int) ≤ iand IntKind.u8 (bat x53 x55) (15 : Int) ∧ iand IntKind.u8 (bat x53 x55) (15 : Int) < (↑(16) : Int)) (need ((List.length x56 + List.length [bat [(48 : UInt8), (49 : UInt8), (50 : UInt8), (51 : UInt8), (52 : UInt8), (53 : UInt8), (54 : UInt8), (55 : UInt8), (56 : UInt8), (57 : UInt8), (97 : UInt8), (98 : UInt8), (99 : UInt8), (100 : UInt8), (101 : UInt8), (102 : UInt8)] (ishr IntKind.u8 (bat x53 x55) (4 : Int)), bat [(48 : UInt8), (49 : UInt8), (50 : UInt8), (51 : UInt8), (52 : UInt8), (53 : UInt8), (54 : UInt8), (55 : UInt8), (56 : UInt8), (57 : UInt8), (97 : UInt8), (98 : UInt8), (99 : UInt8), (100 : UInt8), (101 : UInt8), (102 : UInt8)] (iand IntKind.u8 (bat x53 x55) (15 : Int))]) * 1 ≤ (140737488355328 : Nat)) (rec62 (x53, x54, IntKind.wrap IntKind.i64 (x55 + (1 : Int)), x56 ++ [bat [(48 : UInt8), (49 : UInt8), (50 : UInt8), (51 : UInt8), (52 : UInt8), (53 : UInt8), (54 : UInt8), (55 : UInt8), (56 : UInt8), (57 : UInt8), (97 : UInt8), (98 : UInt8), (99 : UInt8), (100 : UInt8), (101 : UInt8), (102 : UInt8)] (ishr IntKind.u8 (bat x53 x55) (4 : Int)), bat [(48 : UInt8), (49 : UInt8), (50 : UInt8), (51 : UInt8), (52 : UInt8), (53 : UInt8), (54 : UInt8), (55 : UInt8), (56 : UInt8), (57 : UInt8), (97 : UInt8), (98 : UInt8), (99 : UInt8), (100 : UInt8), (101 : UInt8), (102 : UInt8)] (iand IntKind.u8 (bat x53 x55) (15 : Int))])))))) else j65 x56
noncomputable def p_cmd_Hex (k : Nat) (x52 : List UInt8) : Option (List UInt8) :=
  bif (x52 == []) then some ([(45 : UInt8)]) else joinC (p_cmd_Hex.j0 k) fun (j65 : List Int → Option (List UInt8)) => loopC (fun (r : List UInt8 × Int × Int × List Int → Option (List UInt8)) y => p_cmd_Hex.b1 k j65 r y.1 y.2.1 y.2.2.1 y.2.2.2) k (x52, (↑(List.length x52) : Int), (0 : Int), [])
noncomputable def e_cmd_Hex (k : Nat) : Entry := ⟨Ds.mk [Vd.one (Ld.im T.str)] [], Ds.mk [Vd.one (Ld.im T.str)] [], fun x => p_cmd_Hex k x⟩
noncomputable def c_cmd_Hex (k : Nat) : Cx := ⟨Tryd.prog, [], [(9, Sd.mk [3] (Ds.mk [Vd.one (Ld.own (0))] [Od.arr (5) (T.int IntKind.u8)]))], [], [(5, Sd.mk [0, 3, 8, 9] (Ds.mk [Vd.one (Ld.im T.str), Vd.one (Ld.own (0)), Vd.one (Ld.im (T.int IntKind.i64)), Vd.one (Ld.im (T.int IntKind.i64))] [Od.arr (5) (T.int IntKind.u8)]))], [(7, ([(0, 2), (1, 2), (2, 2), (3, 2), (4, 2), (5, 2), (6, 2), (7, 2), (8, 2), (9, 2), (10, 2)], [(11, Bool.false), (12, Bool.false), (13, Bool.false)], []))], 0, 28, [(76, 0), (83, 1)], fun _ _ _ => none⟩
theorem q_cmd_Hex (k : Nat) (x : HL (e_cmd_Hex k).pre.ts) : runF (c_cmd_Hex k) k Tryd.f28 (e_cmd_Hex k).pre (e_cmd_Hex k).post x = (e_cmd_Hex k).fn x := by kernel_rfl
theorem s_cmd_Hex (k : Nat) : Entry.Sound Tryd.prog 28 (e_cmd_Hex k) := runF_sound (X := c_cmd_Hex k) (pre := (e_cmd_Hex k).pre) (post := (e_cmd_Hex k).post) (q := (e_cmd_Hex k).fn) ⟨dOk_nil, x_ext, x_mo⟩ Tryd.func28 (q_cmd_Hex k)

/- dormouse/reply.Text: function 11 -/
noncomputable def p_reply_Text.j0 (k : Nat) (x74 : List UInt8) : Option (List UInt8 × Int) :=
  some (x74, (0 : Int))
noncomputable def p_reply_Text (k : Nat) (x68 : Int × List UInt8) : Option (List UInt8 × Int) :=
  Option.bind (p_reply_Check (Prod.fst x68, Prod.snd x68)) fun t69 => bif (t69 != (0 : Int)) then some ([], t69) else Option.bind (p_reply_number (Prod.fst x68)) fun t70 => joinC (p_reply_Text.j0 k) fun (j75 : List UInt8 → Option (List UInt8 × Int)) => bif (!Prod.snd x68 == []) then Option.bind (p_cmd_Hex k (Prod.snd x68)) fun t71 => need (1 + List.length t71 ≤ (9223372036854775807 : Nat)) (need (List.length t70 + List.length ([(32 : UInt8)] ++ t71) ≤ (9223372036854775807 : Nat)) (j75 (t70 ++ ([(32 : UInt8)] ++ t71)))) else j75 t70
noncomputable def e_reply_Text (k : Nat) : Entry := ⟨Ds.mk [Vd.st (T.pair (T.int IntKind.i64) T.str)] [], Ds.mk [Vd.one (Ld.im T.str), Vd.one (Ld.im (T.int IntKind.i64))] [], fun x => p_reply_Text k x⟩
noncomputable def c_reply_Text (k : Nat) : Cx := ⟨Tryd.prog, [(13, e_reply_Check), (35, e_reply_number), (28, e_cmd_Hex k)], [(7, Sd.mk [5] (Ds.mk [Vd.one (Ld.im T.str)] []))], [], [], [], 0, 24, [(76, 0), (83, 1)], fun _ _ _ => none⟩
theorem q_reply_Text (k : Nat) (x : HL (e_reply_Text k).pre.ts) : runF (c_reply_Text k) k Tryd.f11 (e_reply_Text k).pre (e_reply_Text k).post x = (e_reply_Text k).fn x := by kernel_rfl
theorem s_reply_Text (k : Nat) : Entry.Sound Tryd.prog 11 (e_reply_Text k) := runF_sound (X := c_reply_Text k) (pre := (e_reply_Text k).pre) (post := (e_reply_Text k).post) (q := (e_reply_Text k).fn) ⟨(dOk_cons (s_reply_Check) (dOk_cons (s_reply_number) (dOk_cons (s_cmd_Hex k) dOk_nil))), x_ext, x_mo⟩ Tryd.func11 (q_reply_Text k)

/- internal/stringslite.IndexByte: function 64 -/
noncomputable def p_stringslite_IndexByte (x98 : List UInt8) (x99 : Int) : Option Int :=
  some (indexByteOf x98 x99)
noncomputable def e_stringslite_IndexByte : Entry := ⟨Ds.mk [Vd.one (Ld.im T.str), Vd.one (Ld.im (T.int IntKind.u8))] [], Ds.mk [Vd.one (Ld.im (T.int IntKind.i64))] [], fun x => p_stringslite_IndexByte x.1 x.2⟩
noncomputable def c_stringslite_IndexByte : Cx := ⟨Tryd.prog, [], [], [], [], [], 0, 8, [(76, 0), (83, 1)], fun _ _ _ => none⟩
theorem q_stringslite_IndexByte (x : HL (e_stringslite_IndexByte).pre.ts) : runF (c_stringslite_IndexByte) 0 Tryd.f64 (e_stringslite_IndexByte).pre (e_stringslite_IndexByte).post x = (e_stringslite_IndexByte).fn x := by kernel_rfl
theorem s_stringslite_IndexByte : Entry.Sound Tryd.prog 64 (e_stringslite_IndexByte) := runF_sound (X := c_stringslite_IndexByte) (pre := (e_stringslite_IndexByte).pre) (post := (e_stringslite_IndexByte).post) (q := (e_stringslite_IndexByte).fn) ⟨dOk_nil, x_ext, x_mo⟩ Tryd.func64 (q_stringslite_IndexByte)

/- internal/stringslite.Index: function 66 -/
noncomputable def p_stringslite_Index.j0 (x103 : List UInt8) (x104 : List UInt8) (x105 : Int) (x106 : Bool) : Option Int :=
  bif x106 then some (0 : Int) else bif (x105 == (1 : Int)) then need ((0 : Int) ≤ (0 : Int) ∧ (0 : Int) < (↑(List.length x104) : Int)) (Option.bind (p_stringslite_IndexByte x103 (bat x104 (0 : Int))) fun t110 => some t110) else bif (decide (x105 ≥ (↑(List.length x103) : Int))) then some (-1 : Int) else none
noncomputable def p_stringslite_Index (x101 : List UInt8) (x102 : List UInt8) : Option Int :=
  joinC (fun (y : List UInt8 × List UInt8 × Int × Bool) => p_stringslite_Index.j0 y.1 y.2.1 y.2.2.1 y.2.2.2) fun (j107 : List UInt8 × List UInt8 × Int × Bool → Option Int) => bif ((↑(List.length x102) : Int) == (0 : Int)) then j107 (x101, x102, (↑(List.length x102) : Int), Bool.true) else j107 (x101, x102, (↑(List.length x102) : Int), x102 == x101)
noncomputable def e_stringslite_Index : Entry := ⟨Ds.mk [Vd.one (Ld.im T.str), Vd.one (Ld.im T.str)] [], Ds.mk [Vd.one (Ld.im (T.int IntKind.i64))] [], fun x => p_stringslite_Index x.1 x.2⟩
noncomputable def c_stringslite_Index : Cx := ⟨Tryd.prog, [(64, e_stringslite_IndexByte)], [], [(2, Sd.mk [0, 1, 5, 16] (Ds.mk [Vd.one (Ld.im T.str), Vd.one (Ld.im T.str), Vd.one (Ld.im (T.int IntKind.i64)), Vd.one (Ld.im T.bool)] []))], [], [], 0, 143, [(76, 0), (83, 1)], fun _ _ _ => none⟩
theorem q_stringslite_Index (x : HL (e_stringslite_Index).pre.ts) : runF (c_stringslite_Index) 0 Tryd.f66 (e_stringslite_Index).pre (e_stringslite_Index).post x = (e_stringslite_Index).fn x := by kernel_rfl
theorem s_stringslite_Index : Entry.Sound Tryd.prog 66 (e_stringslite_Index) := runF_sound (X := c_stringslite_Index) (pre := (e_stringslite_Index).pre) (post := (e_stringslite_Index).post) (q := (e_stringslite_Index).fn) ⟨(dOk_cons (s_stringslite_IndexByte) dOk_nil), x_ext, x_mo⟩ Tryd.func66 (q_stringslite_Index)

/- internal/stringslite.Cut: function 55 -/
noncomputable def p_stringslite_Cut (x118 : List UInt8) (x119 : List UInt8) : Option (List UInt8 × List UInt8 × Bool) :=
  Option.bind (p_stringslite_Index x118 x119) fun t120 => bif (decide (t120 ≥ (0 : Int))) then need ((0 : Int) ≤ (0 : Int) ∧ (0 : Int) ≤ t120 ∧ t120 ≤ (↑(List.length x118) : Int)) (need ((0 : Int) ≤ IntKind.wrap IntKind.i64 (t120 + (↑(List.length x119) : Int)) ∧ IntKind.wrap IntKind.i64 (t120 + (↑(List.length x119) : Int)) ≤ (↑(List.length x118) : Int) ∧ (↑(List.length x118) : Int) ≤ (↑(List.length x118) : Int)) (some (sub_ x118 (0 : Int) t120, sub_ x118 (IntKind.wrap IntKind.i64 (t120 + (↑(List.length x119) : Int))) (↑(List.length x118) : Int), Bool.true))) else some (x118, [], Bool.false)
noncomputable def e_stringslite_Cut : Entry := ⟨Ds.mk [Vd.one (Ld.im T.str), Vd.one (Ld.im T.str)] [], Ds.mk [Vd.one (Ld.im T.str), Vd.one (Ld.im T.str), Vd.one (Ld.im T.bool)] [], fun x => p_stringslite_Cut x.1 x.2⟩
noncomputable def c_stringslite_Cut : Cx := ⟨Tryd.prog, [(66, e_stringslite_Index)], [], [], [], [(3, ([(0, 2), (1, 2), (2, 2), (3, 2), (4, 2), (5, 2), (6, 2), (7, 2), (8, 2), (9, 2), (10, 2), (11, 2)], [], []))], 0, 23, [(76, 0), (83, 1)], fun _ _ _ => none⟩
theorem q_stringslite_Cut (x : HL (e_stringslite_Cut).pre.ts) : runF (c_stringslite_Cut) 0 Tryd.f55 (e_stringslite_Cut).pre (e_stringslite_Cut).post x = (e_stringslite_Cut).fn x := by kernel_rfl
theorem s_stringslite_Cut : Entry.Sound Tryd.prog 55 (e_stringslite_Cut) := runF_sound (X := c_stringslite_Cut) (pre := (e_stringslite_Cut).pre) (post := (e_stringslite_Cut).post) (q := (e_stringslite_Cut).fn) ⟨(dOk_cons (s_stringslite_Index) dOk_nil), x_ext, x_mo⟩ Tryd.func55 (q_stringslite_Cut)

/- strings.Cut: function 38 -/
noncomputable def p_strings_Cut (x124 : List UInt8) (x125 : List UInt8) : Option (List UInt8 × List UInt8 × Bool) :=
  Option.bind (p_stringslite_Cut x124 x125) fun t126 => some (Prod.fst t126, Prod.fst (Prod.snd t126), Prod.snd (Prod.snd t126))
noncomputable def e_strings_Cut : Entry := ⟨Ds.mk [Vd.one (Ld.im T.str), Vd.one (Ld.im T.str)] [], Ds.mk [Vd.one (Ld.im T.str), Vd.one (Ld.im T.str), Vd.one (Ld.im T.bool)] [], fun x => p_strings_Cut x.1 x.2⟩
noncomputable def c_strings_Cut : Cx := ⟨Tryd.prog, [(55, e_stringslite_Cut)], [], [], [], [], 0, 13, [(76, 0), (83, 1)], fun _ _ _ => none⟩
theorem q_strings_Cut (x : HL (e_strings_Cut).pre.ts) : runF (c_strings_Cut) 0 Tryd.f38 (e_strings_Cut).pre (e_strings_Cut).post x = (e_strings_Cut).fn x := by kernel_rfl
theorem s_strings_Cut : Entry.Sound Tryd.prog 38 (e_strings_Cut) := runF_sound (X := c_strings_Cut) (pre := (e_strings_Cut).pre) (post := (e_strings_Cut).post) (q := (e_strings_Cut).fn) ⟨(dOk_cons (s_stringslite_Cut) dOk_nil), x_ext, x_mo⟩ Tryd.func38 (q_strings_Cut)

/- strings.IndexByte: function 51 -/
noncomputable def p_strings_IndexByte (x158 : List UInt8) (x159 : Int) : Option Int :=
  Option.bind (p_stringslite_IndexByte x158 x159) fun t160 => some t160
noncomputable def e_strings_IndexByte : Entry := ⟨Ds.mk [Vd.one (Ld.im T.str), Vd.one (Ld.im (T.int IntKind.u8))] [], Ds.mk [Vd.one (Ld.im (T.int IntKind.i64))] [], fun x => p_strings_IndexByte x.1 x.2⟩
noncomputable def c_strings_IndexByte : Cx := ⟨Tryd.prog, [(64, e_stringslite_IndexByte)], [], [], [], [], 0, 8, [(76, 0), (83, 1)], fun _ _ _ => none⟩
theorem q_strings_IndexByte (x : HL (e_strings_IndexByte).pre.ts) : runF (c_strings_IndexByte) 0 Tryd.f51 (e_strings_IndexByte).pre (e_strings_IndexByte).post x = (e_strings_IndexByte).fn x := by kernel_rfl
theorem s_strings_IndexByte : Entry.Sound Tryd.prog 51 (e_strings_IndexByte) := runF_sound (X := c_strings_IndexByte) (pre := (e_strings_IndexByte).pre) (post := (e_strings_IndexByte).post) (q := (e_strings_IndexByte).fn) ⟨(dOk_cons (s_stringslite_IndexByte) dOk_nil), x_ext, x_mo⟩ Tryd.func51 (q_strings_IndexByte)

/- dormouse/cmd.Bytes: function 29 -/
noncomputable def p_cmd_Bytes.j1 (k : Nat) (x197 : Bool) (x198 : List Int) : Option (List UInt8 × Bool) :=
  bif x197 then some ([], Bool.false) else some (bytesOf x198, Bool.true)
noncomputable def p_cmd_Bytes.j0 (k : Nat) (x194 : List UInt8) (x195 : List Int) : Option (List UInt8 × Bool) :=
  joinC (fun (y : Bool × List Int) => p_cmd_Bytes.j1 k y.1 y.2) fun (j199 : Bool × List Int → Option (List UInt8 × Bool)) => bif ((↑(List.length x195) : Int) == (0 : Int)) then j199 (Bool.true, x195) else Option.bind (p_cmd_Hex k (bytesOf x195)) fun t196 => j199 (!t196 == x194, x195)
noncomputable def p_cmd_Bytes.b2 (k : Nat) (j201 : List UInt8 × List Int → Option (List UInt8 × Bool)) (rec192 : List UInt8 × Int × List Int → Option (List UInt8 × Bool)) (x184 : List UInt8) (x185 : Int) (x186 : List Int) : Option (List UInt8 × Bool) :=
  bif (decide (IntKind.wrap IntKind.i64 (x185 + (1 : Int)) < (↑(List.length x184) : Int))) then need ((0 : Int) ≤ x185 ∧ x185 < (↑(List.length x184) : Int)) (Option.bind (p_strings_IndexByte [(48 : UInt8), (49 : UInt8), (50 : UInt8), (51 : UInt8), (52 : UInt8), (53 : UInt8), (54 : UInt8), (55 : UInt8), (56 : UInt8), (57 : UInt8), (97 : UInt8), (98 : UInt8), (99 : UInt8), (100 : UInt8), (101 : UInt8), (102 : UInt8)] (bat x184 x185)) fun t188 => need ((0 : Int) ≤ IntKind.wrap IntKind.i64 (x185 + (1 : Int)) ∧ IntKind.wrap IntKind.i64 (x185 + (1 : Int)) < (↑(List.length x184) : Int)) (Option.bind (p_strings_IndexByte [(48 : UInt8), (49 : UInt8), (50 : UInt8), (51 : UInt8), (52 : UInt8), (53 : UInt8), (54 : UInt8), (55 : UInt8), (56 : UInt8), (57 : UInt8), (97 : UInt8), (98 : UInt8), (99 : UInt8), (100 : UInt8), (101 : UInt8), (102 : UInt8)] (bat x184 (IntKind.wrap IntKind.i64 (x185 + (1 : Int))))) fun t190 => need ((List.length x186 + List.length [IntKind.wrap IntKind.u8 (IntKind.wrap IntKind.i64 (IntKind.wrap IntKind.i64 ((16 : Int) * Max.max t188 (0 : Int)) + Max.max t190 (0 : Int)))]) * Go.TypeInfo.bytes (Go.Tables.types (Go.Program.toTables Go.Proofs.Tryd.prog))[(5 : Nat)] ≤ (140737488355328 : Nat)) (rec192 (x184, IntKind.wrap IntKind.i64 (x185 + (2 : Int)), x186 ++ [IntKind.wrap IntKind.u8 (IntKind.wrap IntKind.i64 (IntKind.wrap IntKind.i64 ((16 : Int) * Max.max t188 (0 : Int)) + Max.max t190 (0 : Int)))])))) else j201 (x184, x186)
noncomputable def p_cmd_Bytes (k : Nat) (x183 : List UInt8) : Option (List UInt8 × Bool) :=
  bif (x183 == [(45 : UInt8)]) then some ([], Bool.true) else joinC (fun (y : List UInt8 × List Int) => p_cmd_Bytes.j0 k y.1 y.2) fun (j201 : List UInt8 × List Int → Option (List UInt8 × Bool)) => loopC (fun (r : List UInt8 × Int × List Int → Option (List UInt8 × Bool)) y => p_cmd_Bytes.b2 k j201 r y.1 y.2.1 y.2.2) k (x183, (0 : Int), [])
noncomputable def e_cmd_Bytes (k : Nat) : Entry := ⟨Ds.mk [Vd.one (Ld.im T.str)] [], Ds.mk [Vd.one (Ld.im T.str), Vd.one (Ld.im T.bool)] [], fun x => p_cmd_Bytes k x⟩
noncomputable def c_cmd_Bytes (k : Nat) : Cx := ⟨Tryd.prog, [(28, e_cmd_Hex k), (51, e_strings_IndexByte)], [(9, Sd.mk [0, 4] (Ds.mk [Vd.one (Ld.im T.str), Vd.one (Ld.own (0))] [Od.arr (5) (T.int IntKind.u8)]))], [(9, Sd.mk [4, 45] (Ds.mk [Vd.one (Ld.own (0)), Vd.one (Ld.im T.bool)] [Od.arr (5) (T.int IntKind.u8)]))], [(5, Sd.mk [0, 4, 5] (Ds.mk [Vd.one (Ld.im T.str), Vd.one (Ld.own (0)), Vd.one (Ld.im (T.int IntKind.i64))] [Od.arr (5) (T.int IntKind.u8)]))], [(7, ([(0, 2), (1, 2), (2, 2), (3, 0), (4, 2), (5, 2), (6, 2), (7, 2), (8, 0), (9, 2), (10, 2)], [], []))], 0, 48, [(76, 0), (83, 1)], fun _ _ _ => none⟩
theorem q_cmd_Bytes (k : Nat) (x : HL (e_cmd_Bytes k).pre.ts) : runF (c_cmd_Bytes k) k Tryd.f29 (e_cmd_Bytes k).pre (e_cmd_Bytes k).post x = (e_cmd_Bytes k).fn x := by kernel_rfl
theorem s_cmd_Bytes (k : Nat) : Entry.Sound Tryd.prog 29 (e_cmd_Bytes k) := runF_sound (X := c_cmd_Bytes k) (pre := (e_cmd_Bytes k).pre) (post := (e_cmd_Bytes k).post) (q := (e_cmd_Bytes k).fn) ⟨(dOk_cons (s_cmd_Hex k) (dOk_cons (s_strings_IndexByte) dOk_nil)), x_ext, x_mo⟩ Tryd.func29 (q_cmd_Bytes k)

/- dormouse/reply.Parse: function 15 -/
noncomputable def p_reply_Parse.j1 (k : Nat) (x229 : Bool) (x230 : Int × List UInt8) (x231 : Int × List UInt8) : Option ((Int × List UInt8) × Int) :=
  bif x229 then some (((0 : Int), []), (6 : Int)) else some ((Prod.fst x231, Prod.snd x231), (0 : Int))
noncomputable def p_reply_Parse.j0 (k : Nat) (x223 : List UInt8) (x224 : List UInt8) (x225 : Int × List UInt8) (x226 : Int × List UInt8) : Option ((Int × List UInt8) × Int) :=
  Option.bind (p_cmd_Bytes k x224) fun t227 => Option.bind (p_reply_Text k (Prod.fst x226, Prod.fst t227)) fun t228 => joinC (fun (y : Bool × (Int × List UInt8) × Int × List UInt8) => p_reply_Parse.j1 k y.1 y.2.1 y.2.2) fun (j232 : Bool × (Int × List UInt8) × Int × List UInt8 → Option ((Int × List UInt8) × Int)) => bif (Prod.snd t228 != (0 : Int)) then j232 (Bool.true, (Prod.fst x225, Prod.snd x225), Prod.fst x226, Prod.fst t227) else j232 (!Prod.fst t228 == x223, (Prod.fst x225, Prod.snd x225), Prod.fst x226, Prod.fst t227)
noncomputable def p_reply_Parse.j3 (k : Nat) (rec221 : List UInt8 × List UInt8 × List UInt8 × Int × (Int × List UInt8) × Int × List UInt8 → Option ((Int × List UInt8) × Int)) (x213 : List UInt8) (x214 : List UInt8) (x215 : List UInt8) (x216 : Int) (x217 : Int × List UInt8) (x218 : Int × List UInt8) : Option ((Int × List UInt8) × Int) :=
  rec221 (x213, x214, x215, IntKind.wrap IntKind.i64 (x216 + (1 : Int)), (Prod.fst x217, Prod.snd x217), Prod.fst x218, Prod.snd x218)
noncomputable def p_reply_Parse.b2 (k : Nat) (j234 : List UInt8 × List UInt8 × (Int × List UInt8) × Int × List UInt8 → Option ((Int × List UInt8) × Int)) (rec221 : List UInt8 × List UInt8 × List UInt8 × Int × (Int × List UInt8) × Int × List UInt8 → Option ((Int × List UInt8) × Int)) (x206 : List UInt8) (x207 : List UInt8) (x208 : List UInt8) (x209 : Int) (x210 : Int × List UInt8) (x211 : Int × List UInt8) : Option ((Int × List UInt8) × Int) :=
  bif (decide (x209 ≤ (18 : Int))) then joinC (fun (y : List UInt8 × List UInt8 × List UInt8 × Int × (Int × List UInt8) × Int × List UInt8) => p_reply_Parse.j3 k rec221 y.1 y.2.1 y.2.2.1 y.2.2.2.1 y.2.2.2.2.1 y.2.2.2.2.2) fun (j219 : List UInt8 × List UInt8 × List UInt8 × Int × (Int × List UInt8) × Int × List UInt8 → Option ((Int × List UInt8) × Int)) => Option.bind (p_reply_number x209) fun t212 => bif (t212 == x207) then j219 (x206, x207, x208, x209, (Prod.fst x210, Prod.snd x210), x209, Prod.snd x211) else j219 (x206, x207, x208, x209, (Prod.fst x210, Prod.snd x210), Prod.fst x211, Prod.snd x211) else j234 (x206, x208, (Prod.fst x210, Prod.snd x210), Prod.fst x211, Prod.snd x211)
noncomputable def p_reply_Parse (k : Nat) (x204 : List UInt8) : Option ((Int × List UInt8) × Int) :=
  Option.bind (p_strings_Cut x204 [(32 : UInt8)]) fun t205 => joinC (fun (y : List UInt8 × List UInt8 × (Int × List UInt8) × Int × List UInt8) => p_reply_Parse.j0 k y.1 y.2.1 y.2.2.1 y.2.2.2) fun (j234 : List UInt8 × List UInt8 × (Int × List UInt8) × Int × List UInt8 → Option ((Int × List UInt8) × Int)) => loopC (fun (r : List UInt8 × List UInt8 × List UInt8 × Int × (Int × List UInt8) × Int × List UInt8 → Option ((Int × List UInt8) × Int)) y => p_reply_Parse.b2 k j234 r y.1 y.2.1 y.2.2.1 y.2.2.2.1 y.2.2.2.2.1 y.2.2.2.2.2) k (x204, Prod.fst t205, Prod.fst (Prod.snd t205), (0 : Int), ((0 : Int), []), (-1 : Int), [])
noncomputable def e_reply_Parse (k : Nat) : Entry := ⟨Ds.mk [Vd.one (Ld.im T.str)] [], Ds.mk [Vd.st (T.pair (T.int IntKind.i64) T.str), Vd.one (Ld.im (T.int IntKind.i64))] [], fun x => p_reply_Parse k x⟩
noncomputable def c_reply_Parse (k : Nat) : Cx := ⟨Tryd.prog, [(35, e_reply_number), (11, e_reply_Text k), (38, e_strings_Cut), (29, e_cmd_Bytes k)], [(5, Sd.mk [0, 2, 4, 5, 7, 8] (Ds.mk [Vd.one (Ld.im T.str), Vd.one (Ld.ptr (0) (0)), Vd.one (Ld.im T.str), Vd.one (Ld.im T.str), Vd.one (Ld.ptr (1) (0)), Vd.one (Ld.im (T.int IntKind.i64))] [Od.blkT (24) (T.pair (T.int IntKind.i64) T.str), Od.blkT (24) (T.pair (T.int IntKind.i64) T.str)])), (8, Sd.mk [0, 2, 5, 7] (Ds.mk [Vd.one (Ld.im T.str), Vd.one (Ld.ptr (0) (0)), Vd.one (Ld.im T.str), Vd.one (Ld.ptr (1) (0))] [Od.blkT (24) (T.pair (T.int IntKind.i64) T.str), Od.blkT (24) (T.pair (T.int IntKind.i64) T.str)]))], [(10, Sd.mk [2, 7, 45] (Ds.mk [Vd.one (Ld.ptr (0) (0)), Vd.one (Ld.ptr (1) (0)), Vd.one (Ld.im T.bool)] [Od.blkT (24) (T.pair (T.int IntKind.i64) T.str), Od.blkT (24) (T.pair (T.int IntKind.i64) T.str)]))], [(4, Sd.mk [0, 2, 4, 5, 7, 8] (Ds.mk [Vd.one (Ld.im T.str), Vd.one (Ld.ptr (0) (0)), Vd.one (Ld.im T.str), Vd.one (Ld.im T.str), Vd.one (Ld.ptr (1) (0)), Vd.one (Ld.im (T.int IntKind.i64))] [Od.blkT (24) (T.pair (T.int IntKind.i64) T.str), Od.blkT (24) (T.pair (T.int IntKind.i64) T.str)]))], [], 0, 48, [(76, 0), (83, 1)], fun _ _ _ => none⟩
theorem q_reply_Parse (k : Nat) (x : HL (e_reply_Parse k).pre.ts) : runF (c_reply_Parse k) k Tryd.f15 (e_reply_Parse k).pre (e_reply_Parse k).post x = (e_reply_Parse k).fn x := by kernel_rfl
theorem s_reply_Parse (k : Nat) : Entry.Sound Tryd.prog 15 (e_reply_Parse k) := runF_sound (X := c_reply_Parse k) (pre := (e_reply_Parse k).pre) (post := (e_reply_Parse k).post) (q := (e_reply_Parse k).fn) ⟨(dOk_cons (s_reply_number) (dOk_cons (s_reply_Text k) (dOk_cons (s_strings_Cut) (dOk_cons (s_cmd_Bytes k) dOk_nil)))), x_ext, x_mo⟩ Tryd.func15 (q_reply_Parse k)

/- strings.Index: function 69 -/
noncomputable def p_strings_Index (x270 : List UInt8) (x271 : List UInt8) : Option Int :=
  Option.bind (p_stringslite_Index x270 x271) fun t272 => some t272
noncomputable def e_strings_Index : Entry := ⟨Ds.mk [Vd.one (Ld.im T.str), Vd.one (Ld.im T.str)] [], Ds.mk [Vd.one (Ld.im (T.int IntKind.i64))] [], fun x => p_strings_Index x.1 x.2⟩
noncomputable def c_strings_Index : Cx := ⟨Tryd.prog, [(66, e_stringslite_Index)], [], [], [], [], 0, 8, [(76, 0), (83, 1)], fun _ _ _ => none⟩
theorem q_strings_Index (x : HL (e_strings_Index).pre.ts) : runF (c_strings_Index) 0 Tryd.f69 (e_strings_Index).pre (e_strings_Index).post x = (e_strings_Index).fn x := by kernel_rfl
theorem s_strings_Index : Entry.Sound Tryd.prog 69 (e_strings_Index) := runF_sound (X := c_strings_Index) (pre := (e_strings_Index).pre) (post := (e_strings_Index).post) (q := (e_strings_Index).fn) ⟨(dOk_cons (s_stringslite_Index) dOk_nil), x_ext, x_mo⟩ Tryd.func69 (q_strings_Index)

/- strings.Count: function 68 -/
noncomputable def p_strings_Count.b0 (k : Nat) (rec282 : List UInt8 × List UInt8 × Int → Option Int) (x277 : List UInt8) (x278 : List UInt8) (x279 : Int) : Option Int :=
  Option.bind (p_strings_Index x277 x278) fun t280 => bif (t280 == (-1 : Int)) then some x279 else need ((0 : Int) ≤ IntKind.wrap IntKind.i64 (t280 + (↑(List.length x278) : Int)) ∧ IntKind.wrap IntKind.i64 (t280 + (↑(List.length x278) : Int)) ≤ (↑(List.length x277) : Int) ∧ (↑(List.length x277) : Int) ≤ (↑(List.length x277) : Int)) (rec282 (sub_ x277 (IntKind.wrap IntKind.i64 (t280 + (↑(List.length x278) : Int))) (↑(List.length x277) : Int), x278, IntKind.wrap IntKind.i64 (x279 + (1 : Int))))
noncomputable def p_strings_Count (k : Nat) (x274 : List UInt8) (x275 : List UInt8) : Option Int :=
  bif ((↑(List.length x275) : Int) == (0 : Int)) then none else bif ((↑(List.length x275) : Int) == (1 : Int)) then need ((0 : Int) ≤ (0 : Int) ∧ (0 : Int) < (↑(List.length x275) : Int)) (some (countByteOf x274 (bat x275 (0 : Int)))) else loopC (fun (r : List UInt8 × List UInt8 × Int → Option Int) y => p_strings_Count.b0 k r y.1 y.2.1 y.2.2) k (x274, x275, (0 : Int))
noncomputable def e_strings_Count (k : Nat) : Entry := ⟨Ds.mk [Vd.one (Ld.im T.str), Vd.one (Ld.im T.str)] [], Ds.mk [Vd.one (Ld.im (T.int IntKind.i64))] [], fun x => p_strings_Count k x.1 x.2⟩
noncomputable def c_strings_Count (k : Nat) : Cx := ⟨Tryd.prog, [(69, e_strings_Index)], [], [], [(6, Sd.mk [0, 1, 5] (Ds.mk [Vd.one (Ld.im T.str), Vd.one (Ld.im T.str), Vd.one (Ld.im (T.int IntKind.i64))] []))], [], 0, 34, [(76, 0), (83, 1)], fun _ _ _ => none⟩
theorem q_strings_Count (k : Nat) (x : HL (e_strings_Count k).pre.ts) : runF (c_strings_Count k) k Tryd.f68 (e_strings_Count k).pre (e_strings_Count k).post x = (e_strings_Count k).fn x := by kernel_rfl
theorem s_strings_Count (k : Nat) : Entry.Sound Tryd.prog 68 (e_strings_Count k) := runF_sound (X := c_strings_Count k) (pre := (e_strings_Count k).pre) (post := (e_strings_Count k).post) (q := (e_strings_Count k).fn) ⟨(dOk_cons (s_strings_Index) dOk_nil), x_ext, x_mo⟩ Tryd.func68 (q_strings_Count k)

/- strings.genSplit: function 56 -/
noncomputable def p_strings_genSplit.j1 (k : Nat) (x307 : List UInt8) (x308 : Int) (x309 : List (List UInt8)) : Option (List (List UInt8)) :=
  need ((0 : Int) ≤ x308 ∧ x308 < (↑(List.length x309) : Int)) (need ((0 : Int) ≤ (0 : Int) ∧ (0 : Int) ≤ IntKind.wrap IntKind.i64 (x308 + (1 : Int)) ∧ IntKind.wrap IntKind.i64 (x308 + (1 : Int)) ≤ (↑(List.length (lset x309 x308 x307)) : Int)) (some (List.take (Int.toNat (IntKind.wrap IntKind.i64 (x308 + (1 : Int)))) (lset x309 x308 x307))))
noncomputable def p_strings_genSplit.b2 (k : Nat) (j312 : List UInt8 × Int × List (List UInt8) → Option (List (List UInt8))) (rec305 : List UInt8 × List UInt8 × Int × Int × Int × List (List UInt8) → Option (List (List UInt8))) (x295 : List UInt8) (x296 : List UInt8) (x297 : Int) (x298 : Int) (x299 : Int) (x300 : List (List UInt8)) : Option (List (List UInt8)) :=
  bif (decide (x299 < x298)) then Option.bind (p_strings_Index x295 x296) fun t301 => bif (decide (t301 < (0 : Int))) then j312 (x295, x299, x300) else need ((0 : Int) ≤ (0 : Int) ∧ (0 : Int) ≤ IntKind.wrap IntKind.i64 (t301 + x297) ∧ IntKind.wrap IntKind.i64 (t301 + x297) ≤ (↑(List.length x295) : Int)) (need ((0 : Int) ≤ x299 ∧ x299 < (↑(List.length x300) : Int)) (need ((0 : Int) ≤ IntKind.wrap IntKind.i64 (t301 + (↑(List.length x296) : Int)) ∧ IntKind.wrap IntKind.i64 (t301 + (↑(List.length x296) : Int)) ≤ (↑(List.length x295) : Int) ∧ (↑(List.length x295) : Int) ≤ (↑(List.length x295) : Int)) (rec305 (sub_ x295 (IntKind.wrap IntKind.i64 (t301 + (↑(List.length x296) : Int))) (↑(List.length x295) : Int), x296, x297, x298, IntKind.wrap IntKind.i64 (x299 + (1 : Int)), lset x300 x299 (sub_ x295 (0 : Int) (IntKind.wrap IntKind.i64 (t301 + x297))))))) else j312 (x295, x299, x300)
noncomputable def p_strings_genSplit.j0 (k : Nat) (x290 : List UInt8) (x291 : List UInt8) (x292 : Int) (x293 : Int) : Option (List (List UInt8)) :=
  need (Min.min x293 (IntKind.wrap IntKind.i64 ((↑(List.length x290) : Int) + (1 : Int))) = Min.min x293 (IntKind.wrap IntKind.i64 ((↑(List.length x290) : Int) + (1 : Int))) ∧ (0 : Int) ≤ Min.min x293 (IntKind.wrap IntKind.i64 ((↑(List.length x290) : Int) + (1 : Int))) ∧ Min.min x293 (IntKind.wrap IntKind.i64 ((↑(List.length x290) : Int) + (1 : Int))) * (↑(Go.TypeInfo.bytes (Go.Tables.types (Go.Program.toTables Go.Proofs.Tryd.prog))[(9 : Nat)]) : Int) ≤ (281474976710656 : Int)) (joinC (fun (y : List UInt8 × Int × List (List UInt8)) => p_strings_genSplit.j1 k y.1 y.2.1 y.2.2) fun (j312 : List UInt8 × Int × List (List UInt8) → Option (List (List UInt8))) => loopC (fun (r : List UInt8 × List UInt8 × Int × Int × Int × List (List UInt8) → Option (List (List UInt8))) y => p_strings_genSplit.b2 k j312 r y.1 y.2.1 y.2.2.1 y.2.2.2.1 y.2.2.2.2.1 y.2.2.2.2.2) k (x290, x291, x292, IntKind.wrap IntKind.i64 (Min.min x293 (IntKind.wrap IntKind.i64 ((↑(List.length x290) : Int) + (1 : Int))) - (1 : Int)), (0 : Int), List.replicate (Int.toNat (Min.min x293 (IntKind.wrap IntKind.i64 ((↑(List.length x290) : Int) + (1 : Int))))) (dflt T.str)))
noncomputable def p_strings_genSplit (k : Nat) (x285 : List UInt8) (x286 : List UInt8) (x287 : Int) (x288 : Int) : Option (List (List UInt8)) :=
  bif (x288 == (0 : Int)) then some [] else bif (x286 == []) then none else joinC (fun (y : List UInt8 × List UInt8 × Int × Int) => p_strings_genSplit.j0 k y.1 y.2.1 y.2.2.1 y.2.2.2) fun (j314 : List UInt8 × List UInt8 × Int × Int → Option (List (List UInt8))) => bif (decide (x288 < (0 : Int))) then Option.bind (p_strings_Count k x285 x286) fun t289 => j314 (x285, x286, x287, IntKind.wrap IntKind.i64 (t289 + (1 : Int))) else j314 (x285, x286, x287, x288)
noncomputable def e_strings_genSplit (k : Nat) : Entry := ⟨Ds.mk [Vd.one (Ld.im T.str), Vd.one (Ld.im T.str), Vd.one (Ld.im (T.int IntKind.i64)), Vd.one (Ld.im (T.int IntKind.i64))] [], Ds.mk [Vd.one (Ld.own (0))] [Od.arr (9) T.str], fun x => p_strings_genSplit k x.1 x.2.1 x.2.2.1 x.2.2.2⟩
noncomputable def c_strings_genSplit (k : Nat) : Cx := ⟨Tryd.prog, [(69, e_strings_Index), (68, e_strings_Count k)], [(7, Sd.mk [0, 1, 2, 3] (Ds.mk [Vd.one (Ld.im T.str), Vd.one (Ld.im T.str), Vd.one (Ld.im (T.int IntKind.i64)), Vd.one (Ld.im (T.int IntKind.i64))] [])), (17, Sd.mk [0, 9, 10] (Ds.mk [Vd.one (Ld.im T.str), Vd.one (Ld.own (0)), Vd.one (Ld.im (T.int IntKind.i64))] [Od.arr (9) T.str]))], [], [(11, Sd.mk [0, 1, 2, 3, 9, 10] (Ds.mk [Vd.one (Ld.im T.str), Vd.one (Ld.im T.str), Vd.one (Ld.im (T.int IntKind.i64)), Vd.one (Ld.im (T.int IntKind.i64)), Vd.one (Ld.own (0)), Vd.one (Ld.im (T.int IntKind.i64))] [Od.arr (9) T.str]))], [], 0, 66, [(76, 0), (83, 1)], fun _ _ _ => none⟩
theorem q_strings_genSplit (k : Nat) (x : HL (e_strings_genSplit k).pre.ts) : runF (c_strings_genSplit k) k Tryd.f56 (e_strings_genSplit k).pre (e_strings_genSplit k).post x = (e_strings_genSplit k).fn x := by kernel_rfl
theorem s_strings_genSplit (k : Nat) : Entry.Sound Tryd.prog 56 (e_strings_genSplit k) := runF_sound (X := c_strings_genSplit k) (pre := (e_strings_genSplit k).pre) (post := (e_strings_genSplit k).post) (q := (e_strings_genSplit k).fn) ⟨(dOk_cons (s_strings_Index) (dOk_cons (s_strings_Count k) dOk_nil)), x_ext, x_mo⟩ Tryd.func56 (q_strings_genSplit k)

/- strings.Split: function 39 -/
noncomputable def p_strings_Split (k : Nat) (x317 : List UInt8) (x318 : List UInt8) : Option (List (List UInt8)) :=
  Option.bind (p_strings_genSplit k x317 x318 (0 : Int) (-1 : Int)) fun t319 => some t319
noncomputable def e_strings_Split (k : Nat) : Entry := ⟨Ds.mk [Vd.one (Ld.im T.str), Vd.one (Ld.im T.str)] [], Ds.mk [Vd.one (Ld.own (0))] [Od.arr (9) T.str], fun x => p_strings_Split k x.1 x.2⟩
noncomputable def c_strings_Split (k : Nat) : Cx := ⟨Tryd.prog, [(56, e_strings_genSplit k)], [], [], [], [], 0, 8, [(76, 0), (83, 1)], fun _ _ _ => none⟩
theorem q_strings_Split (k : Nat) (x : HL (e_strings_Split k).pre.ts) : runF (c_strings_Split k) k Tryd.f39 (e_strings_Split k).pre (e_strings_Split k).post x = (e_strings_Split k).fn x := by kernel_rfl
theorem s_strings_Split (k : Nat) : Entry.Sound Tryd.prog 39 (e_strings_Split k) := runF_sound (X := c_strings_Split k) (pre := (e_strings_Split k).pre) (post := (e_strings_Split k).post) (q := (e_strings_Split k).fn) ⟨(dOk_cons (s_strings_genSplit k) dOk_nil), x_ext, x_mo⟩ Tryd.func39 (q_strings_Split k)

/- dormouse/reply.Read: function 16 -/
noncomputable def p_reply_Read.j1 (k : Nat) (x335 : List (Int × List UInt8)) : Option (Int × Int × List (Int × List UInt8)) :=
  some ((0 : Int), (0 : Int), x335)
noncomputable def p_reply_Read.b2 (k : Nat) (j336 : List (Int × List UInt8) → Option (Int × Int × List (Int × List UInt8))) (rec333 : Int × Int × List (Int × List UInt8) × List (List UInt8) → Option (Int × Int × List (Int × List UInt8))) (x326 : Int) (x327 : Int) (x328 : List (Int × List UInt8)) (x329 : List (List UInt8)) : Option (Int × Int × List (Int × List UInt8)) :=
  bif (decide (x327 < x326)) then need ((0 : Int) ≤ x327 ∧ x327 < (↑(List.length x329) : Int)) (Option.bind (p_reply_Parse k (at_ (dflt T.str) x329 x327)) fun t331 => bif (Prod.snd t331 != (0 : Int)) then some (IntKind.wrap IntKind.i64 (x327 + (1 : Int)), Prod.snd t331, []) else need ((List.length x328 + List.length [(Prod.fst (Prod.fst t331), Prod.snd (Prod.fst t331))]) * Go.TypeInfo.bytes (Go.Tables.types (Go.Program.toTables Go.Proofs.Tryd.prog))[(24 : Nat)] ≤ (140737488355328 : Nat)) (rec333 (x326, IntKind.wrap IntKind.i64 (x327 + (1 : Int)), x328 ++ [(Prod.fst (Prod.fst t331), Prod.snd (Prod.fst t331))], x329))) else j336 x328
noncomputable def p_reply_Read.j0 (k : Nat) (x325 : List (List UInt8)) : Option (Int × Int × List (Int × List UInt8)) :=
  joinC (p_reply_Read.j1 k) fun (j336 : List (Int × List UInt8) → Option (Int × Int × List (Int × List UInt8))) => loopC (fun (r : Int × Int × List (Int × List UInt8) × List (List UInt8) → Option (Int × Int × List (Int × List UInt8))) y => p_reply_Read.b2 k j336 r y.1 y.2.1 y.2.2.1 y.2.2.2) k ((↑(List.length x325) : Int), (0 : Int), [], x325)
noncomputable def p_reply_Read (k : Nat) (x321 : List UInt8) : Option (Int × Int × List (Int × List UInt8)) :=
  Option.bind (p_strings_Split k x321 [(10 : UInt8)]) fun t322 => joinC (p_reply_Read.j0 k) fun (j338 : List (List UInt8) → Option (Int × Int × List (Int × List UInt8))) => need ((0 : Int) ≤ IntKind.wrap IntKind.i64 ((↑(List.length t322) : Int) - (1 : Int)) ∧ IntKind.wrap IntKind.i64 ((↑(List.length t322) : Int) - (1 : Int)) < (↑(List.length t322) : Int)) (bif (at_ (dflt T.str) t322 (IntKind.wrap IntKind.i64 ((↑(List.length t322) : Int) - (1 : Int))) == []) then need ((0 : Int) ≤ (0 : Int) ∧ (0 : Int) ≤ IntKind.wrap IntKind.i64 ((↑(List.length t322) : Int) - (1 : Int)) ∧ IntKind.wrap IntKind.i64 ((↑(List.length t322) : Int) - (1 : Int)) ≤ (↑(List.length t322) : Int)) (j338 (List.take (Int.toNat (IntKind.wrap IntKind.i64 ((↑(List.length t322) : Int) - (1 : Int)))) t322)) else j338 t322)
noncomputable def e_reply_Read (k : Nat) : Entry := ⟨Ds.mk [Vd.one (Ld.im T.str)] [], Ds.mk [Vd.one (Ld.own (0)), Vd.one (Ld.im (T.int IntKind.i64)), Vd.one (Ld.im (T.int IntKind.i64))] [Od.arr (24) (T.pair (T.int IntKind.i64) T.str)], fun x => p_reply_Read k x⟩
noncomputable def c_reply_Read (k : Nat) : Cx := ⟨Tryd.prog, [(15, e_reply_Parse k), (39, e_strings_Split k)], [(4, Sd.mk [5] (Ds.mk [Vd.one (Ld.own (0))] [Od.arr (9) T.str])), (13, Sd.mk [6] (Ds.mk [Vd.one (Ld.own (0))] [Od.arr (24) (T.pair (T.int IntKind.i64) T.str)]))], [], [(6, Sd.mk [6, 25, 26, 27] (Ds.mk [Vd.one (Ld.own (0)), Vd.one (Ld.own (1)), Vd.one (Ld.im (T.int IntKind.i64)), Vd.one (Ld.im (T.int IntKind.i64))] [Od.arr (24) (T.pair (T.int IntKind.i64) T.str), Od.arr (9) T.str]))], [], 0, 48, [(76, 0), (83, 1)], fun _ _ _ => none⟩
theorem q_reply_Read (k : Nat) (x : HL (e_reply_Read k).pre.ts) : runF (c_reply_Read k) k Tryd.f16 (e_reply_Read k).pre (e_reply_Read k).post x = (e_reply_Read k).fn x := by kernel_rfl
theorem s_reply_Read (k : Nat) : Entry.Sound Tryd.prog 16 (e_reply_Read k) := runF_sound (X := c_reply_Read k) (pre := (e_reply_Read k).pre) (post := (e_reply_Read k).post) (q := (e_reply_Read k).fn) ⟨(dOk_cons (s_reply_Parse k) (dOk_cons (s_strings_Split k) dOk_nil)), x_ext, x_mo⟩ Tryd.func16 (q_reply_Read k)

/- dormouse/reply.Counts$1: function 41 -/
noncomputable def p_reply_Counts_c1 (x380 : Int) (x381 : Vector Int (19)) : Option (Vector Int (19)) :=
  need ((0 : Int) ≤ x380 ∧ x380 < (↑(19 : Nat) : Int)) (need ((0 : Int) ≤ x380 ∧ x380 < (↑(19 : Nat) : Int)) (some (vset x381 x380 (IntKind.wrap IntKind.i64 (at_ (dflt (T.int IntKind.i64)) (Vector.toList x381) x380 + (1 : Int))))))
noncomputable def e_reply_Counts_c1 : Entry := ⟨Ds.mk [Vd.one (Ld.im (T.int IntKind.i64)), Vd.one (Ld.ptr (0) (0))] [Od.blkT (38) (T.arr (19) (T.int IntKind.i64))], Ds.mk [] [Od.blkT (38) (T.arr (19) (T.int IntKind.i64))], fun x => p_reply_Counts_c1 x.1 x.2⟩
noncomputable def c_reply_Counts_c1 : Cx := ⟨Tryd.prog, [], [], [], [], [], 1, 8, [(76, 0), (83, 1)], fun _ _ _ => none⟩
theorem q_reply_Counts_c1 (x : HL (e_reply_Counts_c1).pre.ts) : runF (c_reply_Counts_c1) 0 Tryd.f41 (e_reply_Counts_c1).pre (e_reply_Counts_c1).post x = (e_reply_Counts_c1).fn x := by kernel_rfl
theorem s_reply_Counts_c1 : Entry.Sound Tryd.prog 41 (e_reply_Counts_c1) := runF_sound (X := c_reply_Counts_c1) (pre := (e_reply_Counts_c1).pre) (post := (e_reply_Counts_c1).post) (q := (e_reply_Counts_c1).fn) ⟨dOk_nil, x_ext, x_mo⟩ Tryd.func41 (q_reply_Counts_c1)

/- dormouse/reply.Counts: function 18 -/
noncomputable def p_reply_Counts.j0 (k : Nat) (x412 : Vector Int (19)) (x413 : Vector Int (19)) : Option (Vector Int (19)) :=
  some x413
noncomputable def p_reply_Counts.j2 (k : Nat) (rec410 : List (Int × List UInt8) × Int × Int × Vector Int (19) × Vector Int (19) → Option (Vector Int (19))) (x401 : List (Int × List UInt8)) (x402 : Int) (x403 : Int) (x404 : Vector Int (19)) (x405 : Vector Int (19)) (x406 : Int × List UInt8) : Option (Vector Int (19)) :=
  Option.bind (p_reply_Counts_c1 (Prod.fst x406) x405) fun t407 => rec410 (x401, x402, IntKind.wrap IntKind.i64 (x403 + (1 : Int)), x404, t407)
noncomputable def p_reply_Counts.j3 (k : Nat) (j408 : List (Int × List UInt8) × Int × Int × Vector Int (19) × Vector Int (19) × Int × List UInt8 → Option (Vector Int (19))) (x392 : List (Int × List UInt8)) (x393 : Int) (x394 : Int) (x395 : Bool) (x396 : Vector Int (19)) (x397 : Vector Int (19)) (x398 : Int × List UInt8) : Option (Vector Int (19)) :=
  bif x395 then j408 (x392, x393, x394, x396, x397, (0 : Int), Prod.snd x398) else j408 (x392, x393, x394, x396, x397, Prod.fst x398, Prod.snd x398)
noncomputable def p_reply_Counts.b1 (k : Nat) (j414 : Vector Int (19) × Vector Int (19) → Option (Vector Int (19))) (rec410 : List (Int × List UInt8) × Int × Int × Vector Int (19) × Vector Int (19) → Option (Vector Int (19))) (x386 : List (Int × List UInt8)) (x387 : Int) (x388 : Int) (x389 : Vector Int (19)) (x390 : Vector Int (19)) : Option (Vector Int (19)) :=
  bif (decide (x388 < x387)) then need ((0 : Int) ≤ x388 ∧ x388 < (↑(List.length x386) : Int)) (joinC (fun (y : List (Int × List UInt8) × Int × Int × Vector Int (19) × Vector Int (19) × Int × List UInt8) => p_reply_Counts.j2 k rec410 y.1 y.2.1 y.2.2.1 y.2.2.2.1 y.2.2.2.2.1 y.2.2.2.2.2) fun (j408 : List (Int × List UInt8) × Int × Int × Vector Int (19) × Vector Int (19) × Int × List UInt8 → Option (Vector Int (19))) => joinC (fun (y : List (Int × List UInt8) × Int × Int × Bool × Vector Int (19) × Vector Int (19) × Int × List UInt8) => p_reply_Counts.j3 k j408 y.1 y.2.1 y.2.2.1 y.2.2.2.1 y.2.2.2.2.1 y.2.2.2.2.2.1 y.2.2.2.2.2.2) fun (j399 : List (Int × List UInt8) × Int × Int × Bool × Vector Int (19) × Vector Int (19) × Int × List UInt8 → Option (Vector Int (19))) => bif (decide (Prod.fst (at_ (dflt (T.pair (T.int IntKind.i64) T.str)) x386 x388) < (0 : Int))) then j399 (x386, x387, x388, Bool.true, x389, x390, Prod.fst (at_ (dflt (T.pair (T.int IntKind.i64) T.str)) x386 x388), Prod.snd (at_ (dflt (T.pair (T.int IntKind.i64) T.str)) x386 x388)) else j399 (x386, x387, x388, decide (Prod.fst (at_ (dflt (T.pair (T.int IntKind.i64) T.str)) x386 x388) > (18 : Int)), x389, x390, Prod.fst (at_ (dflt (T.pair (T.int IntKind.i64) T.str)) x386 x388), Prod.snd (at_ (dflt (T.pair (T.int IntKind.i64) T.str)) x386 x388))) else j414 (x389, x390)
noncomputable def p_reply_Counts (k : Nat) (x385 : List (Int × List UInt8)) : Option (Vector Int (19)) :=
  joinC (fun (y : Vector Int (19) × Vector Int (19)) => p_reply_Counts.j0 k y.1 y.2) fun (j414 : Vector Int (19) × Vector Int (19) → Option (Vector Int (19))) => loopC (fun (r : List (Int × List UInt8) × Int × Int × Vector Int (19) × Vector Int (19) → Option (Vector Int (19))) y => p_reply_Counts.b1 k j414 r y.1 y.2.1 y.2.2.1 y.2.2.2.1 y.2.2.2.2) k (x385, (↑(List.length x385) : Int), (0 : Int), Vector.replicate (19 : Nat) (dflt (T.int IntKind.i64)), Vector.replicate (19 : Nat) (dflt (T.int IntKind.i64)))
noncomputable def e_reply_Counts (k : Nat) : Entry := ⟨Ds.mk [Vd.one (Ld.im (T.sl (T.pair (T.int IntKind.i64) T.str)))] [], Ds.mk [Vd.st (T.arr (19) (T.int IntKind.i64))] [], fun x => p_reply_Counts k x⟩
noncomputable def c_reply_Counts (k : Nat) : Cx := ⟨Tryd.prog, [(41, e_reply_Counts_c1)], [(8, Sd.mk [2, 3, 4, 6, 8, 9, 10] (Ds.mk [Vd.one (Ld.ptr (0) (0)), Vd.one (Ld.ptr (1) (0)), Vd.one (Ld.fn (41) [1]), Vd.one (Ld.ptr (2) (0)), Vd.one (Ld.im (T.sl (T.pair (T.int IntKind.i64) T.str))), Vd.one (Ld.im (T.int IntKind.i64)), Vd.one (Ld.im (T.int IntKind.i64))] [Od.blkT (38) (T.arr (19) (T.int IntKind.i64)), Od.blkT (38) (T.arr (19) (T.int IntKind.i64)), Od.blkT (24) (T.pair (T.int IntKind.i64) T.str)])), (10, Sd.mk [2, 3] (Ds.mk [Vd.one (Ld.ptr (0) (0)), Vd.one (Ld.ptr (1) (0))] [Od.blkT (38) (T.arr (19) (T.int IntKind.i64)), Od.blkT (38) (T.arr (19) (T.int IntKind.i64))]))], [(6, Sd.mk [2, 3, 4, 6, 8, 9, 10, 21] (Ds.mk [Vd.one (Ld.ptr (0) (0)), Vd.one (Ld.ptr (1) (0)), Vd.one (Ld.fn (41) [1]), Vd.one (Ld.ptr (2) (0)), Vd.one (Ld.im (T.sl (T.pair (T.int IntKind.i64) T.str))), Vd.one (Ld.im (T.int IntKind.i64)), Vd.one (Ld.im (T.int IntKind.i64)), Vd.one (Ld.im T.bool)] [Od.blkT (38) (T.arr (19) (T.int IntKind.i64)), Od.blkT (38) (T.arr (19) (T.int IntKind.i64)), Od.blkT (24) (T.pair (T.int IntKind.i64) T.str)]))], [(4, Sd.mk [2, 3, 4, 8, 9, 10] (Ds.mk [Vd.one (Ld.ptr (0) (0)), Vd.one (Ld.ptr (1) (0)), Vd.one (Ld.fn (41) [1]), Vd.one (Ld.im (T.sl (T.pair (T.int IntKind.i64) T.str))), Vd.one (Ld.im (T.int IntKind.i64)), Vd.one (Ld.im (T.int IntKind.i64))] [Od.blkT (38) (T.arr (19) (T.int IntKind.i64)), Od.blkT (38) (T.arr (19) (T.int IntKind.i64))]))], [], 0, 29, [(76, 0), (83, 1)], fun _ _ _ => none⟩
theorem q_reply_Counts (k : Nat) (x : HL (e_reply_Counts k).pre.ts) : runF (c_reply_Counts k) k Tryd.f18 (e_reply_Counts k).pre (e_reply_Counts k).post x = (e_reply_Counts k).fn x := by kernel_rfl
theorem s_reply_Counts (k : Nat) : Entry.Sound Tryd.prog 18 (e_reply_Counts k) := runF_sound (X := c_reply_Counts k) (pre := (e_reply_Counts k).pre) (post := (e_reply_Counts k).post) (q := (e_reply_Counts k).fn) ⟨(dOk_cons (s_reply_Counts_c1) dOk_nil), x_ext, x_mo⟩ Tryd.func18 (q_reply_Counts k)

/- slices.Equal[[]dormouse/api.Reply,dormouse/api.Reply]: function 42 -/
noncomputable def p_slices_Equal_api_Reply_api_Reply.j0 (k : Nat) : Option Bool :=
  some Bool.true
noncomputable def p_slices_Equal_api_Reply_api_Reply.b1 (k : Nat) (j448 : Unit → Option Bool) (rec446 : List (Int × List UInt8) × List (Int × List UInt8) × Int × Int → Option Bool) (x440 : List (Int × List UInt8)) (x441 : List (Int × List UInt8)) (x442 : Int) (x443 : Int) : Option Bool :=
  bif (decide (x443 < x442)) then need ((0 : Int) ≤ x443 ∧ x443 < (↑(List.length x440) : Int)) (need ((0 : Int) ≤ x443 ∧ x443 < (↑(List.length x441) : Int)) (bif (!(Prod.fst (at_ (dflt (T.pair (T.int IntKind.i64) T.str)) x440 x443) == Prod.fst (at_ (dflt (T.pair (T.int IntKind.i64) T.str)) x441 x443) && (Prod.snd (at_ (dflt (T.pair (T.int IntKind.i64) T.str)) x440 x443) == Prod.snd (at_ (dflt (T.pair (T.int IntKind.i64) T.str)) x441 x443) && Bool.true))) then some Bool.false else rec446 (x440, x441, x442, IntKind.wrap IntKind.i64 (x443 + (1 : Int))))) else j448 ()
noncomputable def p_slices_Equal_api_Reply_api_Reply (k : Nat) (x438 : List (Int × List UInt8)) (x439 : List (Int × List UInt8)) : Option Bool :=
  bif ((↑(List.length x438) : Int) != (↑(List.length x439) : Int)) then some Bool.false else joinC (fun (y : Unit) => p_slices_Equal_api_Reply_api_Reply.j0 k) fun (j448 : Unit → Option Bool) => loopC (fun (r : List (Int × List UInt8) × List (Int × List UInt8) × Int × Int → Option Bool) y => p_slices_Equal_api_Reply_api_Reply.b1 k j448 r y.1 y.2.1 y.2.2.1 y.2.2.2) k (x438, x439, (↑(List.length x438) : Int), (0 : Int))
noncomputable def e_slices_Equal_api_Reply_api_Reply (k : Nat) : Entry := ⟨Ds.mk [Vd.one (Ld.im (T.sl (T.pair (T.int IntKind.i64) T.str))), Vd.one (Ld.im (T.sl (T.pair (T.int IntKind.i64) T.str)))] [], Ds.mk [Vd.one (Ld.im T.bool)] [], fun x => p_slices_Equal_api_Reply_api_Reply k x.1 x.2⟩
noncomputable def c_slices_Equal_api_Reply_api_Reply (k : Nat) : Cx := ⟨Tryd.prog, [], [(9, Sd.mk [] (Ds.mk [] []))], [], [(4, Sd.mk [0, 1, 12, 13] (Ds.mk [Vd.one (Ld.im (T.sl (T.pair (T.int IntKind.i64) T.str))), Vd.one (Ld.im (T.sl (T.pair (T.int IntKind.i64) T.str))), Vd.one (Ld.im (T.int IntKind.i64)), Vd.one (Ld.im (T.int IntKind.i64))] []))], [(6, ([(0, 2), (1, 2), (2, 2), (3, 1), (4, 2), (5, 2), (6, 2), (7, 1), (8, 2)], [], []))], 0, 26, [(76, 0), (83, 1)], fun _ _ _ => none⟩
theorem q_slices_Equal_api_Reply_api_Reply (k : Nat) (x : HL (e_slices_Equal_api_Reply_api_Reply k).pre.ts) : runF (c_slices_Equal_api_Reply_api_Reply k) k Tryd.f42 (e_slices_Equal_api_Reply_api_Reply k).pre (e_slices_Equal_api_Reply_api_Reply k).post x = (e_slices_Equal_api_Reply_api_Reply k).fn x := by kernel_rfl
theorem s_slices_Equal_api_Reply_api_Reply (k : Nat) : Entry.Sound Tryd.prog 42 (e_slices_Equal_api_Reply_api_Reply k) := runF_sound (X := c_slices_Equal_api_Reply_api_Reply k) (pre := (e_slices_Equal_api_Reply_api_Reply k).pre) (post := (e_slices_Equal_api_Reply_api_Reply k).post) (q := (e_slices_Equal_api_Reply_api_Reply k).fn) ⟨dOk_nil, x_ext, x_mo⟩ Tryd.func42 (q_slices_Equal_api_Reply_api_Reply k)

/- dormouse/reply.Same: function 19 -/
noncomputable def p_reply_Same (k : Nat) (x451 : List (Int × List UInt8)) (x452 : List (Int × List UInt8)) : Option Bool :=
  Option.bind (p_slices_Equal_api_Reply_api_Reply k x451 x452) fun t453 => some t453
noncomputable def e_reply_Same (k : Nat) : Entry := ⟨Ds.mk [Vd.one (Ld.im (T.sl (T.pair (T.int IntKind.i64) T.str))), Vd.one (Ld.im (T.sl (T.pair (T.int IntKind.i64) T.str)))] [], Ds.mk [Vd.one (Ld.im T.bool)] [], fun x => p_reply_Same k x.1 x.2⟩
noncomputable def c_reply_Same (k : Nat) : Cx := ⟨Tryd.prog, [(42, e_slices_Equal_api_Reply_api_Reply k)], [], [], [], [], 0, 8, [(76, 0), (83, 1)], fun _ _ _ => none⟩
theorem q_reply_Same (k : Nat) (x : HL (e_reply_Same k).pre.ts) : runF (c_reply_Same k) k Tryd.f19 (e_reply_Same k).pre (e_reply_Same k).post x = (e_reply_Same k).fn x := by kernel_rfl
theorem s_reply_Same (k : Nat) : Entry.Sound Tryd.prog 19 (e_reply_Same k) := runF_sound (X := c_reply_Same k) (pre := (e_reply_Same k).pre) (post := (e_reply_Same k).post) (q := (e_reply_Same k).fn) ⟨(dOk_cons (s_slices_Equal_api_Reply_api_Reply k) dOk_nil), x_ext, x_mo⟩ Tryd.func19 (q_reply_Same k)

/- dormouse/dormouselaw39.awake: function 10 -/
noncomputable def p_dormouselaw39_awake.j0 (k : Nat) (x460 : Bool) : Option Bool :=
  some x460
noncomputable def p_dormouselaw39_awake (k : Nat) : Option Bool :=
  Option.bind (p_reply_Text k ((0 : Int), [(97 : UInt8), (98 : UInt8)])) fun t455 => Option.bind (p_reply_Parse k [(49 : UInt8), (49 : UInt8)]) fun t456 => Option.bind (p_reply_Read k [(48 : UInt8), (32 : UInt8), (54 : UInt8), (49 : UInt8), (10 : UInt8), (55 : UInt8), (10 : UInt8)]) fun t457 => joinC (p_dormouselaw39_awake.j0 k) fun (j461 : Bool → Option Bool) => bif (Prod.fst t455 == [(48 : UInt8), (32 : UInt8), (54 : UInt8), (49 : UInt8), (54 : UInt8), (50 : UInt8)]) then bif (Prod.snd t455 == (0 : Int)) then bif (Prod.fst (Prod.fst t456) == (11 : Int) && (Prod.snd (Prod.fst t456) == [] && Bool.true)) then bif (Prod.snd t456 == (0 : Int)) then bif ((↑(List.length (Prod.snd (Prod.snd t457))) : Int) == (2 : Int)) then bif (Prod.fst t457 == (0 : Int)) then bif (Prod.fst (Prod.snd t457) == (0 : Int)) then Option.bind (p_reply_Counts k (Prod.snd (Prod.snd t457))) fun t458 => bif (at_ (dflt (T.int IntKind.i64)) (Vector.toList t458) (7 : Int) == (1 : Int)) then Option.bind (p_reply_Same k (Prod.snd (Prod.snd t457)) (Prod.snd (Prod.snd t457))) fun t459 => j461 t459 else j461 Bool.false else j461 Bool.false else j461 Bool.false else j461 Bool.false else j461 Bool.false else j461 Bool.false else j461 Bool.false else j461 Bool.false
noncomputable def e_dormouselaw39_awake (k : Nat) : Entry := ⟨Ds.mk [] [], Ds.mk [Vd.one (Ld.im T.bool)] [], fun x => p_dormouselaw39_awake k⟩
noncomputable def c_dormouselaw39_awake (k : Nat) : Cx := ⟨Tryd.prog, [(11, e_reply_Text k), (15, e_reply_Parse k), (16, e_reply_Read k), (18, e_reply_Counts k), (19, e_reply_Same k)], [], [(4, Sd.mk [0] (Ds.mk [Vd.one (Ld.im T.bool)] []))], [], [], 0, 61, [(76, 0), (83, 1)], fun _ _ _ => none⟩
theorem q_dormouselaw39_awake (k : Nat) (x : HL (e_dormouselaw39_awake k).pre.ts) : runF (c_dormouselaw39_awake k) k Tryd.f10 (e_dormouselaw39_awake k).pre (e_dormouselaw39_awake k).post x = (e_dormouselaw39_awake k).fn x := by kernel_rfl
theorem s_dormouselaw39_awake (k : Nat) : Entry.Sound Tryd.prog 10 (e_dormouselaw39_awake k) := runF_sound (X := c_dormouselaw39_awake k) (pre := (e_dormouselaw39_awake k).pre) (post := (e_dormouselaw39_awake k).post) (q := (e_dormouselaw39_awake k).fn) ⟨(dOk_cons (s_reply_Text k) (dOk_cons (s_reply_Parse k) (dOk_cons (s_reply_Read k) (dOk_cons (s_reply_Counts k) (dOk_cons (s_reply_Same k) dOk_nil))))), x_ext, x_mo⟩ Tryd.func10 (q_dormouselaw39_awake k)

/- dormouse/dormouseref39.May: function 12 -/
noncomputable def p_dormouseref39_May.j0 (x475 : Bool) : Option Bool :=
  some x475
noncomputable def p_dormouseref39_May (x474 : Int × List UInt8) : Option Bool :=
  joinC (p_dormouseref39_May.j0) fun (j476 : Bool → Option Bool) => bif (decide (Prod.fst x474 ≥ (0 : Int))) then bif (decide (Prod.fst x474 ≤ (18 : Int))) then bif (Prod.fst x474 == (0 : Int)) then j476 Bool.true else j476 (Prod.snd x474 == []) else j476 Bool.false else j476 Bool.false
noncomputable def e_dormouseref39_May : Entry := ⟨Ds.mk [Vd.st (T.pair (T.int IntKind.i64) T.str)] [], Ds.mk [Vd.one (Ld.im T.bool)] [], fun x => p_dormouseref39_May x⟩
noncomputable def c_dormouseref39_May : Cx := ⟨Tryd.prog, [], [], [(1, Sd.mk [2] (Ds.mk [Vd.one (Ld.im T.bool)] []))], [], [], 0, 21, [(76, 0), (83, 1)], fun _ _ _ => none⟩
theorem q_dormouseref39_May (x : HL (e_dormouseref39_May).pre.ts) : runF (c_dormouseref39_May) 0 Tryd.f12 (e_dormouseref39_May).pre (e_dormouseref39_May).post x = (e_dormouseref39_May).fn x := by kernel_rfl
theorem s_dormouseref39_May : Entry.Sound Tryd.prog 12 (e_dormouseref39_May) := runF_sound (X := c_dormouseref39_May) (pre := (e_dormouseref39_May).pre) (post := (e_dormouseref39_May).post) (q := (e_dormouseref39_May).fn) ⟨dOk_nil, x_ext, x_mo⟩ Tryd.func12 (q_dormouseref39_May)

noncomputable def er_dormouseref16_Digits (rf_dormouseref16_Digits : Int → Option (List UInt8)) : Entry := ⟨Ds.mk [Vd.one (Ld.im (T.int IntKind.u64))] [], Ds.mk [Vd.one (Ld.im T.str)] [], fun x => rf_dormouseref16_Digits x⟩

/- dormouse/dormouseref16.Digits: function 36 -/
noncomputable def p_dormouseref16_Digits.r (rf_dormouseref16_Digits : Int → Option (List UInt8)) (k : Nat) (x496 : Int) : Option (List UInt8) :=
  bif (decide (x496 < (10 : Int))) then need ((0 : Int) ≤ x496 ∧ x496 ≤ IntKind.wrap IntKind.u64 (x496 + (1 : Int)) ∧ IntKind.wrap IntKind.u64 (x496 + (1 : Int)) ≤ (↑(10) : Int)) (some (sub_ [(48 : UInt8), (49 : UInt8), (50 : UInt8), (51 : UInt8), (52 : UInt8), (53 : UInt8), (54 : UInt8), (55 : UInt8), (56 : UInt8), (57 : UInt8)] x496 (IntKind.wrap IntKind.u64 (x496 + (1 : Int))))) else Option.bind (rf_dormouseref16_Digits (IntKind.wrap IntKind.u64 (Int.tdiv x496 (10 : Int)))) fun t498 => Option.bind (rf_dormouseref16_Digits (Int.tmod x496 (10 : Int))) fun t499 => need (List.length t498 + List.length t499 ≤ (9223372036854775807 : Nat)) (some (t498 ++ t499))
noncomputable def p_dormouseref16_Digits (k : Nat) : Int → Option (List UInt8) :=
  Nat.rec (motive := fun _ => Int → Option (List UInt8)) (fun _ => none) (fun k rf => p_dormouseref16_Digits.r rf k) k
noncomputable def e_dormouseref16_Digits (k : Nat) : Entry := ⟨Ds.mk [Vd.one (Ld.im (T.int IntKind.u64))] [], Ds.mk [Vd.one (Ld.im T.str)] [], fun x => p_dormouseref16_Digits k x⟩
noncomputable def c_dormouseref16_Digits (rf_dormouseref16_Digits : Int → Option (List UInt8)) (k : Nat) : Cx := ⟨Tryd.prog, [(36, er_dormouseref16_Digits rf_dormouseref16_Digits)], [], [], [], [], 0, 16, [(76, 0), (83, 1)], fun _ _ _ => none⟩
theorem q_dormouseref16_Digits (rf_dormouseref16_Digits : Int → Option (List UInt8)) (k : Nat) (x : HL (e_dormouseref16_Digits k).pre.ts) : runF (c_dormouseref16_Digits rf_dormouseref16_Digits k) k Tryd.f36 (e_dormouseref16_Digits k).pre (e_dormouseref16_Digits k).post x = p_dormouseref16_Digits.r rf_dormouseref16_Digits k x := by kernel_rfl
theorem s_dormouseref16_Digits : (k : Nat) → Entry.Sound Tryd.prog 36 (e_dormouseref16_Digits k) | 0 => sound_none fun _ => rfl | k + 1 => runF_sound (X := c_dormouseref16_Digits (p_dormouseref16_Digits k) k) (pre := (e_dormouseref16_Digits (k + 1)).pre) (post := (e_dormouseref16_Digits (k + 1)).post) (q := (e_dormouseref16_Digits (k + 1)).fn) ⟨(dOk_cons (s_dormouseref16_Digits k) dOk_nil), x_ext, x_mo⟩ Tryd.func36 (q_dormouseref16_Digits (p_dormouseref16_Digits k) k)

/- dormouse/dormouseref03.Hex: function 37 -/
noncomputable def p_dormouseref03_Hex.j0 (k : Nat) (x534 : List UInt8) : Option (List UInt8) :=
  some x534
noncomputable def p_dormouseref03_Hex.b1 (k : Nat) (j535 : List UInt8 → Option (List UInt8)) (rec532 : List UInt8 × List UInt8 × List UInt8 × Int → Option (List UInt8)) (x523 : List UInt8) (x524 : List UInt8) (x525 : List UInt8) (x526 : Int) : Option (List UInt8) :=
  bif (decide (x526 < (↑(List.length x523) : Int))) then need ((0 : Int) ≤ x526 ∧ x526 < (↑(List.length x523) : Int)) (need ((0 : Int) ≤ IntKind.wrap IntKind.i64 (Int.tdiv (IntKind.wrap IntKind.i64 (bat x523 x526)) (16 : Int)) ∧ IntKind.wrap IntKind.i64 (Int.tdiv (IntKind.wrap IntKind.i64 (bat x523 x526)) (16 : Int)) ≤ IntKind.wrap IntKind.i64 (IntKind.wrap IntKind.i64 (Int.tdiv (IntKind.wrap IntKind.i64 (bat x523 x526)) (16 : Int)) + (1 : Int)) ∧ IntKind.wrap IntKind.i64 (IntKind.wrap IntKind.i64 (Int.tdiv (IntKind.wrap IntKind.i64 (bat x523 x526)) (16 : Int)) + (1 : Int)) ≤ (↑(List.length x524) : Int)) (need (List.length x525 + List.length (sub_ x524 (IntKind.wrap IntKind.i64 (Int.tdiv (IntKind.wrap IntKind.i64 (bat x523 x526)) (16 : Int))) (IntKind.wrap IntKind.i64 (IntKind.wrap IntKind.i64 (Int.tdiv (IntKind.wrap IntKind.i64 (bat x523 x526)) (16 : Int)) + (1 : Int)))) ≤ (9223372036854775807 : Nat)) (need ((0 : Int) ≤ Int.tmod (IntKind.wrap IntKind.i64 (bat x523 x526)) (16 : Int) ∧ Int.tmod (IntKind.wrap IntKind.i64 (bat x523 x526)) (16 : Int) ≤ IntKind.wrap IntKind.i64 (Int.tmod (IntKind.wrap IntKind.i64 (bat x523 x526)) (16 : Int) + (1 : Int)) ∧ IntKind.wrap IntKind.i64 (Int.tmod (IntKind.wrap IntKind.i64 (bat x523 x526)) (16 : Int) + (1 : Int)) ≤ (↑(List.length x524) : Int)) (need (List.length (x525 ++ sub_ x524 (IntKind.wrap IntKind.i64 (Int.tdiv (IntKind.wrap IntKind.i64 (bat x523 x526)) (16 : Int))) (IntKind.wrap IntKind.i64 (IntKind.wrap IntKind.i64 (Int.tdiv (IntKind.wrap IntKind.i64 (bat x523 x526)) (16 : Int)) + (1 : Int)))) + List.length (sub_ x524 (Int.tmod (IntKind.wrap IntKind.i64 (bat x523 x526)) (16 : Int)) (IntKind.wrap IntKind.i64 (Int.tmod (IntKind.wrap IntKind.i64 (bat x523 x526)) (16 : Int) + (1 : Int)))) ≤ (9223372036854775807 : Nat)) (rec532 (x523, x524, x525 ++ sub_ x524 (IntKind.wrap IntKind.i64 (Int.tdiv (IntKind.wrap IntKind.i64 (bat x523 x526)) (16 : Int))) (IntKind.wrap IntKind.i64 (IntKind.wrap IntKind.i64 (Int.tdiv (IntKind.wrap IntKind.i64 (bat x523 x526)) (16 : Int)) + (1 : Int))) ++ sub_ x524 (Int.tmod (IntKind.wrap IntKind.i64 (bat x523 x526)) (16 : Int)) (IntKind.wrap IntKind.i64 (Int.tmod (IntKind.wrap IntKind.i64 (bat x523 x526)) (16 : Int) + (1 : Int))), IntKind.wrap IntKind.i64 (x526 + (1 : Int)))))))) else j535 x525
noncomputable def p_dormouseref03_Hex (k : Nat) (x522 : List UInt8) : Option (List UInt8) :=
  joinC (p_dormouseref03_Hex.j0 k) fun (j535 : List UInt8 → Option (List UInt8)) => loopC (fun (r : List UInt8 × List UInt8 × List UInt8 × Int → Option (List UInt8)) y => p_dormouseref03_Hex.b1 k j535 r y.1 y.2.1 y.2.2.1 y.2.2.2) k (x522, [(48 : UInt8), (49 : UInt8), (50 : UInt8), (51 : UInt8), (52 : UInt8), (53 : UInt8), (54 : UInt8), (55 : UInt8), (56 : UInt8), (57 : UInt8), (97 : UInt8), (98 : UInt8), (99 : UInt8), (100 : UInt8), (101 : UInt8), (102 : UInt8)], [], (0 : Int))
noncomputable def e_dormouseref03_Hex (k : Nat) : Entry := ⟨Ds.mk [Vd.one (Ld.im T.str)] [], Ds.mk [Vd.one (Ld.im T.str)] [], fun x => p_dormouseref03_Hex k x⟩
noncomputable def c_dormouseref03_Hex (k : Nat) : Cx := ⟨Tryd.prog, [], [(8, Sd.mk [4] (Ds.mk [Vd.one (Ld.im T.str)] []))], [], [(4, Sd.mk [0, 3, 4, 5] (Ds.mk [Vd.one (Ld.im T.str), Vd.one (Ld.im T.str), Vd.one (Ld.im T.str), Vd.one (Ld.im (T.int IntKind.i64))] []))], [(7, ([(0, 2), (1, 2), (2, 2), (3, 2), (4, 2), (5, 2), (6, 2), (7, 2), (8, 2), (9, 2), (10, 2), (11, 2), (12, 2), (13, 2), (14, 2), (15, 2), (16, 2)], [(17, Bool.false)], []))], 0, 35, [(76, 0), (83, 1)], fun _ _ _ => none⟩
theorem q_dormouseref03_Hex (k : Nat) (x : HL (e_dormouseref03_Hex k).pre.ts) : runF (c_dormouseref03_Hex k) k Tryd.f37 (e_dormouseref03_Hex k).pre (e_dormouseref03_Hex k).post x = (e_dormouseref03_Hex k).fn x := by kernel_rfl
theorem s_dormouseref03_Hex (k : Nat) : Entry.Sound Tryd.prog 37 (e_dormouseref03_Hex k) := runF_sound (X := c_dormouseref03_Hex k) (pre := (e_dormouseref03_Hex k).pre) (post := (e_dormouseref03_Hex k).post) (q := (e_dormouseref03_Hex k).fn) ⟨dOk_nil, x_ext, x_mo⟩ Tryd.func37 (q_dormouseref03_Hex k)

/- dormouse/dormouseref39.Line: function 14 -/
noncomputable def p_dormouseref39_Line.j0 (k : Nat) (x543 : List UInt8) : Option (List UInt8) :=
  some x543
noncomputable def p_dormouseref39_Line (k : Nat) (x538 : Int × List UInt8) : Option (List UInt8) :=
  Option.bind (p_dormouseref16_Digits k (IntKind.wrap IntKind.u64 (Prod.fst x538))) fun t539 => joinC (p_dormouseref39_Line.j0 k) fun (j544 : List UInt8 → Option (List UInt8)) => bif (!Prod.snd x538 == []) then need (List.length t539 + 1 ≤ (9223372036854775807 : Nat)) (Option.bind (p_dormouseref03_Hex k (Prod.snd x538)) fun t541 => need (List.length (t539 ++ [(32 : UInt8)]) + List.length t541 ≤ (9223372036854775807 : Nat)) (j544 (t539 ++ [(32 : UInt8)] ++ t541))) else j544 t539
noncomputable def e_dormouseref39_Line (k : Nat) : Entry := ⟨Ds.mk [Vd.st (T.pair (T.int IntKind.i64) T.str)] [], Ds.mk [Vd.one (Ld.im T.str)] [], fun x => p_dormouseref39_Line k x⟩
noncomputable def c_dormouseref39_Line (k : Nat) : Cx := ⟨Tryd.prog, [(36, e_dormouseref16_Digits k), (37, e_dormouseref03_Hex k)], [(4, Sd.mk [3] (Ds.mk [Vd.one (Ld.im T.str)] []))], [], [], [], 0, 18, [(76, 0), (83, 1)], fun _ _ _ => none⟩
theorem q_dormouseref39_Line (k : Nat) (x : HL (e_dormouseref39_Line k).pre.ts) : runF (c_dormouseref39_Line k) k Tryd.f14 (e_dormouseref39_Line k).pre (e_dormouseref39_Line k).post x = (e_dormouseref39_Line k).fn x := by kernel_rfl
theorem s_dormouseref39_Line (k : Nat) : Entry.Sound Tryd.prog 14 (e_dormouseref39_Line k) := runF_sound (X := c_dormouseref39_Line k) (pre := (e_dormouseref39_Line k).pre) (post := (e_dormouseref39_Line k).post) (q := (e_dormouseref39_Line k).fn) ⟨(dOk_cons (s_dormouseref16_Digits k) (dOk_cons (s_dormouseref03_Hex k) dOk_nil)), x_ext, x_mo⟩ Tryd.func14 (q_dormouseref39_Line k)

/- dormouse/dormouselaw39.ReplyTexts: function 3 -/
noncomputable def p_dormouselaw39_ReplyTexts.j3 (k : Nat) (x576 : Bool) : Option Bool :=
  some x576
noncomputable def p_dormouselaw39_ReplyTexts.j2 (k : Nat) (x571 : List UInt8) : Option Bool :=
  Option.bind (p_reply_Parse k x571) fun t572 => joinC (p_dormouselaw39_ReplyTexts.j3 k) fun (j577 : Bool → Option Bool) => Option.bind (p_dormouselaw39_awake k) fun t573 => bif t573 then bif (Prod.snd t572 == (0 : Int)) then Option.bind (p_dormouseref39_May (Prod.fst (Prod.fst t572), Prod.snd (Prod.fst t572))) fun t574 => bif t574 then Option.bind (p_dormouseref39_Line k (Prod.fst (Prod.fst t572), Prod.snd (Prod.fst t572))) fun t575 => bif (t575 == x571) then j577 Bool.true else bif (Prod.snd t572 == (6 : Int)) then j577 (Prod.fst (Prod.fst t572) == (0 : Int) && (Prod.snd (Prod.fst t572) == [] && Bool.true)) else j577 Bool.false else bif (Prod.snd t572 == (6 : Int)) then j577 (Prod.fst (Prod.fst t572) == (0 : Int) && (Prod.snd (Prod.fst t572) == [] && Bool.true)) else j577 Bool.false else bif (Prod.snd t572 == (6 : Int)) then j577 (Prod.fst (Prod.fst t572) == (0 : Int) && (Prod.snd (Prod.fst t572) == [] && Bool.true)) else j577 Bool.false else j577 Bool.false
noncomputable def p_dormouselaw39_ReplyTexts.j4 (k : Nat) (j579 : List UInt8 → Option Bool) (x567 : List UInt8) (x568 : Bool) : Option Bool :=
  bif x568 then some Bool.false else j579 x567
noncomputable def p_dormouselaw39_ReplyTexts.j1 (k : Nat) (x559 : List UInt8) (x560 : List UInt8) (x561 : Bool) (x562 : Bool) (x563 : Int × List UInt8) : Option Bool :=
  bif x562 then some Bool.false else joinC (p_dormouselaw39_ReplyTexts.j2 k) fun (j579 : List UInt8 → Option Bool) => bif x561 then Option.bind (p_reply_Parse k x560) fun t566 => joinC (fun (y : List UInt8 × Bool) => p_dormouselaw39_ReplyTexts.j4 k j579 y.1 y.2) fun (j569 : List UInt8 × Bool → Option Bool) => bif (!(Prod.fst (Prod.fst t566) == Prod.fst x563 && (Prod.snd (Prod.fst t566) == Prod.snd x563 && Bool.true))) then j569 (x559, Bool.true) else j569 (x559, Prod.snd t566 != (0 : Int)) else j579 x559
noncomputable def p_dormouselaw39_ReplyTexts.j0 (k : Nat) (x549 : List UInt8) (x550 : Bool) (x551 : Int × List UInt8) : Option Bool :=
  bif x550 then Option.bind (p_dormouselaw39_awake k) fun t554 => some t554 else Option.bind (p_reply_Text k (Prod.fst x551, Prod.snd x551)) fun t555 => Option.bind (p_dormouseref39_May (Prod.fst x551, Prod.snd x551)) fun t556 => joinC (fun (y : List UInt8 × List UInt8 × Bool × Bool × Int × List UInt8) => p_dormouselaw39_ReplyTexts.j1 k y.1 y.2.1 y.2.2.1 y.2.2.2.1 y.2.2.2.2) fun (j564 : List UInt8 × List UInt8 × Bool × Bool × Int × List UInt8 → Option Bool) => Option.bind (p_reply_Check (Prod.fst x551, Prod.snd x551)) fun t557 => bif (!(t557 == (0 : Int)) == t556) then j564 (x549, Prod.fst t555, t556, Bool.true, Prod.fst x551, Prod.snd x551) else bif t556 then bif (Prod.snd t555 != (0 : Int)) then j564 (x549, Prod.fst t555, t556, Bool.true, Prod.fst x551, Prod.snd x551) else Option.bind (p_dormouseref39_Line k (Prod.fst x551, Prod.snd x551)) fun t558 => bif (!Prod.fst t555 == t558) then j564 (x549, Prod.fst t555, t556, Bool.true, Prod.fst x551, Prod.snd x551) else bif !t556 then bif (Prod.snd t555 != (2 : Int)) then j564 (x549, Prod.fst t555, t556, Bool.true, Prod.fst x551, Prod.snd x551) else j564 (x549, Prod.fst t555, t556, !Prod.fst t555 == [], Prod.fst x551, Prod.snd x551) else j564 (x549, Prod.fst t555, t556, Bool.false, Prod.fst x551, Prod.snd x551) else bif !t556 then bif (Prod.snd t555 != (2 : Int)) then j564 (x549, Prod.fst t555, t556, Bool.true, Prod.fst x551, Prod.snd x551) else j564 (x549, Prod.fst t555, t556, !Prod.fst t555 == [], Prod.fst x551, Prod.snd x551) else j564 (x549, Prod.fst t555, t556, Bool.false, Prod.fst x551, Prod.snd x551)
noncomputable def p_dormouselaw39_ReplyTexts (k : Nat) (x547 : Int × List UInt8) (x548 : List UInt8) : Option Bool :=
  joinC (fun (y : List UInt8 × Bool × Int × List UInt8) => p_dormouselaw39_ReplyTexts.j0 k y.1 y.2.1 y.2.2) fun (j552 : List UInt8 × Bool × Int × List UInt8 → Option Bool) => bif (decide ((↑(List.length (Prod.snd x547)) : Int) > (500 : Int))) then j552 (x548, Bool.true, Prod.fst x547, Prod.snd x547) else j552 (x548, decide ((↑(List.length x548) : Int) > (500 : Int)), Prod.fst x547, Prod.snd x547)
noncomputable def e_dormouselaw39_ReplyTexts (k : Nat) : Entry := ⟨Ds.mk [Vd.st (T.pair (T.int IntKind.i64) T.str), Vd.one (Ld.im T.str)] [], Ds.mk [Vd.one (Ld.im T.bool)] [], fun x => p_dormouselaw39_ReplyTexts k x.1 x.2⟩
noncomputable def c_dormouselaw39_ReplyTexts (k : Nat) : Cx := ⟨Tryd.prog, [(13, e_reply_Check), (11, e_reply_Text k), (15, e_reply_Parse k), (10, e_dormouselaw39_awake k), (12, e_dormouseref39_May), (14, e_dormouseref39_Line k)], [(11, Sd.mk [1] (Ds.mk [Vd.one (Ld.im T.str)] []))], [(1, Sd.mk [1, 2, 20] (Ds.mk [Vd.one (Ld.im T.str), Vd.one (Ld.ptr (0) (0)), Vd.one (Ld.im T.bool)] [Od.blkT (24) (T.pair (T.int IntKind.i64) T.str)])), (5, Sd.mk [1, 2, 5, 7, 58] (Ds.mk [Vd.one (Ld.im T.str), Vd.one (Ld.ptr (0) (0)), Vd.one (Ld.im T.str), Vd.one (Ld.im T.bool), Vd.one (Ld.im T.bool)] [Od.blkT (24) (T.pair (T.int IntKind.i64) T.str)])), (9, Sd.mk [1, 71] (Ds.mk [Vd.one (Ld.im T.str), Vd.one (Ld.im T.bool)] [])), (12, Sd.mk [4] (Ds.mk [Vd.one (Ld.im T.bool)] []))], [], [], 0, 101, [(76, 0), (83, 1)], fun _ _ _ => none⟩
theorem q_dormouselaw39_ReplyTexts (k : Nat) (x : HL (e_dormouselaw39_ReplyTexts k).pre.ts) : runF (c_dormouselaw39_ReplyTexts k) k Tryd.f3 (e_dormouselaw39_ReplyTexts k).pre (e_dormouselaw39_ReplyTexts k).post x = (e_dormouselaw39_ReplyTexts k).fn x := by kernel_rfl
theorem s_dormouselaw39_ReplyTexts (k : Nat) : Entry.Sound Tryd.prog 3 (e_dormouselaw39_ReplyTexts k) := runF_sound (X := c_dormouselaw39_ReplyTexts k) (pre := (e_dormouselaw39_ReplyTexts k).pre) (post := (e_dormouselaw39_ReplyTexts k).post) (q := (e_dormouselaw39_ReplyTexts k).fn) ⟨(dOk_cons (s_reply_Check) (dOk_cons (s_reply_Text k) (dOk_cons (s_reply_Parse k) (dOk_cons (s_dormouselaw39_awake k) (dOk_cons (s_dormouseref39_May) (dOk_cons (s_dormouseref39_Line k) dOk_nil)))))), x_ext, x_mo⟩ Tryd.func3 (q_dormouselaw39_ReplyTexts k)

/- dormouse/dormouselaw39.ReplyReads: function 4 -/
noncomputable def p_dormouselaw39_ReplyReads.j1 (k : Nat) (x716 : Bool) : Option Bool :=
  some x716
noncomputable def p_dormouselaw39_ReplyReads.j0 (k : Nat) (x711 : Int) (x712 : Int) (x713 : Int) (x714 : List (Int × List UInt8)) : Option Bool :=
  joinC (p_dormouselaw39_ReplyReads.j1 k) fun (j717 : Bool → Option Bool) => Option.bind (p_dormouselaw39_awake k) fun t715 => bif t715 then bif (x712 == (0 : Int)) then bif (x711 == (0 : Int)) then j717 (x713 == (↑(List.length x714) : Int)) else j717 Bool.false else j717 Bool.false else j717 Bool.false
noncomputable def p_dormouselaw39_ReplyReads.j3 (k : Nat) (rec709 : List UInt8 × Int × Int × List UInt8 × Int × Int × List (Int × List UInt8) → Option Bool) (x700 : List UInt8) (x701 : Int) (x702 : Int) (x703 : List UInt8) (x704 : Int) (x705 : Int) (x706 : List (Int × List UInt8)) : Option Bool :=
  rec709 (x700, x701, x702, x703, x704, IntKind.wrap IntKind.i64 (x705 + (1 : Int)), x706)
noncomputable def p_dormouselaw39_ReplyReads.j6 (k : Nat) (x687 : Bool) : Option Bool :=
  some x687
noncomputable def p_dormouselaw39_ReplyReads.j7 (k : Nat) (j707 : List UInt8 × Int × Int × List UInt8 × Int × Int × List (Int × List UInt8) → Option Bool) (x691 : List UInt8) (x692 : Int) (x693 : Int) (x694 : Int) (x695 : Int) (x696 : Bool) (x697 : List (Int × List UInt8)) : Option Bool :=
  bif x696 then some Bool.false else j707 (x691, x692, x693, [], IntKind.wrap IntKind.i64 (x694 + (1 : Int)), x695, x697)
noncomputable def p_dormouselaw39_ReplyReads.j5 (k : Nat) (j719 : Int × Int × Int × List (Int × List UInt8) → Option Bool) (j707 : List UInt8 × Int × Int × List UInt8 × Int × Int × List (Int × List UInt8) → Option Bool) (x675 : List UInt8) (x676 : Int) (x677 : Int) (x678 : List UInt8) (x679 : Int) (x680 : Int) (x681 : Bool) (x682 : List (Int × List UInt8)) : Option Bool :=
  bif x681 then j719 (x676, x677, x679, x682) else Option.bind (p_reply_Parse k x678) fun t685 => bif (Prod.snd t685 != (0 : Int)) then joinC (p_dormouselaw39_ReplyReads.j6 k) fun (j688 : Bool → Option Bool) => Option.bind (p_dormouselaw39_awake k) fun t686 => bif t686 then bif ((↑(List.length x682) : Int) == (0 : Int)) then bif (x676 == IntKind.wrap IntKind.i64 (x679 + (1 : Int))) then j688 (x677 == (6 : Int)) else j688 Bool.false else j688 Bool.false else j688 Bool.false else joinC (fun (y : List UInt8 × Int × Int × Int × Int × Bool × List (Int × List UInt8)) => p_dormouselaw39_ReplyReads.j7 k j707 y.1 y.2.1 y.2.2.1 y.2.2.2.1 y.2.2.2.2.1 y.2.2.2.2.2.1 y.2.2.2.2.2.2) fun (j698 : List UInt8 × Int × Int × Int × Int × Bool × List (Int × List UInt8) → Option Bool) => bif (x677 == (0 : Int)) then bif (decide (x679 ≥ (↑(List.length x682) : Int))) then j698 (x675, x676, x677, x679, x680, Bool.true, x682) else need ((0 : Int) ≤ x679 ∧ x679 < (↑(List.length x682) : Int)) (j698 (x675, x676, x677, x679, x680, !(Prod.fst (at_ (dflt (T.pair (T.int IntKind.i64) T.str)) x682 x679) == Prod.fst (Prod.fst t685) && (Prod.snd (at_ (dflt (T.pair (T.int IntKind.i64) T.str)) x682 x679) == Prod.snd (Prod.fst t685) && Bool.true)), x682)) else j698 (x675, x676, x677, x679, x680, Bool.false, x682)
noncomputable def p_dormouselaw39_ReplyReads.j4 (k : Nat) (j707 : List UInt8 × Int × Int × List UInt8 × Int × Int × List (Int × List UInt8) → Option Bool) (j719 : Int × Int × Int × List (Int × List UInt8) → Option Bool) (x663 : List UInt8) (x664 : Int) (x665 : Int) (x666 : List UInt8) (x667 : Int) (x668 : Int) (x669 : Bool) (x670 : List (Int × List UInt8)) : Option Bool :=
  bif x669 then need ((0 : Int) ≤ x668 ∧ x668 ≤ IntKind.wrap IntKind.i64 (x668 + (1 : Int)) ∧ IntKind.wrap IntKind.i64 (x668 + (1 : Int)) ≤ (↑(List.length x663) : Int)) (need (List.length x666 + List.length (sub_ x663 x668 (IntKind.wrap IntKind.i64 (x668 + (1 : Int)))) ≤ (9223372036854775807 : Nat)) (j707 (x663, x664, x665, x666 ++ sub_ x663 x668 (IntKind.wrap IntKind.i64 (x668 + (1 : Int))), x667, x668, x670))) else joinC (fun (y : List UInt8 × Int × Int × List UInt8 × Int × Int × Bool × List (Int × List UInt8)) => p_dormouselaw39_ReplyReads.j5 k j719 j707 y.1 y.2.1 y.2.2.1 y.2.2.2.1 y.2.2.2.2.1 y.2.2.2.2.2.1 y.2.2.2.2.2.2.1 y.2.2.2.2.2.2.2) fun (j683 : List UInt8 × Int × Int × List UInt8 × Int × Int × Bool × List (Int × List UInt8) → Option Bool) => bif (x668 == (↑(List.length x663) : Int)) then j683 (x663, x664, x665, x666, x667, x668, x666 == [], x670) else j683 (x663, x664, x665, x666, x667, x668, Bool.false, x670)
noncomputable def p_dormouselaw39_ReplyReads.b2 (k : Nat) (j719 : Int × Int × Int × List (Int × List UInt8) → Option Bool) (rec709 : List UInt8 × Int × Int × List UInt8 × Int × Int × List (Int × List UInt8) → Option Bool) (x655 : List UInt8) (x656 : Int) (x657 : Int) (x658 : List UInt8) (x659 : Int) (x660 : Int) (x661 : List (Int × List UInt8)) : Option Bool :=
  bif (decide (x660 ≤ (↑(List.length x655) : Int))) then joinC (fun (y : List UInt8 × Int × Int × List UInt8 × Int × Int × List (Int × List UInt8)) => p_dormouselaw39_ReplyReads.j3 k rec709 y.1 y.2.1 y.2.2.1 y.2.2.2.1 y.2.2.2.2.1 y.2.2.2.2.2.1 y.2.2.2.2.2.2) fun (j707 : List UInt8 × Int × Int × List UInt8 × Int × Int × List (Int × List UInt8) → Option Bool) => joinC (fun (y : List UInt8 × Int × Int × List UInt8 × Int × Int × Bool × List (Int × List UInt8)) => p_dormouselaw39_ReplyReads.j4 k j707 j719 y.1 y.2.1 y.2.2.1 y.2.2.2.1 y.2.2.2.2.1 y.2.2.2.2.2.1 y.2.2.2.2.2.2.1 y.2.2.2.2.2.2.2) fun (j671 : List UInt8 × Int × Int × List UInt8 × Int × Int × Bool × List (Int × List UInt8) → Option Bool) => bif (decide (x660 < (↑(List.length x655) : Int))) then need ((0 : Int) ≤ x660 ∧ x660 < (↑(List.length x655) : Int)) (j671 (x655, x656, x657, x658, x659, x660, bat x655 x660 != (10 : Int), x661)) else j671 (x655, x656, x657, x658, x659, x660, Bool.false, x661) else j719 (x656, x657, x659, x661)
noncomputable def p_dormouselaw39_ReplyReads (k : Nat) (x652 : List UInt8) : Option Bool :=
  bif (decide ((↑(List.length x652) : Int) > (500 : Int))) then Option.bind (p_dormouselaw39_awake k) fun t653 => some t653 else Option.bind (p_reply_Read k x652) fun t654 => joinC (fun (y : Int × Int × Int × List (Int × List UInt8)) => p_dormouselaw39_ReplyReads.j0 k y.1 y.2.1 y.2.2.1 y.2.2.2) fun (j719 : Int × Int × Int × List (Int × List UInt8) → Option Bool) => loopC (fun (r : List UInt8 × Int × Int × List UInt8 × Int × Int × List (Int × List UInt8) → Option Bool) y => p_dormouselaw39_ReplyReads.b2 k j719 r y.1 y.2.1 y.2.2.1 y.2.2.2.1 y.2.2.2.2.1 y.2.2.2.2.2.1 y.2.2.2.2.2.2) k (x652, Prod.fst t654, Prod.fst (Prod.snd t654), [], (0 : Int), (0 : Int), Prod.snd (Prod.snd t654))
noncomputable def e_dormouselaw39_ReplyReads (k : Nat) : Entry := ⟨Ds.mk [Vd.one (Ld.im T.str)] [], Ds.mk [Vd.one (Ld.im T.bool)] [], fun x => p_dormouselaw39_ReplyReads k x⟩
noncomputable def c_dormouselaw39_ReplyReads (k : Nat) : Cx := ⟨Tryd.prog, [(15, e_reply_Parse k), (16, e_reply_Read k), (10, e_dormouselaw39_awake k)], [(8, Sd.mk [0, 3, 4, 5, 6, 7, 8] (Ds.mk [Vd.one (Ld.im T.str), Vd.one (Ld.own (0)), Vd.one (Ld.im (T.int IntKind.i64)), Vd.one (Ld.im (T.int IntKind.i64)), Vd.one (Ld.im T.str), Vd.one (Ld.im (T.int IntKind.i64)), Vd.one (Ld.im (T.int IntKind.i64))] [Od.arr (24) (T.pair (T.int IntKind.i64) T.str)])), (19, Sd.mk [3, 4, 5, 7] (Ds.mk [Vd.one (Ld.own (0)), Vd.one (Ld.im (T.int IntKind.i64)), Vd.one (Ld.im (T.int IntKind.i64)), Vd.one (Ld.im (T.int IntKind.i64))] [Od.arr (24) (T.pair (T.int IntKind.i64) T.str)]))], [(9, Sd.mk [0, 3, 4, 5, 6, 7, 8, 36] (Ds.mk [Vd.one (Ld.im T.str), Vd.one (Ld.own (0)), Vd.one (Ld.im (T.int IntKind.i64)), Vd.one (Ld.im (T.int IntKind.i64)), Vd.one (Ld.im T.str), Vd.one (Ld.im (T.int IntKind.i64)), Vd.one (Ld.im (T.int IntKind.i64)), Vd.one (Ld.im T.bool)] [Od.arr (24) (T.pair (T.int IntKind.i64) T.str)])), (11, Sd.mk [0, 3, 4, 5, 6, 7, 8, 51] (Ds.mk [Vd.one (Ld.im T.str), Vd.one (Ld.own (0)), Vd.one (Ld.im (T.int IntKind.i64)), Vd.one (Ld.im (T.int IntKind.i64)), Vd.one (Ld.im T.str), Vd.one (Ld.im (T.int IntKind.i64)), Vd.one (Ld.im (T.int IntKind.i64)), Vd.one (Ld.im T.bool)] [Od.arr (24) (T.pair (T.int IntKind.i64) T.str)])), (14, Sd.mk [2] (Ds.mk [Vd.one (Ld.im T.bool)] [])), (15, Sd.mk [0, 3, 4, 5, 7, 8, 90] (Ds.mk [Vd.one (Ld.im T.str), Vd.one (Ld.own (0)), Vd.one (Ld.im (T.int IntKind.i64)), Vd.one (Ld.im (T.int IntKind.i64)), Vd.one (Ld.im (T.int IntKind.i64)), Vd.one (Ld.im (T.int IntKind.i64)), Vd.one (Ld.im T.bool)] [Od.arr (24) (T.pair (T.int IntKind.i64) T.str)])), (19, Sd.mk [2] (Ds.mk [Vd.one (Ld.im T.bool)] []))], [(7, Sd.mk [0, 3, 4, 5, 6, 7, 8] (Ds.mk [Vd.one (Ld.im T.str), Vd.one (Ld.own (0)), Vd.one (Ld.im (T.int IntKind.i64)), Vd.one (Ld.im (T.int IntKind.i64)), Vd.one (Ld.im T.str), Vd.one (Ld.im (T.int IntKind.i64)), Vd.one (Ld.im (T.int IntKind.i64))] [Od.arr (24) (T.pair (T.int IntKind.i64) T.str)]))], [(15, ([(0, 2), (1, 2), (2, 2), (3, 2), (4, 2), (5, 2), (6, 2), (7, 2), (8, 2), (9, 2), (10, 2), (11, 1), (12, 1), (13, 2), (14, 2), (15, 2)], [], []))], 0, 108, [(76, 0), (83, 1)], fun _ _ _ => none⟩
theorem q_dormouselaw39_ReplyReads (k : Nat) (x : HL (e_dormouselaw39_ReplyReads k).pre.ts) : runF (c_dormouselaw39_ReplyReads k) k Tryd.f4 (e_dormouselaw39_ReplyReads k).pre (e_dormouselaw39_ReplyReads k).post x = (e_dormouselaw39_ReplyReads k).fn x := by kernel_rfl
theorem s_dormouselaw39_ReplyReads (k : Nat) : Entry.Sound Tryd.prog 4 (e_dormouselaw39_ReplyReads k) := runF_sound (X := c_dormouselaw39_ReplyReads k) (pre := (e_dormouselaw39_ReplyReads k).pre) (post := (e_dormouselaw39_ReplyReads k).post) (q := (e_dormouselaw39_ReplyReads k).fn) ⟨(dOk_cons (s_reply_Parse k) (dOk_cons (s_reply_Read k) (dOk_cons (s_dormouselaw39_awake k) dOk_nil))), x_ext, x_mo⟩ Tryd.func4 (q_dormouselaw39_ReplyReads k)
end
end Go.Dor
end

section
/- BYTES, DIGITS, NUMBERS: plain lemmas, and the document's digits. -/
set_option linter.unusedVariables false
set_option linter.unusedSimpArgs false
namespace Go.Dor
open Go.Proofs

def casts (l : List Nat) : List Int := l.map fun (n : Nat) => (n : Int)
theorem at_casts {i : Nat} {l : List Nat} : at_ 0 (casts l) (i : Int) = ((l.getD i 0 : Nat) : Int) := by
  unfold at_ casts
  rw [Int.toNat_natCast, List.getD_eq_getElem?_getD, List.getD_eq_getElem?_getD, List.getElem?_map]
  cases l[i]? <;> rfl
theorem casts_len (l : List Nat) : (casts l).length = l.length := by simp [casts]
theorem need_yes {α : Type} {c : Prop} [Decidable c] {x : Option α} (h : c) : need c x = x := if_pos h
def byt (s : List UInt8) (j : Nat) : Nat := (s.getD j 0).toNat
theorem byt_lt (s : List UInt8) (j : Nat) : byt s j < 256 := UInt8.toNat_lt _
theorem bat_byt {s : List UInt8} {j : Nat} : bat s (j : Int) = (byt s j : Int) := by simp [bat, byt]
theorem getD_lt {l : List Nat} {B : Nat} (hB : 0 < B) (h : ∀ x ∈ l, x < B) (j : Nat) : l.getD j 0 < B := by
  rw [List.getD_eq_getElem?_getD]
  cases e : l[j]? with
  | none => exact hB
  | some y => exact h y (List.mem_of_getElem? e)
theorem or_lit {a b c p : Nat} (n : Nat) (hp : 2 ^ n = p) (h : a = c * p) (hb : b < p) : a ||| b = a + b := by
  subst hp; subst h; exact or_add hb
def byl (l : List Nat) : List UInt8 := l.map UInt8.ofNat
theorem byl_len (l : List Nat) : (byl l).length = l.length := by simp [byl]
theorem bytesOf_casts (l : List Nat) : bytesOf (casts l) = byl l := by simp [bytesOf, casts, byl]
theorem bytesOf_one (n : Nat) : bytesOf [(n : Int)] = [UInt8.ofNat n] := rfl
theorem numsOf_app (a b : List UInt8) : numsOf (a ++ b) = numsOf a ++ numsOf b := by simp [numsOf]
theorem numsOf_len (a : List UInt8) : (numsOf a).length = a.length := by simp [numsOf]
theorem bytesOf_numsOf (a : List UInt8) : bytesOf (numsOf a) = a := by simp [bytesOf, numsOf, Function.comp_def]
theorem low8 (y : Nat) : IntKind.wrap .u8 (Int.tmod (y : Int) 256) = ((y % 256 : Nat) : Int) := by rw [Int.tmod_eq_emod_of_nonneg (by omega), wrap_u8]; omega
theorem low8' (y : Nat) : IntKind.wrap .u8 (y : Int) = ((y % 256 : Nat) : Int) := by rw [wrap_u8]; omega
theorem byl_app (a b : List Nat) : byl (a ++ b) = byl a ++ byl b := by simp [byl]
theorem loop_inv {α β : Type} {body : (α → Option β) → α → Option β} (P : α → Prop) (m : α → Nat) (Q : Option β → Prop)
    (step : ∀ s, P s → ∀ rec, (∀ s', P s' → m s' < m s → Q (rec s')) → Q (body rec s)) : ∀ k s, P s → m s < k → Q (loopC body k s)
  | k + 1, s, hp, hk => by
    show Q (body (loopC body k) s)
    exact step s hp _ fun s' hp' hm => loop_inv P m Q step k s' hp' (by omega)
def DIG : List UInt8 := [(48 : UInt8), (49 : UInt8), (50 : UInt8), (51 : UInt8), (52 : UInt8), (53 : UInt8), (54 : UInt8), (55 : UInt8), (56 : UInt8), (57 : UInt8), (97 : UInt8), (98 : UInt8), (99 : UInt8), (100 : UInt8), (101 : UInt8), (102 : UInt8)]
def dig (n : Nat) : UInt8 := DIG.getD n 0
def hexv (c : Nat) : Int := indexByteOf DIG (c : Int)
def hexck (n : Nat) : Bool := decide (hexv n < 0) || (decide (0 ≤ hexv n) && decide (hexv n < 16) && (dig (hexv n).toNat == UInt8.ofNat n))
theorem hexck_all : (List.range 256).all hexck = true := by decide +kernel
theorem hexv_dig : (List.range 16).all (fun n => decide (hexv (dig n).toNat = (n : Int))) = true := by decide +kernel
theorem hexv_back {n : Nat} (hn : n < 16) : hexv (dig n).toNat = (n : Int) := by
  have := List.all_eq_true.1 hexv_dig n (by simpa using hn)
  simpa using this
theorem hexv_at {n : Nat} (hn : n < 256) (h : 0 ≤ hexv n) : hexv n < 16 ∧ dig (hexv n).toNat = UInt8.ofNat n := by
  have := List.all_eq_true.1 hexck_all n (by simpa using hn)
  simp only [hexck, Bool.or_eq_true, Bool.and_eq_true, decide_eq_true_eq, beq_iff_eq] at this
  rcases this with h1 | ⟨⟨_, h2⟩, h3⟩
  · omega
  · exact ⟨h2, h3⟩
def hexL (l : List Nat) : List UInt8 := l.flatMap fun c => [dig (c / 16), dig (c % 16)]
theorem hexL_len (l : List Nat) : (hexL l).length = 2 * l.length := by
  induction l with
  | nil => rfl
  | cons a l ih => simp only [hexL, List.flatMap_cons, List.length_append, List.length_cons, List.length_nil] at *; omega
theorem hexL_take {l : List Nat} {i : Nat} (hi : i < l.length) : hexL (l.take (i + 1)) = hexL (l.take i) ++ [dig (l[i] / 16), dig (l[i] % 16)] := by
  unfold hexL; rw [List.take_succ_eq_append_getElem hi, List.flatMap_append]; simp
theorem hexL_get {l : List Nat} : ∀ {i : Nat} (hi : i < l.length), (hexL l).getD (2 * i) 0 = dig (l[i] / 16) ∧ (hexL l).getD (2 * i + 1) 0 = dig (l[i] % 16) := by
  induction l with
  | nil => intro i hi; simp at hi
  | cons a l ih =>
    intro i hi
    cases i with
    | zero => exact ⟨rfl, rfl⟩
    | succ i => exact ih (i := i) (by simpa using hi)
theorem dig_bat {n : Nat} : bat DIG (n : Int) = ((dig n).toNat : Int) := by simp [bat, dig]
theorem bytes_two (a b : Nat) : bytesOf [(a : Int), (b : Int)] = [UInt8.ofNat a, UInt8.ofNat b] := rfl
theorem byl_getD {d : List Nat} {i : Nat} (hi : i < d.length) (hd : ∀ x ∈ d, x < 256) : bat (byl d) (i : Int) = ((d[i] : Nat) : Int) := by
  have := hd d[i] (List.getElem_mem hi)
  simp [bat, byl, hi]; omega
theorem sub_one {n : Nat} (hn : n < 16) : sub_ DIG (n : Int) ((n + 1 : Nat) : Int) = [dig n] := by
  unfold sub_ dig
  rw [Int.toNat_natCast, Int.toNat_natCast]
  have : (List.range 16).all (fun n => decide ((DIG.take (n + 1)).drop n = [DIG.getD n 0])) = true := by decide
  have := List.all_eq_true.1 this n (by simpa using hn)
  simpa using this
theorem refHex_eq {k : Nat} {d : List Nat} (hk : d.length < k) (hl : d.length < 1000000) (hd : ∀ x ∈ d, x < 256) : p_dormouseref03_Hex k (byl d) = some (hexL d) := by
  unfold p_dormouseref03_Hex joinC
  rw [← DIG]
  have L := loop_count (body := fun (r : List UInt8 × List UInt8 × List UInt8 × Int → Option (List UInt8)) y => p_dormouseref03_Hex.b1 k (p_dormouseref03_Hex.j0 k) r y.1 y.2.1 y.2.2.1 y.2.2.2) (res := some (hexL d)) d.length k
    (fun i => (byl d, DIG, hexL (d.take i), (i : Int))) hk ?_ ?_
  · exact L
  · intro i hi rec
    dsimp only
    unfold p_dormouseref03_Hex.b1
    have h1 : decide ((i : Int) < ((byl d).length : Int)) = true := by rw [byl_len]; simpa using hi
    have hlt := hd d[i] (List.getElem_mem hi)
    have hlen : (hexL (d.take i)).length = 2 * i := by rw [hexL_len, List.length_take]; omega
    have ht := hexL_take hi
    have hdl : DIG.length = 16 := rfl
    rw [h1, cond_true, need_yes (by rw [byl_len]; omega), byl_getD hi hd]
    generalize d[i] = c at *
    have e0 : IntKind.wrap .i64 (c : Int) = (c : Int) := wrap_i64 (by omega)
    have e1 : IntKind.wrap .i64 (Int.tdiv (c : Int) 16) = ((c / 16 : Nat) : Int) := by rw [Int.tdiv_eq_ediv_of_nonneg (by omega), wrap_i64 (by omega)]; omega
    have e2 : Int.tmod (c : Int) 16 = ((c % 16 : Nat) : Int) := by rw [Int.tmod_eq_emod_of_nonneg (by omega)]; omega
    have e3 : IntKind.wrap .i64 (((c / 16 : Nat) : Int) + 1) = ((c / 16 + 1 : Nat) : Int) := by rw [wrap_i64 (by omega)]; omega
    have e4 : IntKind.wrap .i64 (((c % 16 : Nat) : Int) + 1) = ((c % 16 + 1 : Nat) : Int) := by rw [wrap_i64 (by omega)]; omega
    have s1 := sub_one (n := c / 16) (by omega)
    have s2 := sub_one (n := c % 16) (by omega)
    rw [e0, e1, e2, e3, e4, s1, s2, need_yes (by rw [hdl]; omega), need_yes (by rw [hlen]; simp only [List.length_cons, List.length_nil]; omega), need_yes (by rw [hdl]; omega), need_yes (by rw [List.length_append, hlen]; simp only [List.length_cons, List.length_nil]; omega), wrap_i64 (by omega), ht]
    rw [List.append_assoc]
    rfl
  · intro rec
    dsimp only
    unfold p_dormouseref03_Hex.b1
    have h1 : decide ((d.length : Int) < ((byl d).length : Int)) = false := by rw [byl_len]; simp
    rw [h1, cond_false, List.take_length]
    rfl
def hv (s : List UInt8) (i : Nat) : Nat := (hexv (byt s i)).toNat
theorem two_by_two {s : List UInt8} : ∀ (n : Nat), s.length = 2 * n → ((List.range n).flatMap fun j => [s.getD (2 * j) 0, s.getD (2 * j + 1) 0]) = s := by
  intro n
  induction n generalizing s with
  | zero => intro h; simp at h; simp [h]
  | succ n ih =>
    intro h
    match s, h with
    | a :: b :: s, h =>
      have := ih (s := s) (by simp at h; omega)
      rw [List.range_succ_eq_map, List.flatMap_cons, List.flatMap_map]
      have e : (fun j => [(a :: b :: s).getD (2 * Nat.succ j) 0, (a :: b :: s).getD (2 * Nat.succ j + 1) 0]) = fun j => [s.getD (2 * j) 0, s.getD (2 * j + 1) 0] := by
        funext j
        rw [show 2 * j.succ = 2 * j + 2 from rfl]
        rfl
      exact congrArg (fun z => [a, b] ++ z) ((congrArg (fun f => List.flatMap f (List.range n)) e).trans this)
theorem hv_dig {s : List UInt8} {i : Nat} (h : 0 ≤ hexv (byt s i)) : dig (hv s i) = s.getD i 0 := by
  have := (hexv_at (byt_lt s i) h).2
  unfold hv
  rw [this]; simp [byt]
theorem byt_hexL {l : List Nat} {j : Nat} (hj : j < l.length) : byt (hexL l) (2 * j) = (dig (l[j] / 16)).toNat ∧ byt (hexL l) (2 * j + 1) = (dig (l[j] % 16)).toNat := by
  obtain ⟨a, b⟩ := hexL_get hj
  exact ⟨by rw [byt, a], by rw [byt, b]⟩
def natsOf (s : List UInt8) : List Nat := s.map UInt8.toNat
theorem numsOf_casts (s : List UInt8) : numsOf s = casts (natsOf s) := by simp [numsOf, casts, natsOf]
theorem byl_natsOf (s : List UInt8) : byl (natsOf s) = s := by simp [byl, natsOf, Function.comp_def]
theorem natsOf_byl {d : List Nat} (hd : ∀ x ∈ d, x < 256) : natsOf (byl d) = d := by
  unfold natsOf byl
  rw [List.map_map]
  conv => rhs; rw [← List.map_id d]
  apply List.map_congr_left
  intro x hx
  have := hd x hx
  simp; omega
theorem natsOf_lt (s : List UInt8) : ∀ x ∈ natsOf s, x < 256 := by
  intro x hx
  simp only [natsOf, List.mem_map] at hx
  obtain ⟨c, _, rfl⟩ := hx
  exact UInt8.toNat_lt _
theorem natsOf_len (s : List UInt8) : (natsOf s).length = s.length := by simp [natsOf]
def decN : Nat → List UInt8
  | n => if h : n < 10 then [dig n] else decN (n / 10) ++ [dig (n % 10)]
termination_by n => n
decreasing_by omega
theorem decN_lo {n : Nat} (h : n < 10) : decN n = [dig n] := by rw [decN, dif_pos h]
theorem decN_hi {n : Nat} (h : ¬ n < 10) : decN n = decN (n / 10) ++ [dig (n % 10)] := by rw [decN, dif_neg h]
theorem decN_len : ∀ (j n : Nat), n < 10 ^ j → (decN n).length ≤ j + 1
  | 0, n, h => by simp at h; rw [decN_lo (by omega)]; simp
  | j + 1, n, h => by
    by_cases h1 : n < 10
    · rw [decN_lo h1]; simp
    · have := decN_len j (n / 10) (by rw [Nat.pow_succ] at h; omega)
      rw [decN_hi h1, List.length_append]; simp; omega
theorem loopC_succ {α β : Type} (body : (α → Option β) → α → Option β) (k : Nat) (x : α) : loopC body (k + 1) x = body (loopC body k) x := rfl
def DIG10 : List UInt8 := [(48 : UInt8), (49 : UInt8), (50 : UInt8), (51 : UInt8), (52 : UInt8), (53 : UInt8), (54 : UInt8), (55 : UInt8), (56 : UInt8), (57 : UInt8)]
theorem sub_one10 {n : Nat} (hn : n < 10) : sub_ DIG10 (n : Int) (IntKind.wrap .u64 ((n : Int) + 1)) = [dig n] := by
  have e : IntKind.wrap .u64 ((n : Int) + 1) = ((n + 1 : Nat) : Int) := by rw [wrap_u64]; omega
  rw [e]
  unfold sub_ dig
  rw [Int.toNat_natCast, Int.toNat_natCast]
  have : (List.range 10).all (fun n => decide ((DIG10.take (n + 1)).drop n = [DIG.getD n 0])) = true := by decide
  have := List.all_eq_true.1 this n (by simpa using hn)
  simpa using this
theorem Digits_succ (k : Nat) (x : Int) : p_dormouseref16_Digits (k + 1) x = p_dormouseref16_Digits.r (p_dormouseref16_Digits k) k x := rfl
theorem Digits_eq : ∀ (j k n : Nat), n < 10 ^ (j + 1) → n < 18446744073709551616 → j < k → j < 1000 → p_dormouseref16_Digits k (n : Int) = some (decN n)
  | j, 0, n, h, _, hk, _ => by omega
  | j, k + 1, n, h, hn, hk, hj => by
    rw [Digits_succ]
    unfold p_dormouseref16_Digits.r
    have ew : ∀ m : Nat, m < 16 → IntKind.wrap .u64 ((m : Int) + 1) = ((m + 1 : Nat) : Int) := fun m hm => by rw [wrap_u64]; omega
    by_cases h1 : n < 10
    · have e1 : decide ((n : Int) < 10) = true := by simpa using (by omega : (n : Int) < 10)
      rw [e1, cond_true, ← DIG10, sub_one10 h1, ew n (by omega), need_yes (by omega), decN_lo h1]
    · have e1 : decide ((n : Int) < 10) = false := by simpa using (by omega : 10 ≤ (n : Int))
      have em : Int.tmod (n : Int) 10 = ((n % 10 : Nat) : Int) := by rw [Int.tmod_eq_emod_of_nonneg (by omega)]; omega
      have ed : IntKind.wrap .u64 (Int.tdiv (n : Int) 10) = ((n / 10 : Nat) : Int) := by rw [Int.tdiv_eq_ediv_of_nonneg (by omega), wrap_u64]; omega
      cases j with
      | zero => simp at h; omega
      | succ j =>
        have hl := decN_len (j + 1) (n / 10) (by rw [Nat.pow_succ] at h; omega)
        rw [e1, cond_false, em, ed, Digits_eq j k (n / 10) (by rw [Nat.pow_succ] at h; omega) (by omega) (by omega) (by omega), Option.bind_some,
          Digits_eq j k (n % 10) (by rw [Nat.pow_succ]; have := Nat.pow_pos (n := j) (show 0 < 10 by omega); omega) (by omega) (by omega) (by omega), Option.bind_some, decN_lo (show n % 10 < 10 by omega),
          need_yes (by simp only [List.length_cons, List.length_nil]; omega), decN_hi h1]
theorem Digits20 {k n : Nat} (hk : 20 < k) (hn : n < 18446744073709551616) : p_dormouseref16_Digits k (n : Int) = some (decN n) :=
  Digits_eq 19 k n (by have : (10 : Nat) ^ (19 + 1) = 100000000000000000000 := rfl
                       omega) hn (by omega) (by omega)
theorem decN_len20 {n : Nat} (hn : n < 18446744073709551616) : (decN n).length ≤ 21 :=
  decN_len 20 n (by have : (10 : Nat) ^ 20 = 100000000000000000000 := rfl
                    omega)
def numD (s : List UInt8) : Nat := s.foldl (fun n c => (10 * n % 18446744073709551616 + (c.toNat + 256 - 48) % 256 % 10) % 18446744073709551616) 0
theorem foldl_take {α β : Type} (f : β → α → β) (b : β) (l : List α) {i : Nat} (hi : i < l.length) : (l.take (i + 1)).foldl f b = f ((l.take i).foldl f b) l[i] := by
  rw [List.take_succ_eq_append_getElem hi, List.foldl_append]; rfl
theorem numD_lt (s : List UInt8) : numD s < 18446744073709551616 := by
  unfold numD
  rcases List.eq_nil_or_concat s with rfl | ⟨l, c, rfl⟩
  · decide
  · rw [List.concat_eq_append, List.foldl_append]; exact Nat.mod_lt _ (by omega)
theorem dig_num {n : Nat} (h : n < 10) : ((dig n).toNat + 256 - 48) % 256 % 10 = n := by
  have : (List.range 10).all (fun n => decide (((dig n).toNat + 256 - 48) % 256 % 10 = n)) = true := by decide
  have := List.all_eq_true.1 this n (by simpa using h)
  simpa using this
theorem numD_decN : ∀ (n : Nat), n < 18446744073709551616 → numD (decN n) = n := by
  intro n
  induction n using Nat.strongRecOn with
  | _ n ih =>
    intro hn
    by_cases h : n < 10
    · rw [decN_lo h, numD, List.foldl_cons, List.foldl_nil, dig_num h]; omega
    · have e := ih (n / 10) (by omega) (by omega)
      rw [decN_hi h, numD, List.foldl_append, List.foldl_cons, List.foldl_nil, dig_num (by omega)]
      unfold numD at e
      rw [e]; omega
theorem index_not {l : List UInt8} {c : UInt8} (h : c ∉ l) : Lib.indexByte l c = -1 := by
  induction l with
  | nil => rfl
  | cons b l ih =>
    simp only [List.mem_cons, not_or] at h
    have hb : (b == c) = false := by simpa using fun e => h.1 e.symm
    simp [Lib.indexByte, hb, ih h.2]
theorem index_app {l m : List UInt8} {c : UInt8} (h : c ∉ l) : Lib.indexByte (l ++ c :: m) c = (l.length : Int) := by
  induction l with
  | nil => simp [Lib.indexByte]
  | cons b l ih =>
    simp only [List.mem_cons, not_or] at h
    have hb : (b == c) = false := by simpa using fun e => h.1 e.symm
    have := ih h.2
    simp only [List.cons_append, Lib.indexByte, hb, this, List.length_cons]
    have hne : ((l.length : Int) == -1) = false := by simp only [beq_eq_false_iff_ne, ne_eq]; omega
    simp [hne]
theorem cut_at {l : List UInt8} {c : UInt8} (h : c ∈ l) : ∃ a b, l = a ++ c :: b ∧ c ∉ a := by
  induction l with
  | nil => cases h
  | cons x l ih =>
    by_cases e : x = c
    · subst e; exact ⟨[], l, rfl, by simp⟩
    · obtain ⟨a, b, rfl, hb⟩ := ih (by simpa [Ne.symm e] using h)
      exact ⟨x :: a, b, rfl, by simpa [Ne.symm e] using hb⟩
end Go.Dor
end

section
/- REPLIES: their texts, on both sides. -/
set_option linter.unusedVariables false
set_option linter.unusedSimpArgs false
namespace Go.Dor
open Go.Proofs

set_option maxRecDepth 100000 in
theorem tbD5 : Go.TypeInfo.bytes (Go.Tables.types (Go.Program.toTables Go.Proofs.Tryd.prog))[(5 : Nat)] = 1 := by kernel_rfl
set_option maxRecDepth 100000 in
theorem awake39 : p_dormouselaw39_awake 1000 = some true := by kernel_rfl

/-! ### cut at a byte -/
theorem IndexC {s : List UInt8} {c : UInt8} : p_stringslite_Index s [c] = some (Lib.indexByte s c) := by
  unfold p_stringslite_Index joinC
  have e0 : (([c].length : Int) == 0) = false := rfl
  dsimp only
  rw [e0, cond_false]
  unfold p_stringslite_Index.j0
  by_cases h : [c] = s
  · subst h
    have e1 : ([c] == [c]) = true := by simp
    rw [e1, cond_true]
    simp [Lib.indexByte]
  · have e1 : ([c] == s) = false := by simpa using h
    have e2 : (([c].length : Int) == 1) = true := rfl
    have e3 : bat [c] 0 = ((c.toNat : Nat) : Int) := rfl
    rw [e1, cond_false, e2, cond_true, need_yes (by simp), e3]
    unfold p_stringslite_IndexByte indexByteOf
    simp
theorem CutN {s : List UInt8} {c : UInt8} (h : c ∉ s) : p_strings_Cut s [c] = some (s, [], false) := by
  unfold p_strings_Cut p_stringslite_Cut
  rw [IndexC, index_not h]
  rfl
theorem CutA {a b : List UInt8} {c : UInt8} (h : c ∉ a) (hl : a.length + b.length < 1000000) : p_strings_Cut (a ++ c :: b) [c] = some (a, b, true) := by
  unfold p_strings_Cut p_stringslite_Cut
  have e1 : decide ((a.length : Int) ≥ 0) = true := by simp
  have e2 : IntKind.wrap .i64 ((a.length : Int) + ([c].length : Int)) = ((a.length + 1 : Nat) : Int) := by rw [wrap_i64 (by simp; omega)]; rfl
  have hlen : (a ++ c :: b).length = a.length + b.length + 1 := by simp; omega
  rw [IndexC, index_app h, Option.bind_some, e1, cond_true, e2, need_yes (by rw [hlen]; omega), need_yes (by rw [hlen]; omega), Option.bind_some]
  have s1 : sub_ (a ++ c :: b) 0 (a.length : Int) = a := by simp [sub_]
  have s2 : sub_ (a ++ c :: b) ((a.length + 1 : Nat) : Int) ((a ++ c :: b).length : Int) = b := by
    rw [sub_, Int.toNat_natCast, Int.toNat_natCast, List.take_length, show a.length + 1 = (a ++ [c]).length from by simp]
    rw [show a ++ c :: b = (a ++ [c]) ++ b from by simp, List.drop_left]
  rw [s1, s2]

/-! ### bytes as digits -/
def hexS (s : List UInt8) : List UInt8 := if s = [] then [45] else hexL (natsOf s)
theorem nats_take (s : List UInt8) (i : Nat) : natsOf (s.take i) = (natsOf s).take i := by simp [natsOf]
theorem cmdHex_eq {k : Nat} {s : List UInt8} (hk : s.length < k) (hs : s.length < 1000000) : p_cmd_Hex k s = some (hexS s) := by
  unfold p_cmd_Hex hexS
  by_cases h0 : s = []
  · subst h0; rfl
  have e0 : (s == []) = false := by simpa using h0
  rw [e0, cond_false, if_neg h0]
  have hnl := natsOf_len s
  have hnb := natsOf_lt s
  unfold joinC
  have L := loop_count (body := fun (r : List UInt8 × Int × Int × List Int → Option (List UInt8)) y => p_cmd_Hex.b1 k (p_cmd_Hex.j0 k) r y.1 y.2.1 y.2.2.1 y.2.2.2) (res := some (hexL (natsOf s))) s.length k
    (fun i => (s, (s.length : Int), (i : Int), numsOf (hexL ((natsOf s).take i)))) hk ?_ ?_
  · exact L
  · intro i hi rec
    dsimp only
    unfold p_cmd_Hex.b1
    have h1 : decide ((i : Int) < (s.length : Int)) = true := by simpa using hi
    have hid : i < (natsOf s).length := by omega
    have hlt := hnb (natsOf s)[i] (List.getElem_mem hid)
    have hb : bat s (i : Int) = (((natsOf s)[i] : Nat) : Int) := by simp [bat, natsOf, hi]
    have hlen : (hexL ((natsOf s).take i)).length = 2 * i := by rw [hexL_len, List.length_take]; omega
    have ht := hexL_take hid
    rw [h1, cond_true, need_yes (by omega), hb]
    generalize (natsOf s)[i] = c at *
    have e1 : ishr .u8 (c : Int) 4 = ((c / 16 : Nat) : Int) := by
      have := shr_nat (k := .u8) (a := c) (n := 4) (by show 4 ≤ 8; omega)
      simpa using this
    have e2 : iand .u8 (c : Int) 15 = ((c % 16 : Nat) : Int) := by
      have := and_nat (k := .u8) (a := c) (b := 15) rfl (by show c < 256; omega) (by show 15 < 256; omega)
      have h2 : c &&& 15 = c % 16 := Nat.and_two_pow_sub_one_eq_mod _ 4
      rw [h2] at this
      exact this
    rw [e1, e2, need_yes (by omega), need_yes (by omega), need_yes (by omega), ← DIG, dig_bat, dig_bat]
    first | rw [tbD5] | skip
    rw [need_yes (by rw [numsOf_len, hlen]; simp only [List.length_cons, List.length_nil]; omega), wrap_i64 (by omega), ht, numsOf_app]
    rfl
  · intro rec
    dsimp only
    unfold p_cmd_Hex.b1
    have h1 : decide ((s.length : Int) < (s.length : Int)) = false := by simp
    rw [h1, cond_false, List.take_of_length_le (by omega)]
    unfold p_cmd_Hex.j0
    rw [bytesOf_numsOf]

/-- a digit's number, nothing's is 0 -/
def hm (s : List UInt8) (i : Nat) : Nat := (max (hexv (byt s i)) 0).toNat
theorem hm_lt (s : List UInt8) (i : Nat) : hm s i < 16 := by
  unfold hm
  by_cases h : 0 ≤ hexv (byt s i)
  · have := (hexv_at (byt_lt s i) h).1; omega
  · omega
theorem IndexD {s : List UInt8} {i : Nat} : p_strings_IndexByte DIG (bat s (i : Int)) = some (hexv (byt s i)) := by
  unfold p_strings_IndexByte p_stringslite_IndexByte
  rw [bat_byt]
  rfl
/-- what pairs of digits come to -/
def prs (s : List UInt8) (n : Nat) : List Nat := (List.range n).map fun j => 16 * hm s (2 * j) + hm s (2 * j + 1)
theorem prs_len (s : List UInt8) (n : Nat) : (prs s n).length = n := by simp [prs]
theorem prs_succ (s : List UInt8) (n : Nat) : prs s (n + 1) = prs s n ++ [16 * hm s (2 * n) + hm s (2 * n + 1)] := by simp [prs, List.range_succ]
theorem prs_lt (s : List UInt8) (n : Nat) : ∀ x ∈ prs s n, x < 256 := by
  intro x hx
  simp only [prs, List.mem_map] at hx
  obtain ⟨j, _, rfl⟩ := hx
  have := hm_lt s (2 * j); have := hm_lt s (2 * j + 1); omega
def bytR (s : List UInt8) : List UInt8 × Bool :=
  if s = [45] then ([], true) else if prs s (s.length / 2) = [] ∨ hexS (byl (prs s (s.length / 2))) ≠ s then ([], false) else (byl (prs s (s.length / 2)), true)
theorem Bytes_eq {k : Nat} {s : List UInt8} (hk : s.length < k) (hs : s.length < 1000000) : p_cmd_Bytes k s = some (bytR s) := by
  unfold p_cmd_Bytes bytR
  by_cases h0 : s = [45]
  · subst h0; rfl
  have e0 : (s == [45]) = false := by simpa using h0
  rw [e0, cond_false, if_neg h0]
  unfold joinC
  have tail : p_cmd_Bytes.j0 k s (casts (prs s (s.length / 2))) = some (if prs s (s.length / 2) = [] ∨ hexS (byl (prs s (s.length / 2))) ≠ s then ([], false) else (byl (prs s (s.length / 2)), true)) := by
    have hpl := prs_len s (s.length / 2)
    generalize prs s (s.length / 2) = d at *
    unfold p_cmd_Bytes.j0 joinC
    dsimp only
    rw [casts_len]
    by_cases hd : d = []
    · subst hd
      rw [if_pos (.inl rfl)]; rfl
    · have e1 : ((d.length : Int) == 0) = false := by
        have : 0 < d.length := List.length_pos_iff.2 hd
        simp only [beq_eq_false_iff_ne, ne_eq]; omega
      rw [e1, cond_false, bytesOf_casts, cmdHex_eq (by rw [byl_len]; omega) (by rw [byl_len]; omega), Option.bind_some]
      unfold p_cmd_Bytes.j1
      rw [bytesOf_casts]
      by_cases hx : hexS (byl d) = s
      · have e2 : (!hexS (byl d) == s) = false := by simpa using hx
        rw [e2, cond_false, if_neg (by simp [hd, hx])]
      · have e2 : (!hexS (byl d) == s) = true := by simpa using hx
        rw [e2, cond_true, if_pos (.inr hx)]
  have L := loop_count (body := fun (r : List UInt8 × Int × List Int → Option (List UInt8 × Bool)) y => p_cmd_Bytes.b2 k (fun y => p_cmd_Bytes.j0 k y.1 y.2) r y.1 y.2.1 y.2.2) (res := some (if prs s (s.length / 2) = [] ∨ hexS (byl (prs s (s.length / 2))) ≠ s then ([], false) else (byl (prs s (s.length / 2)), true))) (s.length / 2) k
    (fun i => (s, ((2 * i : Nat) : Int), casts (prs s i))) (by omega) ?_ ?_
  · exact L
  · intro i hi rec
    dsimp only
    unfold p_cmd_Bytes.b2
    have ei : IntKind.wrap .i64 (((2 * i : Nat) : Int) + 1) = ((2 * i + 1 : Nat) : Int) := by rw [wrap_i64 (by omega)]; omega
    have ei2 : IntKind.wrap .i64 (((2 * i : Nat) : Int) + 2) = ((2 * (i + 1) : Nat) : Int) := by rw [wrap_i64 (by omega)]; omega
    have h1 : decide (((2 * i + 1 : Nat) : Int) < (s.length : Int)) = true := by simpa using (by omega : ((2 * i + 1 : Nat) : Int) < (s.length : Int))
    have ha := hm_lt s (2 * i)
    have hb := hm_lt s (2 * i + 1)
    have e4 : Max.max (hexv (byt s (2 * i))) 0 = ((hm s (2 * i) : Nat) : Int) := by unfold hm; omega
    have e5 : Max.max (hexv (byt s (2 * i + 1))) 0 = ((hm s (2 * i + 1) : Nat) : Int) := by unfold hm; omega
    have e6 : IntKind.wrap .u8 (IntKind.wrap .i64 (IntKind.wrap .i64 (16 * ((hm s (2 * i) : Nat) : Int)) + ((hm s (2 * i + 1) : Nat) : Int))) = ((16 * hm s (2 * i) + hm s (2 * i + 1) : Nat) : Int) := by
      rw [wrap_i64 (n := 16 * ((hm s (2 * i) : Nat) : Int)) (by omega), wrap_i64 (by omega), wrap_u8]; omega
    rw [ei, h1, cond_true, need_yes (by omega), ← DIG, IndexD, Option.bind_some, need_yes (by omega), IndexD, Option.bind_some, e4, e5, e6, tbD5, need_yes (by rw [casts_len, prs_len]; simp only [List.length_cons, List.length_nil]; omega), ei2, prs_succ]
    simp [casts]
  · intro rec
    dsimp only
    unfold p_cmd_Bytes.b2
    have ei : IntKind.wrap .i64 (((2 * (s.length / 2) : Nat) : Int) + 1) = ((2 * (s.length / 2) + 1 : Nat) : Int) := by rw [wrap_i64 (by omega)]; omega
    have h1 : decide (((2 * (s.length / 2) + 1 : Nat) : Int) < (s.length : Int)) = false := by simpa using (by omega : (s.length : Int) ≤ ((2 * (s.length / 2) + 1 : Nat) : Int))
    rw [ei, h1, cond_false]
    exact tail
theorem prs_hexL {d : List Nat} (hd : ∀ x ∈ d, x < 256) : prs (hexL d) d.length = d := by
  apply List.ext_getElem
  · simp [prs]
  · intro j h1 h2
    have hj : j < d.length := h2
    simp only [prs, List.getElem_map, List.getElem_range]
    have hb := hd d[j] (List.getElem_mem _)
    obtain ⟨a, b⟩ := byt_hexL (l := d) hj
    rw [hm, hm, a, b, hexv_back (by omega), hexv_back (by omega)]; omega
theorem bytR_hex {v : List UInt8} (hv : v ≠ []) : bytR (hexL (natsOf v)) = (v, true) := by
  have hl : (hexL (natsOf v)).length = 2 * v.length := by rw [hexL_len, natsOf_len]
  have h0 : 0 < v.length := List.length_pos_iff.2 hv
  have hp := prs_hexL (natsOf_lt v)
  rw [natsOf_len] at hp
  unfold bytR
  rw [if_neg (fun e => by rw [e] at hl; simp at hl; omega), hl, show 2 * v.length / 2 = v.length from by omega, hp, byl_natsOf]
  have hne : natsOf v ≠ [] := fun e => hv (by have := congrArg List.length e; rw [natsOf_len] at this; exact List.eq_nil_of_length_eq_zero this)
  rw [if_neg (by rw [hexS, if_neg hv]; simp [hne])]

/-! ### a reply's line -/
def may (e : Int) (v : List UInt8) : Bool := decide (0 ≤ e ∧ e ≤ 18 ∧ (e = 0 ∨ v = []))
def lineR (e : Nat) (v : List UInt8) : List UInt8 := decN e ++ (if v = [] then [] else 32 :: hexL (natsOf v))
theorem Check_eq (e : Int) (v : List UInt8) : p_reply_Check (e, v) = some (if may e v then 0 else 2) := by
  unfold p_reply_Check joinC
  dsimp only
  unfold p_reply_Check.j0
  by_cases h1 : e < 0
  · have hm : may e v = false := by simp only [may, decide_eq_false_iff_not]; omega
    have d1 : decide (e < 0) = true := by simpa using h1
    rw [hm, d1]; rfl
  have d1 : decide (e < 0) = false := by simpa using h1
  by_cases h2 : 18 < e
  · have hm : may e v = false := by simp only [may, decide_eq_false_iff_not]; omega
    have d2 : decide (e > 18) = true := by simpa using h2
    rw [hm, d1, d2]; rfl
  have d2 : decide (e > 18) = false := by simpa using (by omega : e ≤ 18)
  by_cases h3 : e = 0
  · have hm : may e v = true := by simp only [may, decide_eq_true_eq]; exact ⟨by omega, by omega, .inl h3⟩
    have d3 : (e != 0) = false := by simpa using h3
    rw [hm, d1, d2, d3]; rfl
  have d3 : (e != 0) = true := by simpa using h3
  by_cases h4 : v = []
  · have hm : may e v = true := by simp only [may, decide_eq_true_eq]; exact ⟨by omega, by omega, .inr h4⟩
    have d4 : (!v == []) = false := by simpa using h4
    rw [hm, d1, d2, d3, d4]; rfl
  · have hm : may e v = false := by simp only [may, decide_eq_false_iff_not]; rintro ⟨_, _, h | h⟩; exact h3 h; exact h4 h
    have d4 : (!v == []) = true := by simpa using h4
    rw [hm, d1, d2, d3, d4]; rfl
theorem May_eq (e : Int) (v : List UInt8) : p_dormouseref39_May (e, v) = some (may e v) := by
  unfold p_dormouseref39_May joinC
  dsimp only
  unfold p_dormouseref39_May.j0
  by_cases h1 : e < 0
  · have hm : may e v = false := by simp only [may, decide_eq_false_iff_not]; omega
    have d1 : decide (e ≥ 0) = false := by simpa using h1
    rw [hm, d1]; rfl
  have d1 : decide (e ≥ 0) = true := by simpa using h1
  by_cases h2 : 18 < e
  · have hm : may e v = false := by simp only [may, decide_eq_false_iff_not]; omega
    have d2 : decide (e ≤ 18) = false := by simpa using h2
    rw [hm, d1, d2]; rfl
  have d2 : decide (e ≤ 18) = true := by simpa using (by omega : e ≤ 18)
  by_cases h3 : e = 0
  · have hm : may e v = true := by simp only [may, decide_eq_true_eq]; exact ⟨by omega, by omega, .inl h3⟩
    have d3 : (e == 0) = true := by simpa using h3
    rw [hm, d1, d2, d3]; rfl
  have d3 : (e == 0) = false := by simpa using h3
  by_cases h4 : v = []
  · have hm : may e v = true := by simp only [may, decide_eq_true_eq]; exact ⟨by omega, by omega, .inr h4⟩
    have d4 : (v == []) = true := by simpa using h4
    rw [hm, d1, d2, d3, d4]; rfl
  · have hm : may e v = false := by simp only [may, decide_eq_false_iff_not]; rintro ⟨_, _, h | h⟩; exact h3 h; exact h4 h
    have d4 : (v == []) = false := by simpa using h4
    rw [hm, d1, d2, d3, d4]; rfl
theorem number_lo : (List.range 10).all (fun (n : Nat) => decide (p_reply_number (n : Int) = some [dig n])) = true := by decide +kernel
theorem number_hi : (List.range 19).all (fun (n : Nat) => decide (n < 10) || decide (p_reply_number (n : Int) = some [dig (n / 10), dig (n % 10)])) = true := by decide +kernel
theorem number_eq {n : Nat} (hn : n < 19) : p_reply_number (n : Int) = some (decN n) := by
  by_cases h : n < 10
  · have := List.all_eq_true.1 number_lo n (by simpa using h)
    rw [decN_lo h]; simpa using this
  · have := List.all_eq_true.1 number_hi n (by simpa using hn)
    rw [decN_hi h, decN_lo (by omega)]
    simpa [h] using this
theorem Text_eq {k : Nat} {e : Int} {v : List UInt8} (hk : v.length < k) (hv : v.length < 100000) : p_reply_Text k (e, v) = some (if may e v then (lineR e.toNat v, 0) else ([], 2)) := by
  unfold p_reply_Text joinC
  dsimp only
  rw [Check_eq, Option.bind_some]
  by_cases hm : may e v = true
  · have hmm := hm
    simp only [may, decide_eq_true_eq] at hmm
    obtain ⟨n, rfl⟩ : ∃ n : Nat, e = (n : Int) := ⟨e.toNat, by omega⟩
    have hn : n < 19 := by omega
    have hdl := decN_len20 (n := n) (by omega)
    have e1 : ((0 : Int) != 0) = false := rfl
    rw [if_pos hm, if_pos hm, e1, cond_false, number_eq hn, Option.bind_some]
    unfold lineR p_reply_Text.j0
    by_cases h0 : v = []
    · subst h0
      have e2 : (!([] : List UInt8) == []) = false := rfl
      rw [e2, cond_false, if_pos rfl, List.append_nil]; rfl
    · have e2 : (!v == []) = true := by simpa using h0
      have hl : (hexS v).length = 2 * v.length := by rw [hexS, if_neg h0, hexL_len, natsOf_len]
      rw [e2, cond_true, cmdHex_eq hk (by omega), Option.bind_some, need_yes (by omega), need_yes (by rw [List.length_append, hl]; simp only [List.length_cons, List.length_nil]; omega), if_neg h0, hexS, if_neg h0]
      rfl
  · have e1 : ((2 : Int) != 0) = true := rfl
    rw [if_neg hm, if_neg hm, e1, cond_true]
theorem Line_eq {k n : Nat} {v : List UInt8} (hk : 20 < k) (hkv : v.length < k) (hn : n < 19) (hv : v.length < 100000) : p_dormouseref39_Line k ((n : Int), v) = some (lineR n v) := by
  unfold p_dormouseref39_Line joinC
  dsimp only
  have e0 : IntKind.wrap .u64 (n : Int) = (n : Int) := by rw [wrap_u64]; omega
  have hdl := decN_len20 (n := n) (by omega)
  rw [e0, Digits20 hk (by omega), Option.bind_some]
  unfold lineR p_dormouseref39_Line.j0
  by_cases h0 : v = []
  · subst h0
    have e2 : (!([] : List UInt8) == []) = false := rfl
    rw [e2, cond_false, if_pos rfl, List.append_nil]
  · have e2 : (!v == []) = true := by simpa using h0
    have hx := refHex_eq (k := k) (d := natsOf v) (by rw [natsOf_len]; exact hkv) (by rw [natsOf_len]; omega) (natsOf_lt v)
    rw [byl_natsOf] at hx
    have hl : (hexL (natsOf v)).length = 2 * v.length := by rw [hexL_len, natsOf_len]
    rw [e2, cond_true, need_yes (by omega), hx, Option.bind_some, need_yes (by rw [List.length_append, hl]; simp only [List.length_cons, List.length_nil]; omega), if_neg h0]
    simp
end Go.Dor
end

section
/- REPLIES PARSED, and the law of their texts, plain. -/
set_option linter.unusedVariables false
set_option linter.unusedSimpArgs false
namespace Go.Dor
open Go.Proofs

/-- which number a text is of -/
def eR (a : List UInt8) : Nat → Int
  | 0 => -1
  | i + 1 => if decN i = a then (i : Int) else eR a i
theorem eR_le (a : List UInt8) : ∀ i : Nat, -1 ≤ eR a i ∧ eR a i < (i : Int) ∨ eR a i = -1
  | 0 => .inr rfl
  | i + 1 => by
    unfold eR
    split
    · exact .inl ⟨by omega, by omega⟩
    · rcases eR_le a i with h | h
      · exact .inl ⟨h.1, by omega⟩
      · exact .inr h
theorem decN_inj {a b : Nat} (ha : a < 1000) (hb : b < 1000) (h : decN a = decN b) : a = b := by
  rw [← numD_decN a (by omega), ← numD_decN b (by omega), h]
theorem eR_dec {n : Nat} (hn : n < 1000) : ∀ i, i < 1000 → n < i → eR (decN n) i = (n : Int)
  | i + 1, hi, h => by
    unfold eR
    by_cases e : i = n
    · subst e; rw [if_pos rfl]
    · rw [if_neg (fun q => e (decN_inj (by omega) hn q))]
      exact eR_dec hn i (by omega) (by omega)
noncomputable def cutR (s : List UInt8) : List UInt8 × List UInt8 :=
  open Classical in if h : (32 : UInt8) ∈ s then (Classical.choose (cut_at h), Classical.choose (Classical.choose_spec (cut_at h))) else (s, [])
theorem cut_oneC {c : UInt8} {a b d e : List UInt8} (h : a ++ c :: b = d ++ c :: e) (ha : c ∉ a) (hd : c ∉ d) : a = d ∧ b = e := by
  induction a generalizing d with
  | nil =>
    cases d with
    | nil => simp at h; exact ⟨rfl, h⟩
    | cons x d => simp at h; exact absurd h.1.symm (by simp at hd; exact fun e => hd.1 e.symm)
  | cons y a ih =>
    cases d with
    | nil => simp at h; exact absurd h.1 (by simp at ha; exact fun e => ha.1 e.symm)
    | cons x d =>
      simp at h ha hd
      obtain ⟨h1, h2⟩ := ih h.2 ha.2 hd.2
      exact ⟨by rw [h.1, h1], h2⟩
theorem cutR_app {a b : List UInt8} (h : (32 : UInt8) ∉ a) : cutR (a ++ 32 :: b) = (a, b) := by
  have hin : (32 : UInt8) ∈ a ++ 32 :: b := by simp
  unfold cutR
  rw [dif_pos hin]
  have hsp := Classical.choose_spec (Classical.choose_spec (cut_at hin))
  generalize Classical.choose (Classical.choose_spec (cut_at hin)) = b' at *
  generalize Classical.choose (cut_at hin) = a' at *
  obtain ⟨e1, e2⟩ := cut_oneC hsp.1 h hsp.2
  rw [e1, e2]
theorem cutR_not {a : List UInt8} (h : (32 : UInt8) ∉ a) : cutR a = (a, []) := by unfold cutR; rw [dif_neg h]
theorem cutR_eq {s : List UInt8} (hs : s.length < 100000) : ∃ q, p_strings_Cut s [(32 : UInt8)] = some ((cutR s).1, (cutR s).2, q) := by
  by_cases h : (32 : UInt8) ∈ s
  · obtain ⟨a, b, rfl, hn⟩ := cut_at h
    rw [cutR_app hn]
    have : (a ++ 32 :: b).length = a.length + b.length + 1 := by simp; omega
    exact ⟨true, CutA hn (by omega)⟩
  · rw [cutR_not h]; exact ⟨false, CutN h⟩
theorem cutR_len {s : List UInt8} : (cutR s).2.length ≤ s.length := by
  by_cases h : (32 : UInt8) ∈ s
  · obtain ⟨a, b, rfl, hn⟩ := cut_at h
    rw [cutR_app hn]; simp; omega
  · rw [cutR_not h]; simp
theorem bytR_len (s : List UInt8) : (bytR s).1.length ≤ s.length := by
  unfold bytR
  split
  · simp
  · split
    · simp
    · rw [byl_len, prs_len]; omega
def okR (line : List UInt8) (e : Int) (v : List UInt8) : Prop := may e v = true ∧ lineR e.toNat v = line
noncomputable def parseR (line : List UInt8) : (Int × List UInt8) × Int :=
  open Classical in if okR line (eR (cutR line).1 19) (bytR (cutR line).2).1 then ((eR (cutR line).1 19, (bytR (cutR line).2).1), 0) else ((0, []), 6)

theorem parse_j0 {k : Nat} {line b : List UInt8} {x : Int × List UInt8} {e : Int} {u : List UInt8} (hb : b.length < k) (hb2 : b.length < 100000) :
    p_reply_Parse.j0 k line b x (e, u) = some (open Classical in if okR line e (bytR b).1 then ((e, (bytR b).1), 0) else ((0, []), 6)) := by
  have hl := bytR_len b
  unfold p_reply_Parse.j0 joinC
  rw [Bytes_eq hb (by omega), Option.bind_some, Text_eq (by omega) (by omega), Option.bind_some]
  dsimp only
  unfold p_reply_Parse.j1
  generalize (bytR b).1 = v at *
  by_cases hm : may e v = true
  · have e0 : ((0 : Int) != 0) = false := rfl
    rw [if_pos hm]
    dsimp only
    rw [e0, cond_false]
    by_cases h : lineR e.toNat v = line
    · have e1 : (!lineR e.toNat v == line) = false := by simpa using h
      rw [e1, cond_false, if_pos ⟨hm, h⟩]
    · have e1 : (!lineR e.toNat v == line) = true := by simpa using h
      rw [e1, cond_true, if_neg (fun q => h q.2)]
  · have e0 : ((2 : Int) != 0) = true := rfl
    rw [if_neg hm]
    dsimp only
    rw [e0, cond_true, cond_true, if_neg (fun q => hm q.1)]
theorem parse_eq {k : Nat} {line : List UInt8} (hk : 20 < k) (hl : line.length < k) (hl2 : line.length < 100000) : p_reply_Parse k line = some (parseR line) := by
  obtain ⟨q, hq⟩ := cutR_eq hl2
  have hcl := cutR_len (s := line)
  unfold p_reply_Parse joinC
  rw [hq, Option.bind_some]
  dsimp only
  unfold parseR
  generalize (cutR line).1 = a at *
  generalize (cutR line).2 = b at *
  have L := loop_count (body := fun (r : List UInt8 × List UInt8 × List UInt8 × Int × (Int × List UInt8) × Int × List UInt8 → Option ((Int × List UInt8) × Int)) y => p_reply_Parse.b2 k (fun y => p_reply_Parse.j0 k y.1 y.2.1 y.2.2.1 y.2.2.2) r y.1 y.2.1 y.2.2.1 y.2.2.2.1 y.2.2.2.2.1 y.2.2.2.2.2)
    (res := some (open Classical in if okR line (eR a 19) (bytR b).1 then ((eR a 19, (bytR b).1), 0) else ((0, []), 6))) 19 k
    (fun i => (line, a, b, (i : Int), ((0 : Int), []), (eR a i, []))) (by omega) ?_ ?_
  · exact L
  · intro i hi rec
    unfold p_reply_Parse.b2 joinC
    have h1 : decide ((i : Int) ≤ 18) = true := by simpa using (by omega : (i : Int) ≤ 18)
    rw [h1, cond_true]
    dsimp only
    rw [number_eq hi, Option.bind_some]
    by_cases h : decN i = a
    · have e1 : (decN i == a) = true := by simpa using h
      rw [e1, cond_true]
      unfold p_reply_Parse.j3
      rw [wrap_i64 (by omega), eR, if_pos h]
      rfl
    · have e1 : (decN i == a) = false := by simpa using h
      rw [e1, cond_false]
      unfold p_reply_Parse.j3
      rw [wrap_i64 (by omega), eR, if_neg h]
      rfl
  · intro rec
    unfold p_reply_Parse.b2
    have h1 : decide (((19 : Nat) : Int) ≤ 18) = false := by decide
    rw [h1, cond_false]
    dsimp only
    exact parse_j0 (by omega) (by omega)

theorem dig_32 {n : Nat} (h : n < 16) : dig n ≠ 32 := by
  have : (List.range 16).all (fun n => decide (dig n ≠ 32)) = true := by decide
  have := List.all_eq_true.1 this n (by simpa using h)
  simpa using this
theorem decN_32 : ∀ (n : Nat), (32 : UInt8) ∉ decN n := by
  intro n
  induction n using Nat.strongRecOn with
  | _ n ih =>
    by_cases h : n < 10
    · rw [decN_lo h]; simpa using (dig_32 (n := n) (by omega)).symm
    · rw [decN_hi h, List.mem_append, not_or]
      exact ⟨ih _ (by omega), by simpa using (dig_32 (n := n % 10) (by omega)).symm⟩
theorem bytR_nil : bytR [] = ([], false) := by
  unfold bytR
  rw [if_neg (by simp), if_pos (.inl rfl)]
/-- a reply's line tells the reply -/
theorem parse_line {n : Nat} {v : List UInt8} (hm : may (n : Int) v = true) : parseR (lineR n v) = (((n : Int), v), 0) := by
  have hmm := hm
  simp only [may, decide_eq_true_eq] at hmm
  have hn : n < 19 := by omega
  have key : eR (cutR (lineR n v)).1 19 = (n : Int) ∧ (bytR (cutR (lineR n v)).2).1 = v := by
    unfold lineR
    by_cases h0 : v = []
    · subst h0
      rw [if_pos rfl, List.append_nil, cutR_not (decN_32 n)]
      dsimp only
      rw [eR_dec (by omega) 19 (by omega) hn, bytR_nil]
      exact ⟨rfl, rfl⟩
    · rw [if_neg h0, cutR_app (decN_32 n)]
      dsimp only
      rw [eR_dec (by omega) 19 (by omega) hn, bytR_hex h0]
      exact ⟨rfl, rfl⟩
  unfold parseR
  rw [key.1, key.2, if_pos ⟨hm, by rw [Int.toNat_natCast]⟩]
theorem parse_good {line : List UInt8} : (∃ (n : Nat) (v : List UInt8), parseR line = (((n : Int), v), 0) ∧ may (n : Int) v = true ∧ lineR n v = line ∧ n < 19 ∧ v.length ≤ line.length) ∨ parseR line = ((0, []), 6) := by
  unfold parseR
  by_cases h : okR line (eR (cutR line).1 19) (bytR (cutR line).2).1
  · have hb := bytR_len (cutR line).2
    have hc := cutR_len (s := line)
    rw [if_pos h]
    obtain ⟨h1, h2⟩ := h
    have hmm := h1
    simp only [may, decide_eq_true_eq] at hmm
    generalize eR (cutR line).1 19 = e at *
    obtain ⟨n, rfl⟩ : ∃ n : Nat, e = (n : Int) := ⟨e.toNat, by omega⟩
    rw [Int.toNat_natCast] at h2
    exact .inl ⟨n, _, rfl, h1, h2, by omega, by omega⟩
  · rw [if_neg h]; exact .inr rfl

set_option maxRecDepth 100000 in
theorem awake39b : p_dormouselaw39_awake 2000 = some true := by kernel_rfl
theorem texts_j2 {line : List UInt8} (hl : line.length ≤ 500) : p_dormouselaw39_ReplyTexts.j2 2000 line = some true := by
  unfold p_dormouselaw39_ReplyTexts.j2 joinC
  rw [parse_eq (by omega) (by omega) (by omega), Option.bind_some, awake39b]
  dsimp only
  rw [Option.bind_some, cond_true]
  rcases parse_good (line := line) with ⟨n, v, h, hm, hline, hn, hv⟩ | h
  · rw [h]
    dsimp only
    have e0 : ((0 : Int) == 0) = true := rfl
    have e1 : (line == line) = true := by simp
    rw [e0, cond_true, May_eq, hm, Option.bind_some, cond_true, Line_eq (by omega) (by omega) hn (by omega), Option.bind_some, hline, e1, cond_true]
    rfl
  · rw [h]
    dsimp only
    have e0 : ((6 : Int) == 0) = false := rfl
    have e1 : ((6 : Int) == 6) = true := rfl
    rw [e0, cond_false, e1, cond_true]
    rfl
theorem lineR_len {n : Nat} {v : List UInt8} (hn : n < 19) : (lineR n v).length ≤ 22 + 2 * v.length := by
  have := decN_len20 (n := n) (by omega)
  unfold lineR
  split
  · simp; omega
  · rw [List.length_append, List.length_cons, hexL_len, natsOf_len]; omega

theorem texts_j1 {a b : List UInt8} {m : Bool} {x : Int × List UInt8} (hl : a.length ≤ 500) (hm : m = true → may x.1 x.2 = true ∧ b = lineR x.1.toNat x.2 ∧ x.2.length ≤ 500) :
    p_dormouselaw39_ReplyTexts.j1 2000 a b m false x = some true := by
  unfold p_dormouselaw39_ReplyTexts.j1 joinC
  rw [cond_false]
  dsimp only
  cases m with
  | false => exact texts_j2 hl
  | true =>
    obtain ⟨h1, h2, h3⟩ := hm rfl
    have hmm := h1
    simp only [may, decide_eq_true_eq] at hmm
    obtain ⟨n, hn⟩ : ∃ n : Nat, x.1 = (n : Int) := ⟨x.1.toNat, by omega⟩
    obtain ⟨e, v⟩ := x
    simp only at hn h1 h2 h3 hmm
    subst hn
    rw [Int.toNat_natCast] at h2
    have hb := lineR_len (n := n) (v := v) (by omega)
    subst h2
    dsimp only
    rw [cond_true, parse_eq (by omega) (by omega) (by omega), Option.bind_some, parse_line h1]
    dsimp only
    have e1 : (((n : Int) == (n : Int)) && (v == v && true)) = true := by simp
    have e2 : ((0 : Int) != 0) = false := rfl
    rw [e1, e2]
    unfold p_dormouselaw39_ReplyTexts.j4
    exact texts_j2 hl
theorem texts_j0 {a : List UInt8} {x : Int × List UInt8} (hl : a.length ≤ 500) (hx : x.2.length ≤ 500) : p_dormouselaw39_ReplyTexts.j0 2000 a false x = some true := by
  unfold p_dormouselaw39_ReplyTexts.j0 joinC
  rw [cond_false]
  obtain ⟨e, v⟩ := x
  dsimp only at hx ⊢
  rw [Text_eq (by omega) (by omega), Option.bind_some, May_eq, Option.bind_some, Check_eq, Option.bind_some]
  by_cases hm : may e v = true
  · have hmm := hm
    simp only [may, decide_eq_true_eq] at hmm
    obtain ⟨n, rfl⟩ : ∃ n : Nat, e = (n : Int) := ⟨e.toNat, by omega⟩
    have e1 : (lineR n v == lineR n v) = true := by simp
    have e0 : ((0 : Int) == 0) = true := rfl
    have e2 : ((0 : Int) != 0) = false := rfl
    rw [hm, if_pos rfl, if_pos rfl, Int.toNat_natCast]
    dsimp only
    rw [Line_eq (by omega) (by omega) (by omega) (by omega), Option.bind_some, e0, e2, e1]
    have key : p_dormouselaw39_ReplyTexts.j1 2000 a (lineR n v) true false ((n : Int), v) = some true := texts_j1 hl (fun _ => ⟨hm, by dsimp only; rw [Int.toNat_natCast], hx⟩)
    exact key
  · have hf : may e v = false := by simpa using hm
    have key : p_dormouselaw39_ReplyTexts.j1 2000 a [] false false (e, v) = some true := texts_j1 hl (fun h => by cases h)
    have e1 : (!(([] : List UInt8) == [])) = false := by simp
    have e2 : ((2 : Int) != 2) = false := rfl
    have e3 : (!((2 : Int) == 0) == false) = false := rfl
    rw [hf]
    simp only [Bool.false_eq_true, if_false]
    rw [e3, e2, e1]
    exact key
theorem law_ReplyTexts (x : Int × List UInt8) (line : List UInt8) : p_dormouselaw39_ReplyTexts 2000 x line = some true := by
  unfold p_dormouselaw39_ReplyTexts joinC
  dsimp only
  have hj : ∀ a y, p_dormouselaw39_ReplyTexts.j0 2000 a true y = some true := by
    intro a y
    unfold p_dormouselaw39_ReplyTexts.j0
    rw [cond_true, awake39b]; rfl
  by_cases h1 : ((x.2.length : Nat) : Int) > 500
  · rw [decide_eq_true h1, cond_true]; exact hj _ _
  · rw [decide_eq_false h1, cond_false]
    by_cases h2 : ((line.length : Nat) : Int) > 500
    · rw [decide_eq_true h2]; exact hj _ _
    · rw [decide_eq_false h2]; exact texts_j0 (by omega) (show x.2.length ≤ 500 by omega)
end Go.Dor
end

section
/- A TEXT SPLIT AT A LETTER, plain. -/
set_option linter.unusedVariables false
set_option linter.unusedSimpArgs false
namespace Go.Dor
open Go.Proofs

/-- the fields of a text -/
def spl (c : UInt8) : List UInt8 → List (List UInt8)
  | [] => [[]]
  | x :: s => if x = c then [] :: spl c s else match spl c s with | [] => [[x]] | a :: r => (x :: a) :: r
theorem spl_not {c : UInt8} : ∀ {a : List UInt8}, c ∉ a → spl c a = [a]
  | [], _ => rfl
  | x :: a, h => by
    have h1 : ¬ x = c := fun e => h (by simp [e])
    have h2 : c ∉ a := fun e => h (by simp [e])
    unfold spl; rw [if_neg h1, spl_not h2]
theorem spl_app {c : UInt8} {b : List UInt8} : ∀ {a : List UInt8}, c ∉ a → spl c (a ++ c :: b) = a :: spl c b
  | [], _ => by show spl c (c :: b) = _; rw [spl, if_pos rfl]
  | x :: a, h => by
    have h1 : ¬ x = c := fun e => h (by simp [e])
    have h2 : c ∉ a := fun e => h (by simp [e])
    show spl c (x :: (a ++ c :: b)) = _
    rw [spl, if_neg h1, spl_app h2]
theorem spl_len {c : UInt8} : ∀ (a : List UInt8), (spl c a).length = Lib.countByte a c + 1
  | [] => by simp [spl, Lib.countByte]
  | x :: a => by
    have ih := spl_len (c := c) a
    unfold spl
    by_cases h : x = c
    · rw [if_pos h, List.length_cons, ih]; simp [Lib.countByte, h]
    · rw [if_neg h]
      cases hs : spl c a with
      | nil => rw [hs] at ih; simp at ih
      | cons y r => rw [hs] at ih; simp [Lib.countByte, h] at ih ⊢; exact ih
theorem spl_le {c : UInt8} (a : List UInt8) : (spl c a).length ≤ a.length + 1 := by
  rw [spl_len]
  have : Lib.countByte a c ≤ a.length := by unfold Lib.countByte; exact List.countP_le_length
  omega
theorem take_set {α : Type} {l : List α} {i : Nat} {x : α} (h : i < l.length) : (l.set i x).take (i + 1) = l.take i ++ [x] := by
  rw [List.take_succ_eq_append_getElem (by simpa using h), List.getElem_set_self, List.take_set_of_le (Nat.le_refl i)]
theorem IndexS {a b : List UInt8} {c : UInt8} (h : c ∉ a) : p_strings_Index (a ++ c :: b) [c] = some (a.length : Int) := by
  unfold p_strings_Index
  rw [IndexC, index_app h]; rfl
theorem split_loop {k : Nat} : ∀ (m : Nat) (s : List UInt8) (a : List (List UInt8)) (i fuel : Nat), Lib.countByte s 10 = m → m < fuel → s.length < 100000 → a.length = i + m + 1 → i + m < 100000 →
    loopC (fun (r : List UInt8 × List UInt8 × Int × Int × Int × List (List UInt8) → Option (List (List UInt8))) y => p_strings_genSplit.b2 k (fun (y : List UInt8 × Int × List (List UInt8)) => p_strings_genSplit.j1 k y.1 y.2.1 y.2.2) r y.1 y.2.1 y.2.2.1 y.2.2.2.1 y.2.2.2.2.1 y.2.2.2.2.2) fuel (s, [(10 : UInt8)], (0 : Int), ((i + m : Nat) : Int), (i : Int), a) = some (a.take i ++ spl 10 s)
  | 0, s, a, i, fuel + 1, hc, _, hl, ha, hi => by
    have hn : (10 : UInt8) ∉ s := by
      unfold Lib.countByte at hc
      exact List.count_eq_zero.1 hc
    unfold loopC
    dsimp only
    unfold p_strings_genSplit.b2
    have h1 : decide ((i : Int) < ((i + 0 : Nat) : Int)) = false := by simp
    rw [h1, cond_false]
    dsimp only
    unfold p_strings_genSplit.j1 lset
    have e1 : IntKind.wrap .i64 ((i : Int) + 1) = ((i + 1 : Nat) : Int) := by rw [wrap_i64 (by omega)]; omega
    rw [e1, need_yes (by omega), need_yes (by rw [List.length_set]; omega), Int.toNat_natCast, Int.toNat_natCast, take_set (by omega), spl_not hn]
  | m + 1, s, a, i, fuel + 1, hc, hf, hl, ha, hi => by
    have hin : (10 : UInt8) ∈ s := by
      unfold Lib.countByte at hc
      exact List.count_pos_iff.1 (by omega)
    obtain ⟨u, b, rfl, hn⟩ := cut_at hin
    have hcb : Lib.countByte b 10 = m := by
      have h2 := spl_len (c := 10) (u ++ 10 :: b)
      rw [spl_app hn, List.length_cons, spl_len, hc] at h2
      omega
    have hlen : (u ++ (10 : UInt8) :: b).length = u.length + b.length + 1 := by simp; omega
    unfold loopC
    dsimp only
    unfold p_strings_genSplit.b2
    have h1 : decide ((i : Int) < ((i + (m + 1) : Nat) : Int)) = true := by simp; omega
    have h2 : decide ((u.length : Int) < 0) = false := by simp
    have h0 : ([(10 : UInt8)].length : Int) = 1 := rfl
    have e1 : IntKind.wrap .i64 ((u.length : Int) + 0) = (u.length : Int) := by rw [wrap_i64 (by omega)]; omega
    have e2 : IntKind.wrap .i64 ((u.length : Int) + 1) = ((u.length + 1 : Nat) : Int) := by rw [wrap_i64 (by omega)]; omega
    have e3 : IntKind.wrap .i64 ((i : Int) + 1) = ((i + 1 : Nat) : Int) := by rw [wrap_i64 (by omega)]; omega
    have s1 : sub_ (u ++ (10 : UInt8) :: b) 0 (u.length : Int) = u := by simp [sub_]
    have s2 : sub_ (u ++ (10 : UInt8) :: b) ((u.length + 1 : Nat) : Int) ((u ++ (10 : UInt8) :: b).length : Int) = b := by
      rw [sub_, Int.toNat_natCast, Int.toNat_natCast, List.take_length, show u.length + 1 = (u ++ [(10 : UInt8)]).length from by simp]
      rw [show u ++ (10 : UInt8) :: b = (u ++ [(10 : UInt8)]) ++ b from by simp, List.drop_left]
    rw [h1, cond_true, IndexS hn, Option.bind_some, h2, cond_false, h0, e1, e2, e3, s1, s2, need_yes (by rw [hlen]; omega), need_yes (by omega), need_yes (by rw [hlen]; omega)]
    have ih := split_loop (k := k) m b (lset a (i : Int) u) (i + 1) fuel hcb (by omega) (by omega) (by unfold lset; rw [List.length_set]; omega) (by omega)
    rw [show i + 1 + m = i + (m + 1) from by omega] at ih
    have hia : i < a.length := by omega
    have hs := take_set (x := u) hia
    unfold p_strings_genSplit.b2 at ih
    rw [ih, spl_app hn]
    clear ih
    unfold lset
    rw [Int.toNat_natCast, hs]
    generalize spl 10 b = z
    generalize a.take i = w
    exact congrArg some (List.append_assoc w [u] z)
set_option maxRecDepth 100000 in
theorem tbD9 : Go.TypeInfo.bytes (Go.Tables.types (Go.Program.toTables Go.Proofs.Tryd.prog))[(9 : Nat)] = 16 := by kernel_rfl
theorem CountS {s : List UInt8} {c : UInt8} : p_strings_Count 2000 s [c] = some ((Lib.countByte s c : Nat) : Int) := by
  unfold p_strings_Count
  have e0 : (([c].length : Int) == 0) = false := rfl
  have e1 : (([c].length : Int) == 1) = true := rfl
  have e2 : bat [c] 0 = (c.toNat : Int) := rfl
  rw [e0, cond_false, e1, cond_true, need_yes (by simp), e2]
  unfold countByteOf
  rw [Int.toNat_natCast]
  simp
theorem Split_eq {s : List UInt8} (hl : s.length < 1000) : p_strings_Split 2000 s [(10 : UInt8)] = some (spl 10 s) := by
  have hle := spl_le (c := 10) s
  rw [spl_len] at hle
  have e0 : ((-1 : Int) == 0) = false := rfl
  have e1 : ([(10 : UInt8)] == []) = false := rfl
  have e2 : decide ((-1 : Int) < 0) = true := by decide
  unfold p_strings_Split p_strings_genSplit joinC
  rw [e0, cond_false, e1, cond_false, e2]
  dsimp only
  rw [cond_true, CountS, Option.bind_some]
  generalize hc : Lib.countByte s 10 = m at *
  have e3 : IntKind.wrap .i64 ((m : Int) + 1) = ((m + 1 : Nat) : Int) := by rw [wrap_i64 (by omega)]; omega
  have e4 : IntKind.wrap .i64 ((s.length : Int) + 1) = ((s.length + 1 : Nat) : Int) := by rw [wrap_i64 (by omega)]; omega
  have e5 : Min.min ((m + 1 : Nat) : Int) ((s.length + 1 : Nat) : Int) = ((m + 1 : Nat) : Int) := by omega
  have e6 : IntKind.wrap .i64 (((m + 1 : Nat) : Int) - 1) = ((0 + m : Nat) : Int) := by rw [wrap_i64 (by omega)]; omega
  unfold p_strings_genSplit.j0 joinC
  rw [e3, e4, e5, e6, tbD9, need_yes (by omega), Int.toNat_natCast]
  have L := split_loop (k := 2000) m s (List.replicate (m + 1) (dflt T.str)) 0 2000 hc (by omega) (by omega) (by simp) (by omega)
  rw [show (((0 : Nat) : Int)) = (0 : Int) from rfl] at L
  dsimp only
  rw [L]
  rfl
end Go.Dor
end

section
/- THE SHELF's CONTRACT FOR strings.Join, LAID AT THIS PROGRAM: the numbers of its functions and types, and that they are what the contract speaks of. -/
namespace Go.Proofs
open Go.Shelf

def Tryd.laysJoin_ren : Go.Shelf.Ren := ⟨fun | 156 => 40 | 165 => 57 | 166 => 52 | 169 => 53 | 240 => 65 | 241 => 70 | 276 => 77 | 277 => 84 | n => n, fun | 31 => 67 | 9 => 9 | 3 => 3 | 4 => 4 | 0 => 0 | 20 => 20 | 72 => 82 | 76 => 85 | 70 => 80 | 37 => 77 | 75 => 84 | 127 => 97 | 164 => 103 | 5 => 5 | 80 => 87 | n => n, fun | n => n⟩
theorem Tryd.laysJoin : Go.Proofs.Lays.n156 Tryd.prog Tryd.laysJoin_ren :=
  {
    mixed := by kernel_rfl,
    f156 := Tryd.func40.trans (congrArg some (by kernel_rfl)),
    f165 := Tryd.func57.trans (congrArg some (by kernel_rfl)),
    f166 := Tryd.func52.trans (congrArg some (by kernel_rfl)),
    f169 := Tryd.func53.trans (congrArg some (by kernel_rfl)),
    f240 := Tryd.func65.trans (congrArg some (by kernel_rfl)),
    f241 := Tryd.func70.trans (congrArg some (by kernel_rfl)),
    f276 := Tryd.func77.trans (congrArg some (by kernel_rfl)),
    f277 := Tryd.func84.trans (congrArg some (by kernel_rfl)),
    t0 := Tryd.underlying0,
    a0 := Tryd.isAgg0,
    z0 := Tryd.sizeOf0,
    v0 := Tryd.zeroValue0,
    t3 := Tryd.underlying3,
    a3 := Tryd.isAgg3,
    z3 := Tryd.sizeOf3,
    v3 := Tryd.zeroValue3,
    t4 := Tryd.underlying4,
    a4 := Tryd.isAgg4,
    z4 := Tryd.sizeOf4,
    v4 := Tryd.zeroValue4,
    t9 := Tryd.underlying9,
    a9 := Tryd.isAgg9,
    z9 := Tryd.sizeOf9,
    v9 := Tryd.zeroValue9,
    t20 := Tryd.underlying20,
    a20 := Tryd.isAgg20,
    z20 := Tryd.sizeOf20,
    v20 := Tryd.zeroValue20,
    t31 := Tryd.underlying67,
    a31 := Tryd.isAgg67,
    z31 := Tryd.sizeOf67,
    v31 := Tryd.zeroValue67,
    t37 := Tryd.underlying77,
    a37 := Tryd.isAgg77,
    z37 := Tryd.sizeOf77,
    v37 := Tryd.zeroValue77,
    t70 := Tryd.underlying80,
    a70 := Tryd.isAgg80,
    z70 := Tryd.sizeOf80,
    v70 := Tryd.zeroValue80,
    t72 := Tryd.underlying82,
    a72 := Tryd.isAgg82,
    z72 := Tryd.sizeOf82,
    v72 := Tryd.zeroValue82,
    t75 := Tryd.underlying84,
    a75 := Tryd.isAgg84,
    z75 := Tryd.sizeOf84,
    v75 := Tryd.zeroValue84,
    t76 := Tryd.underlying85,
    a76 := Tryd.isAgg85,
    z76 := Tryd.sizeOf85,
    v76 := Tryd.zeroValue85,
    t127 := Tryd.underlying97,
    a127 := Tryd.isAgg97,
    z127 := Tryd.sizeOf97,
    v127 := Tryd.zeroValue97,
    t164 := Tryd.underlying103,
    a164 := Tryd.isAgg103,
    z164 := Tryd.sizeOf103,
    v164 := Tryd.zeroValue103 }
end Go.Proofs
end

section
/- ENTRIES GIVEN BY THE SHELF: strings.Join. (Tryd: the seat's alias.) -/
namespace Go.Proofs
open Go.Shelf Go.RowKit

theorem Tryd.extra : Builder.Extra Tryd.prog Tryd.laysJoin_ren := {
  sizeBuilder := by kernel_rfl,
  liesBuilder := by kernel_rfl,
  t5 := by kernel_rfl,
  a5 := fun w => by kernel_rfl,
  z5 := fun w => by kernel_rfl,
  v5 := fun w => by kernel_rfl,
  infoByte := by kernel_rfl,
  cellsByte := by kernel_rfl,
  sizeByte := by kernel_rfl,
  neB5 := by decide }
end Go.Proofs
namespace Go.Dor
open Go.Proofs
open Go.RowKit (Below)
/-- strings.Join, under Go's own limit -/
noncomputable def p_strings_Join (l : List (List UInt8)) (sep : List UInt8) : Option (List UInt8) :=
  need (l.length ≤ 140737488355328) (need ((Lib.join l sep).length ≤ 281474976710656) (some (Lib.join l sep)))
noncomputable def e_strings_Join : Entry := ⟨Ds.mk [Vd.one (Ld.im (T.sl T.str)), Vd.one (Ld.im T.str)] [], Ds.mk [Vd.one (Ld.im T.str)] [], fun x => p_strings_Join x.1 x.2⟩
theorem strs_cells {w : World} {I : Nat → Prop} : ∀ {l : List (List UInt8)} {ys : List (List Value)}, Al2 (At w I .str) l ys → ys = l.map fun a => [sv a]
  | [], ys, h => h.nil_left
  | a :: l, ys, h => by
    obtain ⟨y, ys', rfl, h1, h2⟩ := h.cons_left
    rw [strs_cells h2]
    have h3 : y = [sv a] := h1
    rw [h3]; rfl
theorem flat_sv : ∀ (l : List (List UInt8)), (l.map fun a => [sv a]).flatten = l.map sv
  | [] => rfl
  | a :: l => by rw [List.map_cons, List.flatten_cons, flat_sv l]; rfl
theorem join_calls {w : World} {l : List (List UInt8)} {sep : List UInt8} {v : Value} (h : Rd w v 1 (l.map fun a => [sv a])) (hg : ∀ b, vfoot v = some b → b < w.heap.size) (h1 : l.length ≤ 140737488355328) (h2 : (Lib.join l sep).length ≤ 281474976710656) :
    Calls Tryd.prog (Tryd.laysJoin_ren.f 156) #[v, sv sep] w fun e w' => e = .returned (sv (Lib.join l sep)) ∧ Below w.heap.size w w' := by
  rcases h.2 with ⟨⟨a, rfl⟩, h0⟩ | ⟨b, off, cap, cur, t, fz, rfl, hcap, hb, hc⟩
  · have hl : l = [] := by simpa using h0
    subst hl
    refine (Any.strings_Join_none Tryd.laysJoin Tryd.extra a 0 ⟨sep.toArray⟩ w).mono fun e w' ⟨he, hw⟩ => ⟨he, hw ▸ Below.refl _ _⟩
  · have e1 : ((l.map fun a => (⟨a.toArray⟩ : ByteArray)).map (·.data.toList)) = l := by
      rw [List.map_map]
      exact (List.map_congr_left (fun a _ => rfl)).trans (List.map_id l)
    have k := Any.strings_Join_48 Tryd.laysJoin Tryd.extra b off cap (l.map fun a => (⟨a.toArray⟩ : ByteArray)) ⟨sep.toArray⟩ w (fun j x hx => ?_) (Array.getElem?_eq_some_iff.1 hb).1 (by simpa using h1) (by simpa using hcap) (by rw [e1]; exact h2)
    · rw [e1, List.length_map] at k
      rw [List.length_map]
      exact k
    · have hj : (l.map fun a => [sv a]).flatten[j]? = some (.string x) := by
        rw [flat_sv]
        rw [List.getElem?_map] at hx ⊢
        cases hq : l[j]? with
        | none => rw [hq] at hx; cases hx
        | some a =>
          rw [hq] at hx
          cases hx
          rfl
      have := hc j _ hj
      unfold World.cell?
      simp only [hb]
      exact this
set_option maxRecDepth 100000 in
theorem s_strings_Join : Entry.Sound Tryd.prog (Tryd.laysJoin_ren.f 156) e_strings_Join := ⟨fun x y hy S w g vals hst => by
  obtain ⟨l, sep⟩ := x
  obtain ⟨h1, hy⟩ := need_some hy
  obtain ⟨h2, hy⟩ := need_some hy
  cases hy
  have hrel := hst.rel
  obtain ⟨v0, vs1, rfl, h0, hv1⟩ := hst.vals.cons_left
  obtain ⟨v1, vs2, rfl, hs, hv2⟩ := hv1.cons_left
  obtain rfl := hv2.nil_left
  obtain ⟨v, e, ys, hrd, hal, _⟩ := h0
  cases e
  have hs' : [v1] = [sv sep] := hs
  cases hs'
  rw [strs_cells hal] at hrd
  have hlt := hrd.lt
  refine (join_calls hrd hlt h1 h2).mono fun e w' ⟨he, hb⟩ => ⟨[sv (Lib.join l sep)], g, he, (hrel.below hb).1, ⟨rfl, trivial⟩, fun _ _ => rfl⟩⟩
end Go.Dor
end

section
/- ENTRIES GIVEN BY THE SHELF: strings.Builder's copyCheck and String. (Tryd: the seat's alias.) -/
set_option linter.unusedVariables false
namespace Go.Proofs
open Go.Shelf Go.RowKit
section
variable {P : Program} {ρ : Ren}

theorem run_loadBytesI (w : World) : ∀ (l : List Int) (a : Addr) (acc : ByteArray), (∀ (j : Nat) n, l[j]? = some n → w.cell? (a.add j) = some (.int .u8 n)) →
    (loadBytes a acc l.length).run P w = .ok ⟨acc.data ++ (Dor.bytesOf l).toArray⟩ w
  | [], a, acc, _ => by simp [loadBytes, Dor.bytesOf]
  | x :: l, a, acc, h => by
    have h0 : w.cell? a = some (.int .u8 x) := by
      have := h 0 x rfl
      simpa [Addr.add] using this
    have ih := run_loadBytesI w l (a.add 1) (acc.push x.toNat.toUInt8) (fun j y hy => by
      have := h (j + 1) y (by simpa using hy)
      have e : (a.add 1).add j = a.add (j + 1) := by
        unfold Addr.add
        by_cases hj : j = 0
        · subst hj; simp
        · simp [hj]; omega
      rw [e]; exact this)
    simp only [List.length_cons, loadBytes, Sem.run_bind, run_load, h0, Result.andThen]
    rw [ih]
    congr 1
    apply ByteArray.ext
    simp [ByteArray.push, Dor.bytesOf]
theorem run_unsafeString_rowI (w : World) (pt it ty e : TypeId) (hp : P.underlying pt = some (.pointer e)) (hc : P.cellsOf e = 1) (g cells : Nat) (hsh : w.shape? g = some (e, cells)) (l : List Int) (h0 : l ≠ []) (hn : l.length ≤ cells) (h63 : l.length ≤ 9223372036854775807)
    (hcell : ∀ (j : Nat) n, l[j]? = some n → w.cell? ((⟨g, 0, none⟩ : Addr).add j) = some (.int .u8 n)) :
    (Builtin.unsafeString_ #[pt, it] ty #[.pointer (some ⟨g, 0, none⟩), .int .i64 l.length]).run P w = .ok (.string ⟨(Dor.bytesOf l).toArray⟩) (w.freeze ⟨g, 0, none⟩ l.length) := by
  have hl : l.length ≠ 0 := by simpa using h0
  have hlb := run_loadBytesI (P := P) w l ⟨g, 0, none⟩ .empty hcell
  have hlies := Lib.liesAt_bytes (P := P) hc (cells / P.cellsOf e) l.length (by rw [hc]; simpa using hn)
  have h63' : ¬ (9223372036854775807 : Int) < (l.length : Int) := by omega
  obtain ⟨m1, m2, m3, hdef⟩ : ∃ m1 m2 m3, Builtin.unsafeString_ #[pt, it] ty #[.pointer (some ⟨g, 0, none⟩), .int .i64 l.length] =
      (do
        let n ← asInt (.int .i64 l.length)
        if n < 0 then runtimePanic m1
        if n > IntKind.i64.max then unsupported m2
        if n = 0 then pure (.string .empty)
        else if ← variablesAt ⟨g, 0, none⟩ (← elemOf pt) n.toNat then do
          let s ← loadBytes ⟨g, 0, none⟩ .empty n.toNat
          freeze ⟨g, 0, none⟩ n.toNat
          pure (.string s)
        else unsupported m3) := ⟨_, _, _, rfl⟩
  rw [hdef]
  have hmax : IntKind.i64.max = 9223372036854775807 := rfl
  have hneg : ¬ (l.length : Int) < 0 := by omega
  simp [asInt, asIntOf, hmax, h63', hneg, hl, variablesAt, hsh, elemOf, run_underlying hp, hlies, hlb]
theorem grown_freeze (w : World) (g n : Nat) : w.grownBy (w.drew.freeze ⟨g, 0, none⟩ n) (some g) := by
  unfold World.freeze
  split
  · exact ⟨rfl, rfl, rfl, Nat.le_refl _, fun _ _ _ => rfl⟩
  · refine ⟨rfl, rfl, rfl, ?_, fun k hk hne => ?_⟩
    · simp only [Array.size_modify]
      exact Nat.le_refl _
    · have : ¬ g = k := fun e => hne (by rw [e])
      simp only [Array.getElem?_modify]
      rw [if_neg this]
      rfl
set_option maxHeartbeats 2000000 in
set_option maxRecDepth 100000 in
theorem bld_some (L : Lays.n169 P ρ) (X : Builder.Extra P ρ) (b g cap : Nat) (p : Value) (fz : Nat × Nat) (cur : Array Value) (l : List Int) (w : World) (hbk : w.heap[b]? = some (.cells #[p, .slice (some ⟨g, 0, none⟩) l.length cap] (ρ.t 72) (0, 0)))
    (h0 : l ≠ []) (hg : w.heap[g]? = some (.cells cur (ρ.t 5) fz)) (hnc : l.length ≤ cap) (hcm : cap ≤ maxLen) (hcs : cur.size = cap * 1) (hx : ∀ (j : Nat) x, l[j]? = some x → cur[j]? = some (.int .u8 x)) :
    Calls P (ρ.f 169) #[.pointer (some ⟨b, 0, none⟩)] w fun e w' => e = .returned (.string ⟨(Dor.bytesOf l).toArray⟩) ∧ w.grownBy w' (some g) := by
  have hl0 : l.length ≠ 0 := by simpa using h0
  have c1 : w.drew.cell? ⟨b, 1, none⟩ = some (.slice (some ⟨g, 0, none⟩) l.length cap) := by
    have : w.drew.heap[b]? = some (.cells #[p, .slice (some ⟨g, 0, none⟩) l.length cap] (ρ.t 72) (0, 0)) := hbk
    rw [Lib.cell_of_heap this]; rfl
  have hSD : (Builtin.unsafeSliceData_ #[(ρ.t 37)] (ρ.t 127) #[.slice (some ⟨g, 0, none⟩) l.length cap]).run P w.drew = .ok (.pointer (some ⟨g, 0, none⟩)) w.drew :=
    Lib.run_unsafeSliceData_row _ _ _ _ _ _ (by omega)
  have hUS : (Builtin.unsafeString_ #[(ρ.t 127), (ρ.t 3)] (ρ.t 9) #[.pointer (some ⟨g, 0, none⟩), .int .i64 l.length]).run P w.drew = .ok (.string ⟨(Dor.bytesOf l).toArray⟩) (w.drew.freeze ⟨g, 0, none⟩ l.length) := by
    refine run_unsafeString_rowI w.drew (ρ.t 127) (ρ.t 3) (ρ.t 9) (ρ.t 5) L.t127 X.cellsByte g cur.size (by have hg' : w.drew.heap[g]? = some (.cells cur (ρ.t 5) fz) := hg; simp [World.shape?, hg']) l h0 (by omega) (by unfold maxLen at hcm; omega) ?_
    intro j x hj
    have hg' : w.drew.heap[g]? = some (.cells cur (ρ.t 5) fz) := hg
    rw [Dor.add_lit, Nat.zero_add]
    unfold World.cell?
    simp only [hg']
    exact hx j x hj
  have hfin := grown_freeze w g l.length
  have mixed := L.mixed
  have t72 := L.t72; have a72 := L.a72; have z72 := L.z72; have v72 := L.v72; have u72 := run_underlying L.t72
  have t70 := L.t70; have a70 := L.a70; have z70 := L.z70; have v70 := L.v70; have u70 := run_underlying L.t70
  have t37 := L.t37; have a37 := L.a37; have z37 := L.z37; have v37 := L.v37; have u37 := run_underlying L.t37
  have t127 := L.t127; have a127 := L.a127; have z127 := L.z127; have v127 := L.v127; have u127 := run_underlying L.t127
  have t3 := L.t3; have a3 := L.a3; have z3 := L.z3; have v3 := L.v3; have u3 := run_underlying L.t3
  have t9 := L.t9; have a9 := L.a9; have z9 := L.z9; have v9 := L.v9; have u9 := run_underlying L.t9
  have t5 := X.t5; have a5 := X.a5; have z5 := X.z5; have v5 := X.v5; have u5 := run_underlying X.t5
  go_enter L.f169, Body.n169_ntmps ρ
  go_wp2
  go_region_o
  all_goals (go_wp2; go_ret; exact ⟨rfl, hfin⟩)
set_option maxHeartbeats 2000000 in
set_option maxRecDepth 100000 in
theorem bld_stay (L : Lays.n169 P ρ) (X : Builder.Extra P ρ) (B b : Nat) (a : Option Addr) (q : Option Addr) (p : Value) (w : World) (hbk : w.heap[b]? = some (.cells #[p, .slice a 0 0] (ρ.t 72) (0, 0)))
    (hSD : (Builtin.unsafeSliceData_ #[(ρ.t 37)] (ρ.t 127) #[.slice a 0 0]).run P w.drew = .ok (.pointer q) w.drew) :
    Calls P (ρ.f 169) #[.pointer (some ⟨b, 0, none⟩)] w fun e w' => e = .returned (.string ⟨#[]⟩) ∧ Below B w w' := by
  have hUS := Any.unsafeString_none L X
  have c1 : w.drew.cell? ⟨b, 1, none⟩ = some (.slice a 0 0) := by
    have : w.drew.heap[b]? = some (.cells #[p, .slice a 0 0] (ρ.t 72) (0, 0)) := hbk
    rw [Lib.cell_of_heap this]; rfl
  have mixed := L.mixed
  have t72 := L.t72; have a72 := L.a72; have z72 := L.z72; have v72 := L.v72; have u72 := run_underlying L.t72
  have t70 := L.t70; have a70 := L.a70; have z70 := L.z70; have v70 := L.v70; have u70 := run_underlying L.t70
  have t37 := L.t37; have a37 := L.a37; have z37 := L.z37; have v37 := L.v37; have u37 := run_underlying L.t37
  have t127 := L.t127; have a127 := L.a127; have z127 := L.z127; have v127 := L.v127; have u127 := run_underlying L.t127
  have t3 := L.t3; have a3 := L.a3; have z3 := L.z3; have v3 := L.v3; have u3 := run_underlying L.t3
  have t9 := L.t9; have a9 := L.a9; have z9 := L.z9; have v9 := L.v9; have u9 := run_underlying L.t9
  have t5 := X.t5; have a5 := X.a5; have z5 := X.z5; have v5 := X.v5; have u5 := run_underlying X.t5
  go_enter L.f169, Body.n169_ntmps ρ
  go_wp2
  go_region_o
  all_goals (go_wp2; go_ret; exact ⟨rfl, Below.drew (Below.refl B w)⟩)
set_option maxHeartbeats 2000000 in
set_option maxRecDepth 100000 in
theorem bld_new (L : Lays.n169 P ρ) (X : Builder.Extra P ρ) (B b : Nat) (a : Addr) (p : Value) (w : World) (hBw : B ≤ w.heap.size) (hbk : w.heap[b]? = some (.cells #[p, .slice (some a) 0 0] (ρ.t 72) (0, 0)))
    (hSD : (Builtin.unsafeSliceData_ #[(ρ.t 37)] (ρ.t 127) #[.slice (some a) 0 0]).run P w.drew = .ok (.pointer (some ⟨w.drew.heap.size, 0, none⟩)) (w.drew.alloc (.view a (ρ.t 5)))) :
    Calls P (ρ.f 169) #[.pointer (some ⟨b, 0, none⟩)] w fun e w' => e = .returned (.string ⟨#[]⟩) ∧ Below B w w' := by
  have hUS := Any.unsafeString_none L X
  have hlt : b < w.heap.size := by
    rcases Nat.lt_or_ge b w.heap.size with h' | h'
    · exact h'
    · simp [Array.getElem?_eq_none h'] at hbk
  have c1 : w.drew.cell? ⟨b, 1, none⟩ = some (.slice (some a) 0 0) := by
    have : w.drew.heap[b]? = some (.cells #[p, .slice (some a) 0 0] (ρ.t 72) (0, 0)) := hbk
    rw [Lib.cell_of_heap this]; rfl
  have c2 : (w.drew.alloc (.view a (ρ.t 5))).cell? ⟨b, 1, none⟩ = some (.slice (some a) 0 0) := by
    have : (w.drew.alloc (.view a (ρ.t 5))).heap[b]? = _ := (Lib.alloc_old w.drew _ b hlt).trans hbk
    rw [Lib.cell_of_heap this]; rfl
  have c3 : (w.alloc (.view a (ρ.t 5))).drew.cell? ⟨b, 1, none⟩ = some (.slice (some a) 0 0) := c2
  have c0 : w.cell? ⟨b, 1, none⟩ = some (.slice (some a) 0 0) := c1
  have mixed := L.mixed
  have t72 := L.t72; have a72 := L.a72; have z72 := L.z72; have v72 := L.v72; have u72 := run_underlying L.t72
  have t70 := L.t70; have a70 := L.a70; have z70 := L.z70; have v70 := L.v70; have u70 := run_underlying L.t70
  have t37 := L.t37; have a37 := L.a37; have z37 := L.z37; have v37 := L.v37; have u37 := run_underlying L.t37
  have t127 := L.t127; have a127 := L.a127; have z127 := L.z127; have v127 := L.v127; have u127 := run_underlying L.t127
  have t3 := L.t3; have a3 := L.a3; have z3 := L.z3; have v3 := L.v3; have u3 := run_underlying L.t3
  have t9 := L.t9; have a9 := L.a9; have z9 := L.z9; have v9 := L.v9; have u9 := run_underlying L.t9
  have t5 := X.t5; have a5 := X.a5; have z5 := X.z5; have v5 := X.v5; have u5 := run_underlying X.t5
  go_enter L.f169, Body.n169_ntmps ρ
  go_wp2
  go_region_o
  all_goals (go_wp2; go_ret; exact ⟨rfl, (Below.drew (Below.refl B w)).alloc hBw _⟩)
/-- what SliceData tells of a slice without room -/
theorem run_slice0 (L : Lays.n169 P ρ) (a : Addr) (w : World) (ha : a.block < w.heap.size) :
    (Builtin.unsafeSliceData_ #[(ρ.t 37)] (ρ.t 127) #[.slice (some a) 0 0]).run P w = .ok (.pointer (some a)) w ∨
    (Builtin.unsafeSliceData_ #[(ρ.t 37)] (ρ.t 127) #[.slice (some a) 0 0]).run P w = .ok (.pointer (some ⟨w.heap.size, 0, none⟩)) (w.alloc (.view a (ρ.t 5))) := by
  by_cases hs : ∃ sh, w.shape? a.block = some sh
  · obtain ⟨sh, hs⟩ := hs
    exact .inr (Lib.run_unsafeSliceData_zero w _ _ (ρ.t 5) L.t127 a 0 sh hs)
  · have h2 : w.shape? a.block = none := by
      cases h : w.shape? a.block with
      | none => rfl
      | some sh => exact absurd ⟨sh, h⟩ hs
    have hdef : Builtin.unsafeSliceData_ #[(ρ.t 37)] (ρ.t 127) #[.slice (some a) 0 0] =
        (do
          if (0 : Nat) ≠ 0 then pure (.pointer (some a))
          else if (← viewAt a.block).isSome then pure (.pointer (some a))
          else pure (.pointer (some ⟨← newObj (.view a (← elemOf (ρ.t 127))), 0, none⟩))) := rfl
    obtain ⟨o, ho⟩ : ∃ o, w.heap[a.block]? = some o := ⟨_, Array.getElem?_eq_getElem ha⟩
    rw [hdef]
    have hr : (∀ c t fz, o ≠ .cells c t fz) → Sem.run P (Sem.getObj a.block Sem.pure) w = .ok o w := by
      intro hc
      cases o with
      | cells c t fz => exact absurd rfl (hc c t fz)
      | _ => simp only [Sem.run, ho]
    cases o with
    | cells c t fz => exact absurd ⟨(t, c.size), by simp [World.shape?, ho]⟩ hs
    | view a' t' => exact .inl (by simp [viewAt, h2, getObj, hr (by intros; simp)])
    | _ => exact .inr (by simp [viewAt, h2, getObj, hr (by intros; simp), elemOf, run_underlying L.t127])
end
theorem Tryd.laysStr : Lays.n169 Tryd.prog Tryd.laysJoin_ren := { Tryd.laysJoin with }
theorem Tryd.laysCheck : Lays.n240 Tryd.prog Tryd.laysJoin_ren := { Tryd.laysJoin with }
end Go.Proofs
namespace Go.Dor
open Go.Proofs
open Go.RowKit (Below)
/-- a builder, and its letters -/
def bldO (ty te : TypeId) : List Od := [Od.blk ty [Ld.mp 0 0, Ld.own 1], Od.arr te (T.int .u8)]
def p_Builder_copyCheck (x : List Int) : Option (List Int) := some x
def p_Builder_String (x : List Int) : Option (List UInt8) := some (bytesOf x)
noncomputable def e_Builder_copyCheck : Entry := ⟨Ds.mk [Vd.one (Ld.ptr 0 0)] [Od.blk (Tryd.laysJoin_ren.t 72) [Ld.mp 0 0, Ld.own 1], Od.arr (Tryd.laysJoin_ren.t 5) (T.int .u8)], Ds.mk [] [Od.blk (Tryd.laysJoin_ren.t 72) [Ld.mp 0 0, Ld.own 1], Od.arr (Tryd.laysJoin_ren.t 5) (T.int .u8)], fun x => p_Builder_copyCheck x⟩
noncomputable def e_Builder_String : Entry := ⟨Ds.mk [Vd.one (Ld.ptr 0 0)] [Od.blk (Tryd.laysJoin_ren.t 72) [Ld.mp 0 0, Ld.own 1], Od.arr (Tryd.laysJoin_ren.t 5) (T.int .u8)], Ds.mk [Vd.one (Ld.im T.str)] [Od.gone, Od.gone], fun x => p_Builder_String x⟩
theorem bld_start {x : List Int} {S : Nat → Prop} {w : World} {g : Nat → Value} {vals : List Value} {ty te : TypeId}
    (hst : Start (Ds.mk [Vd.one (Ld.ptr 0 0)] (bldO ty te)) x S w g vals) :
    ∃ b p v ys, vals = [.pointer (some ⟨b, 0, none⟩)] ∧ g 0 = .pointer (some ⟨b, 0, none⟩) ∧ g 1 = v ∧ w.heap[b]? = some (.cells #[p, v] ty (0, 0)) ∧ (p = .pointer none ∨ p = .pointer (some ⟨b, 0, none⟩)) ∧
      v.oneCell' = true ∧ v.cells = #[v] ∧ Own w v te 1 ys ∧ ys = x.map fun n => [.int .u8 n] := by
  have hrel := hst.rel
  obtain ⟨v0, vs1, rfl, h0, hv1⟩ := hst.vals.cons_left
  obtain rfl := hv1.nil_left
  obtain ⟨_, b, hb, hv0⟩ := h0
  cases hv0
  obtain ⟨b', s, hg0, hbk, hls⟩ := hrel.obj 0 (.blk ty [.mp 0 0, .own 1]) rfl
  obtain ⟨ys, hown, hal⟩ := hrel.obj 1 (.arr te (.int .u8) x) rfl
  have hb : g 0 = _ := hb
  rw [hb] at hg0
  cases hg0
  obtain ⟨c0, s1, rfl, hm, hls⟩ := hls.cons_left
  obtain ⟨c1, s2, rfl, ho, hls⟩ := hls.cons_left
  obtain rfl := hls.nil_left
  obtain ⟨_, v, rfl, hone, hcells, hlive⟩ := ho
  have hv : v = g 1 := hlive (by show lives _ 1; rfl)
  subst hv
  obtain ⟨p, rfl, hp⟩ : ∃ p, c0 = [p] ∧ (p = .pointer none ∨ p = .pointer (some ⟨b, 0, none⟩)) := by
    rcases hm with hm | ⟨_, b2, hb2, hm⟩
    · exact ⟨_, hm, .inl rfl⟩
    · have hb2 : g 0 = _ := hb2
      rw [hb] at hb2
      cases hb2
      exact ⟨_, hm, .inr rfl⟩
  exact ⟨b, p, g 1, ys, rfl, hb, rfl, hbk, hp, hone, hcells, hown, al2_nums hal⟩
theorem set_grown {w : World} {b : Nat} (v : Value) : w.grownBy (w.setCell ⟨b, 0, none⟩ v) (some b) := by
  unfold World.setCell
  refine ⟨rfl, rfl, rfl, ?_, fun k hk hne => ?_⟩
  · simp only [Array.size_modify]
    exact Nat.le_refl _
  · have : ¬ b = k := fun e => hne (by rw [e])
    simp only [Array.getElem?_modify]
    rw [if_neg this]
theorem set_cell0 {w : World} {b : Nat} {p v q : Value} {ty : TypeId} (h : w.heap[b]? = some (.cells #[p, v] ty (0, 0))) : (w.setCell ⟨b, 0, none⟩ q).heap[b]? = some (.cells #[q, v] ty (0, 0)) := by
  unfold World.setCell
  simp only [Array.getElem?_modify, if_pos, h, Option.map_some]
  rfl
set_option maxRecDepth 100000 in
theorem s_Builder_copyCheck : Entry.Sound Tryd.prog (Tryd.laysJoin_ren.f 240) e_Builder_copyCheck := ⟨fun x y hy S w g vals hst => by
  cases hy
  have hrel := hst.rel
  obtain ⟨b, p, v, ys, rfl, hb, hg1, hbk, hp, hone, hcells, hown, hys⟩ := bld_start hst
  have live0 : lives (givenO e_Builder_copyCheck.pre id x) 0 := rfl
  have c0 : w.cell? ⟨b, 0, none⟩ = some p := by rw [Lib.cell_of_heap hbk]; rfl
  rcases hp with rfl | rfl
  · refine (Any.Builder_copyCheck_fresh Tryd.laysCheck Tryd.extra.toX72 b w c0 (by simp [World.shape?, hbk]) (by simp [World.frozen?, hbk])).mono fun e w' ⟨he, hw⟩ => ?_
    subst hw
    have hs := hrel.set (id := 0) live0 (.blk (Tryd.laysJoin_ren.t 72) [.mp 0 0, .own 1]) (w' := w.setCell ⟨b, 0, none⟩ (.pointer (some ⟨b, 0, none⟩))) (by rw [show foot (g 0) = some b from by rw [hb]; rfl]; exact set_grown _) fun le =>
      ⟨b, [[.pointer (some ⟨b, 0, none⟩)], [v]], hb, set_cell0 hbk, .inr ⟨Nat.zero_lt_succ _, b, hb, rfl⟩, ⟨Nat.succ_lt_succ (Nat.zero_lt_succ _), v, rfl, hone, hcells, fun _ => hg1.symm⟩, trivial⟩
    exact ⟨[], g, he, hs.1, trivial, fun _ _ => rfl⟩
  · refine (Any.Builder_copyCheck_used Tryd.laysCheck Tryd.extra.toX72 b w c0).mono fun e w' ⟨he, hw⟩ => ?_
    subst hw
    exact ⟨[], g, he, hrel, trivial, fun _ _ => rfl⟩⟩
theorem flat_ints : ∀ x : List Int, (x.map fun n => [Value.int .u8 n]).flatten = x.map fun n => Value.int .u8 n
  | [] => rfl
  | a :: l => by rw [List.map_cons, List.flatten_cons, flat_ints l]; rfl
set_option maxRecDepth 100000 in
theorem s_Builder_String : Entry.Sound Tryd.prog (Tryd.laysJoin_ren.f 169) e_Builder_String := ⟨fun (x : List Int) y hy S w g vals hst => by
  cases hy
  have hrel := hst.rel
  obtain ⟨b, p, v, ys, rfl, hb, hg1, hbk, hp, hone, hcells, hown, hys⟩ := bld_start hst
  have live1 : lives (givenO e_Builder_String.pre id x) 1 := rfl
  have same : ∀ (e : Ending) (w' : World), e = .returned (.string ⟨#[]⟩) ∧ Below w.heap.size w w' → x = [] →
      ∃ vs g', e = .returned (one vs) ∧ Rel (lentOf (givenO e_Builder_String.pre id x) g) S w (givenO e_Builder_String.post id (bytesOf x)) g' w' ∧
        Al2 (Rv (memOf (lentOf (givenO e_Builder_String.pre id x) g) S w (givenO e_Builder_String.post id (bytesOf x)) g' w')) (givenV e_Builder_String.post id (bytesOf x)).1 vs ∧ ∀ i, i < e_Builder_String.pre.objs.length → g' i = g i := by
    intro e w' ⟨he, hw⟩ hx
    subst hx
    exact ⟨[.string ⟨#[]⟩], g, he, (((hrel.below hw).1.drop 0).1.drop 1).1, ⟨rfl, trivial⟩, fun _ _ => rfl⟩
  have zero : ∀ a : Addr, v = .slice (some a) 0 0 → a.block < w.heap.size → x = [] → Calls Tryd.prog (Tryd.laysJoin_ren.f 169) [Value.pointer (some ⟨b, 0, none⟩)].toArray w fun e w' => e = .returned (.string ⟨#[]⟩) ∧ Below w.heap.size w w' := by
    intro a hv ha hx
    rw [hv] at hbk
    rcases run_slice0 Tryd.laysStr a w.drew ha with h1 | h1
    · exact bld_stay Tryd.laysStr Tryd.extra w.heap.size b (some a) (some a) p w hbk h1
    · exact bld_new Tryd.laysStr Tryd.extra w.heap.size b a p w (Nat.le_refl _) hbk h1
  rcases hown.2 with ⟨⟨a, hva, hlt⟩, hys0⟩ | ⟨g1, cap, cur, fz, hv, hnc, hcm, hgc, hfz, hcs, hx⟩
  · have hx0 : x = [] := by
      rw [hys] at hys0
      exact List.map_eq_nil_iff.1 hys0
    cases a with
    | none =>
      rw [hva] at hbk
      exact (Any.Builder_String_nil Tryd.laysStr Tryd.extra w.heap.size b p w hbk).mono fun e w' h => same e w' h hx0
    | some a => exact (zero a hva (hlt a rfl) hx0).mono fun e w' h => same e w' h hx0
  · have hl : ys.length = x.length := by rw [hys, List.length_map]
    by_cases hx0 : x = []
    · rw [hl, hx0] at hv
      by_cases hc0 : cap = 0
      · subst hc0
        exact (zero _ hv (heap_lt hgc) hx0).mono fun e w' h => same e w' h hx0
      · have hbk2 := hbk
        rw [hv] at hbk2
        exact (Any.Builder_String_room Tryd.laysStr Tryd.extra w.heap.size b g1 cap p w hc0 hbk2).mono fun e w' h => same e w' h hx0
    · have hbk2 := hbk
      rw [hv, hl] at hbk2
      have hc0 : cap ≠ 0 := by
        intro h
        have : x.length ≠ 0 := by simpa using hx0
        omega
      have hfoot : foot (g 1) = some g1 := by
        rw [hg1, hv]
        simp [foot, vfoot, hc0]
      have hcel : ∀ (j : Nat) n, x[j]? = some n → cur[j]? = some (.int .u8 n) := by
        intro j n hj
        refine hx j _ ?_
        have e : ys.flatten = x.map fun n => Value.int .u8 n := by
          rw [hys]; exact flat_ints x
        rw [e, List.getElem?_map, hj]
        rfl
      refine (bld_some Tryd.laysStr Tryd.extra b g1 cap p fz cur x w hbk2 hx0 hgc (by omega) hcm hcs hcel).mono fun e w' ⟨he, hw⟩ => ?_
      have hs := hrel.set (id := 1) live1 .gone (w' := w') (by rw [hfoot]; exact hw) fun _ => trivial
      exact ⟨[.string ⟨(bytesOf x).toArray⟩], g, he, (hs.1.drop 0).1, ⟨rfl, trivial⟩, fun _ _ => rfl⟩⟩
end Go.Dor
end
