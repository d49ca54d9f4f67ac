/- PART 7 OF WHAT THE ROW STANDS ON: the texts We Ea Eb Ec Ed, one behind the other. -/
import Derived.Test.YtpbcchljlhkonaaX85
import Derived.KernelRfl
import Derived.Test.YtpbcchljlhkonaaX86
section
/- The functions that the law calls, as the machine shows them. -/
namespace Go.Dor
open Go.Proofs
set_option maxRecDepth 100000
set_option linter.unusedVariables false
noncomputable section

/- dormouse/image.each: function 64 -/
noncomputable def p_image_each.j0 (k : Nat) (x1545 : List (Int × Vector Int (32) × (Bool × List UInt8) × Vector Int (32) × Int)) : Option (List (Int × Vector Int (32) × (Bool × List UInt8) × Vector Int (32) × Int)) :=
  some x1545
noncomputable def p_image_each.b1 (k : Nat) (j1546 : List (Int × Vector Int (32) × (Bool × List UInt8) × Vector Int (32) × Int) → Option (List (Int × Vector Int (32) × (Bool × List UInt8) × Vector Int (32) × Int))) (rec1543 : List (Vector Int (32) × List UInt8) × Int × Int × List (Int × Vector Int (32) × (Bool × List UInt8) × Vector Int (32) × Int) → Option (List (Int × Vector Int (32) × (Bool × List UInt8) × Vector Int (32) × Int))) (x1535 : List (Vector Int (32) × List UInt8)) (x1536 : Int) (x1537 : Int) (x1538 : List (Int × Vector Int (32) × (Bool × List UInt8) × Vector Int (32) × Int)) : Option (List (Int × Vector Int (32) × (Bool × List UInt8) × Vector Int (32) × Int)) :=
  bif (decide (x1537 < x1536)) then need ((0 : Int) ≤ x1537 ∧ x1537 < (↑(List.length x1535) : Int)) (Option.bind (p_entry_Get (Prod.snd (at_ (dflt (T.pair (T.arr (32) (T.int IntKind.u8)) T.str)) x1535 x1537))) fun t1540 => Option.bind (p_record_Prev (Prod.fst (at_ (dflt (T.pair (T.arr (32) (T.int IntKind.u8)) T.str)) x1535 x1537)) (Prod.fst (Prod.fst t1540), Prod.snd (Prod.fst t1540))) fun t1541 => need ((List.length x1538 + List.length [(Prod.fst t1541, Prod.fst (Prod.snd t1541), (Prod.fst (Prod.fst (Prod.snd (Prod.snd t1541))), Prod.snd (Prod.fst (Prod.snd (Prod.snd t1541)))), Prod.fst (Prod.snd (Prod.snd (Prod.snd t1541))), Prod.snd (Prod.snd (Prod.snd (Prod.snd t1541))))]) * (104 : Nat) ≤ (140737488355328 : Nat)) (rec1543 (x1535, x1536, IntKind.wrap IntKind.i64 (x1537 + (1 : Int)), x1538 ++ [(Prod.fst t1541, Prod.fst (Prod.snd t1541), (Prod.fst (Prod.fst (Prod.snd (Prod.snd t1541))), Prod.snd (Prod.fst (Prod.snd (Prod.snd t1541)))), Prod.fst (Prod.snd (Prod.snd (Prod.snd t1541))), Prod.snd (Prod.snd (Prod.snd (Prod.snd t1541))))]))) else j1546 x1538
noncomputable def p_image_each (k : Nat) (x1534 : List (Vector Int (32) × List UInt8)) : Option (List (Int × Vector Int (32) × (Bool × List UInt8) × Vector Int (32) × Int)) :=
  joinC (p_image_each.j0 k) fun (j1546 : List (Int × Vector Int (32) × (Bool × List UInt8) × Vector Int (32) × Int) → Option (List (Int × Vector Int (32) × (Bool × List UInt8) × Vector Int (32) × Int))) => loopC (fun (r : List (Vector Int (32) × List UInt8) × Int × Int × List (Int × Vector Int (32) × (Bool × List UInt8) × Vector Int (32) × Int) → Option (List (Int × Vector Int (32) × (Bool × List UInt8) × Vector Int (32) × Int))) y => p_image_each.b1 k j1546 r y.1 y.2.1 y.2.2.1 y.2.2.2) k (x1534, (↑(List.length x1534) : Int), (0 : Int), [])
noncomputable def e_image_each (k : Nat) : Entry := ⟨Ds.mk [Vd.one (Ld.im (T.sl (T.pair (T.arr (32) (T.int IntKind.u8)) T.str))), Vd.one (Ld.fn (65) [])] [], Ds.mk [Vd.one (Ld.own (0))] [Od.arr (44) (T.pair (T.int IntKind.i64) (T.pair (T.arr (32) (T.int IntKind.u8)) (T.pair (T.pair T.bool T.str) (T.pair (T.arr (32) (T.int IntKind.u8)) (T.int IntKind.i64)))))], fun x => p_image_each k x⟩
noncomputable def c_image_each (k : Nat) : Cx := ⟨Try.prog, [(65, e_record_Prev), (58, e_entry_Get)], [(8, Sd.mk [5] (Ds.mk [Vd.one (Ld.own (0))] [Od.arr (44) (T.pair (T.int IntKind.i64) (T.pair (T.arr (32) (T.int IntKind.u8)) (T.pair (T.pair T.bool T.str) (T.pair (T.arr (32) (T.int IntKind.u8)) (T.int IntKind.i64)))))]))], [], [(3, Sd.mk [1, 5, 10, 11, 12] (Ds.mk [Vd.one (Ld.fn (65) []), Vd.one (Ld.own (0)), Vd.one (Ld.im (T.sl (T.pair (T.arr (32) (T.int IntKind.u8)) T.str))), Vd.one (Ld.im (T.int IntKind.i64)), Vd.one (Ld.im (T.int IntKind.i64))] [Od.arr (44) (T.pair (T.int IntKind.i64) (T.pair (T.arr (32) (T.int IntKind.u8)) (T.pair (T.pair T.bool T.str) (T.pair (T.arr (32) (T.int IntKind.u8)) (T.int IntKind.i64)))))]))], [], 0, 32, [], fun _ _ _ => none⟩
theorem q_image_each (k : Nat) (x : HL (e_image_each k).pre.ts) : runF (c_image_each k) k Try.f64 (e_image_each k).pre (e_image_each k).post x = (e_image_each k).fn x := by kernel_rfl
theorem s_image_each (k : Nat) : Entry.Sound Try.prog 64 (e_image_each k) := runF_sound (X := c_image_each k) (pre := (e_image_each k).pre) (post := (e_image_each k).post) (q := (e_image_each k).fn) ⟨(dOk_cons (s_record_Prev) (dOk_cons (s_entry_Get) dOk_nil)), x_ext, x_mo⟩ Try.func64 (q_image_each k)

/- dormouse/image.each: function 64 -/
noncomputable def p_image_each_v1.j0 (k : Nat) (x1578 : List (Int × Vector Int (32) × (Bool × List UInt8) × Vector Int (32) × Int)) : Option (List (Int × Vector Int (32) × (Bool × List UInt8) × Vector Int (32) × Int)) :=
  some x1578
noncomputable def p_image_each_v1.b1 (k : Nat) (j1579 : List (Int × Vector Int (32) × (Bool × List UInt8) × Vector Int (32) × Int) → Option (List (Int × Vector Int (32) × (Bool × List UInt8) × Vector Int (32) × Int))) (rec1576 : List (Vector Int (32) × List UInt8) × Int × Int × List (Int × Vector Int (32) × (Bool × List UInt8) × Vector Int (32) × Int) → Option (List (Int × Vector Int (32) × (Bool × List UInt8) × Vector Int (32) × Int))) (x1568 : List (Vector Int (32) × List UInt8)) (x1569 : Int) (x1570 : Int) (x1571 : List (Int × Vector Int (32) × (Bool × List UInt8) × Vector Int (32) × Int)) : Option (List (Int × Vector Int (32) × (Bool × List UInt8) × Vector Int (32) × Int)) :=
  bif (decide (x1570 < x1569)) then need ((0 : Int) ≤ x1570 ∧ x1570 < (↑(List.length x1568) : Int)) (Option.bind (p_entry_Get (Prod.snd (at_ (dflt (T.pair (T.arr (32) (T.int IntKind.u8)) T.str)) x1568 x1570))) fun t1573 => Option.bind (p_record_Set (Prod.fst (at_ (dflt (T.pair (T.arr (32) (T.int IntKind.u8)) T.str)) x1568 x1570)) (Prod.fst (Prod.fst t1573), Prod.snd (Prod.fst t1573))) fun t1574 => need ((List.length x1571 + List.length [(Prod.fst t1574, Prod.fst (Prod.snd t1574), (Prod.fst (Prod.fst (Prod.snd (Prod.snd t1574))), Prod.snd (Prod.fst (Prod.snd (Prod.snd t1574)))), Prod.fst (Prod.snd (Prod.snd (Prod.snd t1574))), Prod.snd (Prod.snd (Prod.snd (Prod.snd t1574))))]) * (104 : Nat) ≤ (140737488355328 : Nat)) (rec1576 (x1568, x1569, IntKind.wrap IntKind.i64 (x1570 + (1 : Int)), x1571 ++ [(Prod.fst t1574, Prod.fst (Prod.snd t1574), (Prod.fst (Prod.fst (Prod.snd (Prod.snd t1574))), Prod.snd (Prod.fst (Prod.snd (Prod.snd t1574)))), Prod.fst (Prod.snd (Prod.snd (Prod.snd t1574))), Prod.snd (Prod.snd (Prod.snd (Prod.snd t1574))))]))) else j1579 x1571
noncomputable def p_image_each_v1 (k : Nat) (x1567 : List (Vector Int (32) × List UInt8)) : Option (List (Int × Vector Int (32) × (Bool × List UInt8) × Vector Int (32) × Int)) :=
  joinC (p_image_each_v1.j0 k) fun (j1579 : List (Int × Vector Int (32) × (Bool × List UInt8) × Vector Int (32) × Int) → Option (List (Int × Vector Int (32) × (Bool × List UInt8) × Vector Int (32) × Int))) => loopC (fun (r : List (Vector Int (32) × List UInt8) × Int × Int × List (Int × Vector Int (32) × (Bool × List UInt8) × Vector Int (32) × Int) → Option (List (Int × Vector Int (32) × (Bool × List UInt8) × Vector Int (32) × Int))) y => p_image_each_v1.b1 k j1579 r y.1 y.2.1 y.2.2.1 y.2.2.2) k (x1567, (↑(List.length x1567) : Int), (0 : Int), [])
noncomputable def e_image_each_v1 (k : Nat) : Entry := ⟨Ds.mk [Vd.one (Ld.im (T.sl (T.pair (T.arr (32) (T.int IntKind.u8)) T.str))), Vd.one (Ld.fn (48) [])] [], Ds.mk [Vd.one (Ld.own (0))] [Od.arr (44) (T.pair (T.int IntKind.i64) (T.pair (T.arr (32) (T.int IntKind.u8)) (T.pair (T.pair T.bool T.str) (T.pair (T.arr (32) (T.int IntKind.u8)) (T.int IntKind.i64)))))], fun x => p_image_each_v1 k x⟩
noncomputable def c_image_each_v1 (k : Nat) : Cx := ⟨Try.prog, [(48, e_record_Set), (58, e_entry_Get)], [(8, Sd.mk [5] (Ds.mk [Vd.one (Ld.own (0))] [Od.arr (44) (T.pair (T.int IntKind.i64) (T.pair (T.arr (32) (T.int IntKind.u8)) (T.pair (T.pair T.bool T.str) (T.pair (T.arr (32) (T.int IntKind.u8)) (T.int IntKind.i64)))))]))], [], [(3, Sd.mk [1, 5, 10, 11, 12] (Ds.mk [Vd.one (Ld.fn (48) []), Vd.one (Ld.own (0)), Vd.one (Ld.im (T.sl (T.pair (T.arr (32) (T.int IntKind.u8)) T.str))), Vd.one (Ld.im (T.int IntKind.i64)), Vd.one (Ld.im (T.int IntKind.i64))] [Od.arr (44) (T.pair (T.int IntKind.i64) (T.pair (T.arr (32) (T.int IntKind.u8)) (T.pair (T.pair T.bool T.str) (T.pair (T.arr (32) (T.int IntKind.u8)) (T.int IntKind.i64)))))]))], [], 0, 32, [], fun _ _ _ => none⟩
theorem q_image_each_v1 (k : Nat) (x : HL (e_image_each_v1 k).pre.ts) : runF (c_image_each_v1 k) k Try.f64 (e_image_each_v1 k).pre (e_image_each_v1 k).post x = (e_image_each_v1 k).fn x := by kernel_rfl
theorem s_image_each_v1 (k : Nat) : Entry.Sound Try.prog 64 (e_image_each_v1 k) := runF_sound (X := c_image_each_v1 k) (pre := (e_image_each_v1 k).pre) (post := (e_image_each_v1 k).post) (q := (e_image_each_v1 k).fn) ⟨(dOk_cons (s_record_Set) (dOk_cons (s_entry_Get) dOk_nil)), x_ext, x_mo⟩ Try.func64 (q_image_each_v1 k)

/- dormouse/image.Of: function 32 -/
noncomputable def p_image_Of.j0 (k : Nat) (x1595 : Int × List (Vector Int (32)) × List (Vector Int (32) × List UInt8) × List (Vector Int (32) × List UInt8)) (x1596 : List (Int × Vector Int (32) × (Bool × List UInt8) × Vector Int (32) × Int)) : Option (Int × List (Int × Vector Int (32) × (Bool × List UInt8) × Vector Int (32) × Int)) :=
  Option.bind (p_image_each k (Prod.fst (Prod.snd (Prod.snd x1595)))) fun t1597 => need ((List.length x1596 + List.length t1597) * (104 : Nat) ≤ (140737488355328 : Nat)) (Option.bind (p_image_each_v1 k (Prod.snd (Prod.snd (Prod.snd x1595)))) fun t1599 => need ((List.length (x1596 ++ t1597) + List.length t1599) * (104 : Nat) ≤ (140737488355328 : Nat)) (some ((0 : Int), x1596 ++ t1597 ++ t1599)))
noncomputable def p_image_Of.b1 (k : Nat) (j1601 : (Int × List (Vector Int (32)) × List (Vector Int (32) × List UInt8) × List (Vector Int (32) × List UInt8)) × List (Int × Vector Int (32) × (Bool × List UInt8) × Vector Int (32) × Int) → Option (Int × List (Int × Vector Int (32) × (Bool × List UInt8) × Vector Int (32) × Int))) (rec1593 : List (Vector Int (32)) × Int × Int × (Int × List (Vector Int (32)) × List (Vector Int (32) × List UInt8) × List (Vector Int (32) × List UInt8)) × List (Int × Vector Int (32) × (Bool × List UInt8) × Vector Int (32) × Int) → Option (Int × List (Int × Vector Int (32) × (Bool × List UInt8) × Vector Int (32) × Int))) (x1585 : List (Vector Int (32))) (x1586 : Int) (x1587 : Int) (x1588 : Int × List (Vector Int (32)) × List (Vector Int (32) × List UInt8) × List (Vector Int (32) × List UInt8)) (x1589 : List (Int × Vector Int (32) × (Bool × List UInt8) × Vector Int (32) × Int)) : Option (Int × List (Int × Vector Int (32) × (Bool × List UInt8) × Vector Int (32) × Int)) :=
  bif (decide (x1587 < x1586)) then need ((0 : Int) ≤ x1587 ∧ x1587 < (↑(List.length x1585) : Int)) (Option.bind (p_record_Frozen (at_ (dflt (T.arr (32) (T.int IntKind.u8))) x1585 x1587)) fun t1591 => need ((List.length x1589 + List.length [(Prod.fst t1591, Prod.fst (Prod.snd t1591), (Prod.fst (Prod.fst (Prod.snd (Prod.snd t1591))), Prod.snd (Prod.fst (Prod.snd (Prod.snd t1591)))), Prod.fst (Prod.snd (Prod.snd (Prod.snd t1591))), Prod.snd (Prod.snd (Prod.snd (Prod.snd t1591))))]) * (104 : Nat) ≤ (140737488355328 : Nat)) (rec1593 (x1585, x1586, IntKind.wrap IntKind.i64 (x1587 + (1 : Int)), (Prod.fst x1588, Prod.fst (Prod.snd x1588), Prod.fst (Prod.snd (Prod.snd x1588)), Prod.snd (Prod.snd (Prod.snd x1588))), x1589 ++ [(Prod.fst t1591, Prod.fst (Prod.snd t1591), (Prod.fst (Prod.fst (Prod.snd (Prod.snd t1591))), Prod.snd (Prod.fst (Prod.snd (Prod.snd t1591)))), Prod.fst (Prod.snd (Prod.snd (Prod.snd t1591))), Prod.snd (Prod.snd (Prod.snd (Prod.snd t1591))))]))) else j1601 ((Prod.fst x1588, Prod.fst (Prod.snd x1588), Prod.fst (Prod.snd (Prod.snd x1588)), Prod.snd (Prod.snd (Prod.snd x1588))), x1589)
noncomputable def p_image_Of (k : Nat) (x1582 : Int × List (Vector Int (32)) × List (Vector Int (32) × List UInt8) × List (Vector Int (32) × List UInt8)) : Option (Int × List (Int × Vector Int (32) × (Bool × List UInt8) × Vector Int (32) × Int)) :=
  Option.bind (p_fold_Check k (Prod.fst x1582, Prod.fst (Prod.snd x1582), Prod.fst (Prod.snd (Prod.snd x1582)), Prod.snd (Prod.snd (Prod.snd x1582)))) fun t1583 => bif (t1583 != (0 : Int)) then some (t1583, []) else Option.bind (p_record_Epoch (Prod.fst x1582)) fun t1584 => joinC (fun (y : (Int × List (Vector Int (32)) × List (Vector Int (32) × List UInt8) × List (Vector Int (32) × List UInt8)) × List (Int × Vector Int (32) × (Bool × List UInt8) × Vector Int (32) × Int)) => p_image_Of.j0 k y.1 y.2) fun (j1601 : (Int × List (Vector Int (32)) × List (Vector Int (32) × List UInt8) × List (Vector Int (32) × List UInt8)) × List (Int × Vector Int (32) × (Bool × List UInt8) × Vector Int (32) × Int) → Option (Int × List (Int × Vector Int (32) × (Bool × List UInt8) × Vector Int (32) × Int))) => loopC (fun (r : List (Vector Int (32)) × Int × Int × (Int × List (Vector Int (32)) × List (Vector Int (32) × List UInt8) × List (Vector Int (32) × List UInt8)) × List (Int × Vector Int (32) × (Bool × List UInt8) × Vector Int (32) × Int) → Option (Int × List (Int × Vector Int (32) × (Bool × List UInt8) × Vector Int (32) × Int))) y => p_image_Of.b1 k j1601 r y.1 y.2.1 y.2.2.1 y.2.2.2.1 y.2.2.2.2) k (Prod.fst (Prod.snd x1582), (↑(List.length (Prod.fst (Prod.snd x1582))) : Int), (0 : Int), (Prod.fst x1582, Prod.fst (Prod.snd x1582), Prod.fst (Prod.snd (Prod.snd x1582)), Prod.snd (Prod.snd (Prod.snd x1582))), [(Prod.fst t1584, Prod.fst (Prod.snd t1584), (Prod.fst (Prod.fst (Prod.snd (Prod.snd t1584))), Prod.snd (Prod.fst (Prod.snd (Prod.snd t1584)))), Prod.fst (Prod.snd (Prod.snd (Prod.snd t1584))), Prod.snd (Prod.snd (Prod.snd (Prod.snd t1584))))])
noncomputable def e_image_Of (k : Nat) : Entry := ⟨Ds.mk [Vd.st (T.pair (T.int IntKind.i64) (T.pair (T.sl (T.arr (32) (T.int IntKind.u8))) (T.pair (T.sl (T.pair (T.arr (32) (T.int IntKind.u8)) T.str)) (T.sl (T.pair (T.arr (32) (T.int IntKind.u8)) T.str)))))] [], Ds.mk [Vd.one (Ld.own (0)), Vd.one (Ld.im (T.int IntKind.i64))] [Od.arr (44) (T.pair (T.int IntKind.i64) (T.pair (T.arr (32) (T.int IntKind.u8)) (T.pair (T.pair T.bool T.str) (T.pair (T.arr (32) (T.int IntKind.u8)) (T.int IntKind.i64)))))], fun x => p_image_Of k x⟩
noncomputable def c_image_Of (k : Nat) : Cx := ⟨Try.prog, [(63, e_record_Frozen), (62, e_record_Epoch), (13, e_fold_Check k), (64, e_image_each k), (64, e_image_each_v1 k)], [(10, Sd.mk [1, 5] (Ds.mk [Vd.one (Ld.ptr (0) (0)), Vd.one (Ld.own (1))] [Od.blkT (25) (T.pair (T.int IntKind.i64) (T.pair (T.sl (T.arr (32) (T.int IntKind.u8))) (T.pair (T.sl (T.pair (T.arr (32) (T.int IntKind.u8)) T.str)) (T.sl (T.pair (T.arr (32) (T.int IntKind.u8)) T.str))))), Od.arr (44) (T.pair (T.int IntKind.i64) (T.pair (T.arr (32) (T.int IntKind.u8)) (T.pair (T.pair T.bool T.str) (T.pair (T.arr (32) (T.int IntKind.u8)) (T.int IntKind.i64)))))]))], [], [(6, Sd.mk [1, 5, 18, 19, 20] (Ds.mk [Vd.one (Ld.ptr (0) (0)), Vd.one (Ld.own (1)), Vd.one (Ld.im (T.sl (T.arr (32) (T.int IntKind.u8)))), Vd.one (Ld.im (T.int IntKind.i64)), Vd.one (Ld.im (T.int IntKind.i64))] [Od.blkT (25) (T.pair (T.int IntKind.i64) (T.pair (T.sl (T.arr (32) (T.int IntKind.u8))) (T.pair (T.sl (T.pair (T.arr (32) (T.int IntKind.u8)) T.str)) (T.sl (T.pair (T.arr (32) (T.int IntKind.u8)) T.str))))), Od.arr (44) (T.pair (T.int IntKind.i64) (T.pair (T.arr (32) (T.int IntKind.u8)) (T.pair (T.pair T.bool T.str) (T.pair (T.arr (32) (T.int IntKind.u8)) (T.int IntKind.i64)))))]))], [], 0, 40, [], fun _ _ _ => none⟩
theorem q_image_Of (k : Nat) (x : HL (e_image_Of k).pre.ts) : runF (c_image_Of k) k Try.f32 (e_image_Of k).pre (e_image_Of k).post x = (e_image_Of k).fn x := by kernel_rfl
theorem s_image_Of (k : Nat) : Entry.Sound Try.prog 32 (e_image_Of k) := runF_sound (X := c_image_Of k) (pre := (e_image_Of k).pre) (post := (e_image_Of k).post) (q := (e_image_Of k).fn) ⟨(dOk_cons (s_record_Frozen) (dOk_cons (s_record_Epoch) (dOk_cons (s_fold_Check k) (dOk_cons (s_image_each k) (dOk_cons (s_image_each_v1 k) dOk_nil))))), x_ext, x_mo⟩ Try.func32 (q_image_Of k)

/- dormouse/wide.Num: function 104 -/
noncomputable def p_wide_Num.j0 (k : Nat) (x1629 : Int) (x1630 : Vector Int (8)) : Option (List UInt8) :=
  need ((0 : Int) ≤ (0 : Int) ∧ (0 : Int) ≤ x1629 ∧ x1629 ≤ (↑(8 : Nat) : Int)) (some (bytesOf (sub_ (Vector.toList x1630) (0 : Int) x1629)))
noncomputable def p_wide_Num.b1 (k : Nat) (j1632 : Int × Vector Int (8) → Option (List UInt8)) (rec1627 : Int × Int × Int × Int × Vector Int (8) → Option (List UInt8)) (x1621 : Int) (x1622 : Int) (x1623 : Int) (x1624 : Int) (x1625 : Vector Int (8)) : Option (List UInt8) :=
  bif (decide (x1624 < x1623)) then need ((0 : Int) ≤ x1624 ∧ x1624 < (↑(8 : Nat) : Int)) (rec1627 (ishr IntKind.u64 x1621 (8 : Int), x1622, x1623, IntKind.wrap IntKind.i64 (x1624 + (1 : Int)), vset x1625 x1624 (IntKind.wrap IntKind.u8 x1621))) else j1632 (x1622, x1625)
noncomputable def p_wide_Num (k : Nat) (x1619 : Int) (x1620 : Int) : Option (List UInt8) :=
  joinC (fun (y : Int × Vector Int (8)) => p_wide_Num.j0 k y.1 y.2) fun (j1632 : Int × Vector Int (8) → Option (List UInt8)) => loopC (fun (r : Int × Int × Int × Int × Vector Int (8) → Option (List UInt8)) y => p_wide_Num.b1 k j1632 r y.1 y.2.1 y.2.2.1 y.2.2.2.1 y.2.2.2.2) k (x1619, Min.min (Max.max x1620 (0 : Int)) (8 : Int), Min.min (Max.max x1620 (0 : Int)) (8 : Int), (0 : Int), Vector.replicate (8 : Nat) (dflt (T.int IntKind.u8)))
noncomputable def e_wide_Num (k : Nat) : Entry := ⟨Ds.mk [Vd.one (Ld.im (T.int IntKind.u64)), Vd.one (Ld.im (T.int IntKind.i64))] [], Ds.mk [Vd.one (Ld.im T.str)] [], fun x => p_wide_Num k x.1 x.2⟩
noncomputable def c_wide_Num (k : Nat) : Cx := ⟨Try.prog, [], [(9, Sd.mk [5, 6] (Ds.mk [Vd.one (Ld.ptr (0) (0)), Vd.one (Ld.im (T.int IntKind.i64))] [Od.blkT (150) (T.arr (8) (T.int IntKind.u8))]))], [], [(4, Sd.mk [0, 5, 6, 11, 12] (Ds.mk [Vd.one (Ld.im (T.int IntKind.u64)), Vd.one (Ld.ptr (0) (0)), Vd.one (Ld.im (T.int IntKind.i64)), Vd.one (Ld.im (T.int IntKind.i64)), Vd.one (Ld.im (T.int IntKind.i64))] [Od.blkT (150) (T.arr (8) (T.int IntKind.u8))]))], [], 0, 25, [], fun _ _ _ => none⟩
theorem q_wide_Num (k : Nat) (x : HL (e_wide_Num k).pre.ts) : runF (c_wide_Num k) k Try.f104 (e_wide_Num k).pre (e_wide_Num k).post x = (e_wide_Num k).fn x := by kernel_rfl
theorem s_wide_Num (k : Nat) : Entry.Sound Try.prog 104 (e_wide_Num k) := runF_sound (X := c_wide_Num k) (pre := (e_wide_Num k).pre) (post := (e_wide_Num k).post) (q := (e_wide_Num k).fn) ⟨dOk_nil, x_ext, x_mo⟩ Try.func104 (q_wide_Num k)

/- dormouse/sum.Text: function 105 -/
noncomputable def p_sum_Text (x1651 : Vector Int (32)) : Option (List UInt8) :=
  some (bytesOf (sub_ (Vector.toList x1651) (0 : Int) (↑(32 : Nat) : Int)))
noncomputable def e_sum_Text : Entry := ⟨Ds.mk [Vd.st (T.arr (32) (T.int IntKind.u8))] [], Ds.mk [Vd.one (Ld.im T.str)] [], fun x => p_sum_Text x⟩
noncomputable def c_sum_Text : Cx := ⟨Try.prog, [], [], [], [], [], 0, 5, [], fun _ _ _ => none⟩
theorem q_sum_Text (x : HL (e_sum_Text).pre.ts) : runF (c_sum_Text) 0 Try.f105 (e_sum_Text).pre (e_sum_Text).post x = (e_sum_Text).fn x := by kernel_rfl
theorem s_sum_Text : Entry.Sound Try.prog 105 (e_sum_Text) := runF_sound (X := c_sum_Text) (pre := (e_sum_Text).pre) (post := (e_sum_Text).post) (q := (e_sum_Text).fn) ⟨dOk_nil, x_ext, x_mo⟩ Try.func105 (q_sum_Text)

/- dormouse/record.Put: function 88 -/
noncomputable def p_record_Put.j0 (k : Nat) (x1666 : List UInt8) (x1667 : Int × Vector Int (32) × (Bool × List UInt8) × Vector Int (32) × Int) : Option (List UInt8 × Int) :=
  Option.bind (p_sum_Text (Prod.fst (Prod.snd (Prod.snd (Prod.snd x1667))))) fun t1668 => need (List.length x1666 + List.length t1668 ≤ (9223372036854775807 : Nat)) (some (x1666 ++ t1668, (0 : Int)))
noncomputable def p_record_Put (k : Nat) (x1653 : Int × Vector Int (32) × (Bool × List UInt8) × Vector Int (32) × Int) : Option (List UInt8 × Int) :=
  Option.bind (p_record_Check (Prod.fst x1653, Prod.fst (Prod.snd x1653), (Prod.fst (Prod.fst (Prod.snd (Prod.snd x1653))), Prod.snd (Prod.fst (Prod.snd (Prod.snd x1653)))), Prod.fst (Prod.snd (Prod.snd (Prod.snd x1653))), Prod.snd (Prod.snd (Prod.snd (Prod.snd x1653))))) fun t1654 => bif (t1654 != (0 : Int)) then some ([], t1654) else Option.bind (p_wide_Num k (IntKind.wrap IntKind.u64 (Prod.fst x1653)) (1 : Int)) fun t1655 => joinC (fun (y : List UInt8 × Int × Vector Int (32) × (Bool × List UInt8) × Vector Int (32) × Int) => p_record_Put.j0 k y.1 y.2) fun (j1670 : List UInt8 × Int × Vector Int (32) × (Bool × List UInt8) × Vector Int (32) × Int → Option (List UInt8 × Int)) => bif (Prod.fst x1653 == (1 : Int)) then bif (Prod.fst x1653 == (1 : Int)) then Option.bind (p_entry_Put (Prod.fst (Prod.fst (Prod.snd (Prod.snd x1653))), Prod.snd (Prod.fst (Prod.snd (Prod.snd x1653))))) fun t1656 => need (List.length t1655 + List.length (bytesOf (sub_ (Vector.toList (Prod.fst (Prod.snd x1653))) (0 : Int) (↑(32 : Nat) : Int))) ≤ (9223372036854775807 : Nat)) (need (List.length (t1655 ++ bytesOf (sub_ (Vector.toList (Prod.fst (Prod.snd x1653))) (0 : Int) (↑(32 : Nat) : Int))) + List.length (Prod.fst t1656) ≤ (9223372036854775807 : Nat)) (some (t1655 ++ bytesOf (sub_ (Vector.toList (Prod.fst (Prod.snd x1653))) (0 : Int) (↑(32 : Nat) : Int)) ++ Prod.fst t1656, (0 : Int)))) else bif (Prod.fst x1653 == (5 : Int)) then Option.bind (p_wide_Num k (IntKind.wrap IntKind.u64 (Prod.snd (Prod.snd (Prod.snd (Prod.snd x1653))))) (4 : Int)) fun t1659 => need (List.length t1655 + List.length t1659 ≤ (9223372036854775807 : Nat)) (some (t1655 ++ t1659, (0 : Int))) else j1670 (t1655, Prod.fst x1653, Prod.fst (Prod.snd x1653), (Prod.fst (Prod.fst (Prod.snd (Prod.snd x1653))), Prod.snd (Prod.fst (Prod.snd (Prod.snd x1653)))), Prod.fst (Prod.snd (Prod.snd (Prod.snd x1653))), Prod.snd (Prod.snd (Prod.snd (Prod.snd x1653)))) else bif (Prod.fst x1653 == (2 : Int)) then Option.bind (p_entry_Put (Prod.fst (Prod.fst (Prod.snd (Prod.snd x1653))), Prod.snd (Prod.fst (Prod.snd (Prod.snd x1653))))) fun t1661 => need (List.length t1655 + List.length (bytesOf (sub_ (Vector.toList (Prod.fst (Prod.snd x1653))) (0 : Int) (↑(32 : Nat) : Int))) ≤ (9223372036854775807 : Nat)) (need (List.length (t1655 ++ bytesOf (sub_ (Vector.toList (Prod.fst (Prod.snd x1653))) (0 : Int) (↑(32 : Nat) : Int))) + List.length (Prod.fst t1661) ≤ (9223372036854775807 : Nat)) (some (t1655 ++ bytesOf (sub_ (Vector.toList (Prod.fst (Prod.snd x1653))) (0 : Int) (↑(32 : Nat) : Int)) ++ Prod.fst t1661, (0 : Int)))) else bif (Prod.fst x1653 == (5 : Int)) then Option.bind (p_wide_Num k (IntKind.wrap IntKind.u64 (Prod.snd (Prod.snd (Prod.snd (Prod.snd x1653))))) (4 : Int)) fun t1664 => need (List.length t1655 + List.length t1664 ≤ (9223372036854775807 : Nat)) (some (t1655 ++ t1664, (0 : Int))) else j1670 (t1655, Prod.fst x1653, Prod.fst (Prod.snd x1653), (Prod.fst (Prod.fst (Prod.snd (Prod.snd x1653))), Prod.snd (Prod.fst (Prod.snd (Prod.snd x1653)))), Prod.fst (Prod.snd (Prod.snd (Prod.snd x1653))), Prod.snd (Prod.snd (Prod.snd (Prod.snd x1653))))
noncomputable def e_record_Put (k : Nat) : Entry := ⟨Ds.mk [Vd.st (T.pair (T.int IntKind.i64) (T.pair (T.arr (32) (T.int IntKind.u8)) (T.pair (T.pair T.bool T.str) (T.pair (T.arr (32) (T.int IntKind.u8)) (T.int IntKind.i64)))))] [], Ds.mk [Vd.one (Ld.im T.str), Vd.one (Ld.im (T.int IntKind.i64))] [], fun x => p_record_Put k x⟩
noncomputable def c_record_Put (k : Nat) : Cx := ⟨Try.prog, [(55, e_record_Check), (59, e_entry_Put), (104, e_wide_Num k), (105, e_sum_Text)], [(12, Sd.mk [1, 5] (Ds.mk [Vd.one (Ld.ptr (0) (0)), Vd.one (Ld.im T.str)] [Od.blkT (44) (T.pair (T.int IntKind.i64) (T.pair (T.arr (32) (T.int IntKind.u8)) (T.pair (T.pair T.bool T.str) (T.pair (T.arr (32) (T.int IntKind.u8)) (T.int IntKind.i64)))))]))], [], [], [], 0, 48, [], fun _ _ _ => none⟩
theorem q_record_Put (k : Nat) (x : HL (e_record_Put k).pre.ts) : runF (c_record_Put k) k Try.f88 (e_record_Put k).pre (e_record_Put k).post x = (e_record_Put k).fn x := by kernel_rfl
theorem s_record_Put (k : Nat) : Entry.Sound Try.prog 88 (e_record_Put k) := runF_sound (X := c_record_Put k) (pre := (e_record_Put k).pre) (post := (e_record_Put k).post) (q := (e_record_Put k).fn) ⟨(dOk_cons (s_record_Check) (dOk_cons (s_entry_Put) (dOk_cons (s_wide_Num k) (dOk_cons (s_sum_Text) dOk_nil)))), x_ext, x_mo⟩ Try.func88 (q_record_Put k)

/- dormouse/wide.Texts$1: function 106 -/
noncomputable def p_wide_Texts_c1 (k : Nat) (x1698 : List UInt8) (x1699 : List Int) : Option (List Int) :=
  Option.bind (p_wide_Num k (IntKind.wrap IntKind.u64 (↑(List.length x1698) : Int)) (4 : Int)) fun t1700 => need ((List.length x1699 + List.length (numsOf t1700)) * Go.TypeInfo.bytes (Go.Tables.types (Go.Program.toTables Go.Proofs.Try.prog))[(5 : Nat)] ≤ (140737488355328 : Nat)) (need ((List.length (x1699 ++ numsOf t1700) + List.length (numsOf x1698)) * Go.TypeInfo.bytes (Go.Tables.types (Go.Program.toTables Go.Proofs.Try.prog))[(5 : Nat)] ≤ (140737488355328 : Nat)) (some (x1699 ++ numsOf t1700 ++ numsOf x1698)))
noncomputable def e_wide_Texts_c1 (k : Nat) : Entry := ⟨Ds.mk [Vd.one (Ld.im T.str), Vd.one (Ld.ptr (0) (0))] [Od.blk (117) [Ld.own (1)], Od.arr (5) (T.int IntKind.u8)], Ds.mk [] [Od.blk (117) [Ld.own (2)], Od.gone, Od.arr (5) (T.int IntKind.u8)], fun x => p_wide_Texts_c1 k x.1 x.2⟩
noncomputable def c_wide_Texts_c1 (k : Nat) : Cx := ⟨Try.prog, [(104, e_wide_Num k)], [], [], [], [(0, ([(0, 1), (1, 2), (2, 2), (3, 2), (4, 0), (6, 2)], [(5, Bool.false), (7, Bool.false), (8, Bool.false)], [], Tr.done))], 2, 11, [], fun _ _ _ => none⟩
theorem q_wide_Texts_c1 (k : Nat) (x : HL (e_wide_Texts_c1 k).pre.ts) : runF (c_wide_Texts_c1 k) k Try.f106 (e_wide_Texts_c1 k).pre (e_wide_Texts_c1 k).post x = (e_wide_Texts_c1 k).fn x := by kernel_rfl
theorem s_wide_Texts_c1 (k : Nat) : Entry.Sound Try.prog 106 (e_wide_Texts_c1 k) := runF_sound (X := c_wide_Texts_c1 k) (pre := (e_wide_Texts_c1 k).pre) (post := (e_wide_Texts_c1 k).post) (q := (e_wide_Texts_c1 k).fn) ⟨(dOk_cons (s_wide_Num k) dOk_nil), x_ext, x_mo⟩ Try.func106 (q_wide_Texts_c1 k)

/- dormouse/wide.Texts: function 89 -/
noncomputable def p_wide_Texts.j0 (k : Nat) (x1713 : List Int) : Option (List UInt8) :=
  some (bytesOf x1713)
noncomputable def p_wide_Texts.b1 (k : Nat) (j1714 : List Int → Option (List UInt8)) (rec1711 : List (List UInt8) × Int × Int × List Int → Option (List UInt8)) (x1705 : List (List UInt8)) (x1706 : Int) (x1707 : Int) (x1708 : List Int) : Option (List UInt8) :=
  bif (decide (x1707 < x1706)) then need ((0 : Int) ≤ x1707 ∧ x1707 < (↑(List.length x1705) : Int)) (Option.bind (p_wide_Texts_c1 k (at_ (dflt T.str) x1705 x1707) x1708) fun t1710 => rec1711 (x1705, x1706, IntKind.wrap IntKind.i64 (x1707 + (1 : Int)), t1710)) else j1714 x1708
noncomputable def p_wide_Texts (k : Nat) (x1704 : List (List UInt8)) : Option (List UInt8) :=
  joinC (p_wide_Texts.j0 k) fun (j1714 : List Int → Option (List UInt8)) => loopC (fun (r : List (List UInt8) × Int × Int × List Int → Option (List UInt8)) y => p_wide_Texts.b1 k j1714 r y.1 y.2.1 y.2.2.1 y.2.2.2) k (x1704, (↑(List.length x1704) : Int), (0 : Int), [])
noncomputable def e_wide_Texts (k : Nat) : Entry := ⟨Ds.mk [Vd.one (Ld.im (T.sl T.str))] [], Ds.mk [Vd.one (Ld.im T.str)] [], fun x => p_wide_Texts k x⟩
noncomputable def c_wide_Texts (k : Nat) : Cx := ⟨Try.prog, [(106, e_wide_Texts_c1 k)], [(8, Sd.mk [3] (Ds.mk [Vd.one (Ld.ptr (0) (0))] [Od.blk (117) [Ld.own (1)], Od.arr (5) (T.int IntKind.u8)]))], [], [(4, Sd.mk [3, 4, 8, 9, 10] (Ds.mk [Vd.one (Ld.ptr (0) (0)), Vd.one (Ld.fn (106) [0]), Vd.one (Ld.im (T.sl T.str)), Vd.one (Ld.im (T.int IntKind.i64)), Vd.one (Ld.im (T.int IntKind.i64))] [Od.blk (117) [Ld.own (1)], Od.arr (5) (T.int IntKind.u8)]))], [], 0, 20, [], fun _ _ _ => none⟩
theorem q_wide_Texts (k : Nat) (x : HL (e_wide_Texts k).pre.ts) : runF (c_wide_Texts k) k Try.f89 (e_wide_Texts k).pre (e_wide_Texts k).post x = (e_wide_Texts k).fn x := by kernel_rfl
theorem s_wide_Texts (k : Nat) : Entry.Sound Try.prog 89 (e_wide_Texts k) := runF_sound (X := c_wide_Texts k) (pre := (e_wide_Texts k).pre) (post := (e_wide_Texts k).post) (q := (e_wide_Texts k).fn) ⟨(dOk_cons (s_wide_Texts_c1 k) dOk_nil), x_ext, x_mo⟩ Try.func89 (q_wide_Texts k)

/- dormouse/batch.Put: function 66 -/
noncomputable def p_batch_Put.j0 (k : Nat) (x1727 : List (List UInt8)) : Option (List UInt8 × Int) :=
  Option.bind (p_wide_Texts k x1727) fun t1728 => bif (decide ((↑(List.length t1728) : Int) > (4194304 : Int))) then some ([], (4 : Int)) else some (t1728, (0 : Int))
noncomputable def p_batch_Put.b1 (k : Nat) (j1729 : List (List UInt8) → Option (List UInt8 × Int)) (rec1725 : List (Int × Vector Int (32) × (Bool × List UInt8) × Vector Int (32) × Int) × Int × Int × List (List UInt8) → Option (List UInt8 × Int)) (x1718 : List (Int × Vector Int (32) × (Bool × List UInt8) × Vector Int (32) × Int)) (x1719 : Int) (x1720 : Int) (x1721 : List (List UInt8)) : Option (List UInt8 × Int) :=
  bif (decide (x1720 < x1719)) then need ((0 : Int) ≤ x1720 ∧ x1720 < (↑(List.length x1718) : Int)) (Option.bind (p_record_Put k (Prod.fst (at_ (dflt (T.pair (T.int IntKind.i64) (T.pair (T.arr (32) (T.int IntKind.u8)) (T.pair (T.pair T.bool T.str) (T.pair (T.arr (32) (T.int IntKind.u8)) (T.int IntKind.i64)))))) x1718 x1720), Prod.fst (Prod.snd (at_ (dflt (T.pair (T.int IntKind.i64) (T.pair (T.arr (32) (T.int IntKind.u8)) (T.pair (T.pair T.bool T.str) (T.pair (T.arr (32) (T.int IntKind.u8)) (T.int IntKind.i64)))))) x1718 x1720)), (Prod.fst (Prod.fst (Prod.snd (Prod.snd (at_ (dflt (T.pair (T.int IntKind.i64) (T.pair (T.arr (32) (T.int IntKind.u8)) (T.pair (T.pair T.bool T.str) (T.pair (T.arr (32) (T.int IntKind.u8)) (T.int IntKind.i64)))))) x1718 x1720)))), Prod.snd (Prod.fst (Prod.snd (Prod.snd (at_ (dflt (T.pair (T.int IntKind.i64) (T.pair (T.arr (32) (T.int IntKind.u8)) (T.pair (T.pair T.bool T.str) (T.pair (T.arr (32) (T.int IntKind.u8)) (T.int IntKind.i64)))))) x1718 x1720))))), Prod.fst (Prod.snd (Prod.snd (Prod.snd (at_ (dflt (T.pair (T.int IntKind.i64) (T.pair (T.arr (32) (T.int IntKind.u8)) (T.pair (T.pair T.bool T.str) (T.pair (T.arr (32) (T.int IntKind.u8)) (T.int IntKind.i64)))))) x1718 x1720)))), Prod.snd (Prod.snd (Prod.snd (Prod.snd (at_ (dflt (T.pair (T.int IntKind.i64) (T.pair (T.arr (32) (T.int IntKind.u8)) (T.pair (T.pair T.bool T.str) (T.pair (T.arr (32) (T.int IntKind.u8)) (T.int IntKind.i64)))))) x1718 x1720)))))) fun t1723 => bif (Prod.snd t1723 != (0 : Int)) then some ([], (2 : Int)) else need ((List.length x1721 + List.length [Prod.fst t1723]) * (16 : Nat) ≤ (140737488355328 : Nat)) (rec1725 (x1718, x1719, IntKind.wrap IntKind.i64 (x1720 + (1 : Int)), x1721 ++ [Prod.fst t1723]))) else j1729 x1721
noncomputable def p_batch_Put (k : Nat) (x1717 : List (Int × Vector Int (32) × (Bool × List UInt8) × Vector Int (32) × Int)) : Option (List UInt8 × Int) :=
  joinC (p_batch_Put.j0 k) fun (j1729 : List (List UInt8) → Option (List UInt8 × Int)) => loopC (fun (r : List (Int × Vector Int (32) × (Bool × List UInt8) × Vector Int (32) × Int) × Int × Int × List (List UInt8) → Option (List UInt8 × Int)) y => p_batch_Put.b1 k j1729 r y.1 y.2.1 y.2.2.1 y.2.2.2) k (x1717, (↑(List.length x1717) : Int), (0 : Int), [])
noncomputable def e_batch_Put (k : Nat) : Entry := ⟨Ds.mk [Vd.one (Ld.im (T.sl (T.pair (T.int IntKind.i64) (T.pair (T.arr (32) (T.int IntKind.u8)) (T.pair (T.pair T.bool T.str) (T.pair (T.arr (32) (T.int IntKind.u8)) (T.int IntKind.i64)))))))] [], Ds.mk [Vd.one (Ld.im T.str), Vd.one (Ld.im (T.int IntKind.i64))] [], fun x => p_batch_Put k x⟩
noncomputable def c_batch_Put (k : Nat) : Cx := ⟨Try.prog, [(88, e_record_Put k), (89, e_wide_Texts k)], [(10, Sd.mk [4] (Ds.mk [Vd.one (Ld.own (0))] [Od.arr (9) T.str]))], [], [(3, Sd.mk [4, 10, 11, 12] (Ds.mk [Vd.one (Ld.own (0)), Vd.one (Ld.im (T.sl (T.pair (T.int IntKind.i64) (T.pair (T.arr (32) (T.int IntKind.u8)) (T.pair (T.pair T.bool T.str) (T.pair (T.arr (32) (T.int IntKind.u8)) (T.int IntKind.i64))))))), Vd.one (Ld.im (T.int IntKind.i64)), Vd.one (Ld.im (T.int IntKind.i64))] [Od.arr (9) T.str]))], [], 0, 34, [], fun _ _ _ => none⟩
theorem q_batch_Put (k : Nat) (x : HL (e_batch_Put k).pre.ts) : runF (c_batch_Put k) k Try.f66 (e_batch_Put k).pre (e_batch_Put k).post x = (e_batch_Put k).fn x := by kernel_rfl
theorem s_batch_Put (k : Nat) : Entry.Sound Try.prog 66 (e_batch_Put k) := runF_sound (X := c_batch_Put k) (pre := (e_batch_Put k).pre) (post := (e_batch_Put k).post) (q := (e_batch_Put k).fn) ⟨(dOk_cons (s_record_Put k) (dOk_cons (s_wide_Texts k) dOk_nil)), x_ext, x_mo⟩ Try.func66 (q_batch_Put k)

/- dormouse/image.Text: function 33 -/
noncomputable def p_image_Text (k : Nat) (x1732 : Int × List (Vector Int (32)) × List (Vector Int (32) × List UInt8) × List (Vector Int (32) × List UInt8)) : Option (List UInt8 × Int) :=
  Option.bind (p_image_Of k (Prod.fst x1732, Prod.fst (Prod.snd x1732), Prod.fst (Prod.snd (Prod.snd x1732)), Prod.snd (Prod.snd (Prod.snd x1732)))) fun t1733 => bif (Prod.fst t1733 != (0 : Int)) then some ([], Prod.fst t1733) else Option.bind (p_batch_Put k (Prod.snd t1733)) fun t1734 => some (Prod.fst t1734, Prod.snd t1734)
noncomputable def e_image_Text (k : Nat) : Entry := ⟨Ds.mk [Vd.st (T.pair (T.int IntKind.i64) (T.pair (T.sl (T.arr (32) (T.int IntKind.u8))) (T.pair (T.sl (T.pair (T.arr (32) (T.int IntKind.u8)) T.str)) (T.sl (T.pair (T.arr (32) (T.int IntKind.u8)) T.str)))))] [], Ds.mk [Vd.one (Ld.im T.str), Vd.one (Ld.im (T.int IntKind.i64))] [], fun x => p_image_Text k x⟩
noncomputable def c_image_Text (k : Nat) : Cx := ⟨Try.prog, [(32, e_image_Of k), (66, e_batch_Put k)], [], [], [], [], 0, 18, [], fun _ _ _ => none⟩
theorem q_image_Text (k : Nat) (x : HL (e_image_Text k).pre.ts) : runF (c_image_Text k) k Try.f33 (e_image_Text k).pre (e_image_Text k).post x = (e_image_Text k).fn x := by kernel_rfl
theorem s_image_Text (k : Nat) : Entry.Sound Try.prog 33 (e_image_Text k) := runF_sound (X := c_image_Text k) (pre := (e_image_Text k).pre) (post := (e_image_Text k).post) (q := (e_image_Text k).fn) ⟨(dOk_cons (s_image_Of k) (dOk_cons (s_batch_Put k) dOk_nil)), x_ext, x_mo⟩ Try.func33 (q_image_Text k)

/- dormouse/wide.On: function 107 -/
noncomputable def p_wide_On (x1746 : List UInt8) : Option (List UInt8 × Int) :=
  some (x1746, (0 : Int))
noncomputable def e_wide_On : Entry := ⟨Ds.mk [Vd.one (Ld.im T.str)] [], Ds.mk [Vd.one (Ld.ptr (0) (0))] [Od.blkT (152) (T.pair T.str (T.int IntKind.i64))], fun x => p_wide_On x⟩
noncomputable def c_wide_On : Cx := ⟨Try.prog, [], [], [], [], [], 0, 6, [], fun _ _ _ => none⟩
theorem q_wide_On (x : HL (e_wide_On).pre.ts) : runF (c_wide_On) 0 Try.f107 (e_wide_On).pre (e_wide_On).post x = (e_wide_On).fn x := by kernel_rfl
theorem s_wide_On : Entry.Sound Try.prog 107 (e_wide_On) := runF_sound (X := c_wide_On) (pre := (e_wide_On).pre) (post := (e_wide_On).post) (q := (e_wide_On).fn) ⟨dOk_nil, x_ext, x_mo⟩ Try.func107 (q_wide_On)

/- (*dormouse/wide.Cut).Rest: function 108 -/
noncomputable def p_wide_Cut_Rest (x1756 : List UInt8 × Int) : Option (List UInt8) :=
  some (Prod.fst x1756)
noncomputable def e_wide_Cut_Rest : Entry := ⟨Ds.mk [Vd.one (Ld.ptr (0) (0))] [Od.rdT (152) (T.pair T.str (T.int IntKind.i64))], Ds.mk [Vd.one (Ld.im T.str)] [Od.gone], fun x => p_wide_Cut_Rest x⟩
noncomputable def c_wide_Cut_Rest : Cx := ⟨Try.prog, [], [], [], [], [], 1, 9, [], fun _ _ _ => none⟩
theorem q_wide_Cut_Rest (x : HL (e_wide_Cut_Rest).pre.ts) : runF (c_wide_Cut_Rest) 0 Try.f108 (e_wide_Cut_Rest).pre (e_wide_Cut_Rest).post x = (e_wide_Cut_Rest).fn x := by kernel_rfl
theorem s_wide_Cut_Rest : Entry.Sound Try.prog 108 (e_wide_Cut_Rest) := runF_sound (X := c_wide_Cut_Rest) (pre := (e_wide_Cut_Rest).pre) (post := (e_wide_Cut_Rest).post) (q := (e_wide_Cut_Rest).fn) ⟨dOk_nil, x_ext, x_mo⟩ Try.func108 (q_wide_Cut_Rest)

/- (*dormouse/wide.Cut).Take: function 117 -/
noncomputable def p_wide_Cut_Take.j0 (x1781 : Int) (x1782 : Bool) (x1783 : List UInt8 × Int) : Option (List UInt8 × List UInt8 × Int) :=
  bif x1782 then some ([], [], (5 : Int)) else need ((0 : Int) ≤ (0 : Int) ∧ (0 : Int) ≤ x1781 ∧ x1781 ≤ (↑(List.length (Prod.fst x1783)) : Int)) (need ((0 : Int) ≤ x1781 ∧ x1781 ≤ (↑(List.length (Prod.fst x1783)) : Int) ∧ (↑(List.length (Prod.fst x1783)) : Int) ≤ (↑(List.length (Prod.fst x1783)) : Int)) (some (sub_ (Prod.fst x1783) (0 : Int) x1781, sub_ (Prod.fst x1783) x1781 (↑(List.length (Prod.fst x1783)) : Int), Prod.snd x1783)))
noncomputable def p_wide_Cut_Take (x1779 : Int) (x1780 : List UInt8 × Int) : Option (List UInt8 × List UInt8 × Int) :=
  bif (Prod.snd x1780 != (0 : Int)) then some ([], Prod.fst x1780, Prod.snd x1780) else joinC (fun (y : Int × Bool × List UInt8 × Int) => p_wide_Cut_Take.j0 y.1 y.2.1 y.2.2) fun (j1784 : Int × Bool × List UInt8 × Int → Option (List UInt8 × List UInt8 × Int)) => bif (decide (x1779 < (0 : Int))) then j1784 (x1779, Bool.true, Prod.fst x1780, Prod.snd x1780) else j1784 (x1779, decide (x1779 > (↑(List.length (Prod.fst x1780)) : Int)), Prod.fst x1780, Prod.snd x1780)
noncomputable def e_wide_Cut_Take : Entry := ⟨Ds.mk [Vd.one (Ld.ptr (0) (0)), Vd.one (Ld.im (T.int IntKind.i64))] [Od.blkT (152) (T.pair T.str (T.int IntKind.i64))], Ds.mk [Vd.one (Ld.im T.str)] [Od.blkT (152) (T.pair T.str (T.int IntKind.i64))], fun x => p_wide_Cut_Take x.1 x.2⟩
noncomputable def c_wide_Cut_Take : Cx := ⟨Try.prog, [], [], [(3, Sd.mk [0, 1, 25] (Ds.mk [Vd.one (Ld.ptr (0) (0)), Vd.one (Ld.im (T.int IntKind.i64)), Vd.one (Ld.im T.bool)] [Od.blkT (152) (T.pair T.str (T.int IntKind.i64))]))], [], [], 1, 48, [], fun _ _ _ => none⟩
theorem q_wide_Cut_Take (x : HL (e_wide_Cut_Take).pre.ts) : runF (c_wide_Cut_Take) 0 Try.f117 (e_wide_Cut_Take).pre (e_wide_Cut_Take).post x = (e_wide_Cut_Take).fn x := by kernel_rfl
theorem s_wide_Cut_Take : Entry.Sound Try.prog 117 (e_wide_Cut_Take) := runF_sound (X := c_wide_Cut_Take) (pre := (e_wide_Cut_Take).pre) (post := (e_wide_Cut_Take).post) (q := (e_wide_Cut_Take).fn) ⟨dOk_nil, x_ext, x_mo⟩ Try.func117 (q_wide_Cut_Take)

/- dormouse/wide.Val: function 130 -/
noncomputable def p_wide_Val.j0 (k : Nat) (x1807 : Int) : Option Int :=
  some x1807
noncomputable def p_wide_Val.b1 (k : Nat) (j1808 : Int → Option Int) (rec1805 : List UInt8 × Int × Int → Option Int) (x1801 : List UInt8) (x1802 : Int) (x1803 : Int) : Option Int :=
  bif (decide (x1803 ≥ (0 : Int))) then need ((0 : Int) ≤ x1803 ∧ x1803 < (↑(List.length x1801) : Int)) (rec1805 (x1801, ior IntKind.u64 (ishl IntKind.u64 x1802 (8 : Int)) (IntKind.wrap IntKind.u64 (bat x1801 x1803)), IntKind.wrap IntKind.i64 (x1803 - (1 : Int)))) else j1808 x1802
noncomputable def p_wide_Val (k : Nat) (x1800 : List UInt8) : Option Int :=
  joinC (p_wide_Val.j0 k) fun (j1808 : Int → Option Int) => loopC (fun (r : List UInt8 × Int × Int → Option Int) y => p_wide_Val.b1 k j1808 r y.1 y.2.1 y.2.2) k (x1800, (0 : Int), IntKind.wrap IntKind.i64 (Min.min (↑(List.length x1800) : Int) (8 : Int) - (1 : Int)))
noncomputable def e_wide_Val (k : Nat) : Entry := ⟨Ds.mk [Vd.one (Ld.im T.str)] [], Ds.mk [Vd.one (Ld.im (T.int IntKind.u64))] [], fun x => p_wide_Val k x⟩
noncomputable def c_wide_Val (k : Nat) : Cx := ⟨Try.prog, [], [(6, Sd.mk [3] (Ds.mk [Vd.one (Ld.im (T.int IntKind.u64))] []))], [], [(3, Sd.mk [0, 3, 4] (Ds.mk [Vd.one (Ld.im T.str), Vd.one (Ld.im (T.int IntKind.u64)), Vd.one (Ld.im (T.int IntKind.i64))] []))], [], 0, 21, [], fun _ _ _ => none⟩
theorem q_wide_Val (k : Nat) (x : HL (e_wide_Val k).pre.ts) : runF (c_wide_Val k) k Try.f130 (e_wide_Val k).pre (e_wide_Val k).post x = (e_wide_Val k).fn x := by kernel_rfl
theorem s_wide_Val (k : Nat) : Entry.Sound Try.prog 130 (e_wide_Val k) := runF_sound (X := c_wide_Val k) (pre := (e_wide_Val k).pre) (post := (e_wide_Val k).post) (q := (e_wide_Val k).fn) ⟨dOk_nil, x_ext, x_mo⟩ Try.func130 (q_wide_Val k)

/- (*dormouse/wide.Cut).Num: function 118 -/
noncomputable def p_wide_Cut_Num.j0 (k : Nat) (x1818 : Int) (x1819 : List UInt8 × Int) : Option (Int × List UInt8 × Int) :=
  Option.bind (p_wide_Cut_Take x1818 (Prod.fst x1819, Prod.snd x1819)) fun t1820 => Option.bind (p_wide_Val k (Prod.fst t1820)) fun t1821 => some (t1821, Prod.fst (Prod.snd t1820), Prod.snd (Prod.snd t1820))
noncomputable def p_wide_Cut_Num.j1 (k : Nat) (j1822 : Int × List UInt8 × Int → Option (Int × List UInt8 × Int)) (x1813 : Int) (x1814 : Bool) (x1815 : List UInt8 × Int) : Option (Int × List UInt8 × Int) :=
  bif x1814 then j1822 ((-1 : Int), Prod.fst x1815, Prod.snd x1815) else j1822 (x1813, Prod.fst x1815, Prod.snd x1815)
noncomputable def p_wide_Cut_Num (k : Nat) (x1811 : Int) (x1812 : List UInt8 × Int) : Option (Int × List UInt8 × Int) :=
  joinC (fun (y : Int × List UInt8 × Int) => p_wide_Cut_Num.j0 k y.1 y.2) fun (j1822 : Int × List UInt8 × Int → Option (Int × List UInt8 × Int)) => joinC (fun (y : Int × Bool × List UInt8 × Int) => p_wide_Cut_Num.j1 k j1822 y.1 y.2.1 y.2.2) fun (j1816 : Int × Bool × List UInt8 × Int → Option (Int × List UInt8 × Int)) => bif (decide (x1811 < (1 : Int))) then j1816 (x1811, Bool.true, Prod.fst x1812, Prod.snd x1812) else j1816 (x1811, decide (x1811 > (8 : Int)), Prod.fst x1812, Prod.snd x1812)
noncomputable def e_wide_Cut_Num (k : Nat) : Entry := ⟨Ds.mk [Vd.one (Ld.ptr (0) (0)), Vd.one (Ld.im (T.int IntKind.i64))] [Od.blkT (152) (T.pair T.str (T.int IntKind.i64))], Ds.mk [Vd.one (Ld.im (T.int IntKind.u64))] [Od.blkT (152) (T.pair T.str (T.int IntKind.i64))], fun x => p_wide_Cut_Num k x.1 x.2⟩
noncomputable def c_wide_Cut_Num (k : Nat) : Cx := ⟨Try.prog, [(117, e_wide_Cut_Take), (130, e_wide_Val k)], [(3, Sd.mk [0, 1] (Ds.mk [Vd.one (Ld.ptr (0) (0)), Vd.one (Ld.im (T.int IntKind.i64))] [Od.blkT (152) (T.pair T.str (T.int IntKind.i64))]))], [(1, Sd.mk [0, 1, 10] (Ds.mk [Vd.one (Ld.ptr (0) (0)), Vd.one (Ld.im (T.int IntKind.i64)), Vd.one (Ld.im T.bool)] [Od.blkT (152) (T.pair T.str (T.int IntKind.i64))]))], [], [], 1, 15, [], fun _ _ _ => none⟩
theorem q_wide_Cut_Num (k : Nat) (x : HL (e_wide_Cut_Num k).pre.ts) : runF (c_wide_Cut_Num k) k Try.f118 (e_wide_Cut_Num k).pre (e_wide_Cut_Num k).post x = (e_wide_Cut_Num k).fn x := by kernel_rfl
theorem s_wide_Cut_Num (k : Nat) : Entry.Sound Try.prog 118 (e_wide_Cut_Num k) := runF_sound (X := c_wide_Cut_Num k) (pre := (e_wide_Cut_Num k).pre) (post := (e_wide_Cut_Num k).post) (q := (e_wide_Cut_Num k).fn) ⟨(dOk_cons (s_wide_Cut_Take) (dOk_cons (s_wide_Val k) dOk_nil)), x_ext, x_mo⟩ Try.func118 (q_wide_Cut_Num k)

/- (*dormouse/wide.Cut).Text: function 109 -/
noncomputable def p_wide_Cut_Text (k : Nat) (x1825 : List UInt8 × Int) : Option (List UInt8 × List UInt8 × Int) :=
  Option.bind (p_wide_Cut_Num k (4 : Int) (Prod.fst x1825, Prod.snd x1825)) fun t1826 => Option.bind (p_wide_Cut_Take (IntKind.wrap IntKind.i64 (Prod.fst t1826)) (Prod.fst (Prod.snd t1826), Prod.snd (Prod.snd t1826))) fun t1827 => some (Prod.fst t1827, Prod.fst (Prod.snd t1827), Prod.snd (Prod.snd t1827))
noncomputable def e_wide_Cut_Text (k : Nat) : Entry := ⟨Ds.mk [Vd.one (Ld.ptr (0) (0))] [Od.blkT (152) (T.pair T.str (T.int IntKind.i64))], Ds.mk [Vd.one (Ld.im T.str)] [Od.blkT (152) (T.pair T.str (T.int IntKind.i64))], fun x => p_wide_Cut_Text k x⟩
noncomputable def c_wide_Cut_Text (k : Nat) : Cx := ⟨Try.prog, [(117, e_wide_Cut_Take), (118, e_wide_Cut_Num k)], [], [], [], [], 1, 8, [], fun _ _ _ => none⟩
theorem q_wide_Cut_Text (k : Nat) (x : HL (e_wide_Cut_Text k).pre.ts) : runF (c_wide_Cut_Text k) k Try.f109 (e_wide_Cut_Text k).pre (e_wide_Cut_Text k).post x = (e_wide_Cut_Text k).fn x := by kernel_rfl
theorem s_wide_Cut_Text (k : Nat) : Entry.Sound Try.prog 109 (e_wide_Cut_Text k) := runF_sound (X := c_wide_Cut_Text k) (pre := (e_wide_Cut_Text k).pre) (post := (e_wide_Cut_Text k).post) (q := (e_wide_Cut_Text k).fn) ⟨(dOk_cons (s_wide_Cut_Take) (dOk_cons (s_wide_Cut_Num k) dOk_nil)), x_ext, x_mo⟩ Try.func109 (q_wide_Cut_Text k)

/- (*dormouse/wide.Cut).Err: function 110 -/
noncomputable def p_wide_Cut_Err (x1839 : List UInt8 × Int) : Option Int :=
  some (Prod.snd x1839)
noncomputable def e_wide_Cut_Err : Entry := ⟨Ds.mk [Vd.one (Ld.ptr (0) (0))] [Od.rdT (152) (T.pair T.str (T.int IntKind.i64))], Ds.mk [Vd.one (Ld.im (T.int IntKind.i64))] [Od.gone], fun x => p_wide_Cut_Err x⟩
noncomputable def c_wide_Cut_Err : Cx := ⟨Try.prog, [], [], [], [], [], 1, 9, [], fun _ _ _ => none⟩
theorem q_wide_Cut_Err (x : HL (e_wide_Cut_Err).pre.ts) : runF (c_wide_Cut_Err) 0 Try.f110 (e_wide_Cut_Err).pre (e_wide_Cut_Err).post x = (e_wide_Cut_Err).fn x := by kernel_rfl
theorem s_wide_Cut_Err : Entry.Sound Try.prog 110 (e_wide_Cut_Err) := runF_sound (X := c_wide_Cut_Err) (pre := (e_wide_Cut_Err).pre) (post := (e_wide_Cut_Err).post) (q := (e_wide_Cut_Err).fn) ⟨dOk_nil, x_ext, x_mo⟩ Try.func110 (q_wide_Cut_Err)

/- dormouse/record.Get$1: function 119 -/
noncomputable def p_record_Get_c1 (x1860 : List UInt8 × Int) : Option (Vector Int (32) × List UInt8 × Int) :=
  Option.bind (p_wide_Cut_Take (32 : Int) (Prod.fst x1860, Prod.snd x1860)) fun t1861 => need ((↑(List.length (numsOf (Prod.fst t1861))) : Int) ≤ (↑(32 : Nat) : Int) - (0 : Int)) (some (vcopy (Vector.replicate (32 : Nat) (dflt (T.int IntKind.u8))) (0 : Int) (numsOf (Prod.fst t1861)), Prod.fst (Prod.snd t1861), Prod.snd (Prod.snd t1861)))
noncomputable def e_record_Get_c1 : Entry := ⟨Ds.mk [Vd.one (Ld.ptr (0) (0))] [Od.blk (141) [Ld.ptr (1) (0)], Od.blkT (152) (T.pair T.str (T.int IntKind.i64))], Ds.mk [Vd.st (T.arr (32) (T.int IntKind.u8))] [Od.blk (141) [Ld.ptr (1) (0)], Od.blkT (152) (T.pair T.str (T.int IntKind.i64))], fun x => p_record_Get_c1 x⟩
noncomputable def c_record_Get_c1 : Cx := ⟨Try.prog, [(117, e_wide_Cut_Take)], [], [], [], [(2, ([(0, 2), (1, 1)], [(2, Bool.false), (3, Bool.false)], [], Tr.done))], 2, 8, [], fun _ _ _ => none⟩
theorem q_record_Get_c1 (x : HL (e_record_Get_c1).pre.ts) : runF (c_record_Get_c1) 0 Try.f119 (e_record_Get_c1).pre (e_record_Get_c1).post x = (e_record_Get_c1).fn x := by kernel_rfl
theorem s_record_Get_c1 : Entry.Sound Try.prog 119 (e_record_Get_c1) := runF_sound (X := c_record_Get_c1) (pre := (e_record_Get_c1).pre) (post := (e_record_Get_c1).post) (q := (e_record_Get_c1).fn) ⟨(dOk_cons (s_wide_Cut_Take) dOk_nil), x_ext, x_mo⟩ Try.func119 (q_record_Get_c1)

/- dormouse/record.Get: function 111 -/
noncomputable def p_record_Get.j1 (k : Nat) (x1918 : Bool) (x1919 : Int × Vector Int (32) × (Bool × List UInt8) × Vector Int (32) × Int) (x1920 : Int × Vector Int (32) × (Bool × List UInt8) × Vector Int (32) × Int) : Option ((Int × Vector Int (32) × (Bool × List UInt8) × Vector Int (32) × Int) × Int) :=
  bif x1918 then some (((0 : Int), Vector.replicate (32 : Nat) (dflt (T.int IntKind.u8)), (Bool.false, ([] : List UInt8)), Vector.replicate (32 : Nat) (dflt (T.int IntKind.u8)), (0 : Int)), (6 : Int)) else some ((Prod.fst x1920, Prod.fst (Prod.snd x1920), (Prod.fst (Prod.fst (Prod.snd (Prod.snd x1920))), Prod.snd (Prod.fst (Prod.snd (Prod.snd x1920)))), Prod.fst (Prod.snd (Prod.snd (Prod.snd x1920))), Prod.snd (Prod.snd (Prod.snd (Prod.snd x1920)))), (0 : Int))
noncomputable def p_record_Get.j0 (k : Nat) (x1912 : List UInt8) (x1913 : Int × Vector Int (32) × (Bool × List UInt8) × Vector Int (32) × Int) (x1914 : Int × Vector Int (32) × (Bool × List UInt8) × Vector Int (32) × Int) (x1915 : List UInt8 × Int) : Option ((Int × Vector Int (32) × (Bool × List UInt8) × Vector Int (32) × Int) × Int) :=
  Option.bind (p_wide_Cut_Err (Prod.fst x1915, Prod.snd x1915)) fun t1916 => bif (t1916 != (0 : Int)) then some (((0 : Int), Vector.replicate (32 : Nat) (dflt (T.int IntKind.u8)), (Bool.false, ([] : List UInt8)), Vector.replicate (32 : Nat) (dflt (T.int IntKind.u8)), (0 : Int)), t1916) else Option.bind (p_record_Put k (Prod.fst x1914, Prod.fst (Prod.snd x1914), (Prod.fst (Prod.fst (Prod.snd (Prod.snd x1914))), Prod.snd (Prod.fst (Prod.snd (Prod.snd x1914)))), Prod.fst (Prod.snd (Prod.snd (Prod.snd x1914))), Prod.snd (Prod.snd (Prod.snd (Prod.snd x1914))))) fun t1917 => joinC (fun (y : Bool × (Int × Vector Int (32) × (Bool × List UInt8) × Vector Int (32) × Int) × Int × Vector Int (32) × (Bool × List UInt8) × Vector Int (32) × Int) => p_record_Get.j1 k y.1 y.2.1 y.2.2) fun (j1921 : Bool × (Int × Vector Int (32) × (Bool × List UInt8) × Vector Int (32) × Int) × Int × Vector Int (32) × (Bool × List UInt8) × Vector Int (32) × Int → Option ((Int × Vector Int (32) × (Bool × List UInt8) × Vector Int (32) × Int) × Int)) => bif (Prod.snd t1917 != (0 : Int)) then j1921 (Bool.true, (Prod.fst x1913, Prod.fst (Prod.snd x1913), (Prod.fst (Prod.fst (Prod.snd (Prod.snd x1913))), Prod.snd (Prod.fst (Prod.snd (Prod.snd x1913)))), Prod.fst (Prod.snd (Prod.snd (Prod.snd x1913))), Prod.snd (Prod.snd (Prod.snd (Prod.snd x1913)))), Prod.fst x1914, Prod.fst (Prod.snd x1914), (Prod.fst (Prod.fst (Prod.snd (Prod.snd x1914))), Prod.snd (Prod.fst (Prod.snd (Prod.snd x1914)))), Prod.fst (Prod.snd (Prod.snd (Prod.snd x1914))), Prod.snd (Prod.snd (Prod.snd (Prod.snd x1914)))) else j1921 (!Prod.fst t1917 == x1912, (Prod.fst x1913, Prod.fst (Prod.snd x1913), (Prod.fst (Prod.fst (Prod.snd (Prod.snd x1913))), Prod.snd (Prod.fst (Prod.snd (Prod.snd x1913)))), Prod.fst (Prod.snd (Prod.snd (Prod.snd x1913))), Prod.snd (Prod.snd (Prod.snd (Prod.snd x1913)))), Prod.fst x1914, Prod.fst (Prod.snd x1914), (Prod.fst (Prod.fst (Prod.snd (Prod.snd x1914))), Prod.snd (Prod.fst (Prod.snd (Prod.snd x1914)))), Prod.fst (Prod.snd (Prod.snd (Prod.snd x1914))), Prod.snd (Prod.snd (Prod.snd (Prod.snd x1914))))
noncomputable def p_record_Get (k : Nat) (x1895 : List UInt8) : Option ((Int × Vector Int (32) × (Bool × List UInt8) × Vector Int (32) × Int) × Int) :=
  Option.bind (p_wide_On x1895) fun t1896 => Option.bind (p_wide_Cut_Num k (1 : Int) (Prod.fst t1896, Prod.snd t1896)) fun t1897 => joinC (fun (y : List UInt8 × (Int × Vector Int (32) × (Bool × List UInt8) × Vector Int (32) × Int) × (Int × Vector Int (32) × (Bool × List UInt8) × Vector Int (32) × Int) × List UInt8 × Int) => p_record_Get.j0 k y.1 y.2.1 y.2.2.1 y.2.2.2) fun (j1923 : List UInt8 × (Int × Vector Int (32) × (Bool × List UInt8) × Vector Int (32) × Int) × (Int × Vector Int (32) × (Bool × List UInt8) × Vector Int (32) × Int) × List UInt8 × Int → Option ((Int × Vector Int (32) × (Bool × List UInt8) × Vector Int (32) × Int) × Int)) => bif (IntKind.wrap IntKind.i64 (Prod.fst t1897) == (1 : Int)) then bif (IntKind.wrap IntKind.i64 (Prod.fst t1897) == (1 : Int)) then Option.bind (p_record_Get_c1 (Prod.fst (Prod.snd t1897), Prod.snd (Prod.snd t1897))) fun t1898 => Option.bind (p_wide_Cut_Rest (Prod.fst (Prod.snd t1898), Prod.snd (Prod.snd t1898))) fun t1899 => Option.bind (p_wide_Cut_Take (Max.max (↑(List.length t1899) : Int) (1 : Int)) (Prod.fst (Prod.snd t1898), Prod.snd (Prod.snd t1898))) fun t1900 => Option.bind (p_entry_Get (Prod.fst t1900)) fun t1901 => j1923 (x1895, ((0 : Int), Vector.replicate (32 : Nat) (dflt (T.int IntKind.u8)), (Bool.false, ([] : List UInt8)), Vector.replicate (32 : Nat) (dflt (T.int IntKind.u8)), (0 : Int)), (IntKind.wrap IntKind.i64 (Prod.fst t1897), Prod.fst t1898, (Prod.fst (Prod.fst t1901), Prod.snd (Prod.fst t1901)), Vector.replicate (32 : Nat) (dflt (T.int IntKind.u8)), (0 : Int)), Prod.fst (Prod.snd t1900), Prod.snd (Prod.snd t1900)) else bif (IntKind.wrap IntKind.i64 (Prod.fst t1897) == (5 : Int)) then Option.bind (p_wide_Cut_Num k (4 : Int) (Prod.fst (Prod.snd t1897), Prod.snd (Prod.snd t1897))) fun t1902 => j1923 (x1895, ((0 : Int), Vector.replicate (32 : Nat) (dflt (T.int IntKind.u8)), (Bool.false, ([] : List UInt8)), Vector.replicate (32 : Nat) (dflt (T.int IntKind.u8)), (0 : Int)), (IntKind.wrap IntKind.i64 (Prod.fst t1897), Vector.replicate (32 : Nat) (dflt (T.int IntKind.u8)), (Bool.false, ([] : List UInt8)), Vector.replicate (32 : Nat) (dflt (T.int IntKind.u8)), IntKind.wrap IntKind.i64 (Prod.fst t1902)), Prod.fst (Prod.snd t1902), Prod.snd (Prod.snd t1902)) else bif (IntKind.wrap IntKind.i64 (Prod.fst t1897) == (3 : Int)) then bif (IntKind.wrap IntKind.i64 (Prod.fst t1897) == (3 : Int)) then Option.bind (p_record_Get_c1 (Prod.fst (Prod.snd t1897), Prod.snd (Prod.snd t1897))) fun t1903 => j1923 (x1895, ((0 : Int), Vector.replicate (32 : Nat) (dflt (T.int IntKind.u8)), (Bool.false, ([] : List UInt8)), Vector.replicate (32 : Nat) (dflt (T.int IntKind.u8)), (0 : Int)), (IntKind.wrap IntKind.i64 (Prod.fst t1897), Vector.replicate (32 : Nat) (dflt (T.int IntKind.u8)), (Bool.false, ([] : List UInt8)), Prod.fst t1903, (0 : Int)), Prod.fst (Prod.snd t1903), Prod.snd (Prod.snd t1903)) else j1923 (x1895, ((0 : Int), Vector.replicate (32 : Nat) (dflt (T.int IntKind.u8)), (Bool.false, ([] : List UInt8)), Vector.replicate (32 : Nat) (dflt (T.int IntKind.u8)), (0 : Int)), (IntKind.wrap IntKind.i64 (Prod.fst t1897), Vector.replicate (32 : Nat) (dflt (T.int IntKind.u8)), (Bool.false, ([] : List UInt8)), Vector.replicate (32 : Nat) (dflt (T.int IntKind.u8)), (0 : Int)), Prod.fst (Prod.snd t1897), Prod.snd (Prod.snd t1897)) else bif (IntKind.wrap IntKind.i64 (Prod.fst t1897) == (4 : Int)) then Option.bind (p_record_Get_c1 (Prod.fst (Prod.snd t1897), Prod.snd (Prod.snd t1897))) fun t1904 => j1923 (x1895, ((0 : Int), Vector.replicate (32 : Nat) (dflt (T.int IntKind.u8)), (Bool.false, ([] : List UInt8)), Vector.replicate (32 : Nat) (dflt (T.int IntKind.u8)), (0 : Int)), (IntKind.wrap IntKind.i64 (Prod.fst t1897), Vector.replicate (32 : Nat) (dflt (T.int IntKind.u8)), (Bool.false, ([] : List UInt8)), Prod.fst t1904, (0 : Int)), Prod.fst (Prod.snd t1904), Prod.snd (Prod.snd t1904)) else j1923 (x1895, ((0 : Int), Vector.replicate (32 : Nat) (dflt (T.int IntKind.u8)), (Bool.false, ([] : List UInt8)), Vector.replicate (32 : Nat) (dflt (T.int IntKind.u8)), (0 : Int)), (IntKind.wrap IntKind.i64 (Prod.fst t1897), Vector.replicate (32 : Nat) (dflt (T.int IntKind.u8)), (Bool.false, ([] : List UInt8)), Vector.replicate (32 : Nat) (dflt (T.int IntKind.u8)), (0 : Int)), Prod.fst (Prod.snd t1897), Prod.snd (Prod.snd t1897)) else bif (IntKind.wrap IntKind.i64 (Prod.fst t1897) == (2 : Int)) then Option.bind (p_record_Get_c1 (Prod.fst (Prod.snd t1897), Prod.snd (Prod.snd t1897))) fun t1905 => Option.bind (p_wide_Cut_Rest (Prod.fst (Prod.snd t1905), Prod.snd (Prod.snd t1905))) fun t1906 => Option.bind (p_wide_Cut_Take (Max.max (↑(List.length t1906) : Int) (1 : Int)) (Prod.fst (Prod.snd t1905), Prod.snd (Prod.snd t1905))) fun t1907 => Option.bind (p_entry_Get (Prod.fst t1907)) fun t1908 => j1923 (x1895, ((0 : Int), Vector.replicate (32 : Nat) (dflt (T.int IntKind.u8)), (Bool.false, ([] : List UInt8)), Vector.replicate (32 : Nat) (dflt (T.int IntKind.u8)), (0 : Int)), (IntKind.wrap IntKind.i64 (Prod.fst t1897), Prod.fst t1905, (Prod.fst (Prod.fst t1908), Prod.snd (Prod.fst t1908)), Vector.replicate (32 : Nat) (dflt (T.int IntKind.u8)), (0 : Int)), Prod.fst (Prod.snd t1907), Prod.snd (Prod.snd t1907)) else bif (IntKind.wrap IntKind.i64 (Prod.fst t1897) == (5 : Int)) then Option.bind (p_wide_Cut_Num k (4 : Int) (Prod.fst (Prod.snd t1897), Prod.snd (Prod.snd t1897))) fun t1909 => j1923 (x1895, ((0 : Int), Vector.replicate (32 : Nat) (dflt (T.int IntKind.u8)), (Bool.false, ([] : List UInt8)), Vector.replicate (32 : Nat) (dflt (T.int IntKind.u8)), (0 : Int)), (IntKind.wrap IntKind.i64 (Prod.fst t1897), Vector.replicate (32 : Nat) (dflt (T.int IntKind.u8)), (Bool.false, ([] : List UInt8)), Vector.replicate (32 : Nat) (dflt (T.int IntKind.u8)), IntKind.wrap IntKind.i64 (Prod.fst t1909)), Prod.fst (Prod.snd t1909), Prod.snd (Prod.snd t1909)) else bif (IntKind.wrap IntKind.i64 (Prod.fst t1897) == (3 : Int)) then bif (IntKind.wrap IntKind.i64 (Prod.fst t1897) == (3 : Int)) then Option.bind (p_record_Get_c1 (Prod.fst (Prod.snd t1897), Prod.snd (Prod.snd t1897))) fun t1910 => j1923 (x1895, ((0 : Int), Vector.replicate (32 : Nat) (dflt (T.int IntKind.u8)), (Bool.false, ([] : List UInt8)), Vector.replicate (32 : Nat) (dflt (T.int IntKind.u8)), (0 : Int)), (IntKind.wrap IntKind.i64 (Prod.fst t1897), Vector.replicate (32 : Nat) (dflt (T.int IntKind.u8)), (Bool.false, ([] : List UInt8)), Prod.fst t1910, (0 : Int)), Prod.fst (Prod.snd t1910), Prod.snd (Prod.snd t1910)) else j1923 (x1895, ((0 : Int), Vector.replicate (32 : Nat) (dflt (T.int IntKind.u8)), (Bool.false, ([] : List UInt8)), Vector.replicate (32 : Nat) (dflt (T.int IntKind.u8)), (0 : Int)), (IntKind.wrap IntKind.i64 (Prod.fst t1897), Vector.replicate (32 : Nat) (dflt (T.int IntKind.u8)), (Bool.false, ([] : List UInt8)), Vector.replicate (32 : Nat) (dflt (T.int IntKind.u8)), (0 : Int)), Prod.fst (Prod.snd t1897), Prod.snd (Prod.snd t1897)) else bif (IntKind.wrap IntKind.i64 (Prod.fst t1897) == (4 : Int)) then Option.bind (p_record_Get_c1 (Prod.fst (Prod.snd t1897), Prod.snd (Prod.snd t1897))) fun t1911 => j1923 (x1895, ((0 : Int), Vector.replicate (32 : Nat) (dflt (T.int IntKind.u8)), (Bool.false, ([] : List UInt8)), Vector.replicate (32 : Nat) (dflt (T.int IntKind.u8)), (0 : Int)), (IntKind.wrap IntKind.i64 (Prod.fst t1897), Vector.replicate (32 : Nat) (dflt (T.int IntKind.u8)), (Bool.false, ([] : List UInt8)), Prod.fst t1911, (0 : Int)), Prod.fst (Prod.snd t1911), Prod.snd (Prod.snd t1911)) else j1923 (x1895, ((0 : Int), Vector.replicate (32 : Nat) (dflt (T.int IntKind.u8)), (Bool.false, ([] : List UInt8)), Vector.replicate (32 : Nat) (dflt (T.int IntKind.u8)), (0 : Int)), (IntKind.wrap IntKind.i64 (Prod.fst t1897), Vector.replicate (32 : Nat) (dflt (T.int IntKind.u8)), (Bool.false, ([] : List UInt8)), Vector.replicate (32 : Nat) (dflt (T.int IntKind.u8)), (0 : Int)), Prod.fst (Prod.snd t1897), Prod.snd (Prod.snd t1897))
noncomputable def e_record_Get (k : Nat) : Entry := ⟨Ds.mk [Vd.one (Ld.im T.str)] [], Ds.mk [Vd.st (T.pair (T.int IntKind.i64) (T.pair (T.arr (32) (T.int IntKind.u8)) (T.pair (T.pair T.bool T.str) (T.pair (T.arr (32) (T.int IntKind.u8)) (T.int IntKind.i64))))), Vd.one (Ld.im (T.int IntKind.i64))] [], fun x => p_record_Get k x⟩
noncomputable def c_record_Get (k : Nat) : Cx := ⟨Try.prog, [(58, e_entry_Get), (88, e_record_Put k), (107, e_wide_On), (108, e_wide_Cut_Rest), (117, e_wide_Cut_Take), (118, e_wide_Cut_Num k), (110, e_wide_Cut_Err), (119, e_record_Get_c1)], [(14, Sd.mk [0, 2, 4, 5] (Ds.mk [Vd.one (Ld.im T.str), Vd.one (Ld.ptr (0) (0)), Vd.one (Ld.ptr (1) (0)), Vd.one (Ld.ptr (2) (0))] [Od.blkT (44) (T.pair (T.int IntKind.i64) (T.pair (T.arr (32) (T.int IntKind.u8)) (T.pair (T.pair T.bool T.str) (T.pair (T.arr (32) (T.int IntKind.u8)) (T.int IntKind.i64))))), Od.blk (141) [Ld.ptr (3) (0)], Od.blkT (44) (T.pair (T.int IntKind.i64) (T.pair (T.arr (32) (T.int IntKind.u8)) (T.pair (T.pair T.bool T.str) (T.pair (T.arr (32) (T.int IntKind.u8)) (T.int IntKind.i64))))), Od.blkT (152) (T.pair T.str (T.int IntKind.i64))]))], [(18, Sd.mk [2, 5, 65] (Ds.mk [Vd.one (Ld.ptr (0) (0)), Vd.one (Ld.ptr (1) (0)), Vd.one (Ld.im T.bool)] [Od.blkT (44) (T.pair (T.int IntKind.i64) (T.pair (T.arr (32) (T.int IntKind.u8)) (T.pair (T.pair T.bool T.str) (T.pair (T.arr (32) (T.int IntKind.u8)) (T.int IntKind.i64))))), Od.blkT (44) (T.pair (T.int IntKind.i64) (T.pair (T.arr (32) (T.int IntKind.u8)) (T.pair (T.pair T.bool T.str) (T.pair (T.arr (32) (T.int IntKind.u8)) (T.int IntKind.i64)))))]))], [], [(8, ([(0, 1), (1, 1), (2, 0), (3, 2), (4, 2)], [], [], Tr.done)), (8, ([], [(5, Bool.false), (6, Bool.false), (7, Bool.false)], [], Tr.done)), (8, ([(8, 2), (9, 2), (10, 2)], [(11, Bool.false)], [], Tr.done))], 0, 68, [], fun _ _ _ => none⟩
theorem q_record_Get (k : Nat) (x : HL (e_record_Get k).pre.ts) : runF (c_record_Get k) k Try.f111 (e_record_Get k).pre (e_record_Get k).post x = (e_record_Get k).fn x := by kernel_rfl
theorem s_record_Get (k : Nat) : Entry.Sound Try.prog 111 (e_record_Get k) := runF_sound (X := c_record_Get k) (pre := (e_record_Get k).pre) (post := (e_record_Get k).post) (q := (e_record_Get k).fn) ⟨(dOk_cons (s_entry_Get) (dOk_cons (s_record_Put k) (dOk_cons (s_wide_On) (dOk_cons (s_wide_Cut_Rest) (dOk_cons (s_wide_Cut_Take) (dOk_cons (s_wide_Cut_Num k) (dOk_cons (s_wide_Cut_Err) (dOk_cons (s_record_Get_c1) dOk_nil)))))))), x_ext, x_mo⟩ Try.func111 (q_record_Get k)

/- dormouse/batch.Get$1: function 91 -/
noncomputable def p_batch_Get_c1 (x1938 : Int × Vector Int (32) × (Bool × List UInt8) × Vector Int (32) × Int) (x1939 : List (Int × Vector Int (32) × (Bool × List UInt8) × Vector Int (32) × Int)) : Option (Bool × List (Int × Vector Int (32) × (Bool × List UInt8) × Vector Int (32) × Int)) :=
  need ((List.length x1939 + List.length [(Prod.fst x1938, Prod.fst (Prod.snd x1938), (Prod.fst (Prod.fst (Prod.snd (Prod.snd x1938))), Prod.snd (Prod.fst (Prod.snd (Prod.snd x1938)))), Prod.fst (Prod.snd (Prod.snd (Prod.snd x1938))), Prod.snd (Prod.snd (Prod.snd (Prod.snd x1938))))]) * (104 : Nat) ≤ (140737488355328 : Nat)) (some (Bool.true, x1939 ++ [(Prod.fst x1938, Prod.fst (Prod.snd x1938), (Prod.fst (Prod.fst (Prod.snd (Prod.snd x1938))), Prod.snd (Prod.fst (Prod.snd (Prod.snd x1938)))), Prod.fst (Prod.snd (Prod.snd (Prod.snd x1938))), Prod.snd (Prod.snd (Prod.snd (Prod.snd x1938))))]))
noncomputable def e_batch_Get_c1 : Entry := ⟨Ds.mk [Vd.st (T.pair (T.int IntKind.i64) (T.pair (T.arr (32) (T.int IntKind.u8)) (T.pair (T.pair T.bool T.str) (T.pair (T.arr (32) (T.int IntKind.u8)) (T.int IntKind.i64))))), Vd.one (Ld.ptr (0) (0))] [Od.blk (26) [Ld.own (1)], Od.arr (44) (T.pair (T.int IntKind.i64) (T.pair (T.arr (32) (T.int IntKind.u8)) (T.pair (T.pair T.bool T.str) (T.pair (T.arr (32) (T.int IntKind.u8)) (T.int IntKind.i64)))))], Ds.mk [Vd.one (Ld.im T.bool)] [Od.blk (26) [Ld.own (2)], Od.gone, Od.arr (44) (T.pair (T.int IntKind.i64) (T.pair (T.arr (32) (T.int IntKind.u8)) (T.pair (T.pair T.bool T.str) (T.pair (T.arr (32) (T.int IntKind.u8)) (T.int IntKind.i64)))))], fun x => p_batch_Get_c1 x.1 x.2⟩
noncomputable def c_batch_Get_c1 : Cx := ⟨Try.prog, [], [], [], [], [], 2, 8, [], fun _ _ _ => none⟩
theorem q_batch_Get_c1 (x : HL (e_batch_Get_c1).pre.ts) : runF (c_batch_Get_c1) 0 Try.f91 (e_batch_Get_c1).pre (e_batch_Get_c1).post x = (e_batch_Get_c1).fn x := by kernel_rfl
theorem s_batch_Get_c1 : Entry.Sound Try.prog 91 (e_batch_Get_c1) := runF_sound (X := c_batch_Get_c1) (pre := (e_batch_Get_c1).pre) (post := (e_batch_Get_c1).post) (q := (e_batch_Get_c1).fn) ⟨dOk_nil, x_ext, x_mo⟩ Try.func91 (q_batch_Get_c1)

/- dormouse/batch.each: function 90 -/
noncomputable def p_batch_each.j0 (k : Nat) (x1967 : Int) (x1968 : List (Int × Vector Int (32) × (Bool × List UInt8) × Vector Int (32) × Int)) : Option (Int × Int × List (Int × Vector Int (32) × (Bool × List UInt8) × Vector Int (32) × Int)) :=
  some (x1967, (0 : Int), x1968)
noncomputable def p_batch_each.b1 (k : Nat) (j1969 : Int × List (Int × Vector Int (32) × (Bool × List UInt8) × Vector Int (32) × Int) → Option (Int × Int × List (Int × Vector Int (32) × (Bool × List UInt8) × Vector Int (32) × Int))) (rec1965 : List UInt8 × Int × (List UInt8 × Int) × List (Int × Vector Int (32) × (Bool × List UInt8) × Vector Int (32) × Int) → Option (Int × Int × List (Int × Vector Int (32) × (Bool × List UInt8) × Vector Int (32) × Int))) (x1955 : List UInt8) (x1956 : Int) (x1957 : List UInt8 × Int) (x1958 : List (Int × Vector Int (32) × (Bool × List UInt8) × Vector Int (32) × Int)) : Option (Int × Int × List (Int × Vector Int (32) × (Bool × List UInt8) × Vector Int (32) × Int)) :=
  Option.bind (p_wide_Cut_Rest (Prod.fst x1957, Prod.snd x1957)) fun t1959 => bif (!t1959 == []) then Option.bind (p_wide_Cut_Text k (Prod.fst x1957, Prod.snd x1957)) fun t1960 => Option.bind (p_wide_Cut_Err (Prod.fst (Prod.snd t1960), Prod.snd (Prod.snd t1960))) fun t1961 => bif (t1961 != (0 : Int)) then some (x1956, t1961, x1958) else Option.bind (p_record_Get k (Prod.fst t1960)) fun t1962 => bif (Prod.snd t1962 != (0 : Int)) then some (x1956, Prod.snd t1962, x1958) else Option.bind (p_batch_Get_c1 (Prod.fst (Prod.fst t1962), Prod.fst (Prod.snd (Prod.fst t1962)), (Prod.fst (Prod.fst (Prod.snd (Prod.snd (Prod.fst t1962)))), Prod.snd (Prod.fst (Prod.snd (Prod.snd (Prod.fst t1962))))), Prod.fst (Prod.snd (Prod.snd (Prod.snd (Prod.fst t1962)))), Prod.snd (Prod.snd (Prod.snd (Prod.snd (Prod.fst t1962))))) x1958) fun t1963 => bif (!Prod.fst t1963) then some (x1956, (0 : Int), Prod.snd t1963) else Option.bind (p_wide_Cut_Rest (Prod.fst (Prod.snd t1960), Prod.snd (Prod.snd t1960))) fun t1964 => rec1965 (x1955, IntKind.wrap IntKind.i64 ((↑(List.length x1955) : Int) - (↑(List.length t1964) : Int)), (Prod.fst (Prod.snd t1960), Prod.snd (Prod.snd t1960)), Prod.snd t1963) else j1969 (x1956, x1958)
noncomputable def p_batch_each (k : Nat) (x1942 : List UInt8) (x1943 : List (Int × Vector Int (32) × (Bool × List UInt8) × Vector Int (32) × Int)) : Option (Int × Int × List (Int × Vector Int (32) × (Bool × List UInt8) × Vector Int (32) × Int)) :=
  Option.bind (p_wide_On x1942) fun t1944 => joinC (fun (y : Int × List (Int × Vector Int (32) × (Bool × List UInt8) × Vector Int (32) × Int)) => p_batch_each.j0 k y.1 y.2) fun (j1969 : Int × List (Int × Vector Int (32) × (Bool × List UInt8) × Vector Int (32) × Int) → Option (Int × Int × List (Int × Vector Int (32) × (Bool × List UInt8) × Vector Int (32) × Int))) => loopC (fun (r : List UInt8 × Int × (List UInt8 × Int) × List (Int × Vector Int (32) × (Bool × List UInt8) × Vector Int (32) × Int) → Option (Int × Int × List (Int × Vector Int (32) × (Bool × List UInt8) × Vector Int (32) × Int))) y => p_batch_each.b1 k j1969 r y.1 y.2.1 y.2.2.1 y.2.2.2) k (x1942, (0 : Int), (Prod.fst t1944, Prod.snd t1944), x1943)
noncomputable def e_batch_each (k : Nat) : Entry := ⟨Ds.mk [Vd.one (Ld.im T.str), Vd.one (Ld.fn (91) [0])] [Od.blk (26) [Ld.own (1)], Od.arr (44) (T.pair (T.int IntKind.i64) (T.pair (T.arr (32) (T.int IntKind.u8)) (T.pair (T.pair T.bool T.str) (T.pair (T.arr (32) (T.int IntKind.u8)) (T.int IntKind.i64)))))], Ds.mk [Vd.one (Ld.im (T.int IntKind.i64)), Vd.one (Ld.im (T.int IntKind.i64))] [Od.blk (26) [Ld.own (2)], Od.gone, Od.arr (44) (T.pair (T.int IntKind.i64) (T.pair (T.arr (32) (T.int IntKind.u8)) (T.pair (T.pair T.bool T.str) (T.pair (T.arr (32) (T.int IntKind.u8)) (T.int IntKind.i64)))))], fun x => p_batch_each k x.1 x.2⟩
noncomputable def c_batch_each (k : Nat) : Cx := ⟨Try.prog, [(107, e_wide_On), (108, e_wide_Cut_Rest), (109, e_wide_Cut_Text k), (110, e_wide_Cut_Err), (111, e_record_Get k), (91, e_batch_Get_c1)], [(14, Sd.mk [7] (Ds.mk [Vd.one (Ld.im (T.int IntKind.i64))] [Od.blk (26) [Ld.own (2)], Od.gone, Od.arr (44) (T.pair (T.int IntKind.i64) (T.pair (T.arr (32) (T.int IntKind.u8)) (T.pair (T.pair T.bool T.str) (T.pair (T.arr (32) (T.int IntKind.u8)) (T.int IntKind.i64)))))]))], [], [(3, Sd.mk [0, 1, 6, 7] (Ds.mk [Vd.one (Ld.im T.str), Vd.one (Ld.fn (91) [0]), Vd.one (Ld.ptr (2) (0)), Vd.one (Ld.im (T.int IntKind.i64))] [Od.blk (26) [Ld.own (3)], Od.gone, Od.blkT (152) (T.pair T.str (T.int IntKind.i64)), Od.arr (44) (T.pair (T.int IntKind.i64) (T.pair (T.arr (32) (T.int IntKind.u8)) (T.pair (T.pair T.bool T.str) (T.pair (T.arr (32) (T.int IntKind.u8)) (T.int IntKind.i64)))))]))], [], 2, 46, [], fun _ _ _ => none⟩
theorem q_batch_each (k : Nat) (x : HL (e_batch_each k).pre.ts) : runF (c_batch_each k) k Try.f90 (e_batch_each k).pre (e_batch_each k).post x = (e_batch_each k).fn x := by kernel_rfl
theorem s_batch_each (k : Nat) : Entry.Sound Try.prog 90 (e_batch_each k) := runF_sound (X := c_batch_each k) (pre := (e_batch_each k).pre) (post := (e_batch_each k).post) (q := (e_batch_each k).fn) ⟨(dOk_cons (s_wide_On) (dOk_cons (s_wide_Cut_Rest) (dOk_cons (s_wide_Cut_Text k) (dOk_cons (s_wide_Cut_Err) (dOk_cons (s_record_Get k) (dOk_cons (s_batch_Get_c1) dOk_nil)))))), x_ext, x_mo⟩ Try.func90 (q_batch_each k)

/- dormouse/batch.Get: function 67 -/
noncomputable def p_batch_Get (k : Nat) (x1972 : List UInt8) : Option (Int × List (Int × Vector Int (32) × (Bool × List UInt8) × Vector Int (32) × Int)) :=
  bif (decide ((↑(List.length x1972) : Int) > (4194304 : Int))) then some ((4 : Int), []) else Option.bind (p_batch_each k x1972 []) fun t1973 => bif (Prod.fst (Prod.snd t1973) != (0 : Int)) then some (Prod.fst (Prod.snd t1973), []) else some ((0 : Int), Prod.snd (Prod.snd t1973))
noncomputable def e_batch_Get (k : Nat) : Entry := ⟨Ds.mk [Vd.one (Ld.im T.str)] [], Ds.mk [Vd.one (Ld.own (0)), Vd.one (Ld.im (T.int IntKind.i64))] [Od.arr (44) (T.pair (T.int IntKind.i64) (T.pair (T.arr (32) (T.int IntKind.u8)) (T.pair (T.pair T.bool T.str) (T.pair (T.arr (32) (T.int IntKind.u8)) (T.int IntKind.i64)))))], fun x => p_batch_Get k x⟩
noncomputable def c_batch_Get (k : Nat) : Cx := ⟨Try.prog, [(90, e_batch_each k)], [], [], [], [], 0, 20, [], fun _ _ _ => none⟩
theorem q_batch_Get (k : Nat) (x : HL (e_batch_Get k).pre.ts) : runF (c_batch_Get k) k Try.f67 (e_batch_Get k).pre (e_batch_Get k).post x = (e_batch_Get k).fn x := by kernel_rfl
theorem s_batch_Get (k : Nat) : Entry.Sound Try.prog 67 (e_batch_Get k) := runF_sound (X := c_batch_Get k) (pre := (e_batch_Get k).pre) (post := (e_batch_Get k).post) (q := (e_batch_Get k).fn) ⟨(dOk_cons (s_batch_each k) dOk_nil), x_ext, x_mo⟩ Try.func67 (q_batch_Get k)

/- dormouse/image.Read: function 34 -/
noncomputable def p_image_Read (k : Nat) (x1975 : List UInt8) : Option (Int × Int × List (Vector Int (32)) × List (Vector Int (32) × List UInt8) × List (Vector Int (32) × List UInt8)) :=
  Option.bind (p_batch_Get k x1975) fun t1976 => bif (Prod.fst t1976 != (0 : Int)) then some ((0 : Int), Prod.fst t1976, [], [], []) else Option.bind (p_fold_All k ((0 : Int), [], [], []) (Prod.snd t1976)) fun t1977 => some (Prod.fst t1977, Prod.fst (Prod.snd t1977), Prod.fst (Prod.snd (Prod.snd t1977)), Prod.fst (Prod.snd (Prod.snd (Prod.snd t1977))), Prod.snd (Prod.snd (Prod.snd (Prod.snd t1977))))
noncomputable def e_image_Read (k : Nat) : Entry := ⟨Ds.mk [Vd.one (Ld.im T.str)] [], Ds.mk [Vd.ag [Ld.im (T.int IntKind.i64), Ld.own (0), Ld.own (1), Ld.own (2)], Vd.one (Ld.im (T.int IntKind.i64))] [Od.arr (42) (T.arr (32) (T.int IntKind.u8)), Od.arr (56) (T.pair (T.arr (32) (T.int IntKind.u8)) T.str), Od.arr (56) (T.pair (T.arr (32) (T.int IntKind.u8)) T.str)], fun x => p_image_Read k x⟩
noncomputable def c_image_Read (k : Nat) : Cx := ⟨Try.prog, [(18, e_fold_All k), (67, e_batch_Get k)], [], [], [], [], 0, 20, [], fun _ _ _ => none⟩
theorem q_image_Read (k : Nat) (x : HL (e_image_Read k).pre.ts) : runF (c_image_Read k) k Try.f34 (e_image_Read k).pre (e_image_Read k).post x = (e_image_Read k).fn x := by kernel_rfl
theorem s_image_Read (k : Nat) : Entry.Sound Try.prog 34 (e_image_Read k) := runF_sound (X := c_image_Read k) (pre := (e_image_Read k).pre) (post := (e_image_Read k).post) (q := (e_image_Read k).fn) ⟨(dOk_cons (s_fold_All k) (dOk_cons (s_batch_Get k) dOk_nil)), x_ext, x_mo⟩ Try.func34 (q_image_Read k)

/- slices.Index[[]dormouse/api.Pair,dormouse/api.Pair]: function 96 -/
noncomputable def p_slices_Index_api_Pair_api_Pair.j0 (k : Nat) : Option Int :=
  some (-1 : Int)
noncomputable def p_slices_Index_api_Pair_api_Pair.b1 (k : Nat) (j2033 : Unit → Option Int) (rec2031 : List (Vector Int (32) × List UInt8) × Int × Int × Vector Int (32) × List UInt8 → Option Int) (x2026 : List (Vector Int (32) × List UInt8)) (x2027 : Int) (x2028 : Int) (x2029 : Vector Int (32) × List UInt8) : Option Int :=
  bif (decide (x2028 < x2027)) then need ((0 : Int) ≤ x2028 ∧ x2028 < (↑(List.length x2026) : Int)) (bif (decide (Prod.fst x2029 = Prod.fst (at_ (dflt (T.pair (T.arr (32) (T.int IntKind.u8)) T.str)) x2026 x2028)) && (Prod.snd x2029 == Prod.snd (at_ (dflt (T.pair (T.arr (32) (T.int IntKind.u8)) T.str)) x2026 x2028) && Bool.true)) then some x2028 else rec2031 (x2026, x2027, IntKind.wrap IntKind.i64 (x2028 + (1 : Int)), Prod.fst x2029, Prod.snd x2029)) else j2033 ()
noncomputable def p_slices_Index_api_Pair_api_Pair (k : Nat) (x2024 : List (Vector Int (32) × List UInt8)) (x2025 : Vector Int (32) × List UInt8) : Option Int :=
  joinC (fun (y : Unit) => p_slices_Index_api_Pair_api_Pair.j0 k) fun (j2033 : Unit → Option Int) => loopC (fun (r : List (Vector Int (32) × List UInt8) × Int × Int × Vector Int (32) × List UInt8 → Option Int) y => p_slices_Index_api_Pair_api_Pair.b1 k j2033 r y.1 y.2.1 y.2.2.1 y.2.2.2) k (x2024, (↑(List.length x2024) : Int), (0 : Int), Prod.fst x2025, Prod.snd x2025)
noncomputable def e_slices_Index_api_Pair_api_Pair (k : Nat) : Entry := ⟨Ds.mk [Vd.one (Ld.im (T.sl (T.pair (T.arr (32) (T.int IntKind.u8)) T.str))), Vd.st (T.pair (T.arr (32) (T.int IntKind.u8)) T.str)] [], Ds.mk [Vd.one (Ld.im (T.int IntKind.i64))] [], fun x => p_slices_Index_api_Pair_api_Pair k x.1 x.2⟩
noncomputable def c_slices_Index_api_Pair_api_Pair (k : Nat) : Cx := ⟨Try.prog, [], [(7, Sd.mk [] (Ds.mk [] []))], [], [(2, Sd.mk [0, 3, 7, 8] (Ds.mk [Vd.one (Ld.im (T.sl (T.pair (T.arr (32) (T.int IntKind.u8)) T.str))), Vd.one (Ld.ptr (0) (0)), Vd.one (Ld.im (T.int IntKind.i64)), Vd.one (Ld.im (T.int IntKind.i64))] [Od.blkT (56) (T.pair (T.arr (32) (T.int IntKind.u8)) T.str)]))], [(4, ([(0, 1), (1, 2), (2, 2), (3, 2), (4, 1), (5, 2)], [], [], Tr.done))], 0, 19, [], fun _ _ _ => none⟩
theorem q_slices_Index_api_Pair_api_Pair (k : Nat) (x : HL (e_slices_Index_api_Pair_api_Pair k).pre.ts) : runF (c_slices_Index_api_Pair_api_Pair k) k Try.f96 (e_slices_Index_api_Pair_api_Pair k).pre (e_slices_Index_api_Pair_api_Pair k).post x = (e_slices_Index_api_Pair_api_Pair k).fn x := by kernel_rfl
theorem s_slices_Index_api_Pair_api_Pair (k : Nat) : Entry.Sound Try.prog 96 (e_slices_Index_api_Pair_api_Pair k) := runF_sound (X := c_slices_Index_api_Pair_api_Pair k) (pre := (e_slices_Index_api_Pair_api_Pair k).pre) (post := (e_slices_Index_api_Pair_api_Pair k).post) (q := (e_slices_Index_api_Pair_api_Pair k).fn) ⟨dOk_nil, x_ext, x_mo⟩ Try.func96 (q_slices_Index_api_Pair_api_Pair k)

/- slices.Contains[[]dormouse/api.Pair,dormouse/api.Pair]: function 74 -/
noncomputable def p_slices_Contains_api_Pair_api_Pair (k : Nat) (x2036 : List (Vector Int (32) × List UInt8)) (x2037 : Vector Int (32) × List UInt8) : Option Bool :=
  Option.bind (p_slices_Index_api_Pair_api_Pair k x2036 (Prod.fst x2037, Prod.snd x2037)) fun t2038 => some (decide (t2038 ≥ (0 : Int)))
noncomputable def e_slices_Contains_api_Pair_api_Pair (k : Nat) : Entry := ⟨Ds.mk [Vd.one (Ld.im (T.sl (T.pair (T.arr (32) (T.int IntKind.u8)) T.str))), Vd.st (T.pair (T.arr (32) (T.int IntKind.u8)) T.str)] [], Ds.mk [Vd.one (Ld.im T.bool)] [], fun x => p_slices_Contains_api_Pair_api_Pair k x.1 x.2⟩
noncomputable def c_slices_Contains_api_Pair_api_Pair (k : Nat) : Cx := ⟨Try.prog, [(96, e_slices_Index_api_Pair_api_Pair k)], [], [], [], [], 0, 9, [], fun _ _ _ => none⟩
theorem q_slices_Contains_api_Pair_api_Pair (k : Nat) (x : HL (e_slices_Contains_api_Pair_api_Pair k).pre.ts) : runF (c_slices_Contains_api_Pair_api_Pair k) k Try.f74 (e_slices_Contains_api_Pair_api_Pair k).pre (e_slices_Contains_api_Pair_api_Pair k).post x = (e_slices_Contains_api_Pair_api_Pair k).fn x := by kernel_rfl
theorem s_slices_Contains_api_Pair_api_Pair (k : Nat) : Entry.Sound Try.prog 74 (e_slices_Contains_api_Pair_api_Pair k) := runF_sound (X := c_slices_Contains_api_Pair_api_Pair k) (pre := (e_slices_Contains_api_Pair_api_Pair k).pre) (post := (e_slices_Contains_api_Pair_api_Pair k).post) (q := (e_slices_Contains_api_Pair_api_Pair k).fn) ⟨(dOk_cons (s_slices_Index_api_Pair_api_Pair k) dOk_nil), x_ext, x_mo⟩ Try.func74 (q_slices_Contains_api_Pair_api_Pair k)

/- dormouse/image.Delta$1: function 73 -/
noncomputable def p_image_Delta_c1 (k : Nat) (x2040 : Vector Int (32) × List UInt8) (x2041 : Int × List (Vector Int (32)) × List (Vector Int (32) × List UInt8) × List (Vector Int (32) × List UInt8)) : Option Bool :=
  Option.bind (p_slices_Contains_api_Pair_api_Pair k (Prod.snd (Prod.snd (Prod.snd x2041))) (Prod.fst x2040, Prod.snd x2040)) fun t2042 => some t2042
noncomputable def e_image_Delta_c1 (k : Nat) : Entry := ⟨Ds.mk [Vd.st (T.pair (T.arr (32) (T.int IntKind.u8)) T.str), Vd.one (Ld.ptr (0) (0))] [Od.rdT (25) (T.pair (T.int IntKind.i64) (T.pair (T.sl (T.arr (32) (T.int IntKind.u8))) (T.pair (T.sl (T.pair (T.arr (32) (T.int IntKind.u8)) T.str)) (T.sl (T.pair (T.arr (32) (T.int IntKind.u8)) T.str)))))], Ds.mk [Vd.one (Ld.im T.bool)] [Od.gone], fun x => p_image_Delta_c1 k x.1 x.2⟩
noncomputable def c_image_Delta_c1 (k : Nat) : Cx := ⟨Try.prog, [(74, e_slices_Contains_api_Pair_api_Pair k)], [], [], [], [], 1, 8, [], fun _ _ _ => none⟩
theorem q_image_Delta_c1 (k : Nat) (x : HL (e_image_Delta_c1 k).pre.ts) : runF (c_image_Delta_c1 k) k Try.f73 (e_image_Delta_c1 k).pre (e_image_Delta_c1 k).post x = (e_image_Delta_c1 k).fn x := by kernel_rfl
theorem s_image_Delta_c1 (k : Nat) : Entry.Sound Try.prog 73 (e_image_Delta_c1 k) := runF_sound (X := c_image_Delta_c1 k) (pre := (e_image_Delta_c1 k).pre) (post := (e_image_Delta_c1 k).post) (q := (e_image_Delta_c1 k).fn) ⟨(dOk_cons (s_slices_Contains_api_Pair_api_Pair k) dOk_nil), x_ext, x_mo⟩ Try.func73 (q_image_Delta_c1 k)

/- slices.IndexFunc[[]dormouse/api.Pair,dormouse/api.Pair]: function 95 -/
noncomputable def p_slices_IndexFunc_api_Pair_api_Pair.j0 (k : Nat) (x2054 : Int × List (Vector Int (32)) × List (Vector Int (32) × List UInt8) × List (Vector Int (32) × List UInt8)) : Option Int :=
  some (-1 : Int)
noncomputable def p_slices_IndexFunc_api_Pair_api_Pair.b1 (k : Nat) (j2055 : Int × List (Vector Int (32)) × List (Vector Int (32) × List UInt8) × List (Vector Int (32) × List UInt8) → Option Int) (rec2052 : List (Vector Int (32) × List UInt8) × Int × Int × Int × List (Vector Int (32)) × List (Vector Int (32) × List UInt8) × List (Vector Int (32) × List UInt8) → Option Int) (x2046 : List (Vector Int (32) × List UInt8)) (x2047 : Int) (x2048 : Int) (x2049 : Int × List (Vector Int (32)) × List (Vector Int (32) × List UInt8) × List (Vector Int (32) × List UInt8)) : Option Int :=
  bif (decide (x2048 < x2047)) then need ((0 : Int) ≤ x2048 ∧ x2048 < (↑(List.length x2046) : Int)) (Option.bind (p_image_Delta_c1 k (Prod.fst (at_ (dflt (T.pair (T.arr (32) (T.int IntKind.u8)) T.str)) x2046 x2048), Prod.snd (at_ (dflt (T.pair (T.arr (32) (T.int IntKind.u8)) T.str)) x2046 x2048)) (Prod.fst x2049, Prod.fst (Prod.snd x2049), Prod.fst (Prod.snd (Prod.snd x2049)), Prod.snd (Prod.snd (Prod.snd x2049)))) fun t2051 => bif t2051 then some x2048 else rec2052 (x2046, x2047, IntKind.wrap IntKind.i64 (x2048 + (1 : Int)), Prod.fst x2049, Prod.fst (Prod.snd x2049), Prod.fst (Prod.snd (Prod.snd x2049)), Prod.snd (Prod.snd (Prod.snd x2049)))) else j2055 (Prod.fst x2049, Prod.fst (Prod.snd x2049), Prod.fst (Prod.snd (Prod.snd x2049)), Prod.snd (Prod.snd (Prod.snd x2049)))
noncomputable def p_slices_IndexFunc_api_Pair_api_Pair (k : Nat) (x2044 : List (Vector Int (32) × List UInt8)) (x2045 : Int × List (Vector Int (32)) × List (Vector Int (32) × List UInt8) × List (Vector Int (32) × List UInt8)) : Option Int :=
  joinC (p_slices_IndexFunc_api_Pair_api_Pair.j0 k) fun (j2055 : Int × List (Vector Int (32)) × List (Vector Int (32) × List UInt8) × List (Vector Int (32) × List UInt8) → Option Int) => loopC (fun (r : List (Vector Int (32) × List UInt8) × Int × Int × Int × List (Vector Int (32)) × List (Vector Int (32) × List UInt8) × List (Vector Int (32) × List UInt8) → Option Int) y => p_slices_IndexFunc_api_Pair_api_Pair.b1 k j2055 r y.1 y.2.1 y.2.2.1 y.2.2.2) k (x2044, (↑(List.length x2044) : Int), (0 : Int), Prod.fst x2045, Prod.fst (Prod.snd x2045), Prod.fst (Prod.snd (Prod.snd x2045)), Prod.snd (Prod.snd (Prod.snd x2045)))
noncomputable def e_slices_IndexFunc_api_Pair_api_Pair (k : Nat) : Entry := ⟨Ds.mk [Vd.one (Ld.im (T.sl (T.pair (T.arr (32) (T.int IntKind.u8)) T.str))), Vd.one (Ld.fn (73) [0])] [Od.rdT (25) (T.pair (T.int IntKind.i64) (T.pair (T.sl (T.arr (32) (T.int IntKind.u8))) (T.pair (T.sl (T.pair (T.arr (32) (T.int IntKind.u8)) T.str)) (T.sl (T.pair (T.arr (32) (T.int IntKind.u8)) T.str)))))], Ds.mk [Vd.one (Ld.im (T.int IntKind.i64))] [Od.gone], fun x => p_slices_IndexFunc_api_Pair_api_Pair k x.1 x.2⟩
noncomputable def c_slices_IndexFunc_api_Pair_api_Pair (k : Nat) : Cx := ⟨Try.prog, [(73, e_image_Delta_c1 k)], [(7, Sd.mk [] (Ds.mk [] [Od.rdT (25) (T.pair (T.int IntKind.i64) (T.pair (T.sl (T.arr (32) (T.int IntKind.u8))) (T.pair (T.sl (T.pair (T.arr (32) (T.int IntKind.u8)) T.str)) (T.sl (T.pair (T.arr (32) (T.int IntKind.u8)) T.str)))))]))], [], [(2, Sd.mk [0, 1, 7, 8] (Ds.mk [Vd.one (Ld.im (T.sl (T.pair (T.arr (32) (T.int IntKind.u8)) T.str))), Vd.one (Ld.fn (73) [0]), Vd.one (Ld.im (T.int IntKind.i64)), Vd.one (Ld.im (T.int IntKind.i64))] [Od.rdT (25) (T.pair (T.int IntKind.i64) (T.pair (T.sl (T.arr (32) (T.int IntKind.u8))) (T.pair (T.sl (T.pair (T.arr (32) (T.int IntKind.u8)) T.str)) (T.sl (T.pair (T.arr (32) (T.int IntKind.u8)) T.str)))))]))], [], 1, 19, [], fun _ _ _ => none⟩
theorem q_slices_IndexFunc_api_Pair_api_Pair (k : Nat) (x : HL (e_slices_IndexFunc_api_Pair_api_Pair k).pre.ts) : runF (c_slices_IndexFunc_api_Pair_api_Pair k) k Try.f95 (e_slices_IndexFunc_api_Pair_api_Pair k).pre (e_slices_IndexFunc_api_Pair_api_Pair k).post x = (e_slices_IndexFunc_api_Pair_api_Pair k).fn x := by kernel_rfl
theorem s_slices_IndexFunc_api_Pair_api_Pair (k : Nat) : Entry.Sound Try.prog 95 (e_slices_IndexFunc_api_Pair_api_Pair k) := runF_sound (X := c_slices_IndexFunc_api_Pair_api_Pair k) (pre := (e_slices_IndexFunc_api_Pair_api_Pair k).pre) (post := (e_slices_IndexFunc_api_Pair_api_Pair k).post) (q := (e_slices_IndexFunc_api_Pair_api_Pair k).fn) ⟨(dOk_cons (s_image_Delta_c1 k) dOk_nil), x_ext, x_mo⟩ Try.func95 (q_slices_IndexFunc_api_Pair_api_Pair k)

/- slices.DeleteFunc[[]dormouse/api.Pair,dormouse/api.Pair]: function 72 -/
noncomputable def p_slices_DeleteFunc_api_Pair_api_Pair.j0 (k : Nat) (x2076 : Int) (x2077 : List (Vector Int (32) × List UInt8)) (x2078 : Int × List (Vector Int (32)) × List (Vector Int (32) × List UInt8) × List (Vector Int (32) × List UInt8)) : Option (List (Vector Int (32) × List UInt8)) :=
  need ((0 : Int) ≤ x2076 ∧ x2076 ≤ (↑(List.length x2077) : Int)) (need ((0 : Int) ≤ (0 : Int) ∧ (0 : Int) ≤ x2076 ∧ x2076 ≤ (↑(List.length (List.take (Int.toNat x2076) x2077 ++ List.replicate (List.length x2077 - Int.toNat x2076) (dflt (T.pair (T.arr (32) (T.int IntKind.u8)) T.str)))) : Int)) (some (List.take (Int.toNat x2076) (List.take (Int.toNat x2076) x2077 ++ List.replicate (List.length x2077 - Int.toNat x2076) (dflt (T.pair (T.arr (32) (T.int IntKind.u8)) T.str))))))
noncomputable def p_slices_DeleteFunc_api_Pair_api_Pair.j2 (k : Nat) (rec2074 : Int × Int × List (Vector Int (32) × List UInt8) × Int × List (Vector Int (32)) × List (Vector Int (32) × List UInt8) × List (Vector Int (32) × List UInt8) → Option (List (Vector Int (32) × List UInt8))) (x2068 : Int) (x2069 : Int) (x2070 : List (Vector Int (32) × List UInt8)) (x2071 : Int × List (Vector Int (32)) × List (Vector Int (32) × List UInt8) × List (Vector Int (32) × List UInt8)) : Option (List (Vector Int (32) × List UInt8)) :=
  rec2074 (x2068, IntKind.wrap IntKind.i64 (x2069 + (1 : Int)), x2070, Prod.fst x2071, Prod.fst (Prod.snd x2071), Prod.fst (Prod.snd (Prod.snd x2071)), Prod.snd (Prod.snd (Prod.snd x2071)))
noncomputable def p_slices_DeleteFunc_api_Pair_api_Pair.b1 (k : Nat) (j2081 : Int × List (Vector Int (32) × List UInt8) × Int × List (Vector Int (32)) × List (Vector Int (32) × List UInt8) × List (Vector Int (32) × List UInt8) → Option (List (Vector Int (32) × List UInt8))) (rec2074 : Int × Int × List (Vector Int (32) × List UInt8) × Int × List (Vector Int (32)) × List (Vector Int (32) × List UInt8) × List (Vector Int (32) × List UInt8) → Option (List (Vector Int (32) × List UInt8))) (x2061 : Int) (x2062 : Int) (x2063 : List (Vector Int (32) × List UInt8)) (x2064 : Int × List (Vector Int (32)) × List (Vector Int (32) × List UInt8) × List (Vector Int (32) × List UInt8)) : Option (List (Vector Int (32) × List UInt8)) :=
  bif (decide (x2062 < (↑(List.length x2063) : Int))) then joinC (fun (y : Int × Int × List (Vector Int (32) × List UInt8) × Int × List (Vector Int (32)) × List (Vector Int (32) × List UInt8) × List (Vector Int (32) × List UInt8)) => p_slices_DeleteFunc_api_Pair_api_Pair.j2 k rec2074 y.1 y.2.1 y.2.2.1 y.2.2.2) fun (j2072 : Int × Int × List (Vector Int (32) × List UInt8) × Int × List (Vector Int (32)) × List (Vector Int (32) × List UInt8) × List (Vector Int (32) × List UInt8) → Option (List (Vector Int (32) × List UInt8))) => need ((0 : Int) ≤ x2062 ∧ x2062 < (↑(List.length x2063) : Int)) (Option.bind (p_image_Delta_c1 k (Prod.fst (at_ (dflt (T.pair (T.arr (32) (T.int IntKind.u8)) T.str)) x2063 x2062), Prod.snd (at_ (dflt (T.pair (T.arr (32) (T.int IntKind.u8)) T.str)) x2063 x2062)) (Prod.fst x2064, Prod.fst (Prod.snd x2064), Prod.fst (Prod.snd (Prod.snd x2064)), Prod.snd (Prod.snd (Prod.snd x2064)))) fun t2066 => bif !t2066 then need ((0 : Int) ≤ x2061 ∧ x2061 < (↑(List.length x2063) : Int)) (j2072 (IntKind.wrap IntKind.i64 (x2061 + (1 : Int)), x2062, lset x2063 x2061 (Prod.fst (at_ (dflt (T.pair (T.arr (32) (T.int IntKind.u8)) T.str)) x2063 x2062), Prod.snd (at_ (dflt (T.pair (T.arr (32) (T.int IntKind.u8)) T.str)) x2063 x2062)), Prod.fst x2064, Prod.fst (Prod.snd x2064), Prod.fst (Prod.snd (Prod.snd x2064)), Prod.snd (Prod.snd (Prod.snd x2064)))) else j2072 (x2061, x2062, x2063, Prod.fst x2064, Prod.fst (Prod.snd x2064), Prod.fst (Prod.snd (Prod.snd x2064)), Prod.snd (Prod.snd (Prod.snd x2064)))) else j2081 (x2061, x2063, Prod.fst x2064, Prod.fst (Prod.snd x2064), Prod.fst (Prod.snd (Prod.snd x2064)), Prod.snd (Prod.snd (Prod.snd x2064)))
noncomputable def p_slices_DeleteFunc_api_Pair_api_Pair (k : Nat) (x2058 : List (Vector Int (32) × List UInt8)) (x2059 : Int × List (Vector Int (32)) × List (Vector Int (32) × List UInt8) × List (Vector Int (32) × List UInt8)) : Option (List (Vector Int (32) × List UInt8)) :=
  Option.bind (p_slices_IndexFunc_api_Pair_api_Pair k x2058 (Prod.fst x2059, Prod.fst (Prod.snd x2059), Prod.fst (Prod.snd (Prod.snd x2059)), Prod.snd (Prod.snd (Prod.snd x2059)))) fun t2060 => bif (t2060 == (-1 : Int)) then some x2058 else joinC (fun (y : Int × List (Vector Int (32) × List UInt8) × Int × List (Vector Int (32)) × List (Vector Int (32) × List UInt8) × List (Vector Int (32) × List UInt8)) => p_slices_DeleteFunc_api_Pair_api_Pair.j0 k y.1 y.2.1 y.2.2) fun (j2081 : Int × List (Vector Int (32) × List UInt8) × Int × List (Vector Int (32)) × List (Vector Int (32) × List UInt8) × List (Vector Int (32) × List UInt8) → Option (List (Vector Int (32) × List UInt8))) => loopC (fun (r : Int × Int × List (Vector Int (32) × List UInt8) × Int × List (Vector Int (32)) × List (Vector Int (32) × List UInt8) × List (Vector Int (32) × List UInt8) → Option (List (Vector Int (32) × List UInt8))) y => p_slices_DeleteFunc_api_Pair_api_Pair.b1 k j2081 r y.1 y.2.1 y.2.2.1 y.2.2.2) k (t2060, IntKind.wrap IntKind.i64 (t2060 + (1 : Int)), x2058, Prod.fst x2059, Prod.fst (Prod.snd x2059), Prod.fst (Prod.snd (Prod.snd x2059)), Prod.snd (Prod.snd (Prod.snd x2059)))
noncomputable def e_slices_DeleteFunc_api_Pair_api_Pair (k : Nat) : Entry := ⟨Ds.mk [Vd.one (Ld.own (0)), Vd.one (Ld.fn (73) [1])] [Od.arr (56) (T.pair (T.arr (32) (T.int IntKind.u8)) T.str), Od.rdT (25) (T.pair (T.int IntKind.i64) (T.pair (T.sl (T.arr (32) (T.int IntKind.u8))) (T.pair (T.sl (T.pair (T.arr (32) (T.int IntKind.u8)) T.str)) (T.sl (T.pair (T.arr (32) (T.int IntKind.u8)) T.str)))))], Ds.mk [Vd.one (Ld.own (2))] [Od.gone, Od.gone, Od.arr (56) (T.pair (T.arr (32) (T.int IntKind.u8)) T.str)], fun x => p_slices_DeleteFunc_api_Pair_api_Pair k x.1 x.2⟩
noncomputable def c_slices_DeleteFunc_api_Pair_api_Pair (k : Nat) : Cx := ⟨Try.prog, [(73, e_image_Delta_c1 k), (95, e_slices_IndexFunc_api_Pair_api_Pair k)], [(6, Sd.mk [0, 1, 5, 6] (Ds.mk [Vd.one (Ld.own (0)), Vd.one (Ld.fn (73) [1]), Vd.one (Ld.im (T.int IntKind.i64)), Vd.one (Ld.im (T.int IntKind.i64))] [Od.arr (56) (T.pair (T.arr (32) (T.int IntKind.u8)) T.str), Od.rdT (25) (T.pair (T.int IntKind.i64) (T.pair (T.sl (T.arr (32) (T.int IntKind.u8))) (T.pair (T.sl (T.pair (T.arr (32) (T.int IntKind.u8)) T.str)) (T.sl (T.pair (T.arr (32) (T.int IntKind.u8)) T.str)))))])), (11, Sd.mk [0, 5] (Ds.mk [Vd.one (Ld.own (0)), Vd.one (Ld.im (T.int IntKind.i64))] [Od.arr (56) (T.pair (T.arr (32) (T.int IntKind.u8)) T.str), Od.rdT (25) (T.pair (T.int IntKind.i64) (T.pair (T.sl (T.arr (32) (T.int IntKind.u8))) (T.pair (T.sl (T.pair (T.arr (32) (T.int IntKind.u8)) T.str)) (T.sl (T.pair (T.arr (32) (T.int IntKind.u8)) T.str)))))]))], [], [(999997, Sd.mk [] (Ds.mk [] [])), (5, Sd.mk [0, 1, 5, 6] (Ds.mk [Vd.one (Ld.own (0)), Vd.one (Ld.fn (73) [1]), Vd.one (Ld.im (T.int IntKind.i64)), Vd.one (Ld.im (T.int IntKind.i64))] [Od.arr (56) (T.pair (T.arr (32) (T.int IntKind.u8)) T.str), Od.rdT (25) (T.pair (T.int IntKind.i64) (T.pair (T.sl (T.arr (32) (T.int IntKind.u8))) (T.pair (T.sl (T.pair (T.arr (32) (T.int IntKind.u8)) T.str)) (T.sl (T.pair (T.arr (32) (T.int IntKind.u8)) T.str)))))]))], [], 2, 42, [], fun _ _ _ => none⟩
theorem q_slices_DeleteFunc_api_Pair_api_Pair (k : Nat) (x : HL (e_slices_DeleteFunc_api_Pair_api_Pair k).pre.ts) : runF (c_slices_DeleteFunc_api_Pair_api_Pair k) k Try.f72 (e_slices_DeleteFunc_api_Pair_api_Pair k).pre (e_slices_DeleteFunc_api_Pair_api_Pair k).post x = (e_slices_DeleteFunc_api_Pair_api_Pair k).fn x := by kernel_rfl
theorem s_slices_DeleteFunc_api_Pair_api_Pair (k : Nat) : Entry.Sound Try.prog 72 (e_slices_DeleteFunc_api_Pair_api_Pair k) := runF_sound (X := c_slices_DeleteFunc_api_Pair_api_Pair k) (pre := (e_slices_DeleteFunc_api_Pair_api_Pair k).pre) (post := (e_slices_DeleteFunc_api_Pair_api_Pair k).post) (q := (e_slices_DeleteFunc_api_Pair_api_Pair k).fn) ⟨(dOk_cons (s_image_Delta_c1 k) (dOk_cons (s_slices_IndexFunc_api_Pair_api_Pair k) dOk_nil)), x_ext, x_mo⟩ Try.func72 (q_slices_DeleteFunc_api_Pair_api_Pair k)

/- dormouse/image.Delta: function 39 -/
noncomputable def p_image_Delta.j1 (k : Nat) (x2099 : Bool) (x2100 : List (Int × Vector Int (32) × (Bool × List UInt8) × Vector Int (32) × Int)) : Option (Bool × List (Int × Vector Int (32) × (Bool × List UInt8) × Vector Int (32) × Int)) :=
  bif x2099 then some (Bool.false, []) else some (Bool.true, x2100)
noncomputable def p_image_Delta.j0 (k : Nat) (x2089 : Bool) (x2090 : Int × List (Vector Int (32)) × List (Vector Int (32) × List UInt8) × List (Vector Int (32) × List UInt8)) (x2091 : Int × List (Vector Int (32)) × List (Vector Int (32) × List UInt8) × List (Vector Int (32) × List UInt8)) : Option (Bool × List (Int × Vector Int (32) × (Bool × List UInt8) × Vector Int (32) × Int)) :=
  bif x2089 then some (Bool.false, []) else Option.bind (p_slices_Clone_api_Pair_api_Pair (Prod.snd (Prod.snd (Prod.snd x2091)))) fun t2094 => Option.bind (p_slices_DeleteFunc_api_Pair_api_Pair k t2094 (Prod.fst x2090, Prod.fst (Prod.snd x2090), Prod.fst (Prod.snd (Prod.snd x2090)), Prod.snd (Prod.snd (Prod.snd x2090)))) fun t2095 => Option.bind (p_image_each_v1 k t2095) fun t2096 => Option.bind (p_fold_All k (Prod.fst x2090, Prod.fst (Prod.snd x2090), Prod.fst (Prod.snd (Prod.snd x2090)), Prod.snd (Prod.snd (Prod.snd x2090))) t2096) fun t2097 => joinC (fun (y : Bool × List (Int × Vector Int (32) × (Bool × List UInt8) × Vector Int (32) × Int)) => p_image_Delta.j1 k y.1 y.2) fun (j2101 : Bool × List (Int × Vector Int (32) × (Bool × List UInt8) × Vector Int (32) × Int) → Option (Bool × List (Int × Vector Int (32) × (Bool × List UInt8) × Vector Int (32) × Int))) => bif (Prod.fst (Prod.snd t2097) != (0 : Int)) then j2101 (Bool.true, t2096) else Option.bind (p_fold_Same k (Prod.fst t2097, Prod.fst (Prod.snd (Prod.snd t2097)), Prod.fst (Prod.snd (Prod.snd (Prod.snd t2097))), Prod.snd (Prod.snd (Prod.snd (Prod.snd t2097)))) (Prod.fst x2091, Prod.fst (Prod.snd x2091), Prod.fst (Prod.snd (Prod.snd x2091)), Prod.snd (Prod.snd (Prod.snd x2091)))) fun t2098 => j2101 (!t2098, t2096)
noncomputable def p_image_Delta (k : Nat) (x2084 : Int × List (Vector Int (32)) × List (Vector Int (32) × List UInt8) × List (Vector Int (32) × List UInt8)) (x2085 : Int × List (Vector Int (32)) × List (Vector Int (32) × List UInt8) × List (Vector Int (32) × List UInt8)) : Option (Bool × List (Int × Vector Int (32) × (Bool × List UInt8) × Vector Int (32) × Int)) :=
  joinC (fun (y : Bool × (Int × List (Vector Int (32)) × List (Vector Int (32) × List UInt8) × List (Vector Int (32) × List UInt8)) × Int × List (Vector Int (32)) × List (Vector Int (32) × List UInt8) × List (Vector Int (32) × List UInt8)) => p_image_Delta.j0 k y.1 y.2.1 y.2.2) fun (j2092 : Bool × (Int × List (Vector Int (32)) × List (Vector Int (32) × List UInt8) × List (Vector Int (32) × List UInt8)) × Int × List (Vector Int (32)) × List (Vector Int (32) × List UInt8) × List (Vector Int (32) × List UInt8) → Option (Bool × List (Int × Vector Int (32) × (Bool × List UInt8) × Vector Int (32) × Int))) => Option.bind (p_fold_Same k (Prod.fst x2084, Prod.fst (Prod.snd x2084), Prod.fst (Prod.snd (Prod.snd x2084)), Prod.snd (Prod.snd (Prod.snd x2084))) (Prod.fst x2085, Prod.fst (Prod.snd x2085), Prod.fst (Prod.snd (Prod.snd x2085)), Prod.snd (Prod.snd (Prod.snd x2084)))) fun t2086 => bif !t2086 then j2092 (Bool.true, (Prod.fst x2084, Prod.fst (Prod.snd x2084), Prod.fst (Prod.snd (Prod.snd x2084)), Prod.snd (Prod.snd (Prod.snd x2084))), Prod.fst x2085, Prod.fst (Prod.snd x2085), Prod.fst (Prod.snd (Prod.snd x2085)), Prod.snd (Prod.snd (Prod.snd x2085))) else Option.bind (p_fold_Check k (Prod.fst x2084, Prod.fst (Prod.snd x2084), Prod.fst (Prod.snd (Prod.snd x2084)), Prod.snd (Prod.snd (Prod.snd x2084)))) fun t2087 => bif (t2087 != (0 : Int)) then j2092 (Bool.true, (Prod.fst x2084, Prod.fst (Prod.snd x2084), Prod.fst (Prod.snd (Prod.snd x2084)), Prod.snd (Prod.snd (Prod.snd x2084))), Prod.fst x2085, Prod.fst (Prod.snd x2085), Prod.fst (Prod.snd (Prod.snd x2085)), Prod.snd (Prod.snd (Prod.snd x2085))) else Option.bind (p_fold_Check k (Prod.fst x2085, Prod.fst (Prod.snd x2085), Prod.fst (Prod.snd (Prod.snd x2085)), Prod.snd (Prod.snd (Prod.snd x2085)))) fun t2088 => j2092 (t2088 != (0 : Int), (Prod.fst x2084, Prod.fst (Prod.snd x2084), Prod.fst (Prod.snd (Prod.snd x2084)), Prod.snd (Prod.snd (Prod.snd x2084))), Prod.fst x2085, Prod.fst (Prod.snd x2085), Prod.fst (Prod.snd (Prod.snd x2085)), Prod.snd (Prod.snd (Prod.snd x2085)))
noncomputable def e_image_Delta (k : Nat) : Entry := ⟨Ds.mk [Vd.st (T.pair (T.int IntKind.i64) (T.pair (T.sl (T.arr (32) (T.int IntKind.u8))) (T.pair (T.sl (T.pair (T.arr (32) (T.int IntKind.u8)) T.str)) (T.sl (T.pair (T.arr (32) (T.int IntKind.u8)) T.str))))), Vd.st (T.pair (T.int IntKind.i64) (T.pair (T.sl (T.arr (32) (T.int IntKind.u8))) (T.pair (T.sl (T.pair (T.arr (32) (T.int IntKind.u8)) T.str)) (T.sl (T.pair (T.arr (32) (T.int IntKind.u8)) T.str)))))] [], Ds.mk [Vd.one (Ld.own (0)), Vd.one (Ld.im T.bool)] [Od.arr (44) (T.pair (T.int IntKind.i64) (T.pair (T.arr (32) (T.int IntKind.u8)) (T.pair (T.pair T.bool T.str) (T.pair (T.arr (32) (T.int IntKind.u8)) (T.int IntKind.i64)))))], fun x => p_image_Delta k x.1 x.2⟩
noncomputable def c_image_Delta (k : Nat) : Cx := ⟨Try.prog, [(60, e_slices_Clone_api_Pair_api_Pair), (13, e_fold_Check k), (18, e_fold_All k), (15, e_fold_Same k), (64, e_image_each_v1 k), (72, e_slices_DeleteFunc_api_Pair_api_Pair k)], [], [(3, Sd.mk [2, 3, 28] (Ds.mk [Vd.one (Ld.ptr (0) (0)), Vd.one (Ld.ptr (1) (0)), Vd.one (Ld.im T.bool)] [Od.blkT (25) (T.pair (T.int IntKind.i64) (T.pair (T.sl (T.arr (32) (T.int IntKind.u8))) (T.pair (T.sl (T.pair (T.arr (32) (T.int IntKind.u8)) T.str)) (T.sl (T.pair (T.arr (32) (T.int IntKind.u8)) T.str))))), Od.blkT (25) (T.pair (T.int IntKind.i64) (T.pair (T.sl (T.arr (32) (T.int IntKind.u8))) (T.pair (T.sl (T.pair (T.arr (32) (T.int IntKind.u8)) T.str)) (T.sl (T.pair (T.arr (32) (T.int IntKind.u8)) T.str)))))])), (8, Sd.mk [8, 49] (Ds.mk [Vd.one (Ld.own (0)), Vd.one (Ld.im T.bool)] [Od.arr (44) (T.pair (T.int IntKind.i64) (T.pair (T.arr (32) (T.int IntKind.u8)) (T.pair (T.pair T.bool T.str) (T.pair (T.arr (32) (T.int IntKind.u8)) (T.int IntKind.i64)))))]))], [], [], 0, 51, [], fun _ _ _ => none⟩
theorem q_image_Delta (k : Nat) (x : HL (e_image_Delta k).pre.ts) : runF (c_image_Delta k) k Try.f39 (e_image_Delta k).pre (e_image_Delta k).post x = (e_image_Delta k).fn x := by kernel_rfl
theorem s_image_Delta (k : Nat) : Entry.Sound Try.prog 39 (e_image_Delta k) := runF_sound (X := c_image_Delta k) (pre := (e_image_Delta k).pre) (post := (e_image_Delta k).post) (q := (e_image_Delta k).fn) ⟨(dOk_cons (s_slices_Clone_api_Pair_api_Pair) (dOk_cons (s_fold_Check k) (dOk_cons (s_fold_All k) (dOk_cons (s_fold_Same k) (dOk_cons (s_image_each_v1 k) (dOk_cons (s_slices_DeleteFunc_api_Pair_api_Pair k) dOk_nil)))))), x_ext, x_mo⟩ Try.func39 (q_image_Delta k)

/- dormouse/dormouselaw27.awake: function 31 -/
noncomputable def p_dormouselaw27_awake.j0 (k : Nat) (x2109 : Bool) : Option Bool :=
  some x2109
noncomputable def p_dormouselaw27_awake (k : Nat) : Option Bool :=
  Option.bind (p_image_Of k ((2 : Int), [bparts (32 : Nat) (dflt (T.int IntKind.u8)) [((0 : Nat), (7 : Int))]], [], [(Vector.replicate (32 : Nat) (dflt (T.int IntKind.u8)), [(1 : UInt8), (118 : UInt8)])])) fun t2104 => Option.bind (p_image_Text k ((2 : Int), [bparts (32 : Nat) (dflt (T.int IntKind.u8)) [((0 : Nat), (7 : Int))]], [], [(Vector.replicate (32 : Nat) (dflt (T.int IntKind.u8)), [(1 : UInt8), (118 : UInt8)])])) fun t2105 => Option.bind (p_image_Read k (Prod.fst t2105)) fun t2106 => Option.bind (p_image_Delta k ((2 : Int), [bparts (32 : Nat) (dflt (T.int IntKind.u8)) [((0 : Nat), (7 : Int))]], [], []) ((2 : Int), [bparts (32 : Nat) (dflt (T.int IntKind.u8)) [((0 : Nat), (7 : Int))]], [], [(Vector.replicate (32 : Nat) (dflt (T.int IntKind.u8)), [(1 : UInt8), (118 : UInt8)])])) fun t2107 => joinC (p_dormouselaw27_awake.j0 k) fun (j2110 : Bool → Option Bool) => bif (Prod.fst t2104 == (0 : Int)) then bif ((↑(List.length (Prod.snd t2104)) : Int) == (3 : Int)) then bif (Prod.snd t2105 == (0 : Int)) then bif (Prod.fst (Prod.snd t2106) == (0 : Int)) then Option.bind (p_fold_Same k ((2 : Int), [bparts (32 : Nat) (dflt (T.int IntKind.u8)) [((0 : Nat), (7 : Int))]], [], [(Vector.replicate (32 : Nat) (dflt (T.int IntKind.u8)), [(1 : UInt8), (118 : UInt8)])]) (Prod.fst t2106, Prod.fst (Prod.snd (Prod.snd t2106)), Prod.fst (Prod.snd (Prod.snd (Prod.snd t2106))), Prod.snd (Prod.snd (Prod.snd (Prod.snd t2106))))) fun t2108 => bif t2108 then bif ((↑(List.length (Prod.snd t2107)) : Int) == (1 : Int)) then j2110 (Prod.fst t2107) else j2110 Bool.false else j2110 Bool.false else j2110 Bool.false else j2110 Bool.false else j2110 Bool.false else j2110 Bool.false
noncomputable def e_dormouselaw27_awake (k : Nat) : Entry := ⟨Ds.mk [] [], Ds.mk [Vd.one (Ld.im T.bool)] [], fun x => p_dormouselaw27_awake k⟩
noncomputable def c_dormouselaw27_awake (k : Nat) : Cx := ⟨Try.prog, [(15, e_fold_Same k), (32, e_image_Of k), (33, e_image_Text k), (34, e_image_Read k), (39, e_image_Delta k)], [], [(7, Sd.mk [0] (Ds.mk [Vd.one (Ld.im T.bool)] []))], [], [], 0, 68, [], fun _ _ _ => none⟩
theorem q_dormouselaw27_awake (k : Nat) (x : HL (e_dormouselaw27_awake k).pre.ts) : runF (c_dormouselaw27_awake k) k Try.f31 (e_dormouselaw27_awake k).pre (e_dormouselaw27_awake k).post x = (e_dormouselaw27_awake k).fn x := by kernel_rfl
theorem s_dormouselaw27_awake (k : Nat) : Entry.Sound Try.prog 31 (e_dormouselaw27_awake k) := runF_sound (X := c_dormouselaw27_awake k) (pre := (e_dormouselaw27_awake k).pre) (post := (e_dormouselaw27_awake k).post) (q := (e_dormouselaw27_awake k).fn) ⟨(dOk_cons (s_fold_Same k) (dOk_cons (s_image_Of k) (dOk_cons (s_image_Text k) (dOk_cons (s_image_Read k) (dOk_cons (s_image_Delta k) dOk_nil))))), x_ext, x_mo⟩ Try.func31 (q_dormouselaw27_awake k)

/- dormouse/dormouseref27.Of: function 36 -/
noncomputable def p_dormouseref27_Of.j2 (k : Nat) (x2194 : List (Int × Vector Int (32) × (Bool × List UInt8) × Vector Int (32) × Int)) : Option (List (Int × Vector Int (32) × (Bool × List UInt8) × Vector Int (32) × Int)) :=
  some x2194
noncomputable def p_dormouseref27_Of.b3 (k : Nat) (j2195 : List (Int × Vector Int (32) × (Bool × List UInt8) × Vector Int (32) × Int) → Option (List (Int × Vector Int (32) × (Bool × List UInt8) × Vector Int (32) × Int))) (rec2192 : Int × (Int × List (Vector Int (32)) × List (Vector Int (32) × List UInt8) × List (Vector Int (32) × List UInt8)) × List (Int × Vector Int (32) × (Bool × List UInt8) × Vector Int (32) × Int) → Option (List (Int × Vector Int (32) × (Bool × List UInt8) × Vector Int (32) × Int))) (x2185 : Int) (x2186 : Int × List (Vector Int (32)) × List (Vector Int (32) × List UInt8) × List (Vector Int (32) × List UInt8)) (x2187 : List (Int × Vector Int (32) × (Bool × List UInt8) × Vector Int (32) × Int)) : Option (List (Int × Vector Int (32) × (Bool × List UInt8) × Vector Int (32) × Int)) :=
  bif (decide (x2185 < (↑(List.length (Prod.snd (Prod.snd (Prod.snd x2186)))) : Int))) then need ((0 : Int) ≤ x2185 ∧ x2185 < (↑(List.length (Prod.snd (Prod.snd (Prod.snd x2186)))) : Int)) (Option.bind (p_dormouseref17_Get (Prod.snd (at_ (dflt (T.pair (T.arr (32) (T.int IntKind.u8)) T.str)) (Prod.snd (Prod.snd (Prod.snd x2186))) x2185))) fun t2189 => need ((0 : Int) ≤ x2185 ∧ x2185 < (↑(List.length (Prod.snd (Prod.snd (Prod.snd x2186)))) : Int)) (need ((List.length x2187 + List.length [((1 : Int), Prod.fst (at_ (dflt (T.pair (T.arr (32) (T.int IntKind.u8)) T.str)) (Prod.snd (Prod.snd (Prod.snd x2186))) x2185), (Prod.fst (Prod.fst t2189), Prod.snd (Prod.fst t2189)), Vector.replicate (32 : Nat) (dflt (T.int IntKind.u8)), (0 : Int))]) * (104 : Nat) ≤ (140737488355328 : Nat)) (rec2192 (IntKind.wrap IntKind.i64 (x2185 + (1 : Int)), (Prod.fst x2186, Prod.fst (Prod.snd x2186), Prod.fst (Prod.snd (Prod.snd x2186)), Prod.snd (Prod.snd (Prod.snd x2186))), x2187 ++ [((1 : Int), Prod.fst (at_ (dflt (T.pair (T.arr (32) (T.int IntKind.u8)) T.str)) (Prod.snd (Prod.snd (Prod.snd x2186))) x2185), (Prod.fst (Prod.fst t2189), Prod.snd (Prod.fst t2189)), Vector.replicate (32 : Nat) (dflt (T.int IntKind.u8)), (0 : Int))])))) else j2195 x2187
noncomputable def p_dormouseref27_Of.j1 (k : Nat) (x2183 : Int × List (Vector Int (32)) × List (Vector Int (32) × List UInt8) × List (Vector Int (32) × List UInt8)) (x2184 : List (Int × Vector Int (32) × (Bool × List UInt8) × Vector Int (32) × Int)) : Option (List (Int × Vector Int (32) × (Bool × List UInt8) × Vector Int (32) × Int)) :=
  joinC (p_dormouseref27_Of.j2 k) fun (j2195 : List (Int × Vector Int (32) × (Bool × List UInt8) × Vector Int (32) × Int) → Option (List (Int × Vector Int (32) × (Bool × List UInt8) × Vector Int (32) × Int))) => loopC (fun (r : Int × (Int × List (Vector Int (32)) × List (Vector Int (32) × List UInt8) × List (Vector Int (32) × List UInt8)) × List (Int × Vector Int (32) × (Bool × List UInt8) × Vector Int (32) × Int) → Option (List (Int × Vector Int (32) × (Bool × List UInt8) × Vector Int (32) × Int))) y => p_dormouseref27_Of.b3 k j2195 r y.1 y.2.1 y.2.2) k ((0 : Int), (Prod.fst x2183, Prod.fst (Prod.snd x2183), Prod.fst (Prod.snd (Prod.snd x2183)), Prod.snd (Prod.snd (Prod.snd x2183))), x2184)
noncomputable def p_dormouseref27_Of.b4 (k : Nat) (j2197 : (Int × List (Vector Int (32)) × List (Vector Int (32) × List UInt8) × List (Vector Int (32) × List UInt8)) × List (Int × Vector Int (32) × (Bool × List UInt8) × Vector Int (32) × Int) → Option (List (Int × Vector Int (32) × (Bool × List UInt8) × Vector Int (32) × Int))) (rec2181 : Int × (Int × List (Vector Int (32)) × List (Vector Int (32) × List UInt8) × List (Vector Int (32) × List UInt8)) × List (Int × Vector Int (32) × (Bool × List UInt8) × Vector Int (32) × Int) → Option (List (Int × Vector Int (32) × (Bool × List UInt8) × Vector Int (32) × Int))) (x2174 : Int) (x2175 : Int × List (Vector Int (32)) × List (Vector Int (32) × List UInt8) × List (Vector Int (32) × List UInt8)) (x2176 : List (Int × Vector Int (32) × (Bool × List UInt8) × Vector Int (32) × Int)) : Option (List (Int × Vector Int (32) × (Bool × List UInt8) × Vector Int (32) × Int)) :=
  bif (decide (x2174 < (↑(List.length (Prod.fst (Prod.snd (Prod.snd x2175)))) : Int))) then need ((0 : Int) ≤ x2174 ∧ x2174 < (↑(List.length (Prod.fst (Prod.snd (Prod.snd x2175)))) : Int)) (Option.bind (p_dormouseref17_Get (Prod.snd (at_ (dflt (T.pair (T.arr (32) (T.int IntKind.u8)) T.str)) (Prod.fst (Prod.snd (Prod.snd x2175))) x2174))) fun t2178 => need ((0 : Int) ≤ x2174 ∧ x2174 < (↑(List.length (Prod.fst (Prod.snd (Prod.snd x2175)))) : Int)) (need ((List.length x2176 + List.length [((2 : Int), Prod.fst (at_ (dflt (T.pair (T.arr (32) (T.int IntKind.u8)) T.str)) (Prod.fst (Prod.snd (Prod.snd x2175))) x2174), (Prod.fst (Prod.fst t2178), Prod.snd (Prod.fst t2178)), Vector.replicate (32 : Nat) (dflt (T.int IntKind.u8)), (0 : Int))]) * (104 : Nat) ≤ (140737488355328 : Nat)) (rec2181 (IntKind.wrap IntKind.i64 (x2174 + (1 : Int)), (Prod.fst x2175, Prod.fst (Prod.snd x2175), Prod.fst (Prod.snd (Prod.snd x2175)), Prod.snd (Prod.snd (Prod.snd x2175))), x2176 ++ [((2 : Int), Prod.fst (at_ (dflt (T.pair (T.arr (32) (T.int IntKind.u8)) T.str)) (Prod.fst (Prod.snd (Prod.snd x2175))) x2174), (Prod.fst (Prod.fst t2178), Prod.snd (Prod.fst t2178)), Vector.replicate (32 : Nat) (dflt (T.int IntKind.u8)), (0 : Int))])))) else j2197 ((Prod.fst x2175, Prod.fst (Prod.snd x2175), Prod.fst (Prod.snd (Prod.snd x2175)), Prod.snd (Prod.snd (Prod.snd x2175))), x2176)
noncomputable def p_dormouseref27_Of.j0 (k : Nat) (x2172 : Int × List (Vector Int (32)) × List (Vector Int (32) × List UInt8) × List (Vector Int (32) × List UInt8)) (x2173 : List (Int × Vector Int (32) × (Bool × List UInt8) × Vector Int (32) × Int)) : Option (List (Int × Vector Int (32) × (Bool × List UInt8) × Vector Int (32) × Int)) :=
  joinC (fun (y : (Int × List (Vector Int (32)) × List (Vector Int (32) × List UInt8) × List (Vector Int (32) × List UInt8)) × List (Int × Vector Int (32) × (Bool × List UInt8) × Vector Int (32) × Int)) => p_dormouseref27_Of.j1 k y.1 y.2) fun (j2197 : (Int × List (Vector Int (32)) × List (Vector Int (32) × List UInt8) × List (Vector Int (32) × List UInt8)) × List (Int × Vector Int (32) × (Bool × List UInt8) × Vector Int (32) × Int) → Option (List (Int × Vector Int (32) × (Bool × List UInt8) × Vector Int (32) × Int))) => loopC (fun (r : Int × (Int × List (Vector Int (32)) × List (Vector Int (32) × List UInt8) × List (Vector Int (32) × List UInt8)) × List (Int × Vector Int (32) × (Bool × List UInt8) × Vector Int (32) × Int) → Option (List (Int × Vector Int (32) × (Bool × List UInt8) × Vector Int (32) × Int))) y => p_dormouseref27_Of.b4 k j2197 r y.1 y.2.1 y.2.2) k ((0 : Int), (Prod.fst x2172, Prod.fst (Prod.snd x2172), Prod.fst (Prod.snd (Prod.snd x2172)), Prod.snd (Prod.snd (Prod.snd x2172))), x2173)
noncomputable def p_dormouseref27_Of.b5 (k : Nat) (j2199 : (Int × List (Vector Int (32)) × List (Vector Int (32) × List UInt8) × List (Vector Int (32) × List UInt8)) × List (Int × Vector Int (32) × (Bool × List UInt8) × Vector Int (32) × Int) → Option (List (Int × Vector Int (32) × (Bool × List UInt8) × Vector Int (32) × Int))) (rec2170 : Int × (Int × List (Vector Int (32)) × List (Vector Int (32) × List UInt8) × List (Vector Int (32) × List UInt8)) × List (Int × Vector Int (32) × (Bool × List UInt8) × Vector Int (32) × Int) → Option (List (Int × Vector Int (32) × (Bool × List UInt8) × Vector Int (32) × Int))) (x2165 : Int) (x2166 : Int × List (Vector Int (32)) × List (Vector Int (32) × List UInt8) × List (Vector Int (32) × List UInt8)) (x2167 : List (Int × Vector Int (32) × (Bool × List UInt8) × Vector Int (32) × Int)) : Option (List (Int × Vector Int (32) × (Bool × List UInt8) × Vector Int (32) × Int)) :=
  bif (decide (x2165 < (↑(List.length (Prod.fst (Prod.snd x2166))) : Int))) then need ((0 : Int) ≤ x2165 ∧ x2165 < (↑(List.length (Prod.fst (Prod.snd x2166))) : Int)) (need ((List.length x2167 + List.length [((4 : Int), Vector.replicate (32 : Nat) (dflt (T.int IntKind.u8)), (Bool.false, ([] : List UInt8)), at_ (dflt (T.arr (32) (T.int IntKind.u8))) (Prod.fst (Prod.snd x2166)) x2165, (0 : Int))]) * (104 : Nat) ≤ (140737488355328 : Nat)) (rec2170 (IntKind.wrap IntKind.i64 (x2165 + (1 : Int)), (Prod.fst x2166, Prod.fst (Prod.snd x2166), Prod.fst (Prod.snd (Prod.snd x2166)), Prod.snd (Prod.snd (Prod.snd x2166))), x2167 ++ [((4 : Int), Vector.replicate (32 : Nat) (dflt (T.int IntKind.u8)), (Bool.false, ([] : List UInt8)), at_ (dflt (T.arr (32) (T.int IntKind.u8))) (Prod.fst (Prod.snd x2166)) x2165, (0 : Int))]))) else j2199 ((Prod.fst x2166, Prod.fst (Prod.snd x2166), Prod.fst (Prod.snd (Prod.snd x2166)), Prod.snd (Prod.snd (Prod.snd x2166))), x2167)
noncomputable def p_dormouseref27_Of (k : Nat) (x2164 : Int × List (Vector Int (32)) × List (Vector Int (32) × List UInt8) × List (Vector Int (32) × List UInt8)) : Option (List (Int × Vector Int (32) × (Bool × List UInt8) × Vector Int (32) × Int)) :=
  joinC (fun (y : (Int × List (Vector Int (32)) × List (Vector Int (32) × List UInt8) × List (Vector Int (32) × List UInt8)) × List (Int × Vector Int (32) × (Bool × List UInt8) × Vector Int (32) × Int)) => p_dormouseref27_Of.j0 k y.1 y.2) fun (j2199 : (Int × List (Vector Int (32)) × List (Vector Int (32) × List UInt8) × List (Vector Int (32) × List UInt8)) × List (Int × Vector Int (32) × (Bool × List UInt8) × Vector Int (32) × Int) → Option (List (Int × Vector Int (32) × (Bool × List UInt8) × Vector Int (32) × Int))) => loopC (fun (r : Int × (Int × List (Vector Int (32)) × List (Vector Int (32) × List UInt8) × List (Vector Int (32) × List UInt8)) × List (Int × Vector Int (32) × (Bool × List UInt8) × Vector Int (32) × Int) → Option (List (Int × Vector Int (32) × (Bool × List UInt8) × Vector Int (32) × Int))) y => p_dormouseref27_Of.b5 k j2199 r y.1 y.2.1 y.2.2) k ((0 : Int), (Prod.fst x2164, Prod.fst (Prod.snd x2164), Prod.fst (Prod.snd (Prod.snd x2164)), Prod.snd (Prod.snd (Prod.snd x2164))), [((5 : Int), Vector.replicate (32 : Nat) (dflt (T.int IntKind.u8)), (Bool.false, ([] : List UInt8)), Vector.replicate (32 : Nat) (dflt (T.int IntKind.u8)), Prod.fst x2164)])
/- dormouse/dormouseref24.Same: function 35 -/
noncomputable def p_dormouseref24_Same.j0 (k : Nat) : Option Bool :=
  some Bool.true
noncomputable def p_dormouseref24_Same.b1 (k : Nat) (j2237 : Unit → Option Bool) (rec2235 : List (Int × Vector Int (32) × (Bool × List UInt8) × Vector Int (32) × Int) × List (Int × Vector Int (32) × (Bool × List UInt8) × Vector Int (32) × Int) × Int → Option Bool) (x2230 : List (Int × Vector Int (32) × (Bool × List UInt8) × Vector Int (32) × Int)) (x2231 : List (Int × Vector Int (32) × (Bool × List UInt8) × Vector Int (32) × Int)) (x2232 : Int) : Option Bool :=
  bif (decide (x2232 < (↑(List.length x2230) : Int))) then need ((0 : Int) ≤ x2232 ∧ x2232 < (↑(List.length x2230) : Int)) (need ((0 : Int) ≤ x2232 ∧ x2232 < (↑(List.length x2231) : Int)) (bif (!(Prod.fst (at_ (dflt (T.pair (T.int IntKind.i64) (T.pair (T.arr (32) (T.int IntKind.u8)) (T.pair (T.pair T.bool T.str) (T.pair (T.arr (32) (T.int IntKind.u8)) (T.int IntKind.i64)))))) x2230 x2232) == Prod.fst (at_ (dflt (T.pair (T.int IntKind.i64) (T.pair (T.arr (32) (T.int IntKind.u8)) (T.pair (T.pair T.bool T.str) (T.pair (T.arr (32) (T.int IntKind.u8)) (T.int IntKind.i64)))))) x2231 x2232) && (decide (Prod.fst (Prod.snd (at_ (dflt (T.pair (T.int IntKind.i64) (T.pair (T.arr (32) (T.int IntKind.u8)) (T.pair (T.pair T.bool T.str) (T.pair (T.arr (32) (T.int IntKind.u8)) (T.int IntKind.i64)))))) x2230 x2232)) = Prod.fst (Prod.snd (at_ (dflt (T.pair (T.int IntKind.i64) (T.pair (T.arr (32) (T.int IntKind.u8)) (T.pair (T.pair T.bool T.str) (T.pair (T.arr (32) (T.int IntKind.u8)) (T.int IntKind.i64)))))) x2231 x2232))) && (Prod.fst (Prod.fst (Prod.snd (Prod.snd (at_ (dflt (T.pair (T.int IntKind.i64) (T.pair (T.arr (32) (T.int IntKind.u8)) (T.pair (T.pair T.bool T.str) (T.pair (T.arr (32) (T.int IntKind.u8)) (T.int IntKind.i64)))))) x2230 x2232)))) == Prod.fst (Prod.fst (Prod.snd (Prod.snd (at_ (dflt (T.pair (T.int IntKind.i64) (T.pair (T.arr (32) (T.int IntKind.u8)) (T.pair (T.pair T.bool T.str) (T.pair (T.arr (32) (T.int IntKind.u8)) (T.int IntKind.i64)))))) x2231 x2232)))) && (Prod.snd (Prod.fst (Prod.snd (Prod.snd (at_ (dflt (T.pair (T.int IntKind.i64) (T.pair (T.arr (32) (T.int IntKind.u8)) (T.pair (T.pair T.bool T.str) (T.pair (T.arr (32) (T.int IntKind.u8)) (T.int IntKind.i64)))))) x2230 x2232)))) == Prod.snd (Prod.fst (Prod.snd (Prod.snd (at_ (dflt (T.pair (T.int IntKind.i64) (T.pair (T.arr (32) (T.int IntKind.u8)) (T.pair (T.pair T.bool T.str) (T.pair (T.arr (32) (T.int IntKind.u8)) (T.int IntKind.i64)))))) x2231 x2232)))) && Bool.true) && (decide (Prod.fst (Prod.snd (Prod.snd (Prod.snd (at_ (dflt (T.pair (T.int IntKind.i64) (T.pair (T.arr (32) (T.int IntKind.u8)) (T.pair (T.pair T.bool T.str) (T.pair (T.arr (32) (T.int IntKind.u8)) (T.int IntKind.i64)))))) x2230 x2232)))) = Prod.fst (Prod.snd (Prod.snd (Prod.snd (at_ (dflt (T.pair (T.int IntKind.i64) (T.pair (T.arr (32) (T.int IntKind.u8)) (T.pair (T.pair T.bool T.str) (T.pair (T.arr (32) (T.int IntKind.u8)) (T.int IntKind.i64)))))) x2231 x2232))))) && (Prod.snd (Prod.snd (Prod.snd (Prod.snd (at_ (dflt (T.pair (T.int IntKind.i64) (T.pair (T.arr (32) (T.int IntKind.u8)) (T.pair (T.pair T.bool T.str) (T.pair (T.arr (32) (T.int IntKind.u8)) (T.int IntKind.i64)))))) x2230 x2232)))) == Prod.snd (Prod.snd (Prod.snd (Prod.snd (at_ (dflt (T.pair (T.int IntKind.i64) (T.pair (T.arr (32) (T.int IntKind.u8)) (T.pair (T.pair T.bool T.str) (T.pair (T.arr (32) (T.int IntKind.u8)) (T.int IntKind.i64)))))) x2231 x2232)))) && Bool.true)))))) then some Bool.false else rec2235 (x2230, x2231, IntKind.wrap IntKind.i64 (x2232 + (1 : Int))))) else j2237 ()
noncomputable def p_dormouseref24_Same (k : Nat) (x2228 : List (Int × Vector Int (32) × (Bool × List UInt8) × Vector Int (32) × Int)) (x2229 : List (Int × Vector Int (32) × (Bool × List UInt8) × Vector Int (32) × Int)) : Option Bool :=
  bif ((↑(List.length x2228) : Int) != (↑(List.length x2229) : Int)) then some Bool.false else joinC (fun (y : Unit) => p_dormouseref24_Same.j0 k) fun (j2237 : Unit → Option Bool) => loopC (fun (r : List (Int × Vector Int (32) × (Bool × List UInt8) × Vector Int (32) × Int) × List (Int × Vector Int (32) × (Bool × List UInt8) × Vector Int (32) × Int) × Int → Option Bool) y => p_dormouseref24_Same.b1 k j2237 r y.1 y.2.1 y.2.2) k (x2228, x2229, (0 : Int))
/- dormouse/dormouseref01.Num: function 92 -/
noncomputable def p_dormouseref01_Num.j0 (k : Nat) (x2273 : List UInt8) : Option (List UInt8) :=
  some x2273
noncomputable def p_dormouseref01_Num.b1 (k : Nat) (j2274 : List UInt8 → Option (List UInt8)) (rec2271 : Int × Int × List UInt8 × Int → Option (List UInt8)) (x2266 : Int) (x2267 : Int) (x2268 : List UInt8) (x2269 : Int) : Option (List UInt8) :=
  bif (decide (x2269 < x2267)) then need (List.length x2268 + List.length (bytesOf [IntKind.wrap IntKind.u8 (Int.tmod x2266 (256 : Int))]) ≤ (9223372036854775807 : Nat)) (rec2271 (IntKind.wrap IntKind.u64 (Int.tdiv x2266 (256 : Int)), x2267, x2268 ++ bytesOf [IntKind.wrap IntKind.u8 (Int.tmod x2266 (256 : Int))], IntKind.wrap IntKind.i64 (x2269 + (1 : Int)))) else j2274 x2268
noncomputable def p_dormouseref01_Num (k : Nat) (x2264 : Int) (x2265 : Int) : Option (List UInt8) :=
  joinC (p_dormouseref01_Num.j0 k) fun (j2274 : List UInt8 → Option (List UInt8)) => loopC (fun (r : Int × Int × List UInt8 × Int → Option (List UInt8)) y => p_dormouseref01_Num.b1 k j2274 r y.1 y.2.1 y.2.2.1 y.2.2.2) k (x2264, x2265, [], (0 : Int))
/- dormouse/dormouseref16.Bytes: function 93 -/
noncomputable def p_dormouseref16_Bytes.j0 (k : Nat) (x2288 : List UInt8) : Option (List UInt8) :=
  some x2288
noncomputable def p_dormouseref16_Bytes.b1 (k : Nat) (j2289 : List UInt8 → Option (List UInt8)) (rec2286 : List UInt8 × Int × Vector Int (32) → Option (List UInt8)) (x2281 : List UInt8) (x2282 : Int) (x2283 : Vector Int (32)) : Option (List UInt8) :=
  bif (decide (x2282 < (32 : Int))) then need ((0 : Int) ≤ x2282 ∧ x2282 < (↑(32 : Nat) : Int)) (need (List.length x2281 + List.length (bytesOf [at_ (dflt (T.int IntKind.u8)) (Vector.toList x2283) x2282]) ≤ (9223372036854775807 : Nat)) (rec2286 (x2281 ++ bytesOf [at_ (dflt (T.int IntKind.u8)) (Vector.toList x2283) x2282], IntKind.wrap IntKind.i64 (x2282 + (1 : Int)), x2283))) else j2289 x2281
noncomputable def p_dormouseref16_Bytes (k : Nat) (x2280 : Vector Int (32)) : Option (List UInt8) :=
  joinC (p_dormouseref16_Bytes.j0 k) fun (j2289 : List UInt8 → Option (List UInt8)) => loopC (fun (r : List UInt8 × Int × Vector Int (32) → Option (List UInt8)) y => p_dormouseref16_Bytes.b1 k j2289 r y.1 y.2.1 y.2.2) k ([], (0 : Int), x2280)
/- dormouse/dormouseref24.Put: function 69 -/
noncomputable def p_dormouseref24_Put (k : Nat) (x2303 : Int × Vector Int (32) × (Bool × List UInt8) × Vector Int (32) × Int) : Option (List UInt8) :=
  Option.bind (p_dormouseref01_Num k (IntKind.wrap IntKind.u64 (Prod.fst x2303)) (1 : Int)) fun t2304 => bif (decide (Prod.fst x2303 ≤ (2 : Int))) then Option.bind (p_dormouseref16_Bytes k (Prod.fst (Prod.snd x2303))) fun t2305 => need (List.length t2304 + List.length t2305 ≤ (9223372036854775807 : Nat)) (Option.bind (p_dormouseref17_Put (Prod.fst (Prod.fst (Prod.snd (Prod.snd x2303))), Prod.snd (Prod.fst (Prod.snd (Prod.snd x2303))))) fun t2307 => need (List.length (t2304 ++ t2305) + List.length t2307 ≤ (9223372036854775807 : Nat)) (some (t2304 ++ t2305 ++ t2307))) else bif (decide (Prod.fst x2303 ≤ (4 : Int))) then Option.bind (p_dormouseref16_Bytes k (Prod.fst (Prod.snd (Prod.snd (Prod.snd x2303))))) fun t2309 => need (List.length t2304 + List.length t2309 ≤ (9223372036854775807 : Nat)) (some (t2304 ++ t2309)) else Option.bind (p_dormouseref01_Num k (IntKind.wrap IntKind.u64 (Prod.snd (Prod.snd (Prod.snd (Prod.snd x2303))))) (4 : Int)) fun t2311 => need (List.length t2304 + List.length t2311 ≤ (9223372036854775807 : Nat)) (some (t2304 ++ t2311))
/- dormouse/dormouseref01.Text: function 68 -/
noncomputable def p_dormouseref01_Text (k : Nat) (x2321 : List UInt8) : Option (List UInt8) :=
  Option.bind (p_dormouseref01_Num k (IntKind.wrap IntKind.u64 (↑(List.length x2321) : Int)) (4 : Int)) fun t2322 => need (List.length t2322 + List.length x2321 ≤ (9223372036854775807 : Nat)) (some (t2322 ++ x2321))
/- dormouse/dormouseref25.Put: function 37 -/
noncomputable def p_dormouseref25_Put.j0 (k : Nat) (x2335 : List UInt8) : Option (List UInt8) :=
  some x2335
noncomputable def p_dormouseref25_Put.b1 (k : Nat) (j2336 : List UInt8 → Option (List UInt8)) (rec2333 : List (Int × Vector Int (32) × (Bool × List UInt8) × Vector Int (32) × Int) × List UInt8 × Int → Option (List UInt8)) (x2326 : List (Int × Vector Int (32) × (Bool × List UInt8) × Vector Int (32) × Int)) (x2327 : List UInt8) (x2328 : Int) : Option (List UInt8) :=
  bif (decide (x2328 < (↑(List.length x2326) : Int))) then need ((0 : Int) ≤ x2328 ∧ x2328 < (↑(List.length x2326) : Int)) (Option.bind (p_dormouseref24_Put k (Prod.fst (at_ (dflt (T.pair (T.int IntKind.i64) (T.pair (T.arr (32) (T.int IntKind.u8)) (T.pair (T.pair T.bool T.str) (T.pair (T.arr (32) (T.int IntKind.u8)) (T.int IntKind.i64)))))) x2326 x2328), Prod.fst (Prod.snd (at_ (dflt (T.pair (T.int IntKind.i64) (T.pair (T.arr (32) (T.int IntKind.u8)) (T.pair (T.pair T.bool T.str) (T.pair (T.arr (32) (T.int IntKind.u8)) (T.int IntKind.i64)))))) x2326 x2328)), (Prod.fst (Prod.fst (Prod.snd (Prod.snd (at_ (dflt (T.pair (T.int IntKind.i64) (T.pair (T.arr (32) (T.int IntKind.u8)) (T.pair (T.pair T.bool T.str) (T.pair (T.arr (32) (T.int IntKind.u8)) (T.int IntKind.i64)))))) x2326 x2328)))), Prod.snd (Prod.fst (Prod.snd (Prod.snd (at_ (dflt (T.pair (T.int IntKind.i64) (T.pair (T.arr (32) (T.int IntKind.u8)) (T.pair (T.pair T.bool T.str) (T.pair (T.arr (32) (T.int IntKind.u8)) (T.int IntKind.i64)))))) x2326 x2328))))), Prod.fst (Prod.snd (Prod.snd (Prod.snd (at_ (dflt (T.pair (T.int IntKind.i64) (T.pair (T.arr (32) (T.int IntKind.u8)) (T.pair (T.pair T.bool T.str) (T.pair (T.arr (32) (T.int IntKind.u8)) (T.int IntKind.i64)))))) x2326 x2328)))), Prod.snd (Prod.snd (Prod.snd (Prod.snd (at_ (dflt (T.pair (T.int IntKind.i64) (T.pair (T.arr (32) (T.int IntKind.u8)) (T.pair (T.pair T.bool T.str) (T.pair (T.arr (32) (T.int IntKind.u8)) (T.int IntKind.i64)))))) x2326 x2328)))))) fun t2330 => Option.bind (p_dormouseref01_Text k t2330) fun t2331 => need (List.length x2327 + List.length t2331 ≤ (9223372036854775807 : Nat)) (rec2333 (x2326, x2327 ++ t2331, IntKind.wrap IntKind.i64 (x2328 + (1 : Int))))) else j2336 x2327
noncomputable def p_dormouseref25_Put (k : Nat) (x2325 : List (Int × Vector Int (32) × (Bool × List UInt8) × Vector Int (32) × Int)) : Option (List UInt8) :=
  joinC (p_dormouseref25_Put.j0 k) fun (j2336 : List UInt8 → Option (List UInt8)) => loopC (fun (r : List (Int × Vector Int (32) × (Bool × List UInt8) × Vector Int (32) × Int) × List UInt8 × Int → Option (List UInt8)) y => p_dormouseref25_Put.b1 k j2336 r y.1 y.2.1 y.2.2) k (x2325, [], (0 : Int))
/- dormouse/dormouselaw27.ImageOf: function 6 -/
noncomputable def p_dormouselaw27_ImageOf.j0 (k : Nat) (x2346 : Bool) : Option Bool :=
  some x2346
noncomputable def p_dormouselaw27_ImageOf.j1 (k : Nat) (x2356 : Bool) : Option Bool :=
  some x2356
noncomputable def p_dormouselaw27_ImageOf (k : Nat) (x2339 : Int × List (Vector Int (32)) × List (Vector Int (32) × List UInt8) × List (Vector Int (32) × List UInt8)) : Option Bool :=
  Option.bind (p_dormouselaw26_Light k (Prod.fst x2339, Prod.fst (Prod.snd x2339), Prod.fst (Prod.snd (Prod.snd x2339)), Prod.snd (Prod.snd (Prod.snd x2339)))) fun t2340 => bif !t2340 then Option.bind (p_dormouselaw27_awake k) fun t2341 => some t2341 else Option.bind (p_image_Of k (Prod.fst x2339, Prod.fst (Prod.snd x2339), Prod.fst (Prod.snd (Prod.snd x2339)), Prod.snd (Prod.snd (Prod.snd x2339)))) fun t2342 => Option.bind (p_image_Text k (Prod.fst x2339, Prod.fst (Prod.snd x2339), Prod.fst (Prod.snd (Prod.snd x2339)), Prod.snd (Prod.snd (Prod.snd x2339)))) fun t2343 => Option.bind (p_dormouseref26_May k (Prod.fst x2339, Prod.fst (Prod.snd x2339), Prod.fst (Prod.snd (Prod.snd x2339)), Prod.snd (Prod.snd (Prod.snd x2339)))) fun t2344 => bif !t2344 then joinC (p_dormouselaw27_ImageOf.j0 k) fun (j2347 : Bool → Option Bool) => Option.bind (p_dormouselaw27_awake k) fun t2345 => bif t2345 then bif ((↑(List.length (Prod.snd t2342)) : Int) == (0 : Int)) then bif (Prod.fst t2342 == (2 : Int)) then bif (Prod.fst t2343 == []) then j2347 (Prod.snd t2343 == (2 : Int)) else j2347 Bool.false else j2347 Bool.false else j2347 Bool.false else j2347 Bool.false else Option.bind (p_image_Read k (Prod.fst t2343)) fun t2349 => joinC (p_dormouselaw27_ImageOf.j1 k) fun (j2357 : Bool → Option Bool) => Option.bind (p_dormouselaw27_awake k) fun t2350 => bif t2350 then bif (Prod.fst t2342 == (0 : Int)) then Option.bind (p_dormouseref27_Of k (Prod.fst x2339, Prod.fst (Prod.snd x2339), Prod.fst (Prod.snd (Prod.snd x2339)), Prod.snd (Prod.snd (Prod.snd x2339)))) fun t2351 => Option.bind (p_dormouseref24_Same k (Prod.snd t2342) t2351) fun t2352 => bif t2352 then bif (Prod.snd t2343 == (0 : Int)) then Option.bind (p_dormouseref27_Of k (Prod.fst x2339, Prod.fst (Prod.snd x2339), Prod.fst (Prod.snd (Prod.snd x2339)), Prod.snd (Prod.snd (Prod.snd x2339)))) fun t2353 => Option.bind (p_dormouseref25_Put k t2353) fun t2354 => bif (Prod.fst t2343 == t2354) then bif (Prod.fst (Prod.snd t2349) == (0 : Int)) then Option.bind (p_dormouseref26_Same k (Prod.fst x2339, Prod.fst (Prod.snd x2339), Prod.fst (Prod.snd (Prod.snd x2339)), Prod.snd (Prod.snd (Prod.snd x2339))) (Prod.fst t2349, Prod.fst (Prod.snd (Prod.snd t2349)), Prod.fst (Prod.snd (Prod.snd (Prod.snd t2349))), Prod.snd (Prod.snd (Prod.snd (Prod.snd t2349))))) fun t2355 => j2357 t2355 else j2357 Bool.false else j2357 Bool.false else j2357 Bool.false else j2357 Bool.false else j2357 Bool.false else j2357 Bool.false
/- dormouse/dormouseref01.Val: function 70 -/
noncomputable def p_dormouseref01_Val.j0 (k : Nat) (x2385 : Int) : Option Int :=
  some x2385
noncomputable def p_dormouseref01_Val.j2 (k : Nat) (rec2383 : List UInt8 × Int × Int × Int → Option Int) (j2386 : Int → Option Int) (x2375 : List UInt8) (x2376 : Int) (x2377 : Int) (x2378 : Int) (x2379 : Bool) : Option Int :=
  bif x2379 then need ((0 : Int) ≤ x2378 ∧ x2378 < (↑(List.length x2375) : Int)) (rec2383 (x2375, IntKind.wrap IntKind.u64 (x2376 + IntKind.wrap IntKind.u64 (x2377 * IntKind.wrap IntKind.u64 (bat x2375 x2378))), IntKind.wrap IntKind.u64 (x2377 * (256 : Int)), IntKind.wrap IntKind.i64 (x2378 + (1 : Int)))) else j2386 x2376
noncomputable def p_dormouseref01_Val.b1 (k : Nat) (j2386 : Int → Option Int) (rec2383 : List UInt8 × Int × Int × Int → Option Int) (x2371 : List UInt8) (x2372 : Int) (x2373 : Int) (x2374 : Int) : Option Int :=
  joinC (fun (y : List UInt8 × Int × Int × Int × Bool) => p_dormouseref01_Val.j2 k rec2383 j2386 y.1 y.2.1 y.2.2.1 y.2.2.2.1 y.2.2.2.2) fun (j2380 : List UInt8 × Int × Int × Int × Bool → Option Int) => bif (decide (x2374 < (↑(List.length x2371) : Int))) then j2380 (x2371, x2372, x2373, x2374, decide (x2374 < (8 : Int))) else j2380 (x2371, x2372, x2373, x2374, Bool.false)
noncomputable def p_dormouseref01_Val (k : Nat) (x2370 : List UInt8) : Option Int :=
  joinC (p_dormouseref01_Val.j0 k) fun (j2386 : Int → Option Int) => loopC (fun (r : List UInt8 × Int × Int × Int → Option Int) y => p_dormouseref01_Val.b1 k j2386 r y.1 y.2.1 y.2.2.1 y.2.2.2) k (x2370, (0 : Int), (1 : Int), (0 : Int))
/- dormouse/dormouseref24.key: function 94 -/
noncomputable def p_dormouseref24_key.j0 (k : Nat) (x2418 : Vector Int (32)) (x2419 : Vector Int (32)) : Option (Vector Int (32)) :=
  some x2419
noncomputable def p_dormouseref24_key.b1 (k : Nat) (j2420 : Vector Int (32) × Vector Int (32) → Option (Vector Int (32))) (rec2416 : List UInt8 × Int × Vector Int (32) × Vector Int (32) → Option (Vector Int (32))) (x2410 : List UInt8) (x2411 : Int) (x2412 : Vector Int (32)) (x2413 : Vector Int (32)) : Option (Vector Int (32)) :=
  bif (decide (x2411 < (32 : Int))) then need ((0 : Int) ≤ x2411 ∧ x2411 < (↑(List.length x2410) : Int)) (need ((0 : Int) ≤ x2411 ∧ x2411 < (↑(32 : Nat) : Int)) (rec2416 (x2410, IntKind.wrap IntKind.i64 (x2411 + (1 : Int)), x2412, vset x2413 x2411 (bat x2410 x2411)))) else j2420 (x2412, x2413)
noncomputable def p_dormouseref24_key (k : Nat) (x2409 : List UInt8) : Option (Vector Int (32)) :=
  joinC (fun (y : Vector Int (32) × Vector Int (32)) => p_dormouseref24_key.j0 k y.1 y.2) fun (j2420 : Vector Int (32) × Vector Int (32) → Option (Vector Int (32))) => loopC (fun (r : List UInt8 × Int × Vector Int (32) × Vector Int (32) → Option (Vector Int (32))) y => p_dormouseref24_key.b1 k j2420 r y.1 y.2.1 y.2.2.1 y.2.2.2) k (x2409, (0 : Int), Vector.replicate (32 : Nat) (dflt (T.int IntKind.u8)), Vector.replicate (32 : Nat) (dflt (T.int IntKind.u8)))
/- dormouse/dormouseref24.Get: function 71 -/
noncomputable def p_dormouseref24_Get.j3 (k : Nat) (x2453 : Bool) (x2454 : Int × Vector Int (32) × (Bool × List UInt8) × Vector Int (32) × Int) (x2455 : Int × Vector Int (32) × (Bool × List UInt8) × Vector Int (32) × Int) : Option ((Int × Vector Int (32) × (Bool × List UInt8) × Vector Int (32) × Int) × Int) :=
  bif x2453 then some (((0 : Int), Vector.replicate (32 : Nat) (dflt (T.int IntKind.u8)), (Bool.false, ([] : List UInt8)), Vector.replicate (32 : Nat) (dflt (T.int IntKind.u8)), (0 : Int)), (6 : Int)) else some ((Prod.fst x2455, Prod.fst (Prod.snd x2455), (Prod.fst (Prod.fst (Prod.snd (Prod.snd x2455))), Prod.snd (Prod.fst (Prod.snd (Prod.snd x2455)))), Prod.fst (Prod.snd (Prod.snd (Prod.snd x2455))), Prod.snd (Prod.snd (Prod.snd (Prod.snd x2455)))), (0 : Int))
noncomputable def p_dormouseref24_Get.j2 (k : Nat) (x2448 : List UInt8) (x2449 : Int × Vector Int (32) × (Bool × List UInt8) × Vector Int (32) × Int) (x2450 : Int × Vector Int (32) × (Bool × List UInt8) × Vector Int (32) × Int) : Option ((Int × Vector Int (32) × (Bool × List UInt8) × Vector Int (32) × Int) × Int) :=
  joinC (fun (y : Bool × (Int × Vector Int (32) × (Bool × List UInt8) × Vector Int (32) × Int) × Int × Vector Int (32) × (Bool × List UInt8) × Vector Int (32) × Int) => p_dormouseref24_Get.j3 k y.1 y.2.1 y.2.2) fun (j2456 : Bool × (Int × Vector Int (32) × (Bool × List UInt8) × Vector Int (32) × Int) × Int × Vector Int (32) × (Bool × List UInt8) × Vector Int (32) × Int → Option ((Int × Vector Int (32) × (Bool × List UInt8) × Vector Int (32) × Int) × Int)) => Option.bind (p_dormouseref24_May (Prod.fst x2450, Prod.fst (Prod.snd x2450), (Prod.fst (Prod.fst (Prod.snd (Prod.snd x2450))), Prod.snd (Prod.fst (Prod.snd (Prod.snd x2450)))), Prod.fst (Prod.snd (Prod.snd (Prod.snd x2450))), Prod.snd (Prod.snd (Prod.snd (Prod.snd x2450))))) fun t2451 => bif !t2451 then j2456 (Bool.true, (Prod.fst x2449, Prod.fst (Prod.snd x2449), (Prod.fst (Prod.fst (Prod.snd (Prod.snd x2449))), Prod.snd (Prod.fst (Prod.snd (Prod.snd x2449)))), Prod.fst (Prod.snd (Prod.snd (Prod.snd x2449))), Prod.snd (Prod.snd (Prod.snd (Prod.snd x2449)))), Prod.fst x2450, Prod.fst (Prod.snd x2450), (Prod.fst (Prod.fst (Prod.snd (Prod.snd x2450))), Prod.snd (Prod.fst (Prod.snd (Prod.snd x2450)))), Prod.fst (Prod.snd (Prod.snd (Prod.snd x2450))), Prod.snd (Prod.snd (Prod.snd (Prod.snd x2450)))) else Option.bind (p_dormouseref24_Put k (Prod.fst x2450, Prod.fst (Prod.snd x2450), (Prod.fst (Prod.fst (Prod.snd (Prod.snd x2450))), Prod.snd (Prod.fst (Prod.snd (Prod.snd x2450)))), Prod.fst (Prod.snd (Prod.snd (Prod.snd x2450))), Prod.snd (Prod.snd (Prod.snd (Prod.snd x2450))))) fun t2452 => j2456 (!t2452 == x2448, (Prod.fst x2449, Prod.fst (Prod.snd x2449), (Prod.fst (Prod.fst (Prod.snd (Prod.snd x2449))), Prod.snd (Prod.fst (Prod.snd (Prod.snd x2449)))), Prod.fst (Prod.snd (Prod.snd (Prod.snd x2449))), Prod.snd (Prod.snd (Prod.snd (Prod.snd x2449)))), Prod.fst x2450, Prod.fst (Prod.snd x2450), (Prod.fst (Prod.fst (Prod.snd (Prod.snd x2450))), Prod.snd (Prod.fst (Prod.snd (Prod.snd x2450)))), Prod.fst (Prod.snd (Prod.snd (Prod.snd x2450))), Prod.snd (Prod.snd (Prod.snd (Prod.snd x2450))))
noncomputable def p_dormouseref24_Get.j1 (k : Nat) (x2443 : List UInt8) (x2444 : Int × Vector Int (32) × (Bool × List UInt8) × Vector Int (32) × Int) (x2445 : Int × Vector Int (32) × (Bool × List UInt8) × Vector Int (32) × Int) : Option ((Int × Vector Int (32) × (Bool × List UInt8) × Vector Int (32) × Int) × Int) :=
  joinC (fun (y : List UInt8 × (Int × Vector Int (32) × (Bool × List UInt8) × Vector Int (32) × Int) × Int × Vector Int (32) × (Bool × List UInt8) × Vector Int (32) × Int) => p_dormouseref24_Get.j2 k y.1 y.2.1 y.2.2) fun (j2458 : List UInt8 × (Int × Vector Int (32) × (Bool × List UInt8) × Vector Int (32) × Int) × Int × Vector Int (32) × (Bool × List UInt8) × Vector Int (32) × Int → Option ((Int × Vector Int (32) × (Bool × List UInt8) × Vector Int (32) × Int) × Int)) => bif (Prod.fst x2445 == (5 : Int)) then bif (decide ((↑(List.length x2443) : Int) < (5 : Int))) then some (((0 : Int), Vector.replicate (32 : Nat) (dflt (T.int IntKind.u8)), (Bool.false, ([] : List UInt8)), Vector.replicate (32 : Nat) (dflt (T.int IntKind.u8)), (0 : Int)), (5 : Int)) else need ((0 : Int) ≤ (1 : Int) ∧ (1 : Int) ≤ (5 : Int) ∧ (5 : Int) ≤ (↑(List.length x2443) : Int)) (Option.bind (p_dormouseref01_Val k (sub_ x2443 (1 : Int) (5 : Int))) fun t2447 => j2458 (x2443, (Prod.fst x2444, Prod.fst (Prod.snd x2444), (Prod.fst (Prod.fst (Prod.snd (Prod.snd x2444))), Prod.snd (Prod.fst (Prod.snd (Prod.snd x2444)))), Prod.fst (Prod.snd (Prod.snd (Prod.snd x2444))), Prod.snd (Prod.snd (Prod.snd (Prod.snd x2444)))), Prod.fst x2445, Prod.fst (Prod.snd x2445), (Prod.fst (Prod.fst (Prod.snd (Prod.snd x2445))), Prod.snd (Prod.fst (Prod.snd (Prod.snd x2445)))), Prod.fst (Prod.snd (Prod.snd (Prod.snd x2445))), IntKind.wrap IntKind.i64 t2447)) else j2458 (x2443, (Prod.fst x2444, Prod.fst (Prod.snd x2444), (Prod.fst (Prod.fst (Prod.snd (Prod.snd x2444))), Prod.snd (Prod.fst (Prod.snd (Prod.snd x2444)))), Prod.fst (Prod.snd (Prod.snd (Prod.snd x2444))), Prod.snd (Prod.snd (Prod.snd (Prod.snd x2444)))), Prod.fst x2445, Prod.fst (Prod.snd x2445), (Prod.fst (Prod.fst (Prod.snd (Prod.snd x2445))), Prod.snd (Prod.fst (Prod.snd (Prod.snd x2445)))), Prod.fst (Prod.snd (Prod.snd (Prod.snd x2445))), Prod.snd (Prod.snd (Prod.snd (Prod.snd x2445))))
noncomputable def p_dormouseref24_Get.j4 (k : Nat) (j2460 : List UInt8 × (Int × Vector Int (32) × (Bool × List UInt8) × Vector Int (32) × Int) × Int × Vector Int (32) × (Bool × List UInt8) × Vector Int (32) × Int → Option ((Int × Vector Int (32) × (Bool × List UInt8) × Vector Int (32) × Int) × Int)) (x2435 : List UInt8) (x2436 : Bool) (x2437 : Int × Vector Int (32) × (Bool × List UInt8) × Vector Int (32) × Int) (x2438 : Int × Vector Int (32) × (Bool × List UInt8) × Vector Int (32) × Int) : Option ((Int × Vector Int (32) × (Bool × List UInt8) × Vector Int (32) × Int) × Int) :=
  bif x2436 then bif (decide ((↑(List.length x2435) : Int) < (33 : Int))) then some (((0 : Int), Vector.replicate (32 : Nat) (dflt (T.int IntKind.u8)), (Bool.false, ([] : List UInt8)), Vector.replicate (32 : Nat) (dflt (T.int IntKind.u8)), (0 : Int)), (5 : Int)) else need ((0 : Int) ≤ (1 : Int) ∧ (1 : Int) ≤ (↑(List.length x2435) : Int) ∧ (↑(List.length x2435) : Int) ≤ (↑(List.length x2435) : Int)) (Option.bind (p_dormouseref24_key k (sub_ x2435 (1 : Int) (↑(List.length x2435) : Int))) fun t2442 => j2460 (x2435, (Prod.fst x2437, Prod.fst (Prod.snd x2437), (Prod.fst (Prod.fst (Prod.snd (Prod.snd x2437))), Prod.snd (Prod.fst (Prod.snd (Prod.snd x2437)))), Prod.fst (Prod.snd (Prod.snd (Prod.snd x2437))), Prod.snd (Prod.snd (Prod.snd (Prod.snd x2437)))), Prod.fst x2438, Prod.fst (Prod.snd x2438), (Prod.fst (Prod.fst (Prod.snd (Prod.snd x2438))), Prod.snd (Prod.fst (Prod.snd (Prod.snd x2438)))), t2442, Prod.snd (Prod.snd (Prod.snd (Prod.snd x2438))))) else j2460 (x2435, (Prod.fst x2437, Prod.fst (Prod.snd x2437), (Prod.fst (Prod.fst (Prod.snd (Prod.snd x2437))), Prod.snd (Prod.fst (Prod.snd (Prod.snd x2437)))), Prod.fst (Prod.snd (Prod.snd (Prod.snd x2437))), Prod.snd (Prod.snd (Prod.snd (Prod.snd x2437)))), Prod.fst x2438, Prod.fst (Prod.snd x2438), (Prod.fst (Prod.fst (Prod.snd (Prod.snd x2438))), Prod.snd (Prod.fst (Prod.snd (Prod.snd x2438)))), Prod.fst (Prod.snd (Prod.snd (Prod.snd x2438))), Prod.snd (Prod.snd (Prod.snd (Prod.snd x2438))))
noncomputable def p_dormouseref24_Get.j0 (k : Nat) (x2425 : List UInt8) (x2426 : Bool) (x2427 : Int × Vector Int (32) × (Bool × List UInt8) × Vector Int (32) × Int) (x2428 : Int × Vector Int (32) × (Bool × List UInt8) × Vector Int (32) × Int) : Option ((Int × Vector Int (32) × (Bool × List UInt8) × Vector Int (32) × Int) × Int) :=
  bif x2426 then bif (decide ((↑(List.length x2425) : Int) < (34 : Int))) then some (((0 : Int), Vector.replicate (32 : Nat) (dflt (T.int IntKind.u8)), (Bool.false, ([] : List UInt8)), Vector.replicate (32 : Nat) (dflt (T.int IntKind.u8)), (0 : Int)), (5 : Int)) else need ((0 : Int) ≤ (33 : Int) ∧ (33 : Int) ≤ (↑(List.length x2425) : Int) ∧ (↑(List.length x2425) : Int) ≤ (↑(List.length x2425) : Int)) (Option.bind (p_dormouseref17_Get (sub_ x2425 (33 : Int) (↑(List.length x2425) : Int))) fun t2432 => bif (Prod.snd t2432 != (0 : Int)) then some (((0 : Int), Vector.replicate (32 : Nat) (dflt (T.int IntKind.u8)), (Bool.false, ([] : List UInt8)), Vector.replicate (32 : Nat) (dflt (T.int IntKind.u8)), (0 : Int)), (6 : Int)) else need ((0 : Int) ≤ (1 : Int) ∧ (1 : Int) ≤ (↑(List.length x2425) : Int) ∧ (↑(List.length x2425) : Int) ≤ (↑(List.length x2425) : Int)) (Option.bind (p_dormouseref24_key k (sub_ x2425 (1 : Int) (↑(List.length x2425) : Int))) fun t2434 => some ((Prod.fst x2428, t2434, (Prod.fst (Prod.fst t2432), Prod.snd (Prod.fst t2432)), Prod.fst (Prod.snd (Prod.snd (Prod.snd x2428))), Prod.snd (Prod.snd (Prod.snd (Prod.snd x2428)))), (0 : Int)))) else joinC (fun (y : List UInt8 × (Int × Vector Int (32) × (Bool × List UInt8) × Vector Int (32) × Int) × Int × Vector Int (32) × (Bool × List UInt8) × Vector Int (32) × Int) => p_dormouseref24_Get.j1 k y.1 y.2.1 y.2.2) fun (j2460 : List UInt8 × (Int × Vector Int (32) × (Bool × List UInt8) × Vector Int (32) × Int) × Int × Vector Int (32) × (Bool × List UInt8) × Vector Int (32) × Int → Option ((Int × Vector Int (32) × (Bool × List UInt8) × Vector Int (32) × Int) × Int)) => joinC (fun (y : List UInt8 × Bool × (Int × Vector Int (32) × (Bool × List UInt8) × Vector Int (32) × Int) × Int × Vector Int (32) × (Bool × List UInt8) × Vector Int (32) × Int) => p_dormouseref24_Get.j4 k j2460 y.1 y.2.1 y.2.2.1 y.2.2.2) fun (j2439 : List UInt8 × Bool × (Int × Vector Int (32) × (Bool × List UInt8) × Vector Int (32) × Int) × Int × Vector Int (32) × (Bool × List UInt8) × Vector Int (32) × Int → Option ((Int × Vector Int (32) × (Bool × List UInt8) × Vector Int (32) × Int) × Int)) => bif (decide (Prod.fst x2428 ≥ (3 : Int))) then j2439 (x2425, decide (Prod.fst x2428 ≤ (4 : Int)), (Prod.fst x2427, Prod.fst (Prod.snd x2427), (Prod.fst (Prod.fst (Prod.snd (Prod.snd x2427))), Prod.snd (Prod.fst (Prod.snd (Prod.snd x2427)))), Prod.fst (Prod.snd (Prod.snd (Prod.snd x2427))), Prod.snd (Prod.snd (Prod.snd (Prod.snd x2427)))), Prod.fst x2428, Prod.fst (Prod.snd x2428), (Prod.fst (Prod.fst (Prod.snd (Prod.snd x2428))), Prod.snd (Prod.fst (Prod.snd (Prod.snd x2428)))), Prod.fst (Prod.snd (Prod.snd (Prod.snd x2428))), Prod.snd (Prod.snd (Prod.snd (Prod.snd x2428)))) else j2439 (x2425, Bool.false, (Prod.fst x2427, Prod.fst (Prod.snd x2427), (Prod.fst (Prod.fst (Prod.snd (Prod.snd x2427))), Prod.snd (Prod.fst (Prod.snd (Prod.snd x2427)))), Prod.fst (Prod.snd (Prod.snd (Prod.snd x2427))), Prod.snd (Prod.snd (Prod.snd (Prod.snd x2427)))), Prod.fst x2428, Prod.fst (Prod.snd x2428), (Prod.fst (Prod.fst (Prod.snd (Prod.snd x2428))), Prod.snd (Prod.fst (Prod.snd (Prod.snd x2428)))), Prod.fst (Prod.snd (Prod.snd (Prod.snd x2428))), Prod.snd (Prod.snd (Prod.snd (Prod.snd x2428))))
noncomputable def p_dormouseref24_Get (k : Nat) (x2423 : List UInt8) : Option ((Int × Vector Int (32) × (Bool × List UInt8) × Vector Int (32) × Int) × Int) :=
  bif (x2423 == []) then some (((0 : Int), Vector.replicate (32 : Nat) (dflt (T.int IntKind.u8)), (Bool.false, ([] : List UInt8)), Vector.replicate (32 : Nat) (dflt (T.int IntKind.u8)), (0 : Int)), (5 : Int)) else need ((0 : Int) ≤ (0 : Int) ∧ (0 : Int) < (↑(List.length x2423) : Int)) (joinC (fun (y : List UInt8 × Bool × (Int × Vector Int (32) × (Bool × List UInt8) × Vector Int (32) × Int) × Int × Vector Int (32) × (Bool × List UInt8) × Vector Int (32) × Int) => p_dormouseref24_Get.j0 k y.1 y.2.1 y.2.2.1 y.2.2.2) fun (j2429 : List UInt8 × Bool × (Int × Vector Int (32) × (Bool × List UInt8) × Vector Int (32) × Int) × Int × Vector Int (32) × (Bool × List UInt8) × Vector Int (32) × Int → Option ((Int × Vector Int (32) × (Bool × List UInt8) × Vector Int (32) × Int) × Int)) => bif (decide (IntKind.wrap IntKind.i64 (bat x2423 (0 : Int)) ≥ (1 : Int))) then j2429 (x2423, decide (IntKind.wrap IntKind.i64 (bat x2423 (0 : Int)) ≤ (2 : Int)), ((0 : Int), Vector.replicate (32 : Nat) (dflt (T.int IntKind.u8)), (Bool.false, ([] : List UInt8)), Vector.replicate (32 : Nat) (dflt (T.int IntKind.u8)), (0 : Int)), IntKind.wrap IntKind.i64 (bat x2423 (0 : Int)), Vector.replicate (32 : Nat) (dflt (T.int IntKind.u8)), (Bool.false, ([] : List UInt8)), Vector.replicate (32 : Nat) (dflt (T.int IntKind.u8)), (0 : Int)) else j2429 (x2423, Bool.false, ((0 : Int), Vector.replicate (32 : Nat) (dflt (T.int IntKind.u8)), (Bool.false, ([] : List UInt8)), Vector.replicate (32 : Nat) (dflt (T.int IntKind.u8)), (0 : Int)), IntKind.wrap IntKind.i64 (bat x2423 (0 : Int)), Vector.replicate (32 : Nat) (dflt (T.int IntKind.u8)), (Bool.false, ([] : List UInt8)), Vector.replicate (32 : Nat) (dflt (T.int IntKind.u8)), (0 : Int)))
/- dormouse/dormouseref25.Get: function 38 -/
noncomputable def p_dormouseref25_Get.j0 (k : Nat) (x2474 : Int) (x2475 : List (Int × Vector Int (32) × (Bool × List UInt8) × Vector Int (32) × Int)) : Option (Int × Int × List (Int × Vector Int (32) × (Bool × List UInt8) × Vector Int (32) × Int)) :=
  some (x2474, (0 : Int), x2475)
noncomputable def p_dormouseref25_Get.b1 (k : Nat) (j2476 : Int × List (Int × Vector Int (32) × (Bool × List UInt8) × Vector Int (32) × Int) → Option (Int × Int × List (Int × Vector Int (32) × (Bool × List UInt8) × Vector Int (32) × Int))) (rec2472 : List UInt8 × Int × List (Int × Vector Int (32) × (Bool × List UInt8) × Vector Int (32) × Int) → Option (Int × Int × List (Int × Vector Int (32) × (Bool × List UInt8) × Vector Int (32) × Int))) (x2464 : List UInt8) (x2465 : Int) (x2466 : List (Int × Vector Int (32) × (Bool × List UInt8) × Vector Int (32) × Int)) : Option (Int × Int × List (Int × Vector Int (32) × (Bool × List UInt8) × Vector Int (32) × Int)) :=
  bif (decide (x2465 < (↑(List.length x2464) : Int))) then bif (decide (IntKind.wrap IntKind.i64 ((↑(List.length x2464) : Int) - x2465) < (4 : Int))) then some (x2465, (5 : Int), x2466) else need ((0 : Int) ≤ x2465 ∧ x2465 ≤ IntKind.wrap IntKind.i64 (x2465 + (4 : Int)) ∧ IntKind.wrap IntKind.i64 (x2465 + (4 : Int)) ≤ (↑(List.length x2464) : Int)) (Option.bind (p_dormouseref01_Val k (sub_ x2464 x2465 (IntKind.wrap IntKind.i64 (x2465 + (4 : Int))))) fun t2468 => bif (decide (t2468 > IntKind.wrap IntKind.u64 (IntKind.wrap IntKind.i64 (IntKind.wrap IntKind.i64 ((↑(List.length x2464) : Int) - x2465) - (4 : Int))))) then some (x2465, (5 : Int), x2466) else need ((0 : Int) ≤ IntKind.wrap IntKind.i64 (x2465 + (4 : Int)) ∧ IntKind.wrap IntKind.i64 (x2465 + (4 : Int)) ≤ IntKind.wrap IntKind.i64 (IntKind.wrap IntKind.i64 (x2465 + (4 : Int)) + IntKind.wrap IntKind.i64 t2468) ∧ IntKind.wrap IntKind.i64 (IntKind.wrap IntKind.i64 (x2465 + (4 : Int)) + IntKind.wrap IntKind.i64 t2468) ≤ (↑(List.length x2464) : Int)) (Option.bind (p_dormouseref24_Get k (sub_ x2464 (IntKind.wrap IntKind.i64 (x2465 + (4 : Int))) (IntKind.wrap IntKind.i64 (IntKind.wrap IntKind.i64 (x2465 + (4 : Int)) + IntKind.wrap IntKind.i64 t2468)))) fun t2470 => bif (Prod.snd t2470 != (0 : Int)) then some (x2465, Prod.snd t2470, x2466) else need ((List.length x2466 + List.length [(Prod.fst (Prod.fst t2470), Prod.fst (Prod.snd (Prod.fst t2470)), (Prod.fst (Prod.fst (Prod.snd (Prod.snd (Prod.fst t2470)))), Prod.snd (Prod.fst (Prod.snd (Prod.snd (Prod.fst t2470))))), Prod.fst (Prod.snd (Prod.snd (Prod.snd (Prod.fst t2470)))), Prod.snd (Prod.snd (Prod.snd (Prod.snd (Prod.fst t2470)))))]) * (104 : Nat) ≤ (140737488355328 : Nat)) (rec2472 (x2464, IntKind.wrap IntKind.i64 (IntKind.wrap IntKind.i64 (x2465 + (4 : Int)) + IntKind.wrap IntKind.i64 t2468), x2466 ++ [(Prod.fst (Prod.fst t2470), Prod.fst (Prod.snd (Prod.fst t2470)), (Prod.fst (Prod.fst (Prod.snd (Prod.snd (Prod.fst t2470)))), Prod.snd (Prod.fst (Prod.snd (Prod.snd (Prod.fst t2470))))), Prod.fst (Prod.snd (Prod.snd (Prod.snd (Prod.fst t2470)))), Prod.snd (Prod.snd (Prod.snd (Prod.snd (Prod.fst t2470)))))])))) else j2476 (x2465, x2466)
noncomputable def p_dormouseref25_Get (k : Nat) (x2463 : List UInt8) : Option (Int × Int × List (Int × Vector Int (32) × (Bool × List UInt8) × Vector Int (32) × Int)) :=
  joinC (fun (y : Int × List (Int × Vector Int (32) × (Bool × List UInt8) × Vector Int (32) × Int)) => p_dormouseref25_Get.j0 k y.1 y.2) fun (j2476 : Int × List (Int × Vector Int (32) × (Bool × List UInt8) × Vector Int (32) × Int) → Option (Int × Int × List (Int × Vector Int (32) × (Bool × List UInt8) × Vector Int (32) × Int))) => loopC (fun (r : List UInt8 × Int × List (Int × Vector Int (32) × (Bool × List UInt8) × Vector Int (32) × Int) → Option (Int × Int × List (Int × Vector Int (32) × (Bool × List UInt8) × Vector Int (32) × Int))) y => p_dormouseref25_Get.b1 k j2476 r y.1 y.2.1 y.2.2) k (x2463, (0 : Int), [])
/- dormouse/dormouselaw27.ImageReads: function 7 -/
noncomputable def p_dormouselaw27_ImageReads.j0 (k : Nat) (x2485 : Bool) : Option Bool :=
  some x2485
noncomputable def p_dormouselaw27_ImageReads.j1 (k : Nat) (x2491 : Bool) : Option Bool :=
  some x2491
noncomputable def p_dormouselaw27_ImageReads (k : Nat) (x2479 : List UInt8) : Option Bool :=
  bif (decide ((↑(List.length x2479) : Int) > (1500 : Int))) then Option.bind (p_dormouselaw27_awake k) fun t2480 => some t2480 else Option.bind (p_image_Read k x2479) fun t2481 => Option.bind (p_dormouseref25_Get k x2479) fun t2482 => bif (Prod.fst (Prod.snd t2482) != (0 : Int)) then joinC (p_dormouselaw27_ImageReads.j0 k) fun (j2486 : Bool → Option Bool) => Option.bind (p_dormouselaw27_awake k) fun t2483 => bif t2483 then bif (Prod.fst (Prod.snd t2481) == Prod.fst (Prod.snd t2482)) then Option.bind (p_dormouseref26_Same k (Prod.fst t2481, Prod.fst (Prod.snd (Prod.snd t2481)), Prod.fst (Prod.snd (Prod.snd (Prod.snd t2481))), Prod.snd (Prod.snd (Prod.snd (Prod.snd t2481)))) ((0 : Int), [], [], [])) fun t2484 => j2486 t2484 else j2486 Bool.false else j2486 Bool.false else Option.bind (p_dormouseref26_All k ((0 : Int), [], [], []) (Prod.snd (Prod.snd t2482))) fun t2488 => joinC (p_dormouselaw27_ImageReads.j1 k) fun (j2492 : Bool → Option Bool) => Option.bind (p_dormouselaw27_awake k) fun t2489 => bif t2489 then bif (Prod.fst (Prod.snd t2481) == Prod.snd t2488) then Option.bind (p_dormouseref26_Same k (Prod.fst t2481, Prod.fst (Prod.snd (Prod.snd t2481)), Prod.fst (Prod.snd (Prod.snd (Prod.snd t2481))), Prod.snd (Prod.snd (Prod.snd (Prod.snd t2481)))) (Prod.fst (Prod.fst t2488), Prod.fst (Prod.snd (Prod.fst t2488)), Prod.fst (Prod.snd (Prod.snd (Prod.fst t2488))), Prod.snd (Prod.snd (Prod.snd (Prod.fst t2488))))) fun t2490 => j2492 t2490 else j2492 Bool.false else j2492 Bool.false
end
end Go.Dor
end

section
/- PICKED: wideNum_eq, refNum_eq, refText_eq, Texts_eq. -/
set_option linter.unusedVariables false
set_option linter.unusedSimpArgs false
namespace Go.Dor.Fd
open Go.Proofs

def vecN (n : Nat) (l : List Nat) : Vector Int n := Vector.ofFn fun i => ((l.getD i 0 : Nat) : Int)
def casts (l : List Nat) : List Int := l.map fun (n : Nat) => (n : Int)
set_option maxRecDepth 100000 in
theorem tb5 : Go.TypeInfo.bytes (Go.Tables.types (Go.Program.toTables Go.Proofs.Try.prog))[(5 : Nat)] = 1 := by kernel_rfl
theorem need_yes {α : Type} {c : Prop} [Decidable c] {x : Option α} (h : c) : need c x = x := if_pos h
theorem vset_vecN {n i : Nat} {l : List Nat} {v : Nat} (hl : l.length = i) : vset (vecN n l) (i : Int) (v : Int) = vecN n (l ++ [v]) := by
  apply Vector.toArray_inj.1
  apply Array.toList_inj.1
  show (vecN n l).toList.set (i : Int).toNat (v : Int) = (vecN n (l ++ [v])).toList
  apply List.ext_getElem
  · simp [vecN]
  · intro j h1 h2
    simp only [vecN, Vector.toList_ofFn, Int.toNat_natCast, List.getElem_set, List.getElem_ofFn]
    simp only [List.getD_eq_getElem?_getD]
    split
    · rename_i h; subst h; simp [← hl]
    · rename_i h
      by_cases hj : j < l.length
      · simp [hj, List.getElem?_append_left hj]
      · have h3 : l.length + 1 ≤ j := by omega
        rw [List.getElem?_eq_none (by omega), List.getElem?_eq_none (by simp; omega)]
theorem repl_vecN (n : Nat) : Vector.replicate n (0 : Int) = vecN n [] := by
  apply Vector.toArray_inj.1
  apply Array.toList_inj.1
  apply List.ext_getElem <;> simp [vecN]
def numL (x n : Nat) : List Nat := (List.range n).map fun i => x / 256 ^ i % 256
def byl (l : List Nat) : List UInt8 := l.map UInt8.ofNat
def numB (x n : Nat) : List UInt8 := byl (numL x n)
theorem numL_len (x n : Nat) : (numL x n).length = n := by simp [numL]
theorem byl_len (l : List Nat) : (byl l).length = l.length := by simp [byl]
theorem numB_len (x n : Nat) : (numB x n).length = n := by rw [numB, byl_len, numL_len]
theorem numL_succ (x n : Nat) : numL x (n + 1) = numL x n ++ [x / 256 ^ n % 256] := by simp [numL, List.range_succ]
theorem bytesOf_casts (l : List Nat) : bytesOf (casts l) = byl l := by simp [bytesOf, casts, byl]
theorem bytesOf_one (n : Nat) : bytesOf [(n : Int)] = [UInt8.ofNat n] := rfl
theorem sub_vecN {n m : Nat} {l : List Nat} (hm : l.length = m) (hn : m ≤ n) : sub_ (vecN n l).toList 0 (m : Int) = casts l := by
  unfold sub_
  apply List.ext_getElem
  · simp [vecN, casts]; omega
  · intro i h1 h2
    have hi : i < l.length := by simpa [casts] using h2
    simp [vecN, casts, hi]
theorem div_pow_succ (x i : Nat) : x / 256 ^ (i + 1) = x / 256 ^ i / 256 := by rw [Nat.pow_succ, Nat.div_div_eq_div_mul]
theorem numsOf_app (a b : List UInt8) : numsOf (a ++ b) = numsOf a ++ numsOf b := by simp [numsOf]
theorem numsOf_len (a : List UInt8) : (numsOf a).length = a.length := by simp [numsOf]
theorem bytesOf_numsOf (a : List UInt8) : bytesOf (numsOf a) = a := by simp [bytesOf, numsOf, Function.comp_def]
theorem low8 (y : Nat) : IntKind.wrap .u8 (Int.tmod (y : Int) 256) = ((y % 256 : Nat) : Int) := by rw [Int.tmod_eq_emod_of_nonneg (by omega), wrap_u8]; omega
theorem low8' (y : Nat) : IntKind.wrap .u8 (y : Int) = ((y % 256 : Nat) : Int) := by rw [wrap_u8]; omega
theorem div8 {y : Nat} (hy : y < 18446744073709551616) : IntKind.wrap .u64 (Int.tdiv (y : Int) 256) = ((y / 256 : Nat) : Int) := by rw [Int.tdiv_eq_ediv_of_nonneg (by omega), wrap_u64]; omega
theorem wideNum_eq {k x n : Nat} (hk : 8 < k) (hn : n ≤ 8) : p_wide_Num k (x : Int) (n : Int) = some (numB x n) := by
  have hm : Min.min (Max.max (n : Int) 0) 8 = (n : Int) := by omega
  have hd : dflt (T.int IntKind.u8) = (0 : Int) := rfl
  unfold p_wide_Num joinC
  rw [hm, hd, repl_vecN]
  have L := loop_count (body := fun (r : Int × Int × Int × Int × Vector Int (8) → Option (List UInt8)) y => p_wide_Num.b1 k (fun y => p_wide_Num.j0 k y.1 y.2) r y.1 y.2.1 y.2.2.1 y.2.2.2.1 y.2.2.2.2) (res := some (numB x n)) n k
    (fun i => (((x / 256 ^ i : Nat) : Int), (n : Int), (n : Int), (i : Int), vecN 8 (numL x i))) (by omega) ?_ ?_
  · simp only [Nat.pow_zero, Nat.div_one] at L
    exact L
  · intro i hi rec
    dsimp only
    unfold p_wide_Num.b1
    have h1 : decide ((i : Int) < (n : Int)) = true := by simpa using hi
    have hs := shr_nat (k := .u64) (a := x / 256 ^ i) (n := 8) (by show 8 ≤ 64; omega)
    have e8 : IntKind.wrap .u8 ((x / 256 ^ i : Nat) : Int) = ((x / 256 ^ i % 256 : Nat) : Int) := low8' _
    simp only [Int.cast_ofNat_Int] at hs
    rw [h1, cond_true, need_yes (by omega), hs, wrap_i64 (by omega), e8, vset_vecN (numL_len x i), ← numL_succ, div_pow_succ]
    rfl
  · intro rec
    dsimp only
    unfold p_wide_Num.b1
    have h1 : decide ((n : Int) < (n : Int)) = false := by simp
    rw [h1, cond_false]
    dsimp only
    unfold p_wide_Num.j0
    rw [need_yes (by omega), sub_vecN (numL_len x n) hn, bytesOf_casts]
    rfl
theorem refNum_eq {k x n : Nat} (hk : n < k) (hn : n < 1000000) (hx : x < 18446744073709551616) : p_dormouseref01_Num k (x : Int) (n : Int) = some (numB x n) := by
  unfold p_dormouseref01_Num joinC
  have L := loop_count (body := fun (r : Int × Int × List UInt8 × Int → Option (List UInt8)) y => p_dormouseref01_Num.b1 k (p_dormouseref01_Num.j0 k) r y.1 y.2.1 y.2.2.1 y.2.2.2) (res := some (numB x n)) n k
    (fun i => (((x / 256 ^ i : Nat) : Int), (n : Int), numB x i, (i : Int))) hk ?_ ?_
  · simp only [Nat.pow_zero, Nat.div_one] at L
    exact L
  · intro i hi rec
    dsimp only
    unfold p_dormouseref01_Num.b1
    have h1 : decide ((i : Int) < (n : Int)) = true := by simpa using hi
    have hle : x / 256 ^ i ≤ x := Nat.div_le_self _ _
    have e8 : IntKind.wrap .u8 (Int.tmod ((x / 256 ^ i : Nat) : Int) 256) = ((x / 256 ^ i % 256 : Nat) : Int) := low8 _
    have e9 : IntKind.wrap .u64 (Int.tdiv ((x / 256 ^ i : Nat) : Int) 256) = ((x / 256 ^ (i + 1) : Nat) : Int) := by rw [div_pow_succ]; exact div8 (Nat.lt_of_le_of_lt hle hx)
    rw [h1, cond_true, e8, e9, bytesOf_one, need_yes (by rw [numB_len]; simp only [List.length_cons, List.length_nil]; omega), wrap_i64 (by omega)]
    have e : numB x i ++ [UInt8.ofNat (x / 256 ^ i % 256)] = numB x (i + 1) := by rw [numB, numB, numL_succ]; simp [byl]
    rw [e]
    rfl
  · intro rec
    dsimp only
    unfold p_dormouseref01_Num.b1
    have h1 : decide ((n : Int) < (n : Int)) = false := by simp
    rw [h1, cond_false]
    rfl
def lenB (s : List UInt8) : List UInt8 := numB s.length 4 ++ s
theorem lenB_len (s : List UInt8) : (lenB s).length = 4 + s.length := by simp [lenB, numB_len]
theorem refText_eq {k : Nat} {s : List UInt8} (hk : 8 < k) (hs : s.length < 1000000000) : p_dormouseref01_Text k s = some (lenB s) := by
  unfold p_dormouseref01_Text
  have e : IntKind.wrap .u64 (s.length : Int) = (s.length : Int) := by rw [wrap_u64]; omega
  have h := refNum_eq (k := k) (x := s.length) (n := 4) (by omega) (by omega) (by omega)
  simp only [Int.cast_ofNat_Int] at h
  rw [e, h, Option.bind_some, need_yes (by rw [numB_len]; omega)]
  rfl
def joinB (l : List (List UInt8)) : List UInt8 := l.flatMap lenB
theorem texts_c1 {k : Nat} {a : List UInt8} {b : List UInt8} (hk : 8 < k) (ha : a.length < 1000000000) (hb : b.length < 1000000000) : p_wide_Texts_c1 k a (numsOf b) = some (numsOf (b ++ lenB a)) := by
  unfold p_wide_Texts_c1
  have e : IntKind.wrap .u64 (a.length : Int) = (a.length : Int) := by rw [wrap_u64]; omega
  have h := wideNum_eq (k := k) (x := a.length) (n := 4) (by omega) (by omega)
  simp only [Int.cast_ofNat_Int] at h
  rw [e, h, Option.bind_some, tb5, need_yes (by rw [numsOf_len, numsOf_len, numB_len]; omega), need_yes (by rw [List.length_append, numsOf_len, numsOf_len, numsOf_len, numB_len]; omega), lenB, numsOf_app, numsOf_app, List.append_assoc]
theorem joinB_take {l : List (List UInt8)} {i : Nat} (hi : i < l.length) : joinB (l.take (i + 1)) = joinB (l.take i) ++ lenB l[i] := by
  unfold joinB; rw [List.take_succ_eq_append_getElem hi, List.flatMap_append]; simp
theorem joinB_len {B : Nat} : ∀ (l : List (List UInt8)), (∀ x ∈ l, x.length ≤ B) → (joinB l).length ≤ l.length * (B + 4)
  | [], _ => by simp [joinB]
  | a :: l, h => by
    have := joinB_len l (fun x hx => h x (List.mem_cons_of_mem _ hx))
    have ha := h a List.mem_cons_self
    have e : joinB (a :: l) = lenB a ++ joinB l := by simp [joinB]
    rw [e, List.length_append, lenB_len, List.length_cons, Nat.add_mul]
    omega
theorem at_getN {α : Type} {d : α} {l : List α} {i : Nat} (hi : i < l.length) : at_ d l (i : Int) = l[i] := by simp [at_, hi]
theorem Texts_eq {k : Nat} {l : List (List UInt8)} (hk : 8 < k) (hkl : l.length < k) (hl : l.length < 1000) (hx : ∀ x ∈ l, x.length ≤ 100000) : p_wide_Texts k l = some (joinB l) := by
  unfold p_wide_Texts joinC
  have L := loop_count (body := fun (r : List (List UInt8) × Int × Int × List Int → Option (List UInt8)) y => p_wide_Texts.b1 k (p_wide_Texts.j0 k) r y.1 y.2.1 y.2.2.1 y.2.2.2) (res := some (joinB l)) l.length k
    (fun i => (l, (l.length : Int), (i : Int), numsOf (joinB (l.take i)))) hkl ?_ ?_
  · exact L
  · intro i hi rec
    dsimp only
    unfold p_wide_Texts.b1
    have h1 : decide ((i : Int) < (l.length : Int)) = true := by simpa using hi
    have ha := hx _ (List.getElem_mem hi)
    have hb := joinB_len (B := 100000) (l.take i) (fun x h => hx x (List.mem_of_mem_take h))
    have hb2 : (joinB (l.take i)).length < 1000000000 := by
      rw [List.length_take] at hb
      have : min i l.length * (100000 + 4) ≤ 1000 * (100000 + 4) := Nat.mul_le_mul_right _ (by omega)
      omega
    rw [h1, cond_true, need_yes (by omega), at_getN hi, texts_c1 hk (by omega) hb2, Option.bind_some, wrap_i64 (by omega), joinB_take hi]
    rfl
  · intro rec
    dsimp only
    unfold p_wide_Texts.b1
    have h1 : decide ((l.length : Int) < (l.length : Int)) = false := by simp
    rw [h1, cond_false, List.take_length]
    unfold p_wide_Texts.j0
    rw [bytesOf_numsOf]
end Go.Dor.Fd
end

section
/- THE TEXT OF A RECORD, THE RECORD OF A TEXT; TEXTS ONE BEHIND THE OTHER. Plain Lean, no program. -/
set_option linter.unusedVariables false
set_option linter.unusedSimpArgs false
namespace Go.Dor.Fd
open Go.Proofs Go.Dor

/-! ### numbers of bytes -/
def valB : List UInt8 → Nat
  | [] => 0
  | b :: l => b.toNat + 256 * valB l
theorem valB_lt : ∀ l : List UInt8, valB l < 256 ^ l.length
  | [] => by simp [valB]
  | b :: l => by
    have := valB_lt l
    have hb := b.toNat_lt
    rw [valB, List.length_cons, Nat.pow_succ]
    omega
theorem valB_app : ∀ (a b : List UInt8), valB (a ++ b) = valB a + 256 ^ a.length * valB b
  | [], b => by simp [valB]
  | x :: a, b => by
    have e : 256 * (256 ^ a.length * valB b) = 256 ^ (a.length + 1) * valB b := by rw [Nat.pow_succ, ← Nat.mul_assoc, Nat.mul_comm 256]
    rw [List.cons_append, valB, valB, valB_app a b, List.length_cons, Nat.mul_add, e]
    omega
theorem byl_app (a b : List Nat) : byl (a ++ b) = byl a ++ byl b := by simp [byl]
theorem numB_succ (x n : Nat) : numB x (n + 1) = numB x n ++ [UInt8.ofNat (x / 256 ^ n % 256)] := by
  unfold numB
  rw [numL_succ, byl_app]; rfl
theorem valB_num (x : Nat) : ∀ n, valB (numB x n) = x % 256 ^ n
  | 0 => by simp [numB, numL, byl, valB, Nat.mod_one]
  | n + 1 => by
    rw [numB_succ, valB_app, valB_num x n, numB_len]
    have e : valB [UInt8.ofNat (x / 256 ^ n % 256)] = x / 256 ^ n % 256 := by
      simp [valB]
    rw [e, Nat.pow_succ, Nat.mod_mul]
theorem num_valB : ∀ (n : Nat) (l : List UInt8), l.length = n → numB (valB l) n = l := by
  intro n
  induction n with
  | zero => intro l h; rw [List.eq_nil_of_length_eq_zero h]; rfl
  | succ n ih =>
    intro l h
    obtain ⟨a, b, rfl⟩ : ∃ a b, l = a ++ [b] := ⟨l.dropLast, l.getLast (by intro q; rw [q] at h; simp at h), (List.dropLast_concat_getLast _).symm⟩
    have ha : a.length = n := by simp at h; exact h
    have hlt := valB_lt a
    rw [ha] at hlt
    have hv : valB (a ++ [b]) = valB a + 256 ^ n * b.toNat := by rw [valB_app, ha]; simp [valB]
    have hb := b.toNat_lt
    rw [numB_succ, hv]
    have e1 : (valB a + 256 ^ n * b.toNat) / 256 ^ n % 256 = b.toNat := by
      rw [Nat.add_mul_div_left _ _ (Nat.pow_pos (by omega)), Nat.div_eq_of_lt hlt]; omega
    have e2 : numB (valB a + 256 ^ n * b.toNat) n = numB (valB a) n := by
      unfold numB numL
      congr 1
      apply List.map_congr_left
      intro i hi
      have hi := List.mem_range.1 hi
      have : 256 ^ n = 256 ^ i * (256 * 256 ^ (n - i - 1)) := by
        rw [← Nat.pow_succ', ← Nat.pow_add]; congr 1; omega
      rw [this, Nat.mul_assoc, Nat.add_mul_div_left _ _ (Nat.pow_pos (by omega)), Nat.mul_assoc, Nat.add_mul_mod_self_left]
    rw [e1, e2, ih a ha]; simp

/-! ### keys as bytes -/
def bK (k : Ky) : List UInt8 := bytesOf k.toList
def kOf (l : List UInt8) : Ky := vcopy (Vector.replicate 32 0) 0 (numsOf l)
theorem bK_len (k : Ky) : (bK k).length = 32 := by simp [bK, bytesOf]
theorem kOf_list {l : List UInt8} (h : l.length = 32) : (kOf l).toList = numsOf l := by
  have hn : (numsOf l).length = 32 := by rw [numsOf_len, h]
  unfold kOf vcopy
  rw [dif_pos (by simp [hn])]
  show List.take _ _ ++ numsOf l ++ List.drop _ _ = _
  have : (Vector.replicate 32 (0 : Int)).toList.length = 32 := by simp
  rw [List.drop_of_length_le (by simp [hn])]
  simp
theorem bK_kOf {l : List UInt8} (h : l.length = 32) : bK (kOf l) = l := by
  unfold bK
  rw [kOf_list h, bytesOf_numsOf]
def Byt (l : List Int) : Prop := ∀ n ∈ l, 0 ≤ n ∧ n < 256
theorem nums_bytes {l : List Int} (h : Byt l) : numsOf (bytesOf l) = l := by
  unfold numsOf bytesOf
  rw [List.map_map]
  conv => rhs; rw [← List.map_id l]
  apply List.map_congr_left
  intro n hn
  obtain ⟨h1, h2⟩ := h n hn
  simp only [Function.comp_apply, UInt8.toNat_ofNat', id]
  omega
theorem kOf_bK {k : Ky} (h : Byt k.toList) : kOf (bK k) = k := by
  have := kOf_list (bK_len k)
  unfold bK at this
  rw [nums_bytes h] at this
  exact Vector.toArray_inj.1 (Array.toList_inj.1 this)
/-! ### entries -/
theorem getE_enc {x : En} (h : chk x = 0) : getE (enc x) = (x, 0) := by
  obtain ⟨d, v⟩ := x
  obtain ⟨h1, h2⟩ := chk_zero h
  dsimp only at h1 h2
  cases d
  · unfold enc getE
    dsimp only
    rw [if_neg (by simp)]
    dsimp only
    rw [if_pos rfl, if_neg (by omega)]
  · rw [h2 rfl]; rfl
theorem getE_inv {v : List UInt8} (h : (getE v).2 = 0) : enc (getE v).1 = v ∧ chk (getE v).1 = 0 := by
  cases v with
  | nil => simp [getE] at h
  | cons b t =>
    unfold getE at h ⊢
    dsimp only at h ⊢
    by_cases h1 : b = 1
    · subst h1
      rw [if_pos rfl] at h ⊢
      by_cases h2 : t.length > 65536
      · rw [if_pos h2] at h; simp at h
      · rw [if_neg h2]
        refine ⟨rfl, ?_⟩
        unfold chk
        rw [if_neg h2]; simp
    · rw [if_neg h1] at h ⊢
      by_cases h2 : b = 0 ∧ t = []
      · rw [if_pos h2]
        obtain ⟨rfl, rfl⟩ := h2
        exact ⟨rfl, rfl⟩
      · rw [if_neg h2] at h; simp at h

/-! ### records -/
def noR : RC := (0, zK, (false, []), zK, 0)
def bodR (r : RC) : List UInt8 := if r.1 = 1 ∨ r.1 = 2 then bK r.2.1 ++ enc r.2.2.1 else if r.1 = 3 ∨ r.1 = 4 then bK r.2.2.2.1 else numB r.2.2.2.2.toNat 4
def putR (r : RC) : List UInt8 := UInt8.ofNat r.1.toNat :: bodR r
def getR : List UInt8 → RC × Int
  | [] => (noR, 5)
  | b :: t =>
    if b.toNat = 1 ∨ b.toNat = 2 then
      if t.length < 33 then (noR, 5) else if (getE (t.drop 32)).2 = 0 then (((b.toNat : Int), kOf (t.take 32), (getE (t.drop 32)).1, zK, 0), 0) else (noR, 6)
    else if b.toNat = 3 ∨ b.toNat = 4 then
      if t.length < 32 then (noR, 5) else if t.length = 32 then (((b.toNat : Int), zK, (false, []), kOf t, 0), 0) else (noR, 6)
    else if b.toNat = 5 then
      if t.length < 4 then (noR, 5) else if t.length = 4 ∧ valB t ≤ 1048576 then ((5, zK, (false, []), zK, (valB t : Int)), 0) else (noR, 6)
    else (noR, 6)
/-- the record of a record's text -/
theorem getR_put {r : RC} (h : mayR r = true) (hk : Byt r.2.1.toList) (hs : Byt r.2.2.2.1.toList) : getR (putR r) = (r, 0) := by
  obtain ⟨kd, key, x, sm, n⟩ := r
  dsimp only at hk hs
  have hkd := mayR_kind h
  dsimp only at hkd
  unfold mayR at h
  dsimp only at h
  rcases hkd with e | e | e | e | e
  · subst e
    obtain ⟨rfl, rfl, hc⟩ := of_decide_eq_true h
    have ep : putR (1, key, x, zK, 0) = UInt8.ofNat 1 :: (bK key ++ enc x) := rfl
    rw [ep]
    unfold getR
    dsimp only
    have hl := bK_len key
    have el : enc x ≠ [] := by unfold enc; split <;> simp
    have el2 : 0 < (enc x).length := List.length_pos_iff.2 el
    have ed : (bK key ++ enc x).drop 32 = enc x := by rw [← hl, List.drop_left]
    have et : (bK key ++ enc x).take 32 = bK key := by rw [← hl, List.take_left]
    rw [if_pos (by decide), if_neg (by rw [List.length_append]; omega), ed, et, getE_enc hc, if_pos rfl, kOf_bK hk]
    rfl
  · subst e
    obtain ⟨rfl, rfl, hc⟩ := of_decide_eq_true h
    have ep : putR (2, key, x, zK, 0) = UInt8.ofNat 2 :: (bK key ++ enc x) := rfl
    rw [ep]
    unfold getR
    dsimp only
    have hl := bK_len key
    have el : enc x ≠ [] := by unfold enc; split <;> simp
    have el2 : 0 < (enc x).length := List.length_pos_iff.2 el
    have ed : (bK key ++ enc x).drop 32 = enc x := by rw [← hl, List.drop_left]
    have et : (bK key ++ enc x).take 32 = bK key := by rw [← hl, List.take_left]
    rw [if_pos (by decide), if_neg (by rw [List.length_append]; omega), ed, et, getE_enc hc, if_pos rfl, kOf_bK hk]
    rfl
  · subst e
    obtain ⟨rfl, rfl, rfl⟩ := of_decide_eq_true h
    have ep : putR (3, zK, (false, []), sm, 0) = UInt8.ofNat 3 :: bK sm := rfl
    rw [ep]
    unfold getR
    dsimp only
    have hl := bK_len sm
    rw [if_neg (by decide), if_pos (by decide), if_neg (by omega), if_pos hl, kOf_bK hs]
    rfl
  · subst e
    obtain ⟨rfl, rfl, rfl⟩ := of_decide_eq_true h
    have ep : putR (4, zK, (false, []), sm, 0) = UInt8.ofNat 4 :: bK sm := rfl
    rw [ep]
    unfold getR
    dsimp only
    have hl := bK_len sm
    rw [if_neg (by decide), if_pos (by decide), if_neg (by omega), if_pos hl, kOf_bK hs]
    rfl
  · subst e
    obtain ⟨rfl, rfl, rfl, h0, h1⟩ := of_decide_eq_true h
    have ep : putR (5, zK, (false, []), zK, n) = UInt8.ofNat 5 :: numB n.toNat 4 := rfl
    rw [ep]
    unfold getR
    dsimp only
    have hl := numB_len n.toNat 4
    have hv : valB (numB n.toNat 4) = n.toNat := by rw [valB_num, Nat.mod_eq_of_lt (by omega)]
    rw [if_neg (by decide), if_neg (by decide), if_pos (by decide), if_neg (by omega), if_pos ⟨hl, by omega⟩, hv]
    have : ((n.toNat : Nat) : Int) = n := by omega
    rw [this]

/-! ### texts one behind the other -/
def getB : Nat → List UInt8 → List RC × Int
  | 0, _ => ([], 0)
  | f + 1, s =>
    if s = [] then ([], 0)
    else if s.length < 4 then ([], 5)
    else if valB (s.take 4) > s.length - 4 then ([], 5)
    else if (getR ((s.drop 4).take (valB (s.take 4)))).2 = 0 then ((getR ((s.drop 4).take (valB (s.take 4)))).1 :: (getB f (s.drop (4 + valB (s.take 4)))).1, (getB f (s.drop (4 + valB (s.take 4)))).2)
    else ([], (getR ((s.drop 4).take (valB (s.take 4)))).2)
theorem getB_join : ∀ (l : List RC) (f : Nat), l.length < f → (∀ r ∈ l, mayR r = true ∧ Byt r.2.1.toList ∧ Byt r.2.2.2.1.toList ∧ (putR r).length < 4294967296) → getB f (joinB (l.map putR)) = (l, 0)
  | [], f + 1, _, _ => by simp [getB, joinB]
  | r :: l, f + 1, hf, h => by
    obtain ⟨h1, h2, h3, h4⟩ := h r List.mem_cons_self
    have ih := getB_join l f (by simp at hf; omega) fun x hx => h x (List.mem_cons_of_mem _ hx)
    have e : joinB ((r :: l).map putR) = numB (putR r).length 4 ++ (putR r ++ joinB (l.map putR)) := by simp [joinB, lenB]
    have hl := numB_len (putR r).length 4
    generalize joinB (l.map putR) = rest at *
    have e1 : (numB (putR r).length 4 ++ (putR r ++ rest)).take 4 = numB (putR r).length 4 := by rw [← hl, hl, List.take_left' hl]
    have e2 : (numB (putR r).length 4 ++ (putR r ++ rest)).drop 4 = putR r ++ rest := List.drop_left' hl
    have hv : valB (numB (putR r).length 4) = (putR r).length := by rw [valB_num, Nat.mod_eq_of_lt (by omega)]
    have e3 : (numB (putR r).length 4 ++ (putR r ++ rest)).drop (4 + (putR r).length) = rest := by
      rw [← List.drop_drop, e2, List.drop_left]
    rw [e]
    unfold getB
    rw [e1, hv, e2, e3, List.take_left, getR_put h1 h2 h3, ih]
    have hne : numB (putR r).length 4 ++ (putR r ++ rest) ≠ [] := by
      intro q
      have := congrArg List.length q
      rw [List.length_append, hl] at this
      simp at this
    rw [if_neg hne, if_neg (by rw [List.length_append, hl]; omega), if_neg (by rw [List.length_append, hl, List.length_append]; omega), if_pos rfl]
end Go.Dor.Fd
end

section
/- NUMBERS AND RECORDS OF BYTES, behind the walk, on both sides. -/
set_option linter.unusedVariables false
set_option linter.unusedSimpArgs false
namespace Go.Dor.Fd
open Go.Proofs Go.Dor
variable {m : Nat}

theorem p8 {i : Nat} (h : i ≤ 7) : 256 ^ i ≤ 72057594037927936 := Nat.le_trans (Nat.pow_le_pow_right (by omega) h) (by decide)
theorem bat_get {l : List UInt8} {i : Nat} (h : i < l.length) : bat l (i : Int) = ((l[i].toNat : Nat) : Int) := by simp [bat, h]
theorem valB_drop {l : List UInt8} {i : Nat} (h : i < l.length) : valB (l.drop i) = l[i].toNat + 256 * valB (l.drop (i + 1)) := by
  rw [List.drop_eq_getElem_cons h]; rfl
theorem wVal_eq {l : List UInt8} (h : l.length ≤ 8) : p_wide_Val (m + 1000) l = some ((valB l : Nat) : Int) := by
  unfold p_wide_Val joinC
  have hm : Min.min (l.length : Int) 8 = (l.length : Int) := by omega
  have e0 : IntKind.wrap .i64 ((l.length : Int) - 1) = (l.length : Int) - 1 := wrap_i64 (by omega)
  rw [hm, e0]
  have L := loop_count (body := fun (r : List UInt8 × Int × Int → Option Int) y => p_wide_Val.b1 (m + 1000) (p_wide_Val.j0 (m + 1000)) r y.1 y.2.1 y.2.2) (res := some ((valB l : Nat) : Int)) l.length (m + 1000)
    (fun j => (l, ((valB (l.drop (l.length - j)) : Nat) : Int), (l.length : Int) - 1 - (j : Int))) (by omega) (fun j hj rec => ?_) (fun rec => ?_)
  · have e1 : l.drop (l.length - 0) = [] := by simp
    rw [e1] at L
    have e2 : (l.length : Int) - 1 - ((0 : Nat) : Int) = (l.length : Int) - 1 := by omega
    rw [e2] at L
    exact L
  · dsimp only
    unfold p_wide_Val.b1
    obtain ⟨i, hi⟩ : ∃ i, i = l.length - 1 - j := ⟨_, rfl⟩
    have e1 : (l.length : Int) - 1 - (j : Int) = (i : Int) := by omega
    have e2 : (l.length : Int) - 1 - ((j + 1 : Nat) : Int) = (i : Int) - 1 := by omega
    have e3 : l.length - j = i + 1 := by omega
    have e4 : l.length - (j + 1) = i := by omega
    have hil : i < l.length := by omega
    have hlt := valB_lt (l.drop (i + 1))
    rw [List.length_drop] at hlt
    have hp := p8 (show l.length - (i + 1) ≤ 7 by omega)
    have hb := l[i].toNat_lt
    rw [e1, e2, e3, e4, valB_drop hil]
    generalize valB (l.drop (i + 1)) = a at *
    have hs := shl_nat (k := .u64) (a := a) (n := 8) rfl (by show 8 ≤ 64; omega)
    have hm2 : a * 2 ^ 8 % 2 ^ IntKind.bits .u64 = a * 2 ^ 8 := Nat.mod_eq_of_lt (by show a * 256 < 18446744073709551616; omega)
    rw [hm2] at hs
    simp only [Int.cast_ofNat_Int] at hs
    have ho := or_nat (k := .u64) (a := a * 2 ^ 8) (b := l[i].toNat) rfl (by show a * 256 < 18446744073709551616; omega) (by show l[i].toNat < 18446744073709551616; omega)
    have hor := or_add (a := a) (b := l[i].toNat) (n := 8) (by omega)
    have hw : IntKind.wrap .u64 ((l[i].toNat : Nat) : Int) = ((l[i].toNat : Nat) : Int) := by rw [wrap_u64]; omega
    have hd : IntKind.wrap .i64 ((i : Int) - 1) = (i : Int) - 1 := wrap_i64 (by omega)
    rw [decide_eq_true (show (i : Int) ≥ 0 by omega), cond_true, need_yesF ⟨by omega, by omega⟩, bat_get hil, hs, hw, ho, hor, hd]
    have : l[i].toNat + 256 * a = a * 2 ^ 8 + l[i].toNat := by omega
    rw [this]
  · dsimp only
    unfold p_wide_Val.b1 p_wide_Val.j0
    have e3 : l.length - l.length = 0 := by omega
    rw [decide_eq_false (show ¬ ((l.length : Int) - 1 - (l.length : Int) ≥ 0) by omega), cond_false, e3]; rfl
/-! ### keys -/
theorem sumText_eq2 (k : Ky) : p_sum_Text k = some (bK k) := by
  unfold p_sum_Text
  rw [sub_all]; rfl
/-! ### the text of a record -/
theorem num1 (n : Nat) (h : n < 256) : numB n 1 = [UInt8.ofNat n] := by
  show [UInt8.ofNat (n / 256 ^ 0 % 256)] = _
  rw [Nat.pow_zero, Nat.div_one, Nat.mod_eq_of_lt h]
theorem enc_len (x : En) : (enc x).length ≤ 1 + x.2.length := by unfold enc; split <;> simp; omega
theorem putR_len (r : RC) : (putR r).length ≤ 34 + r.2.2.1.2.length := by
  have h1 := enc_len r.2.2.1
  have h2 := bK_len r.2.1
  have h3 := bK_len r.2.2.2.1
  have h4 := numB_len r.2.2.2.2.toNat 4
  unfold putR bodR
  rw [List.length_cons]
  split
  · rw [List.length_append]; omega
  · split <;> omega
theorem wrap_u64n {n : Int} (h : 0 ≤ n ∧ n < 18446744073709551616) : IntKind.wrap .u64 n = ((n.toNat : Nat) : Int) := by rw [wrap_u64]; omega
theorem recPut_eq (r : RC) : p_record_Put (m + 1000) r = some (if mayR r = true then (putR r, 0) else ([], 2)) := by
  have hrc : p_record_Check (r.1, r.2.1, (r.2.2.1.1, r.2.2.1.2), r.2.2.2.1, r.2.2.2.2) = some (if mayR r = true then 0 else 2) := recCheck_eq r
  unfold p_record_Put p_record_Put.j0 joinC
  dsimp only
  rw [hrc, Option.bind_some]
  cases hm : mayR r
  · rfl
  · have hk := mayR_kind hm
    have hlen := mayR_len hm
    have hk1 : 0 ≤ r.1 ∧ r.1 < 256 := by omega
    have hbn : ((0 : Int) != 0) = false := rfl
    have h1 : p_wide_Num (m + 1000) ((r.1.toNat : Nat) : Int) 1 = some (numB r.1.toNat 1) := wideNum_eq (n := 1) (by omega) (by omega)
    rw [if_pos rfl, if_pos rfl, hbn, cond_false, wrap_u64n ⟨hk1.1, by omega⟩, h1, Option.bind_some, num1 _ (by omega)]
    have hel := enc_len r.2.2.1
    have hbl := bK_len r.2.1
    have hpe : ∀ (h : r.1 = 1 ∨ r.1 = 2), p_entry_Put (r.2.2.1.1, r.2.2.1.2) = some (enc r.2.2.1, (putE r.2.2.1).2) := fun h => by
      refine (put_eq r.2.2.1).trans ?_
      rw [← mayR_put hm h]
    have hkey : bytesOf (sub_ r.2.1.toList (0 : Int) (↑(32 : Nat) : Int)) = bK r.2.1 := by rw [sub_all]; rfl
    unfold putR bodR
    simp only [ib]
    rcases hk with h | h | h | h | h
    · simp only [hpe (.inl h), hkey, h]
      simp only [Option.bind_some, decide_true, cond_true]
      rw [need_yesF (by simp only [List.length_cons, List.length_nil]; omega), need_yesF (by simp only [List.length_append, List.length_cons, List.length_nil]; omega)]
      rfl
    · simp only [hpe (.inr h), hkey, h]
      simp only [Option.bind_some]
      rw [need_yesF (by simp only [List.length_cons, List.length_nil]; omega), need_yesF (by simp only [List.length_append, List.length_cons, List.length_nil]; omega)]
      rfl
    · have hs := bK_len r.2.2.2.1
      simp only [sumText_eq2, h]
      simp only [Option.bind_some]
      rw [need_yesF (by simp only [List.length_cons, List.length_nil]; omega)]
      rfl
    · have hs := bK_len r.2.2.2.1
      simp only [sumText_eq2, h]
      simp only [Option.bind_some]
      rw [need_yesF (by simp only [List.length_cons, List.length_nil]; omega)]
      rfl
    · have hN : 0 ≤ r.2.2.2.2 ∧ r.2.2.2.2 ≤ 1048576 := by
        unfold mayR at hm
        rw [if_neg (by omega), if_neg (by omega), if_pos h] at hm
        exact (of_decide_eq_true hm).2.2.2
      have hs := numB_len r.2.2.2.2.toNat 4
      have h4 : p_wide_Num (m + 1000) ((r.2.2.2.2.toNat : Nat) : Int) 4 = some (numB r.2.2.2.2.toNat 4) := wideNum_eq (n := 4) (by omega) (by omega)
      rw [wrap_u64n ⟨hN.1, by omega⟩, h4]
      simp only [h]
      simp only [Option.bind_some]
      rw [need_yesF (by simp only [List.length_cons, List.length_nil]; omega)]
      rfl
end Go.Dor.Fd
end

section
/- THE RECORD OF A TEXT, AND THE RECORDS OF A TEXT: behind the walk, on both sides. -/
set_option linter.unusedVariables false
set_option linter.unusedSimpArgs false
namespace Go.Dor.Fd
open Go.Proofs Go.Dor
variable {m : Nat}

/-! ### cuts -/
theorem take_ok {l : List UInt8} {n : Nat} (h : n ≤ l.length) : p_wide_Cut_Take (n : Int) (l, 0) = some (l.take n, l.drop n, 0) := by
  unfold p_wide_Cut_Take p_wide_Cut_Take.j0 joinC
  dsimp only
  have hbn : ((0 : Int) != 0) = false := rfl
  rw [hbn, cond_false, decide_eq_false (show ¬ (n : Int) < 0 by omega), cond_false, decide_eq_false (show ¬ (n : Int) > (l.length : Int) by omega), cond_false, need_yesF ⟨by omega, by omega, by omega⟩, need_yesF ⟨by omega, by omega, by omega⟩, sub_takeF, sub_dropF]
theorem take_bad {l : List UInt8} {n : Nat} (h : l.length < n) : p_wide_Cut_Take (n : Int) (l, 0) = some ([], [], 5) := by
  unfold p_wide_Cut_Take p_wide_Cut_Take.j0 joinC
  dsimp only
  have hbn : ((0 : Int) != 0) = false := rfl
  rw [hbn, cond_false, decide_eq_false (show ¬ (n : Int) < 0 by omega), cond_false, decide_eq_true (show (n : Int) > (l.length : Int) by omega), cond_true]
theorem take_err (n : Int) (l : List UInt8) : p_wide_Cut_Take n (l, 5) = some ([], l, 5) := rfl
theorem num_ok {l : List UInt8} {n : Nat} (h : n ≤ l.length) (h1 : 1 ≤ n) (h8 : n ≤ 8) : p_wide_Cut_Num (m + 1000) (n : Int) (l, 0) = some (((valB (l.take n) : Nat) : Int), l.drop n, 0) := by
  unfold p_wide_Cut_Num p_wide_Cut_Num.j0 p_wide_Cut_Num.j1 joinC
  dsimp only
  rw [decide_eq_false (show ¬ (n : Int) < 1 by omega), cond_false, decide_eq_false (show ¬ (n : Int) > 8 by omega), cond_false, take_ok h, Option.bind_some, wVal_eq (by rw [List.length_take]; omega)]
  rfl
theorem num_bad {l : List UInt8} {n : Nat} (h : l.length < n) (h8 : n ≤ 8) : p_wide_Cut_Num (m + 1000) (n : Int) (l, 0) = some (0, [], 5) := by
  unfold p_wide_Cut_Num p_wide_Cut_Num.j0 p_wide_Cut_Num.j1 joinC
  dsimp only
  rw [decide_eq_false (show ¬ (n : Int) < 1 by omega), cond_false, decide_eq_false (show ¬ (n : Int) > 8 by omega), cond_false, take_bad h, Option.bind_some]
  have e : p_wide_Val (m + 1000) [] = some 0 := wVal_eq (l := []) (by simp)
  rw [e]
  rfl
theorem key_ok {l : List UInt8} (h : 32 ≤ l.length) : p_record_Get_c1 (l, 0) = some (kOf (l.take 32), l.drop 32, 0) := by
  unfold p_record_Get_c1
  have e : p_wide_Cut_Take (32 : Int) (l, 0) = some (l.take 32, l.drop 32, 0) := take_ok (n := 32) h
  rw [e, Option.bind_some, need_yesF (by rw [numsOf_len, List.length_take]; omega)]; rfl
theorem key_bad {l : List UInt8} (h : l.length < 32) : p_record_Get_c1 (l, 0) = some (zK, [], 5) := by
  unfold p_record_Get_c1
  have e : p_wide_Cut_Take (32 : Int) (l, 0) = some ([], [], 5) := take_bad (n := 32) h
  rw [e, Option.bind_some, need_yesF (by rw [numsOf_len]; simp)]; rfl

/-! ### a record -/
theorem fin_eq (s : List UInt8) (r : RC) (l : List UInt8) (e : Int) : p_record_Get.j0 (m + 1000) s noR r (l, e) = some (if e = 0 then (if mayR r = true ∧ putR r = s then (r, 0) else (noR, 6)) else (noR, e)) := by
  unfold p_record_Get.j0 p_record_Get.j1 joinC p_wide_Cut_Err
  dsimp only
  have hp : p_record_Put (m + 1000) (r.1, r.2.1, (r.2.2.1.1, r.2.2.1.2), r.2.2.2.1, r.2.2.2.2) = _ := recPut_eq r
  rw [Option.bind_some, hp, ibn]
  by_cases h : e = 0
  · rw [if_pos h, decide_eq_true h]
    cases hm : mayR r
    · rfl
    · by_cases h2 : putR r = s
      · have ec : (if true = true ∧ putR r = s then (r, (0 : Int)) else (noR, 6)) = (r, 0) := if_pos ⟨rfl, h2⟩
        rw [ec]
        subst h2
        simp only [Bool.not_true, cond_false, if_true, Option.bind_some, bne_self_eq_false, beq_self_eq_true]
      · have ec : (if true = true ∧ putR r = s then (r, (0 : Int)) else (noR, 6)) = (noR, 6) := if_neg (fun q => h2 q.2)
        rw [ec]
        have : (putR r == s) = false := by rw [Bool.eq_false_iff]; exact fun q => h2 (eq_of_beq q)
        simp only [Bool.not_true, cond_false, if_true, Option.bind_some, bne_self_eq_false, this, Bool.not_false, cond_true]
        rfl
  · rw [if_neg h, decide_eq_false h]; rfl
theorem getE_bad {v : List UInt8} (h : ¬ (getE v).2 = 0) : (getE v).1 = (false, []) := by
  cases v with
  | nil => rfl
  | cons b t =>
    unfold getE at h ⊢
    dsimp only at h ⊢
    split
    · rename_i h1
      rw [if_pos h1] at h
      split
      · rfl
      · rename_i h2; rw [if_neg h2] at h; exact (h rfl).elim
    · rename_i h1
      rw [if_neg h1] at h
      split
      · rename_i h2; rw [if_pos h2] at h; exact (h rfl).elim
      · rfl
theorem kind_val (b : UInt8) : valB [b] = b.toNat := by simp [valB]
theorem nat8 (b : UInt8) : UInt8.ofNat ((b.toNat : Int)).toNat = b := by simp
/-- what the fin comes to, kind by kind -/
theorem fin12 {b : UInt8} {t : List UInt8} (hb : b.toNat = 1 ∨ b.toNat = 2) (ht : 33 ≤ t.length) :
    (if mayR ((b.toNat : Int), kOf (t.take 32), (getE (t.drop 32)).1, zK, 0) = true ∧ putR ((b.toNat : Int), kOf (t.take 32), (getE (t.drop 32)).1, zK, 0) = b :: t then ((((b.toNat : Int), kOf (t.take 32), (getE (t.drop 32)).1, zK, 0) : RC), (0 : Int)) else (noR, 6)) = getR (b :: t) := by
  unfold getR
  dsimp only
  rw [if_pos hb, if_neg (show ¬ t.length < 33 by omega)]
  have hk : ((b.toNat : Int) = 1 ∨ (b.toNat : Int) = 2) := by omega
  by_cases h : (getE (t.drop 32)).2 = 0
  · obtain ⟨g1, g2⟩ := getE_inv h
    rw [if_pos h, if_pos]
    refine ⟨?_, ?_⟩
    · unfold mayR
      dsimp only
      rw [if_pos hk]
      exact decide_eq_true ⟨rfl, rfl, g2⟩
    · unfold putR bodR
      dsimp only
      rw [if_pos hk, g1, bK_kOf (by rw [List.length_take]; omega), List.take_append_drop, nat8]
  · rw [if_neg h, if_neg]
    rintro ⟨_, q⟩
    unfold putR bodR at q
    dsimp only at q
    rw [if_pos hk, bK_kOf (by rw [List.length_take]; omega), nat8] at q
    have q := (List.cons.inj q).2
    have q2 : enc (getE (t.drop 32)).1 = t.drop 32 := by
      have := congrArg (List.drop 32) q
      rw [List.drop_left' (by rw [List.length_take]; omega)] at this
      exact this
    rw [getE_bad h] at q2
    have : (getE (t.drop 32)).2 = 0 := by rw [← q2]; rfl
    exact h this
theorem fin34 {b : UInt8} {t : List UInt8} (hb : b.toNat = 3 ∨ b.toNat = 4) (ht : 32 ≤ t.length) :
    (if mayR ((b.toNat : Int), zK, (false, []), kOf (t.take 32), 0) = true ∧ putR ((b.toNat : Int), zK, (false, []), kOf (t.take 32), 0) = b :: t then ((((b.toNat : Int), zK, (false, []), kOf (t.take 32), 0) : RC), (0 : Int)) else (noR, 6)) = getR (b :: t) := by
  unfold getR
  dsimp only
  rw [if_neg (show ¬ (b.toNat = 1 ∨ b.toNat = 2) by omega), if_pos hb, if_neg (show ¬ t.length < 32 by omega)]
  have hk : ((b.toNat : Int) = 3 ∨ (b.toNat : Int) = 4) := by omega
  have hk2 : ¬ ((b.toNat : Int) = 1 ∨ (b.toNat : Int) = 2) := by omega
  have hp : putR ((b.toNat : Int), zK, (false, []), kOf (t.take 32), 0) = b :: t.take 32 := by
    unfold putR bodR
    dsimp only
    rw [if_neg hk2, if_pos hk, bK_kOf (by rw [List.length_take]; omega), nat8]
  rw [hp]
  by_cases h : t.length = 32
  · have e : t.take 32 = t := List.take_of_length_le (by omega)
    rw [if_pos h, e, if_pos]
    refine ⟨?_, rfl⟩
    unfold mayR
    dsimp only
    rw [if_neg hk2, if_pos hk]
    exact decide_eq_true ⟨rfl, rfl, rfl⟩
  · rw [if_neg h, if_neg]
    rintro ⟨_, q⟩
    have := congrArg List.length (List.cons.inj q).2
    rw [List.length_take] at this
    omega
theorem fin5 {b : UInt8} {t : List UInt8} (hb : b.toNat = 5) (ht : 4 ≤ t.length) :
    (if mayR ((b.toNat : Int), zK, (false, []), zK, ((valB (t.take 4) : Nat) : Int)) = true ∧ putR ((b.toNat : Int), zK, (false, []), zK, ((valB (t.take 4) : Nat) : Int)) = b :: t then ((((b.toNat : Int), zK, (false, []), zK, ((valB (t.take 4) : Nat) : Int)) : RC), (0 : Int)) else (noR, 6)) = getR (b :: t) := by
  unfold getR
  dsimp only
  rw [if_neg (show ¬ (b.toNat = 1 ∨ b.toNat = 2) by omega), if_neg (show ¬ (b.toNat = 3 ∨ b.toNat = 4) by omega), if_pos hb, if_neg (show ¬ t.length < 4 by omega)]
  have hbe : (b.toNat : Int) = 5 := by omega
  have hp : putR ((b.toNat : Int), zK, (false, []), zK, ((valB (t.take 4) : Nat) : Int)) = b :: t.take 4 := by
    unfold putR bodR
    dsimp only
    have e : ((valB (t.take 4) : Nat) : Int).toNat = valB (t.take 4) := Int.toNat_natCast _
    rw [if_neg (by omega), if_neg (by omega), e, num_valB 4 _ (by rw [List.length_take]; omega), nat8]
  have hmr : mayR ((b.toNat : Int), zK, (false, []), zK, ((valB (t.take 4) : Nat) : Int)) = decide (valB (t.take 4) ≤ 1048576) := by
    unfold mayR
    dsimp only
    rw [if_neg (by omega), if_neg (by omega), if_pos hbe]
    by_cases h : valB (t.take 4) ≤ 1048576
    · rw [decide_eq_true h]; exact decide_eq_true ⟨rfl, rfl, rfl, by omega, by omega⟩
    · rw [decide_eq_false h]; exact decide_eq_false fun q => h (by omega)
  rw [hp, hmr]
  by_cases h : t.length = 4
  · have e : t.take 4 = t := List.take_of_length_le (by omega)
    rw [e]
    by_cases h2 : valB t ≤ 1048576
    · rw [if_pos ⟨decide_eq_true h2, rfl⟩, if_pos ⟨h, h2⟩, hbe]
    · rw [if_neg (fun q => h2 (of_decide_eq_true q.1)), if_neg (fun q => h2 q.2)]
  · rw [if_neg (show ¬ (t.length = 4 ∧ valB t ≤ 1048576) from fun q => h q.1), if_neg]
    rintro ⟨_, q⟩
    have := congrArg List.length (List.cons.inj q).2
    rw [List.length_take] at this
    omega
theorem fin0 {b : UInt8} {t : List UInt8} (hb : ¬ (b.toNat = 1 ∨ b.toNat = 2)) (hb2 : ¬ (b.toNat = 3 ∨ b.toNat = 4)) (hb3 : ¬ b.toNat = 5) (r : RC) (hr : r.1 = (b.toNat : Int)) :
    (if mayR r = true ∧ putR r = b :: t then (r, (0 : Int)) else (noR, 6)) = getR (b :: t) := by
  unfold getR
  dsimp only
  rw [if_neg hb, if_neg hb2, if_neg hb3, if_neg]
  rintro ⟨q, _⟩
  have := mayR_kind q
  omega
theorem recGet_eq (s : List UInt8) : p_record_Get (m + 1000) s = some (getR s) := by
  unfold p_record_Get p_wide_On p_wide_Cut_Rest joinC
  rw [Option.bind_some]
  dsimp only
  simp only [ib, hz2, hz4]
  have hn : ((0 : Int), zK, (false, ([] : List UInt8)), zK, (0 : Int)) = noR := rfl
  rw [hn]
  cases s with
  | nil =>
    have h1 : p_wide_Cut_Num (m + 1000) (1 : Int) ([], 0) = some (0, [], 5) := num_bad (n := 1) (by simp) (by omega)
    rw [h1, Option.bind_some]
    exact fin_eq (m := m) [] (IntKind.wrap .i64 0, zK, (false, []), zK, 0) [] 5
  | cons b t =>
    have h1 : p_wide_Cut_Num (m + 1000) (1 : Int) (b :: t, 0) = some (((b.toNat : Nat) : Int), t, 0) := by
      have := num_ok (m := m) (l := b :: t) (n := 1) (by simp) (by omega) (by omega)
      rw [List.take_succ_cons, List.take_zero, kind_val] at this
      exact this
    have hbl := b.toNat_lt
    have hw : IntKind.wrap .i64 ((b.toNat : Nat) : Int) = ((b.toNat : Nat) : Int) := wrap_i64 (by omega)
    rw [h1, Option.bind_some]
    dsimp only
    rw [hw]
    by_cases k12 : b.toNat = 1 ∨ b.toNat = 2
    · -- keys
      have goal : (Option.bind (p_record_Get_c1 (t, 0)) fun t675 => Option.bind (some t675.2.1) fun t676 => Option.bind (p_wide_Cut_Take (Max.max (t676.length : Int) 1) (t675.2.1, t675.2.2)) fun t677 => Option.bind (p_entry_Get t677.1) fun t678 => p_record_Get.j0 (m + 1000) (b :: t) noR (((b.toNat : Nat) : Int), t675.1, (t678.1.1, t678.1.2), zK, (0 : Int)) (t677.2.1, t677.2.2)) = some (getR (b :: t)) := by
        by_cases h32 : 32 ≤ t.length
        · rw [key_ok h32]
          simp only [Option.bind_some]
          by_cases h33 : 33 ≤ t.length
          · have hl : (t.drop 32).length = t.length - 32 := List.length_drop
            have hmx : Max.max ((t.drop 32).length : Int) 1 = (((t.drop 32).length : Nat) : Int) := by omega
            rw [hmx, take_ok (Nat.le_refl _), List.take_length, List.drop_length, Option.bind_some, get_eq, Option.bind_some]
            dsimp only
            rw [fin_eq, if_pos rfl]
            exact congrArg some (fin12 k12 h33)
          · have hl : (t.drop 32) = [] := List.drop_of_length_le (by omega)
            rw [hl]
            have e1 : p_wide_Cut_Take (Max.max ((([] : List UInt8).length : Nat) : Int) 1) ([], 0) = some ([], [], 5) := take_bad (n := 1) (by simp)
            rw [e1, Option.bind_some]
            have e2 : p_entry_Get [] = some (((false, []), 5)) := get_eq []
            rw [e2, Option.bind_some, fin_eq, if_neg (by decide)]
            unfold getR
            dsimp only
            rw [if_pos k12, if_pos (by omega)]
        · rw [key_bad (by omega)]
          simp only [Option.bind_some]
          have e1 : p_wide_Cut_Take (Max.max ((([] : List UInt8).length : Nat) : Int) 1) ([], 5) = some ([], [], 5) := take_err _ _
          rw [e1, Option.bind_some]
          have e2 : p_entry_Get [] = some (((false, []), 5)) := get_eq []
          rw [e2, Option.bind_some, fin_eq, if_neg (by decide)]
          unfold getR
          dsimp only
          rw [if_pos k12, if_pos (by omega)]
      rcases k12 with k | k
      · have hc : decide (((b.toNat : Nat) : Int) = 1) = true := decide_eq_true (by omega)
        simp only [hc, cond_true]
        exact goal
      · have hc1 : decide (((b.toNat : Nat) : Int) = 1) = false := decide_eq_false (by omega)
        have hc2 : decide (((b.toNat : Nat) : Int) = 2) = true := decide_eq_true (by omega)
        simp only [hc1, hc2, cond_true, cond_false]
        exact goal
    have hc1 : decide (((b.toNat : Nat) : Int) = 1) = false := decide_eq_false (by omega)
    have hc2 : decide (((b.toNat : Nat) : Int) = 2) = false := decide_eq_false (by omega)
    simp only [hc1, hc2, cond_false]
    by_cases k34 : b.toNat = 3 ∨ b.toNat = 4
    · have hc5 : decide (((b.toNat : Nat) : Int) = 5) = false := decide_eq_false (by omega)
      simp only [hc5, cond_false]
      have goal : (Option.bind (p_record_Get_c1 (t, 0)) fun t680 => p_record_Get.j0 (m + 1000) (b :: t) noR (((b.toNat : Nat) : Int), zK, (false, []), t680.1, (0 : Int)) (t680.2.1, t680.2.2)) = some (getR (b :: t)) := by
        by_cases h32 : 32 ≤ t.length
        · rw [key_ok h32, Option.bind_some]
          dsimp only
          rw [fin_eq, if_pos rfl]
          exact congrArg some (fin34 k34 h32)
        · rw [key_bad (by omega), Option.bind_some]
          dsimp only
          rw [fin_eq, if_neg (by decide)]
          unfold getR
          dsimp only
          rw [if_neg k12, if_pos k34, if_pos (by omega)]
      rcases k34 with k | k
      · have hc : decide (((b.toNat : Nat) : Int) = 3) = true := decide_eq_true (by omega)
        simp only [hc, cond_true]
        exact goal
      · have hc3 : decide (((b.toNat : Nat) : Int) = 3) = false := decide_eq_false (by omega)
        have hc4 : decide (((b.toNat : Nat) : Int) = 4) = true := decide_eq_true (by omega)
        simp only [hc3, hc4, cond_true, cond_false]
        exact goal
    have hc3 : decide (((b.toNat : Nat) : Int) = 3) = false := decide_eq_false (by omega)
    have hc4 : decide (((b.toNat : Nat) : Int) = 4) = false := decide_eq_false (by omega)
    simp only [hc3, hc4, cond_false]
    by_cases k5 : b.toNat = 5
    · have hc : decide (((b.toNat : Nat) : Int) = 5) = true := decide_eq_true (by omega)
      simp only [hc, cond_true]
      by_cases h4 : 4 ≤ t.length
      · have e : p_wide_Cut_Num (m + 1000) (4 : Int) (t, 0) = _ := num_ok (n := 4) h4 (by omega) (by omega)
        have hv := valB_lt (t.take 4)
        rw [List.length_take, Nat.min_eq_left h4] at hv
        have hv : valB (t.take 4) < 4294967296 := hv
        rw [e, Option.bind_some]
        dsimp only
        rw [wrap_i64 (by omega), fin_eq, if_pos rfl]
        exact congrArg some (fin5 k5 h4)
      · have e : p_wide_Cut_Num (m + 1000) (4 : Int) (t, 0) = _ := num_bad (n := 4) (by omega) (by omega)
        rw [e, Option.bind_some]
        dsimp only
        rw [fin_eq, if_neg (by decide)]
        unfold getR
        dsimp only
        rw [if_neg k12, if_neg k34, if_pos k5, if_pos (by omega)]
    · have hc : decide (((b.toNat : Nat) : Int) = 5) = false := decide_eq_false (by omega)
      simp only [hc, cond_false]
      rw [fin_eq, if_pos rfl]
      exact congrArg some (fin0 k12 k34 k5 _ rfl)

end Go.Dor.Fd
end
