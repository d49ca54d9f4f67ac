/- NEW MEMORY: variables, slices, appends, copies. Plain lemmas over any program. -/
import Derived.Test.YtlejphdgfoejaaaDoorY
namespace Go.Dor
open Go.RowKit (Below)
section
variable {P : Program} {M S : Nat → Prop} {w0 w w' : World} {h : Hm} {g : Nat → Value} {R : Type} {res : R} {K : V → Hm → Option R} {K1 : V → Option R} {m : Mem}
  {d : Option Tmp} {ty : TypeId} {pos : String} {aft : Array Edge} {gd : Option (Nat × Bool)} {e : Ev} {r : Env}

theorem eqZ_eq {a b : Value} (h : eqZ a b = true) : a = b := by
  unfold eqZ at h
  split at h
  · simp only [Bool.and_eq_true, decide_eq_true_eq] at h; rw [h.1, h.2]
  · simp only [beq_iff_eq] at h; rw [h]
  · simp only [Bool.and_eq_true, decide_eq_true_eq] at h; rw [h.1, Nat.eq_of_beq_eq_true h.2]
  · simp only [decide_eq_true_eq] at h
    rename_i a b
    obtain ⟨⟨a⟩⟩ := a
    obtain ⟨⟨b⟩⟩ := b
    simp only at h; rw [h]
  · rfl
  · simp only [Bool.and_eq_true] at h; rw [Nat.eq_of_beq_eq_true h.1, Nat.eq_of_beq_eq_true h.2]
  · rfl
  · cases h
theorem eqZs_eq : ∀ {a b : List Value}, eqZs a b = true → a = b
  | [], [], _ => rfl
  | x :: l, y :: m, h => by
    simp only [eqZs, Bool.and_eq_true] at h
    rw [eqZ_eq h.1, eqZs_eq h.2]
  | [], _ :: _, h => by cases h
  | _ :: _, [], h => by cases h

theorem cellsD_at {I : Nat → Prop} : ∀ (t : T) (x : den t) (c : List Value), cellsD t x = some c → At w I t x c
  | .int _, _, _, h => by cases h; rfl
  | .bool, _, _, h => by cases h; rfl
  | .str, _, _, h => by cases h; rfl
  | .flt _, _, _, h => by cases h; rfl
  | .unit, _, _, h => by cases h; rfl
  | .pair a b, x, c, h => by
    simp only [cellsD] at h
    split at h
    · rename_i c1 c2 h1 h2
      cases h
      exact ⟨c1, c2, rfl, cellsD_at a _ _ h1, cellsD_at b _ _ h2⟩
    · cases h
  | .arr n e, x, c, h => by
    simp only [cellsD] at h
    have key : ∀ (l : List (den e)) (c : List Value), l.foldr (fun y acc => match cellsD e y, acc with | some c, some c' => some (c ++ c') | _, _ => none) (some []) = some c → ∃ ys : List (List Value), c = ys.flatten ∧ Al2 (At w I e) l ys := by
      intro l
      induction l with
      | nil => intro c h; cases h; exact ⟨[], rfl, trivial⟩
      | cons y l ih =>
        intro c h
        simp only [List.foldr_cons] at h
        split at h
        · rename_i c1 c2 h1 h2
          cases h
          obtain ⟨ys, rfl, h3⟩ := ih _ h2
          exact ⟨c1 :: ys, by simp, cellsD_at e _ _ h1, h3⟩
        · cases h
    exact key _ _ h
  | .sl _, _, _, h => by cases h

/-- nil slices of the call's own, one behind the other -/
def gxs (g : Nat → Value) (n k : Nat) : Nat → Value := fun i => if n ≤ i ∧ i < n + k then .slice none 0 0 else g i

theorem Rel.addNils : ∀ {h : Hm} {g : Nat → Value} (_ : Rel M S w0 h g w) (hs : Hm), (hs.all fun x => match x with | .arr _ _ [] => true | _ => false) = true →
    Rel M S w0 (h ++ hs) (gxs g h.length hs.length) w ∧ (memOf M S w0 h g w).Le (memOf M S w0 (h ++ hs) (gxs g h.length hs.length) w)
  | h, g, H, [], _ => by
    have e1 : gxs g h.length ([] : Hm).length = g := by funext i; simp only [gxs, List.length_nil, Nat.add_zero]; rw [if_neg (by omega)]
    rw [e1, List.append_nil]; exact ⟨H, .refl _⟩
  | h, g, H, o :: hs, hok => by
    simp only [List.all_cons, Bool.and_eq_true] at hok
    obtain ⟨ho, hok⟩ := hok
    split at ho
    · rename_i ty t
      obtain ⟨H1, le1⟩ := H.addNil ty t
      obtain ⟨H2, le2⟩ := Rel.addNils H1 hs hok
      have e1 : gxs (gx g h.length (.slice none 0 0)) (h ++ [Ob.arr ty t []]).length hs.length = gxs g h.length (Ob.arr ty t [] :: hs).length := by
        funext i
        simp only [gxs, gx, List.length_append, List.length_cons, List.length_nil]
        by_cases h1 : i = h.length
        · subst h1
          rw [if_neg (by omega), if_pos rfl, if_pos (by omega)]
        · rw [if_neg h1]
          by_cases h2 : h.length + (0 + 1) ≤ i ∧ i < h.length + (0 + 1) + hs.length
          · rw [if_pos h2, if_pos (by omega)]
          · rw [if_neg h2, if_neg (by omega)]
      rw [e1, List.append_assoc] at H2 le2
      exact ⟨H2, le1.trans le2⟩
    · cases ho

theorem zcell_rl {x : L} {c : List Value} (hz : zcell x = some c) (ho : ∀ id, x = .own id → id < m.n ∧ m.g id = .slice none 0 0) : Rl m x c := by
  cases x <;> simp only [zcell] at hz <;> try (cases hz; rfl)
  · exact cellsD_at _ _ _ hz
  · cases hz
  · cases hz
  · cases hz
    obtain ⟨h1, h2⟩ := ho _ rfl
    exact ⟨h1, _, rfl, rfl, rfl, fun _ => h2.symm⟩
  · cases hz
  · cases hz
  · cases hz
theorem zcells_rls : ∀ {ls : List L} {c : List Value}, zcells ls = some c → (∀ x ∈ ls, ∀ id, x = .own id → id < m.n ∧ m.g id = .slice none 0 0) → ∃ s, c = s.flatten ∧ Al2 (Rl m) ls s
  | [], c, h, _ => by cases h; exact ⟨[], rfl, trivial⟩
  | x :: l, c, h, ho => by
    simp only [zcells] at h
    split at h
    · rename_i c1 c2 h1 h2
      cases h
      obtain ⟨s, rfl, h3⟩ := zcells_rls h2 fun y hy => ho y (List.mem_cons_of_mem _ hy)
      exact ⟨c1 :: s, by simp, zcell_rl h1 (ho x (by simp)), h3⟩
    · cases h

/-- the zero value, its slices as objects -/
theorem zeroCk_sound {T : TypeId} {ls : List L} {hs : Hm} (H : Rel M S w0 h g w) (hk : zeroCk P T h.length ls hs = true) :
    ∃ g' s, Rel M S w0 (h ++ hs) g' w ∧ (memOf M S w0 h g w).Le (memOf M S w0 (h ++ hs) g' w) ∧ zeroOf P T = some (cells s) ∧ Al2 (Rl (memOf M S w0 (h ++ hs) g' w)) ls s := by
  simp only [zeroCk, nilsOk, Bool.and_eq_true] at hk
  obtain ⟨⟨h1, h2⟩, h3⟩ := hk
  obtain ⟨H', le⟩ := H.addNils hs h1
  split at h3
  · rename_i cs c hz hc
    obtain ⟨s, rfl, hs'⟩ := zcells_rls (m := memOf M S w0 (h ++ hs) (gxs g h.length hs.length) w) hc fun x hx id e => by
      subst e
      have := List.all_eq_true.1 h2 _ hx
      simp only [Bool.and_eq_true, Nat.ble_eq, Nat.blt_eq] at this
      refine ⟨by simp only [memOf, List.length_append]; omega, ?_⟩
      simp only [memOf, gxs]
      rw [if_pos this]
    refine ⟨_, s, H', le, ?_, hs'⟩
    rw [hz]
    have := eqZs_eq h3
    congr 1
    rw [cells, ← this]
  · cases h3

theorem box_sound {T : TypeId} {x : Operand} (H : Rel M S w0 h g w) (E : ER (memOf M S w0 h g w) e r)
    (hk : (nilOp P T (opnd e x) h fun v h => (match leaves v with | some ls => K (.one (.ptr h.length 0)) (h ++ [.blk T ls]) | none => none)) = some res) :
    Step P ⟨d, .box T x, ty, pos, aft, gd⟩ r w (After M S w0 h g w K res) := by
  obtain ⟨v, h1, g1, H1, le1, hv, hk⟩ := nilOp_sound H (opnd_sound E x) hk
  split at hk
  · rename_i ls hl
    obtain ⟨s, hc, hs⟩ := leaves_sound hv hl
    obtain ⟨H2, le2⟩ := H1.alloc T ls s hs
    refine .value (v := .pointer (some ⟨w.heap.size, 0, none⟩)) (w' := w.alloc (.cells (cells s) T)) ?_ ⟨_, _, _, H2, le1.trans le2, ?_, hk⟩
    · rw [← hc]; simp [execOp, Instr.box, newVar, newRow]
    · exact ⟨by simp [memOf], _, gx_same g1 h1.length _, rfl⟩
  · cases hk

theorem alloc_sound {T : TypeId} {ls : List L} {hs : Hm} (H : Rel M S w0 h g w) (hz : zeroCk P T h.length ls hs = true) (hk : K (.one (.ptr (h ++ hs).length 0)) (h ++ hs ++ [.blk T ls]) = some res) :
    Step P ⟨d, .alloc T, ty, pos, aft, gd⟩ r w (After M S w0 h g w K res) := by
  obtain ⟨g1, s, H1, le1, hzo, hs⟩ := zeroCk_sound H hz
  obtain ⟨H2, le2⟩ := H1.alloc T ls s hs
  obtain ⟨z, h1, h2⟩ := Option.map_eq_some_iff.1 hzo
  obtain ⟨i, hi, h3⟩ := Option.bind_eq_some_iff.1 h1
  refine .value (v := .pointer (some ⟨w.heap.size, 0, none⟩)) (w' := w.alloc (.cells (cells s) T)) ?_ ⟨_, _, _, H2, le1.trans le2, ?_, hk⟩
  · rw [← h2]; simp [execOp, Instr.alloc, zeroValue, typeInfo, hi, h3, newVar, newRow]
  · exact ⟨by simp [memOf], _, gx_same g1 _ _, rfl⟩

/-! ### appends -/
theorem Al2.all_len {t : T} {I : Nat → Prop} {xs : List (den t)} {ys : List (List Value)} (h : Al2 (At w I t) xs ys) : ∀ y ∈ ys, y.length = wid t := (h.flat_len (At.len t)).1

theorem source_sound {t : T} {T : TypeId} {y : V} {val : Value} {xs : List (den t)} (H : Rel M S w0 h g w) (hy : Rv (memOf M S w0 h g w) y val) (hs : source P t T y h = some xs) :
    ∃ ys, Src P (wid t) T val xs.length ys.flatten w ∧ Al2 (At w (memOf M S w0 h g w).I t) xs ys := by
  unfold source at hs
  split at hs
  · rename_i hT
    split at hs
    · rename_i l
      cases hs
      have := rv_str hy
      subst this
      have hsrc := src_txt (P := P) (w := w) (s := l) hT
      refine ⟨(numsOf l).map fun n => [.int .u8 n], by rw [flat1]; exact hsrc, ?_⟩
      generalize numsOf l = ns
      have key : ∀ ns : List Int, Al2 (At w (memOf M S w0 h g w).I (.int .u8)) ns (ns.map fun n => [.int .u8 n]) := by
        intro ns
        induction ns with
        | nil => trivial
        | cons n ns ih => exact ⟨rfl, ih⟩
      exact key ns
    · cases hs
  · rename_i hT
    split at hs
    · cases hs
      have := rv_nil hy
      subst this
      exact ⟨[], Src.ofNil w hT 0, trivial⟩
    · split at hs
      · rename_i u zs hr
        obtain ⟨e1, e2⟩ := castL_sound hs
        subst e1; dsimp only at e2; subst e2
        obtain ⟨ys, h1, h2⟩ := readS_sound H hy hr
        have := src_of_rd (P := P) hT h1 (h2.all (At.one u))
        rw [← h2.length] at this
        exact ⟨ys, this, h2⟩
      · cases hs
  · cases hs

theorem append_sound {T U : TypeId} {x y : Operand} (H : Rel M S w0 h g w) (E : ER (memOf M S w0 h g w) e r) (hk : appendOp P T U (opnd e x) (opnd e y) h K = some res) :
    Step P ⟨d, .call { callee := .builtin .append, args := #[x, y], argTypes := #[T, U] }, ty, pos, aft, gd⟩ r w (After M S w0 h g w K res) := by
  unfold appendOp at hk
  obtain ⟨v, h1, g1, H1, le1, hv, hk⟩ := nilOp_sound H (opnd_sound E x) hk
  have hy := Rv.mono le1 _ _ (opnd_sound E y)
  split at hk
  · rename_i id
    split at hk
    · rename_i ty' t xs el ho hT
      split at hk
      · rename_i z b ys he hsrc
        rw [cond_eq_ite] at hk
        split at hk
        · rename_i hb
          rw [Bool.and_eq_true] at hb
          obtain ⟨hb1, hb2⟩ := hb
          have hb1 := Nat.eq_of_beq_eq_true hb1
          have hb2 := Nat.eq_of_beq_eq_true hb2
          subst hb1
          subst hb2
          obtain ⟨hc, hk⟩ := need_some hk
          have hli : lives h1 id := by simp [lives, ho, liveO]
          obtain ⟨zs, hO, hs⟩ := H1.obj _ _ ho
          obtain ⟨_, u, hu, _, _, hu2⟩ := hv
          have hu : ev r x = u := by simpa using hu
          have hu2 := hu2 hli
          have hu2 : u = g1 id := hu2
          subst hu
          obtain ⟨us, hS, hus⟩ := source_sound H1 hy hsrc
          obtain ⟨v', w', h2, h3, h4, h5⟩ := own_append (ty := ty) hT he hO hS hus.length.symm hus.all_len (by rw [← hs.length]; exact hc)
          have hfo := Own.foot_eq hO
          have hfo' := Own.foot_eq h3
          obtain ⟨H2, le2⟩ := H1.turn (w' := w') hli (.arr el t (xs ++ ys)) v' (by rw [hfo]; exact h4) (fun q hq => by rw [hfo] ; rw [hfo'] at hq; exact h5 q hq) fun le => ⟨_, h3, (hs.mono (At.mono le.imm t)).append (hus.mono (At.mono le.imm t))⟩
          obtain ⟨a1, n1, c1, e1⟩ := h3.isSlice
          refine .value (v := v') (w' := w') ?_ ⟨.one (.own h1.length), _, _, H2, le1.trans le2, ⟨by simp [memOf], v', rfl, by rw [e1]; rfl, by rw [e1]; rfl, fun _ => (gx_same g1 h1.length _).symm⟩, hk⟩
          have h22 : (Builtin.append_ #[T, U] ty #[ev r x, ev r y]).run P w = .ok v' w' := by rw [hu2]; exact h2
          simp [execOp, resolve, invoke, builtin, h22]
        · cases hk
      · cases hk
    · cases hk
  · cases hk

/-! ### conversions -/
theorem nums_al2 {I : Nat → Prop} : ∀ ns : List Int, Al2 (At w I (.int .u8)) ns (ns.map fun n => [.int .u8 n])
  | [] => trivial
  | _ :: ns => ⟨rfl, nums_al2 ns⟩
theorem al2_nums {I : Nat → Prop} : ∀ {ns : List Int} {ys : List (List Value)}, Al2 (At w I (.int .u8)) ns ys → ys = ns.map fun n => [.int .u8 n]
  | [], [], _ => rfl
  | n :: ns, y :: ys, ⟨a, b⟩ => by
    have a : y = [.int .u8 n] := a
    rw [a, al2_nums b]; rfl

theorem conv_sound {A B : TypeId} {x : Operand} (H : Rel M S w0 h g w) (E : ER (memOf M S w0 h g w) e r) (hk : convOp P A B (opnd e x) h K = some res) :
    Step P ⟨d, .convert A B x, ty, pos, aft, gd⟩ r w (After M S w0 h g w K res) := by
  have hx := opnd_sound E x
  generalize opnd e x = p at hk hx
  unfold convOp at hk
  split at hk
  · rename_i hA hB
    exact Pure.step H (.mk' hk (fun _ => ex_convInt hA hB (rv_int hx)) mk_int)
  · rename_i hA hB
    exact Pure.step H (.mk' hk (fun _ => ex_convStr hA hB (rv_str hx)) mk_str)
  · rename_i el hA hB
    split at hk
    · rename_i he
      have hx := rv_nil hx
      refine Reads.step H ⟨⟨_, sv (bytesOf []), fun w' _ => ?_, mk_str, hk⟩⟩
      exact ex_convBT (v := ev r x) (l := []) ⟨by simp, .inl ⟨⟨none, hx⟩, rfl⟩⟩ hA he hB rfl
    · rename_i he _
      split at hk
      · rename_i xs hr
        obtain ⟨ys, h1, h2⟩ := readS_sound H hx hr
        have := al2_nums h2
        subst this
        exact .value (w' := w) (ex_convBT h1 hA he hB rfl) ⟨_, _, _, H, .refl _, mk_str, hk⟩
      · cases hk
    · cases hk
  · rename_i el l hA hB
    split at hk
    · rename_i he
      obtain ⟨hb, hk⟩ := need_some hk
      have hx := rv_str hx
      have hr := Lib.run_convert_string_bytes (P := P) w A B el (ByteArray.mk l.toArray) hA hB he
      have hge := grownCap_ge w l.length 0 el
      have hcm := grownCap_le_maxLen w l.length 0 el (by simp only [maxLen]; omega)
      rw [sv_size] at hr
      have hcells : (Lib.bytesCells w el (ByteArray.mk l.toArray)).size = grownCap w l.length 0 el := by
        simp [Lib.bytesCells, sv_size]; omega
      have hO : Own (Lib.bytesWorld w el (ByteArray.mk l.toArray)) (.slice (some ⟨w.heap.size, 0, none⟩) l.length (grownCap w l.length 0 el)) el 1 ((numsOf l).map fun n => [.int .u8 n]) := by
        refine ⟨by simp, .inr ⟨w.heap.size, _, _, _, by simp [numsOf], by simpa [numsOf] using hge, hcm, Lib.bytesWorld_at_new w el _, ?_, by rw [hcells, Nat.mul_one], ?_⟩⟩
        · intro j hj; simp only; omega
        · intro j u hj
          rw [flat1, numsOf, List.map_map] at hj
          have hjl : j < l.length := by simpa using (List.getElem?_eq_some_iff.1 hj).1
          simp only [Lib.bytesCells]
          rw [Array.getElem?_append_left (by simpa using hjl)]
          simpa using hj
      obtain ⟨H', le⟩ := H.add (w' := Lib.bytesWorld w el (ByteArray.mk l.toArray)) ⟨rfl, rfl, rfl, by rw [Lib.bytesWorld_size]; omega, fun k hk => Lib.bytesWorld_at_old w el _ k hk⟩ (.arr el (.int .u8) (numsOf l)) (.slice (some ⟨w.heap.size, 0, none⟩) l.length (grownCap w l.length 0 el)) (fun b hb => by
        simp only [foot, vfoot] at hb
        split at hb
        · cases hb
        · simp only [Option.some.injEq] at hb; omega) fun le => ⟨_, hO, nums_al2 _⟩
      refine .value (v := .slice (some ⟨w.heap.size, 0, none⟩) l.length (grownCap w l.length 0 el)) (w' := Lib.bytesWorld w el (ByteArray.mk l.toArray)) (by simp only [sv] at hx; simp [execOp, hx, hr]) ⟨.one (.own h.length), _, _, H', le, ⟨by simp [memOf], _, rfl, rfl, rfl, fun _ => (gx_same g h.length _).symm⟩, hk⟩
    · cases hk
  · cases hk
end
end Go.Dor
