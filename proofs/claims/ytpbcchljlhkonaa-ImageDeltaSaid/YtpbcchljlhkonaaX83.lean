/- PART 3 OF WHAT THE ROW STANDS ON: the texts Z Za Zb Zc Zd Ze Zf Zg Zh Zn Zw Zi Zj, one behind the other. -/
import Derived.Test.YtpbcchljlhkonaaX82
import Derived.Laws.MakeOwn
section
/- NEW MEMORY: variables, slices, appends, copies. Plain lemmas over any program. -/
namespace Go.Dor
open Go.RowKit (Below)
section
variable {P : Program} {M S : Nat → Prop} {w0 w w' : World} {h : Hm} {g : Nat → Value} {R : Type} {res : R} {K : V → Hm → Option R} {K1 : V → Option R} {m : Mem}
  {d : Option Tmp} {ty : TypeId} {pos : String} {aft : Array Edge} {gd : Option (Nat × Bool)} {e : Ev} {r : Env}

theorem eqZ_eq {a b : Value} (h : eqZ a b = true) : a = b := by
  unfold eqZ at h
  split at h
  · simp only [Bool.and_eq_true, decide_eq_true_eq] at h; rw [h.1, h.2]
  · simp only [beq_iff_eq] at h; rw [h]
  · simp only [Bool.and_eq_true, decide_eq_true_eq] at h; rw [h.1, Nat.eq_of_beq_eq_true h.2]
  · simp only [decide_eq_true_eq] at h
    rename_i a b
    obtain ⟨⟨a⟩⟩ := a
    obtain ⟨⟨b⟩⟩ := b
    simp only at h; rw [h]
  · rfl
  · simp only [Bool.and_eq_true] at h; rw [Nat.eq_of_beq_eq_true h.1, Nat.eq_of_beq_eq_true h.2]
  · rfl
  · cases h
theorem eqZs_eq : ∀ {a b : List Value}, eqZs a b = true → a = b
  | [], [], _ => rfl
  | x :: l, y :: m, h => by
    simp only [eqZs, Bool.and_eq_true] at h
    rw [eqZ_eq h.1, eqZs_eq h.2]
  | [], _ :: _, h => by cases h
  | _ :: _, [], h => by cases h

theorem cellsD_at {I : Nat → Prop} : ∀ (t : T) (x : den t) (c : List Value), cellsD t x = some c → At w I t x c
  | .int _, _, _, h => by cases h; rfl
  | .bool, _, _, h => by cases h; rfl
  | .str, _, _, h => by cases h; rfl
  | .flt _, _, _, h => by cases h; rfl
  | .fx _, _, _, h => by cases h
  | .unit, _, _, h => by cases h; rfl
  | .pair a b, x, c, h => by
    simp only [cellsD] at h
    split at h
    · rename_i c1 c2 h1 h2
      cases h
      exact ⟨c1, c2, rfl, cellsD_at a _ _ h1, cellsD_at b _ _ h2⟩
    · cases h
  | .arr n e, x, c, h => by
    simp only [cellsD] at h
    have key : ∀ (l : List (den e)) (c : List Value), l.foldr (fun y acc => match cellsD e y, acc with | some c, some c' => some (c ++ c') | _, _ => none) (some []) = some c → ∃ ys : List (List Value), c = ys.flatten ∧ Al2 (At w I e) l ys := by
      intro l
      induction l with
      | nil => intro c h; cases h; exact ⟨[], rfl, trivial⟩
      | cons y l ih =>
        intro c h
        simp only [List.foldr_cons] at h
        split at h
        · rename_i c1 c2 h1 h2
          cases h
          obtain ⟨ys, rfl, h3⟩ := ih _ h2
          exact ⟨c1 :: ys, by simp, cellsD_at e _ _ h1, h3⟩
        · cases h
    exact key _ _ h
  | .sl _, _, _, h => by cases h

/-- nil slices of the call's own, one behind the other -/
def gxs (g : Nat → Value) (n k : Nat) : Nat → Value := fun i => if n ≤ i ∧ i < n + k then .slice none 0 0 else g i

theorem Rel.addNils : ∀ {h : Hm} {g : Nat → Value} (_ : Rel M S w0 h g w) (hs : Hm), (hs.all fun x => match x with | .arr _ _ [] => true | _ => false) = true →
    Rel M S w0 (h ++ hs) (gxs g h.length hs.length) w ∧ (memOf M S w0 h g w).Le (memOf M S w0 (h ++ hs) (gxs g h.length hs.length) w)
  | h, g, H, [], _ => by
    have e1 : gxs g h.length ([] : Hm).length = g := by funext i; simp only [gxs, List.length_nil, Nat.add_zero]; rw [if_neg (by omega)]
    rw [e1, List.append_nil]; exact ⟨H, .refl _⟩
  | h, g, H, o :: hs, hok => by
    simp only [List.all_cons, Bool.and_eq_true] at hok
    obtain ⟨ho, hok⟩ := hok
    split at ho
    · rename_i ty t
      obtain ⟨H1, le1⟩ := H.addNil ty t
      obtain ⟨H2, le2⟩ := Rel.addNils H1 hs hok
      have e1 : gxs (gx g h.length (.slice none 0 0)) (h ++ [Ob.arr ty t []]).length hs.length = gxs g h.length (Ob.arr ty t [] :: hs).length := by
        funext i
        simp only [gxs, gx, List.length_append, List.length_cons, List.length_nil]
        by_cases h1 : i = h.length
        · subst h1
          rw [if_neg (by omega), if_pos rfl, if_pos (by omega)]
        · rw [if_neg h1]
          by_cases h2 : h.length + (0 + 1) ≤ i ∧ i < h.length + (0 + 1) + hs.length
          · rw [if_pos h2, if_pos (by omega)]
          · rw [if_neg h2, if_neg (by omega)]
      rw [e1, List.append_assoc] at H2 le2
      exact ⟨H2, le1.trans le2⟩
    · cases ho

theorem zcell_rl {x : L} {c : List Value} (hz : zcell x = some c) (ho : ∀ id, x = .own id → id < m.n ∧ m.g id = .slice none 0 0) : Rl m x c := by
  cases x <;> simp only [zcell] at hz <;> try (cases hz; rfl)
  · cases hz
  · exact cellsD_at _ _ _ hz
  · cases hz
  · cases hz
  · cases hz
    obtain ⟨h1, h2⟩ := ho _ rfl
    exact ⟨h1, _, rfl, rfl, rfl, fun _ => h2.symm⟩
  all_goals (cases hz)
theorem zcells_rls : ∀ {ls : List L} {c : List Value}, zcells ls = some c → (∀ x ∈ ls, ∀ id, x = .own id → id < m.n ∧ m.g id = .slice none 0 0) → ∃ s, c = s.flatten ∧ Al2 (Rl m) ls s
  | [], c, h, _ => by cases h; exact ⟨[], rfl, trivial⟩
  | x :: l, c, h, ho => by
    simp only [zcells] at h
    split at h
    · rename_i c1 c2 h1 h2
      cases h
      obtain ⟨s, rfl, h3⟩ := zcells_rls h2 fun y hy => ho y (List.mem_cons_of_mem _ hy)
      exact ⟨c1 :: s, by simp, zcell_rl h1 (ho x (by simp)), h3⟩
    · cases h

/-- the zero value, its slices as objects -/
theorem zeroCk_sound {T : TypeId} {ls : List L} {hs : Hm} (H : Rel M S w0 h g w) (hk : zeroCk P T h.length ls hs = true) :
    ∃ g' s, Rel M S w0 (h ++ hs) g' w ∧ (memOf M S w0 h g w).Le (memOf M S w0 (h ++ hs) g' w) ∧ zeroOf P T = some (cells s) ∧ Al2 (Rl (memOf M S w0 (h ++ hs) g' w)) ls s := by
  simp only [zeroCk, nilsOk, Bool.and_eq_true] at hk
  obtain ⟨⟨h1, h2⟩, h3⟩ := hk
  obtain ⟨H', le⟩ := H.addNils hs h1
  split at h3
  · rename_i cs c hz hc
    obtain ⟨s, rfl, hs'⟩ := zcells_rls (m := memOf M S w0 (h ++ hs) (gxs g h.length hs.length) w) hc fun x hx id e => by
      subst e
      have := List.all_eq_true.1 h2 _ hx
      simp only [Bool.and_eq_true, Nat.ble_eq, Nat.blt_eq] at this
      refine ⟨by simp only [memOf, List.length_append]; omega, ?_⟩
      simp only [memOf, gxs]
      rw [if_pos this]
    refine ⟨_, s, H', le, ?_, hs'⟩
    rw [hz]
    have := eqZs_eq h3
    congr 1
    rw [cells, ← this]
  · cases h3

theorem box_sound {T : TypeId} {x : Operand} (H : Rel M S w0 h g w) (E : ER (memOf M S w0 h g w) e r)
    (hk : (nilOp P T (opnd e x) h fun v h => (match leaves v with | some ls => K (.one (.ptr h.length 0)) (h ++ [.blk T ls]) | none => none)) = some res) :
    Step P ⟨d, .box T x, ty, pos, aft, gd⟩ r w (After M S w0 h g w K res) := by
  obtain ⟨v, h1, g1, H1, le1, hv, hk⟩ := nilOp_sound H (opnd_sound E x) hk
  split at hk
  · rename_i ls hl
    obtain ⟨s, hc, hs⟩ := leaves_sound hv hl
    obtain ⟨H2, le2⟩ := H1.alloc T ls s hs
    refine .value (v := .pointer (some ⟨w.heap.size, 0, none⟩)) (w' := w.alloc (.cells (cells s) T)) ?_ ⟨_, _, _, H2, le1.trans le2, ?_, hk⟩
    · rw [← hc]; simp [execOp, Instr.box, newVar, newRow]
    · exact ⟨by simp [memOf], _, gx_same g1 h1.length _, rfl⟩
  · cases hk

theorem bldL_rls (c : Bool) (id : Nat) {ls : List L} {s : List (List Value)} (h : Al2 (Rl m) ls s) : Al2 (Rl m) (bldL c id ls) s := by
  unfold bldL
  split
  · cases c with
    | false => exact h
    | true =>
      obtain ⟨y, s, rfl, h1, h2⟩ := h.cons_left
      exact ⟨.inl h1, h2⟩
  · exact h
theorem alloc_sound {c : Bool} {T : TypeId} {ls : List L} {hs : Hm} (H : Rel M S w0 h g w) (hz : zeroCk P T h.length ls hs = true) (hk : K (.one (.ptr (h ++ hs).length 0)) (h ++ hs ++ [.blk T (bldL c (h ++ hs).length ls)]) = some res) :
    Step P ⟨d, .alloc T, ty, pos, aft, gd⟩ r w (After M S w0 h g w K res) := by
  obtain ⟨g1, s, H1, le1, hzo, hls⟩ := zeroCk_sound H hz
  obtain ⟨H2, le2⟩ := H1.alloc T _ s (bldL_rls c (h ++ hs).length hls)
  obtain ⟨z, h1, h2⟩ := Option.map_eq_some_iff.1 hzo
  obtain ⟨i, hi, h3⟩ := Option.bind_eq_some_iff.1 h1
  refine .value (v := .pointer (some ⟨w.heap.size, 0, none⟩)) (w' := w.alloc (.cells (cells s) T)) ?_ ⟨_, _, _, H2, le1.trans le2, ?_, hk⟩
  · rw [← h2]; simp [execOp, Instr.alloc, zeroValue, typeInfo, hi, h3, newVar, newRow]
  · exact ⟨by simp [memOf], _, gx_same g1 _ _, rfl⟩

/-! ### appends -/
theorem Al2.all_len {t : T} {I : Nat → Prop} {xs : List (den t)} {ys : List (List Value)} (h : Al2 (At w I t) xs ys) : ∀ y ∈ ys, y.length = wid t := (h.flat_len (At.len t)).1

theorem source_sound {t : T} {T : TypeId} {y : V} {val : Value} {xs : List (den t)} (H : Rel M S w0 h g w) (hy : Rv (memOf M S w0 h g w) y val) (hs : source P t T y h = some xs) :
    ∃ ys, Src P (wid t) T val xs.length ys.flatten w ∧ Al2 (At w (memOf M S w0 h g w).I t) xs ys := by
  unfold source at hs
  split at hs
  · rename_i hT
    split at hs
    · rename_i l
      cases hs
      have := rv_str hy
      subst this
      have hsrc := src_txt (P := P) (w := w) (s := l) hT
      refine ⟨(numsOf l).map fun n => [.int .u8 n], by rw [flat1]; exact hsrc, ?_⟩
      generalize numsOf l = ns
      have key : ∀ ns : List Int, Al2 (At w (memOf M S w0 h g w).I (.int .u8)) ns (ns.map fun n => [.int .u8 n]) := by
        intro ns
        induction ns with
        | nil => trivial
        | cons n ns ih => exact ⟨rfl, ih⟩
      exact key ns
    · cases hs
  · rename_i hT
    split at hs
    · cases hs
      have := rv_nil hy
      subst this
      exact ⟨[], Src.ofNil w hT 0, trivial⟩
    · split at hs
      · rename_i u zs hr
        obtain ⟨e1, e2⟩ := castL_sound hs
        subst e1; dsimp only at e2; subst e2
        obtain ⟨ys, h1, h2⟩ := readS_sound H hy hr
        have := src_of_rd (P := P) hT h1 (h2.all (At.one u))
        rw [← h2.length] at this
        exact ⟨ys, this, h2⟩
      · cases hs
  · cases hs

theorem append_sound {T U : TypeId} {x y : Operand} (H : Rel M S w0 h g w) (E : ER (memOf M S w0 h g w) e r) (hk : appendOp P T U (opnd e x) (opnd e y) h K = some res) :
    Step P ⟨d, .call { callee := .builtin .append, args := #[x, y], argTypes := #[T, U] }, ty, pos, aft, gd⟩ r w (After M S w0 h g w K res) := by
  unfold appendOp at hk
  obtain ⟨v, h1, g1, H1, le1, hv, hk⟩ := nilOp_sound H (opnd_sound E x) hk
  have hy := Rv.mono le1 _ _ (opnd_sound E y)
  split at hk
  · rename_i id
    split at hk
    · rename_i ty' t xs el ho hT
      split at hk
      · rename_i z b ys he hsrc
        rw [cond_eq_ite] at hk
        split at hk
        · rename_i hb
          rw [Bool.and_eq_true] at hb
          obtain ⟨hb1, hb2⟩ := hb
          have hb1 := Nat.eq_of_beq_eq_true hb1
          have hb2 := Nat.eq_of_beq_eq_true hb2
          subst hb1
          subst hb2
          obtain ⟨hc, hk⟩ := need_some hk
          have hli : lives h1 id := by simp [lives, ho, liveO]
          obtain ⟨zs, hO, hs⟩ := H1.obj _ _ ho
          obtain ⟨_, u, hu, _, _, hu2⟩ := hv
          have hu : ev r x = u := by simpa using hu
          have hu2 := hu2 hli
          have hu2 : u = g1 id := hu2
          subst hu
          obtain ⟨us, hS, hus⟩ := source_sound H1 hy hsrc
          obtain ⟨v', w', h2, h3, h4, h5, hdr⟩ := own_append (ty := ty) hT he hO hS hus.length.symm hus.all_len (by rw [← hs.length]; exact hc)
          have hfo := Own.foot_eq hO
          have hfo' := Own.foot_eq h3
          obtain ⟨H2, le2⟩ := H1.turn (w' := w') hli (.arr el t (xs ++ ys)) v' (by rw [hfo]; exact h4) (fun q hq => by rw [hfo] ; rw [hfo'] at hq; exact h5 q hq) fun le => ⟨_, h3, (hs.mono (At.mono le.imm t)).append (hus.mono (At.mono le.imm t))⟩
          obtain ⟨a1, n1, c1, e1⟩ := h3.isSlice
          refine .value (v := v') (w' := w') ?_ ⟨.one (.own h1.length), _, _, H2, le1.trans le2, ⟨by simp [memOf], v', rfl, by rw [e1]; rfl, by rw [e1]; rfl, fun _ => (gx_same g1 h1.length _).symm⟩, hk⟩
          have h22 : (Builtin.append_ #[T, U] ty #[ev r x, ev r y]).run P w = .ok v' w' := by rw [hu2]; exact h2
          simp [execOp, resolve, invoke, builtin, h22]
        · cases hk
      · cases hk
    · cases hk
  · cases hk

/-! ### conversions -/
theorem nums_al2 {I : Nat → Prop} : ∀ ns : List Int, Al2 (At w I (.int .u8)) ns (ns.map fun n => [.int .u8 n])
  | [] => trivial
  | _ :: ns => ⟨rfl, nums_al2 ns⟩
theorem al2_nums {I : Nat → Prop} : ∀ {ns : List Int} {ys : List (List Value)}, Al2 (At w I (.int .u8)) ns ys → ys = ns.map fun n => [.int .u8 n]
  | [], [], _ => rfl
  | n :: ns, y :: ys, ⟨a, b⟩ => by
    have a : y = [.int .u8 n] := a
    rw [a, al2_nums b]; rfl

theorem binFx_sound {op : BinOp} {k : FloatKind} {a b a' b' : Nat} {x y : Operand} {t u : TypeId} (H : Rel M S w0 h g w) (hk : binFx op k a b (fun v => K v h) = some res) (hx : ev r x = .float k a') (hy : ev r y = .float k b') (ha : Fl k a a') (hb : Fl k b b') :
    Step P ⟨d, .binOp op t x y u, ty, pos, aft, gd⟩ r w (After M S w0 h g w K res) := by
  have key : ∀ n, op = arOp n → K (.one (.fx k (flOpX n k a b))) h = some res → Step P ⟨d, .binOp op t x y u, ty, pos, aft, gd⟩ r w (After M S w0 h g w K res) := by
    rintro n rfl hk
    obtain ⟨z, w', h1, h2⟩ := ex_arx (P := P) (w := w) (d := d) (t := t) (u := u) (ty := ty) (pos := pos) (aft := aft) (g := gd) n hx hy
    rw [ha.op hb] at h2
    rcases h2 with ⟨h2, rfl⟩ | ⟨h2, h3, rfl⟩
    · exact .value (w' := w') h1 ⟨_, h, g, H, .refl _, mk_fx (.inl (by simp [flOpX, h2])), hk⟩
    · have H' := H.below (w' := w.drew) ⟨rfl, rfl, rfl, Nat.le_refl _, fun _ _ => rfl⟩
      exact .value (w' := w.drew) h1 ⟨_, h, g, H'.1, H'.2, mk_fx (.inr ⟨by simp [flOpX, h2], h3⟩), hk⟩
  cases op <;> simp only [binFx] at hk <;> try (cases hk)
  · exact key 0 rfl hk
  · exact key 1 rfl hk
  · exact key 2 rfl hk
  · exact key 3 rfl hk

theorem conv_sound {c : Bool} {A B : TypeId} {x : Operand} (H : Rel M S w0 h g w) (E : ER (memOf M S w0 h g w) e r) (hk : convOp P c A B (opnd e x) h K = some res) :
    Step P ⟨d, .convert A B x, ty, pos, aft, gd⟩ r w (After M S w0 h g w K res) := by
  have hx := opnd_sound E x
  generalize opnd e x = p at hk hx
  unfold convOp at hk
  split at hk
  · rename_i hA hB
    exact Pure.step H (.mk' hk (fun _ => ex_convInt hA hB (rv_int hx)) mk_int)
  · rename_i hA hB
    exact Pure.step H (.mk' hk (fun _ => ex_convStr hA hB (rv_str hx)) mk_str)
  · rename_i hA hB
    exact Pure.step H (.mk' hk (fun _ => ex_convIF (by rw [hA]; rfl) hB (rv_int hx)) mk_flt)
  · rename_i hA hB
    obtain ⟨z, h0, hk⟩ := Option.bind_eq_some_iff.1 hk
    exact Pure.step H (.mk' hk (fun _ => ex_convFI (by rw [hA]; rfl) hB (rv_flt hx) h0) mk_int)
  · rename_i hA hB
    split at hk
    · rename_i e
      subst e
      exact Pure.step H (.mk' hk (fun _ => ex_convFF (by rw [hA]; rfl) hB (rv_flt hx)) mk_flt)
    · cases hk
  · rename_i hA hB
    split at hk
    · rename_i e
      subst e
      obtain ⟨q, hq, hf⟩ := rv_fx hx
      exact Pure.step H (.mk' hk (fun _ => ex_convFF (by rw [hA]; rfl) hB hq) (mk_fx hf))
    · cases hk
  · rename_i el hA hB
    split at hk
    · rename_i he
      have hx := rv_nil hx
      refine Reads.step H ⟨⟨_, sv (bytesOf []), fun w' _ => ?_, mk_str, hk⟩⟩
      exact ex_convBT (v := ev r x) (l := []) ⟨by simp, .inl ⟨⟨none, hx⟩, rfl⟩⟩ hA he hB rfl
    · rename_i he _
      split at hk
      · rename_i xs hr
        obtain ⟨ys, h1, h2⟩ := readS_sound H hx hr
        have := al2_nums h2
        subst this
        exact .value (w' := w) (ex_convBT h1 hA he hB rfl) ⟨_, _, _, H, .refl _, mk_str, hk⟩
      · cases hk
    · cases hk
  · rename_i el l hA hB
    split at hk
    · rename_i he
      obtain ⟨hb, hk⟩ := need_some hk
      have hx := rv_str hx
      have hr := Lib.run_convert_string_bytes (P := P) w A B el (ByteArray.mk l.toArray) hA hB he
      have hge := grownCap_ge w l.length 0 el
      have hcm := grownCap_le_maxLen w l.length 0 el (by simp only [maxLen]; omega)
      rw [sv_size] at hr
      have hcells : (Lib.bytesCells w el (ByteArray.mk l.toArray)).size = grownCap w l.length 0 el := by
        simp [Lib.bytesCells, sv_size]; omega
      have hO : Own (Lib.bytesWorld w el (ByteArray.mk l.toArray)) (.slice (some ⟨w.heap.size, 0, none⟩) l.length (grownCap w l.length 0 el)) el 1 ((numsOf l).map fun n => [.int .u8 n]) := by
        refine ⟨by simp, .inr ⟨w.heap.size, _, _, _, by simp [numsOf], by simpa [numsOf] using hge, hcm, Lib.bytesWorld_at_new w el _, ?_, by rw [hcells, Nat.mul_one], ?_⟩⟩
        · intro j hj; simp only; omega
        · intro j u hj
          rw [flat1, numsOf, List.map_map] at hj
          have hjl : j < l.length := by simpa using (List.getElem?_eq_some_iff.1 hj).1
          simp only [Lib.bytesCells]
          rw [Array.getElem?_append_left (by simpa using hjl)]
          simpa using hj
      obtain ⟨H', le⟩ := H.add (w' := Lib.bytesWorld w el (ByteArray.mk l.toArray)) ⟨rfl, rfl, rfl, by rw [Lib.bytesWorld_size]; omega, fun k hk => Lib.bytesWorld_at_old w el _ k hk⟩ (.arr el (.int .u8) (numsOf l)) (.slice (some ⟨w.heap.size, 0, none⟩) l.length (grownCap w l.length 0 el)) (fun b hb => by
        simp only [foot, vfoot] at hb
        split at hb
        · cases hb
        · simp only [Option.some.injEq] at hb; omega) fun le => ⟨_, hO, nums_al2 _⟩
      cases c with
      | false => exact .value (v := .slice (some ⟨w.heap.size, 0, none⟩) l.length (grownCap w l.length 0 el)) (w' := Lib.bytesWorld w el (ByteArray.mk l.toArray)) (by simp only [sv] at hx; simp [execOp, hx, hr]) ⟨.one (.own h.length), _, _, H', le, ⟨by simp [memOf], _, rfl, rfl, rfl, fun _ => (gx_same g h.length _).symm⟩, hk⟩
      | true =>
        have e1 : (h ++ [Ob.arr el (.int .u8) (numsOf l)]).set h.length .gone = h ++ [.gone] := by simp
        have lv : lives (h ++ [Ob.arr el (.int .u8) (numsOf l)]) h.length := by simp [lives, liveO]
        obtain ⟨H2, le2⟩ := H'.drop h.length
        have hI := H'.drops_imm (f := [h.length]) (fun id hid => by simp at hid; subst hid; exact lv) h.length (by simp)
        simp only [freeze] at hI
        rw [e1] at H2 le2 hI
        exact .value (v := .slice (some ⟨w.heap.size, 0, none⟩) l.length (grownCap w l.length 0 el)) (w' := Lib.bytesWorld w el (ByteArray.mk l.toArray)) (by simp only [sv] at hx; simp [execOp, hx, hr])
          ⟨.one (.ro (.int .u8) (numsOf l)), _, _, H2, le.trans le2, ⟨_, rfl, _, hO.rd, nums_al2 _, fun b hb => hI b (by rw [gx_same]; exact hb)⟩, hk⟩
    · cases hk
  · cases hk
end
end Go.Dor
end

section
/- COPIES, BUILT VALUES, VALUES HELD AGAINST EACH OTHER. Plain lemmas over any program. -/
namespace Go.Dor
open Go.RowKit (Below)
section
variable {P : Program} {M S : Nat → Prop} {w0 w w' : World} {h : Hm} {g : Nat → Value} {R : Type} {res : R} {K : V → Hm → Option R} {K1 : V → Option R} {m : Mem}
  {d : Option Tmp} {ty : TypeId} {pos : String} {aft : Array Edge} {gd : Option (Nat × Bool)} {e : Ev} {r : Env}

/-! ### copies into an array -/
theorem hp_one {b : Nat} {bt : TypeId} {s : List (List Value)} (hb : w.heap[b]? = some (.cells (cells s) bt (0, 0))) : Hp (· = b) (· = b) w w [.blk b bt s] := by
  refine ⟨rfl, rfl, .refl _, rfl, Nat.le_refl _, fun _ _ _ => rfl, fun i x hi => ?_, fun i x hi _ c hc => ?_, fun i x hi c hc => ?_, fun i j x y hi hj hne => ?_⟩
  · cases i with
    | zero => simp at hi; subst hi; exact hb
    | succ i => simp at hi
  · cases i with
    | zero => simp at hi; subst hi; simp [Res.foot] at hc; exact .inr hc.symm
    | succ i => simp at hi
  · cases i with
    | zero => simp at hi; subst hi; simp [Res.foot] at hc; exact .inr hc.symm
    | succ i => simp at hi
  · cases i with
    | zero => cases j with
      | zero => exact absurd rfl hne
      | succ j => simp at hj
    | succ i => simp at hi
theorem hp_grown {b : Nat} {L : List Res} (H : Hp (· = b) (· = b) w w' L) : w.grownBy w' (some b) := ⟨H.os, H.tape, H.output, H.size, fun k hk hne => H.old k hk fun e => hne (by rw [e])⟩

theorem copy_sound {T U : TypeId} {x y : Operand} (H : Rel M S w0 h g w) (E : ER (memOf M S w0 h g w) e r) (hk : copyOp P T U (opnd e x) (opnd e y) h K = some res) :
    Step P ⟨d, .call { callee := .builtin .copy, args := #[x, y], argTypes := #[T, U] }, ty, pos, aft, gd⟩ r w (After M S w0 h g w K res) := by
  have hx := opnd_sound E x
  have hy := opnd_sound E y
  generalize opnd e x = p at hk hx
  unfold copyOp at hk
  split at hk
  · rename_i id off n lo hi el hT
    split at hk
    · rename_i t0 ls ho hz
      split at hk
      · rename_i pre t n' x' post hsk
        split at hk
        · rename_i ys hsrc
          rw [cond_eq_ite] at hk
          split at hk
          · rename_i hb
            rw [Bool.and_eq_true, Bool.and_eq_true] at hb
            obtain ⟨⟨hb1, hw1⟩, _⟩ := hb
            have hb1 := Nat.eq_of_beq_eq_true hb1
            have hw1 := Nat.eq_of_beq_eq_true hw1
            subst hb1
            obtain ⟨hc, hk⟩ := need_some hk
            have hli : lives h id := by simp [lives, ho, liveO]
            obtain ⟨b, s, hgb, hcell, hs⟩ := H.obj _ _ ho
            obtain ⟨_, h0, h1, h2, b', hgb', hval⟩ := hx
            have hgb' : g id = _ := hgb'
            rw [hgb] at hgb'; cases hgb'
            have hval : ev r x = bsv b off n lo hi := by simpa using hval
            obtain ⟨h3, h4⟩ := skipL_sound _ _ _ _ hsk
            subst h3
            obtain ⟨s1, s2, rfl, k1, k2⟩ := hs.split
            obtain ⟨c, s3, rfl, k3, k4⟩ := k2.cons_left
            obtain ⟨zs, rfl, k5⟩ := k3
            obtain ⟨us, hS, hus⟩ := source_sound H hy hsrc
            have hzl := k5.all_len
            have hul := hus.all_len
            rw [hw1] at hzl hul hS
            have hzn : zs.flatten.length = n := by rw [flat_single hzl, ← k5.length]; simp
            have hun : us.flatten.length = ys.length := by rw [flat_single hul, hus.length]
            -- the array's cells as a row of values
            let av : Vector Value n := ⟨zs.flatten.toArray, by simpa using hzn⟩
            have hav : av.toList.map (fun v : Value => v) = zs.flatten := by simp [av]
            have hS' : Src P 1 U (ev r y) us.flatten.length (us.flatten.map fun v => v) w := by rw [List.map_id', hun]; exact hS
            have st := st_copyBs (P := P) (r := r) (d := d) (ty := ty) (pos := pos) (aft := aft) (g := gd) (x := x) (y := y) (i := 0) (k := fun v : Value => v) (av := av) (xs := us.flatten) s1 s3 (hp_one hcell) rfl (by rw [hav]; simp) ((Rls.len k1).trans h4) ⟨h0, h1, h2⟩ hT hz hS' hval rfl (by rw [hun]; exact hc)
            refine st.mono fun v w' hv => ?_
            obtain ⟨rfl, Hp'⟩ := hv
            have hcell' := Hp'.blk (i := 0) rfl
            have hdr := Hp'.drawn
            have hfo : foot (g id) = some b := by rw [hgb]; rfl
            have hlo : lo.toNat + us.flatten.length ≤ n := by omega
            have hvl : (vcopy av lo us.flatten).toList.map (fun v : Value => v) = (zs.take lo.toNat ++ us ++ zs.drop (lo.toNat + ys.length)).flatten := by
              rw [List.map_id']
              have e1 : (vcopy av lo us.flatten).toList = av.toList.take lo.toNat ++ us.flatten ++ av.toList.drop (lo.toNat + us.flatten.length) := by
                unfold vcopy; rw [dif_pos hlo]; rfl
              have e2 : av.toList = zs.flatten := by simp [av]
              have e3 : (zs.take lo.toNat).flatten = zs.flatten.take lo.toNat := by
                have := sub_single hzl 0 lo
                simpa [sub_] using this
              have e4 : (zs.drop (lo.toNat + ys.length)).flatten = zs.flatten.drop (lo.toNat + ys.length) := by
                have := sub_single hzl ((lo.toNat + ys.length : Nat) : Int) (zs.length : Int)
                have e5 := flat_single hzl
                simp only [sub_, Int.toNat_natCast] at this
                rw [List.take_of_length_le (Nat.le_refl _), List.take_of_length_le (by omega)] at this
                exact this
              rw [e1, e2, List.flatten_append, List.flatten_append, e3, e4, hun]
            rw [hvl] at hcell'
            have hcell2 : w'.heap[b]? = some (.cells (cells (s1 ++ (zs.take lo.toNat ++ us ++ zs.drop (lo.toNat + ys.length)).flatten :: s3)) t0 (0, 0)) := by rw [hcell']; simp
            obtain ⟨H', le⟩ := H.set (w' := w') hli (.blk t0 (pre ++ .arr t n (vcopy x' lo ys) :: post)) (by rw [hfo]; exact hp_grown Hp') fun le => ⟨b, s1 ++ (zs.take lo.toNat ++ us ++ zs.drop (lo.toNat + ys.length)).flatten :: s3, hgb, hcell2, (Rls.mono le k1).append ⟨⟨_, rfl, by
                have e1 : (vcopy x' lo ys).toList = x'.toList.take lo.toNat ++ ys ++ x'.toList.drop (lo.toNat + ys.length) := by
                  unfold vcopy; rw [dif_pos (by omega)]; rfl
                rw [e1]
                have k5' := k5.mono (At.mono le.imm t)
                exact ((k5'.take _).append (hus.mono (At.mono le.imm t))).append (k5'.drop _)⟩, Rls.mono le k4⟩⟩
            exact ⟨_, _, _, H', le, by rw [hun]; exact mk_int, hk⟩
          · cases hk
        · cases hk
      · cases hk
    · cases hk
  · cases hk

/-! ### values that are built -/
theorem allLeaves_sound (E : ER m e r) : ∀ {parts : List (Nat × Operand)} {ps : List (Nat × List L)}, allLeaves e parts = some ps →
    ps.map (·.1) = parts.map (·.1) ∧ Al2 (fun (p : Nat × List L) (v : Value) => ∃ s, v.cells = cells s ∧ Al2 (Rl m) p.2 s) ps (parts.map fun x => ev r x.2)
  | [], ps, h => by cases h; exact ⟨rfl, trivial⟩
  | (i, x) :: l, ps, h => by
    simp only [allLeaves] at h
    split at h
    · rename_i a q h1 h2
      cases h
      obtain ⟨h3, h4⟩ := allLeaves_sound E h2
      exact ⟨by simp [h3], leaves_sound (opnd_sound E x) h1, h4⟩
    · cases h

theorem fillL_sound {pl : List (Nat × Nat)} : ∀ {ps : List (Nat × List L)} {vals : List Value} {ls ls' : List L} {s : List (List Value)}, fillL pl ps ls = some ls' → Al2 (Rl m) ls s →
    Al2 (fun (p : Nat × List L) (v : Value) => ∃ s, v.cells = cells s ∧ Al2 (Rl m) p.2 s) ps vals → ∃ s', Instr.fill (fun i => pl[i]?) (cells s) ((ps.map (·.1)).zip vals) = some (cells s') ∧ Al2 (Rl m) ls' s'
  | [], vals, ls, ls', s, h, hs, hv => by
    cases h
    exact ⟨s, rfl, hs⟩
  | (i, new) :: q, vals, ls, ls', s, h, hs, hv => by
    obtain ⟨v, vals, rfl, ⟨sn, hcn, hsn⟩, hv⟩ := hv.cons_left
    simp only [fillL] at h
    split at h
    · rename_i off n hp
      rw [cond_eq_ite] at h
      split at h
      · rename_i hw
        have hw := Nat.eq_of_beq_eq_true hw
        split at h
        · rename_i pre mid post hc
          obtain ⟨s1, s2, s3, rfl, k1, k2, k3, l1, l2, _⟩ := cut_segs hc hs
          obtain ⟨s', h1, h2⟩ := fillL_sound (vals := vals) h ((k1.append hsn).append k3) hv
          have hln := (Rls.len hsn).trans hw
          refine ⟨s', ?_, h2⟩
          simp only [List.map_cons, List.zip_cons_cons]
          exact fill_cons (off := off) (sz := n) s1 s2 s3 sn (by simp) l1 (by omega) hln h1 hp hcn
        · cases h
      · cases h
    · cases h

theorem zip_fst_map {parts : List (Nat × Operand)} (f : Operand → Value) : (parts.map (·.1)).zip (parts.map fun x => f x.2) = parts.map fun x => (x.1, f x.2) := by
  induction parts with
  | nil => rfl
  | cons x l ih => simp [ih]

theorem scal_at {t : T} (ht : scalT t = true) : ∃ f : den t → Value, (∀ a, (f a).oneCell' = true) ∧ (∀ (w : World) (I : Nat → Prop) (x : den t) (c : List Value), At w I t x c ↔ c = [f x]) ∧ cellsD t (dflt t) = some [f (dflt t)] := by
  cases t <;> simp only [scalT] at ht <;> first | exact ⟨fun a => .int _ a, fun _ => rfl, fun _ _ _ _ => Iff.rfl, rfl⟩ | exact ⟨fun a => .bool a, fun _ => rfl, fun _ _ _ _ => Iff.rfl, rfl⟩ | exact ⟨fun a => sv a, fun _ => rfl, fun _ _ _ _ => Iff.rfl, rfl⟩ | exact ⟨fun a => .float _ a, fun _ => rfl, fun _ _ _ _ => Iff.rfl, rfl⟩ | cases ht

theorem arrParts_sound {t : T} (E : ER m e r) {f : den t → Value} (hf : ∀ (w : World) (I : Nat → Prop) (x : den t) (c : List Value), At w I t x c ↔ c = [f x]) : ∀ {parts : List (Nat × Operand)} {xs : List (Nat × den t)}, arrParts t e parts = some xs →
    parts.map (fun x => (x.1, ev r x.2)) = xs.map (fun x => (x.1, f x.2))
  | [], xs, h => by cases h; rfl
  | (i, x) :: l, xs, h => by
    simp only [arrParts] at h
    have hx := opnd_sound E x
    split at h
    · rename_i y hy
      rw [hy] at hx
      split at h
      · rename_i z f' q h1 h2
        cases h
        have h3 := arrParts_sound E hf h2
        have hx : Al2 (Rl m) [y] [[ev r x]] := ⟨hx, trivial⟩
        obtain ⟨l1, s1, s2, e1, e2, h5, _, h6⟩ := decL_sound (m := m) (m' := m) (h := []) ⟨by simp, fun id hid => by simp [lives, liveO] at hid⟩ (Mem.Le.refl m).imm (fun _ _ => rfl) _ _ _ _ _ _ h1 (fun id hid => by have := decL_live _ _ _ _ _ h1 id hid; simp [lives, liveO] at this) hx
        have h7 := h6.nil_left
        subst h7
        rw [List.append_nil] at e2
        subst e2
        have h8 := (hf _ _ _ _).1 h5
        simp only [List.flatten_cons, List.flatten_nil, List.append_nil, List.cons.injEq, and_true] at h8
        simp [h3, h8]
      · cases h
    · cases h

theorem build_sound {T : TypeId} {parts : Array (Nat × Operand)} (H : Rel M S w0 h g w) (E : ER (memOf M S w0 h g w) e r) (hk : buildOp P T parts.toList e h K = some res) :
    Step P ⟨d, .build T parts, ty, pos, aft, gd⟩ r w (After M S w0 h g w K res) := by
  obtain ⟨parts⟩ := parts
  unfold buildOp at hk
  split at hk
  · rename_i fs hT
    split at hk
    · rename_i ps pl ls hs hp hpl hz
      rw [cond_eq_ite] at hk
      split at hk
      · rename_i hck
        split at hk
        · rename_i ls' hf
          obtain ⟨g1, s, H1, le1, hzo, hs1⟩ := zeroCk_sound H hck
          obtain ⟨e1, hv⟩ := allLeaves_sound (ER.mono le1 E) hp
          obtain ⟨s', hfill, hs'⟩ := fillL_sound hf hs1 hv
          refine .value (v := ag s') (w' := w) (ex_buildS hpl hzo rfl ?_) ⟨.ag ls', _, _, H1, le1, ⟨s', rfl, hs'⟩, hk⟩
          rw [e1, zip_fst_map] at hfill
          exact hfill
        · cases hk
      · cases hk
    · cases hk
  · rename_i n el hT
    split at hk
    · rename_i t hct
      rw [cond_eq_ite] at hk
      split at hk
      · rename_i hb
        rw [Bool.and_eq_true, Bool.and_eq_true] at hb
        obtain ⟨⟨hsc, hst⟩, hck⟩ := hb
        split at hk
        · rename_i xs hxs
          rw [cond_eq_ite] at hk
          split at hk
          · rename_i hlt
            obtain ⟨f, hf1, hf2, hf3⟩ := scal_at hst
            obtain ⟨g1, s, _, _, hzo, hs1⟩ := zeroCk_sound H hck
            obtain ⟨c, s', rfl, h1, h2⟩ := hs1.cons_left
            have := h2.nil_left
            subst this
            obtain ⟨ys, rfl, h3⟩ := h1
            have hys : ∀ {l : List (den t)} {ys : List (List Value)} {w : World} {I : Nat → Prop}, Al2 (At w I t) l ys → ys.flatten = l.map f := by
              intro l
              induction l with
              | nil => intro ys w I h; have := h.nil_left; subst this; rfl
              | cons x l ih =>
                intro ys w I h
                obtain ⟨y, ys, rfl, h1, h2⟩ := h.cons_left
                rw [List.flatten_cons, ih h2, (hf2 _ _ _ _).1 h1]; rfl
            rw [hys h3] at hzo
            obtain ⟨_, hsz⟩ := scal_spec (w := w) hsc
            have he : (P.info? el).map (·.size) = some 1 := by
              have : P.cellsOf el = 1 := by unfold isScal at hsc; rw [Bool.and_eq_true, beq_iff_eq] at hsc; exact hsc.2
              simp only [Program.cellsOf] at this
              cases hi : P.info? el with
              | none => rw [hi] at this; simp at this
              | some i => rw [hi] at this; simpa using this
            have hps := arrParts_sound E hf2 hxs
            have hall : ∀ x ∈ xs.map (·.1), x < n := fun x hx => by
              obtain ⟨p, hp, rfl⟩ := List.mem_map.1 hx
              have := List.all_eq_true.1 hlt _ hp
              simpa using this
            refine .value (w' := w) (ex_buildP (ps := xs) (f := f) (z0 := dflt t) hT hzo he hps rfl hall hf1) ⟨.ag [.arr t n (bparts n (dflt t) xs)], h, g, H, .refl _, ⟨_, rfl, ⟨(bparts n (dflt t) xs).toList.map fun x => [f x], by rw [flat1], ?_⟩, trivial⟩, hk⟩
            have key : ∀ l : List (den t), Al2 (At w (memOf M S w0 h g w).I t) l (l.map fun x => [f x]) := by
              intro l
              induction l with
              | nil => trivial
              | cons x l ih => exact ⟨(hf2 _ _ _ _).2 rfl, ih⟩
            exact key _
          · cases hk
        · cases hk
      · cases hk
    · cases hk
  · cases hk

theorem elems_sound {t : T} : ∀ {ps : List (Nat × List L)} {i : Nat} {h : Hm} {K : List (den t) → Hm → Option R} {vals : List Value}, Rel M S w0 h g w → elems t i ps h K = some res →
    Al2 (fun (p : Nat × List L) (v : Value) => ∃ s, v.cells = cells s ∧ Al2 (Rl (memOf M S w0 h g w)) p.2 s) ps vals →
    ∃ xs h', Rel M S w0 h' g w ∧ (memOf M S w0 h g w).Le (memOf M S w0 h' g w) ∧ K xs h' = some res ∧ Al2 (fun x (v : Value) => At w (memOf M S w0 h' g w).I t x v.cells.toList) xs vals ∧ ps.map (·.1) = List.range' i ps.length
  | [], i, h, K, vals, H, hk, hv => by
    have := hv.nil_left; subst this
    exact ⟨[], h, H, .refl _, hk, trivial, rfl⟩
  | (j, ls) :: l, i, h, K, vals, H, hk, hv => by
    obtain ⟨v, vals, rfl, ⟨s, hc, hs⟩, hv2⟩ := hv.cons_left
    simp only [elems, cond_eq_ite] at hk
    split at hk
    · rename_i hij
      have hij := Nat.eq_of_beq_eq_true hij
      subst hij
      obtain ⟨x, f, H1, le1, hat, hk⟩ := toD_sound H hs hk
      obtain ⟨xs, h', H2, le2, hk, hxs, hps⟩ := elems_sound H1 hk (hv2.mono fun p v (q : ∃ s, v.cells = cells s ∧ Al2 (Rl (memOf M S w0 h g w)) p.2 s) => (by obtain ⟨s, a, b⟩ := q; exact ⟨s, a, Rls.mono le1 b⟩))
      refine ⟨x :: xs, h', H2, le1.trans le2, hk, ⟨?_, hxs⟩, by simp [hps, List.range'_succ]⟩
      have h5 := At.mono le2.imm t _ _ hat
      have h6 : v.cells.toList = s.flatten := by rw [hc]; simp [cells]
      show At w (memOf M S w0 h' g w).I t x v.cells.toList
      rw [h6]; exact h5
    · cases hk

theorem zipIdx_eq {β γ : Type} (f : β → γ) : ∀ (l : List β) (k : Nat), (List.range' k l.length).zip (l.map f) = (l.zipIdx k).map fun x => (x.2, f x.1)
  | [], _ => rfl
  | x :: l, k => by simp [List.range'_succ, List.zipIdx_cons, zipIdx_eq f l (k + 1)]

theorem buildSlice_sound {T : TypeId} {len : Nat} {parts : Array (Nat × Operand)} (H : Rel M S w0 h g w) (E : ER (memOf M S w0 h g w) e r) (hk : buildSl P T len parts.toList e h K = some res) :
    Step P ⟨d, .buildSlice T len parts, ty, pos, aft, gd⟩ r w (After M S w0 h g w K res) := by
  obtain ⟨parts⟩ := parts
  unfold buildSl at hk
  split at hk
  · rename_i ps el hp hT
    split at hk
    · rename_i t z b _ he
      rw [cond_eq_ite] at hk
      split at hk
      · rename_i hb
        rw [Bool.and_eq_true, Bool.and_eq_true, Nat.ble_eq] at hb
        obtain ⟨⟨hz, hlen⟩, hsm⟩ := hb
        have hz := Nat.eq_of_beq_eq_true hz
        have hlen := Nat.eq_of_beq_eq_true hlen
        obtain ⟨e1, hv⟩ := allLeaves_sound E hp
        obtain ⟨xs, h', H1, le1, hk, hxs, hps⟩ := elems_sound H hk hv
        -- the parts' values, all of one width
        have hall : ∀ v ∈ parts.map (fun x => ev r x.2), v.cells.toList.length = z := by
          have key : ∀ {xs : List (den t)} {vals : List Value}, Al2 (fun x (v : Value) => At w (memOf M S w0 h' g w).I t x v.cells.toList) xs vals → ∀ v ∈ vals, v.cells.toList.length = z := by
            intro xs
            induction xs with
            | nil => intro vals h v hv; have := h.nil_left; subst this; cases hv
            | cons x xs ih =>
              intro vals h v hv
              obtain ⟨u, us, rfl, h1, h2⟩ := h.cons_left
              rcases List.mem_cons.1 hv with rfl | hv
              · rw [At.len _ _ _ h1, hz]
              · exact ih h2 v hv
          exact key hxs
        let l : List { v : Value // v.cells.toList.length = z } := (parts.map fun x => ev r x.2).attachWith _ hall
        have hl : l.map (·.1) = parts.map fun x => ev r x.2 := by simp [l]
        have hll : l.length = parts.length := by have := congrArg List.length hl; simpa using this
        have hpl : ps.length = parts.length := by have := congrArg List.length e1; simpa using this
        have hparts : parts.map (fun x => (x.1, ev r x.2)) = l.zipIdx.map fun x => (x.2, x.1.1) := by
          have h1 : parts.map (fun x => (x.1, ev r x.2)) = (parts.map (·.1)).zip (parts.map fun x => ev r x.2) := (zip_fst_map _).symm
          rw [h1, ← e1, hps, ← hl, hpl, ← hll]
          exact zipIdx_eq _ l 0
        have st := st_build (P := P) (r := r) (d := d) (ty := ty) (pos := pos) (aft := aft) (g := gd) (T := T) (z := z) (parts := parts) (gv := fun v : { v : Value // v.cells.toList.length = z } => v.1) l (fun v => v.1.cells.toList) (Hp.nil NoM NoM w) hT he (by rw [hll, ← hpl]; exact hlen) hparts (fun _ => rfl) (fun v => v.2) hsm
        refine st.mono fun v w' Hv => ?_
        have hO := Hv.own (i := 0) rfl
        have hbel := Hv.below
        have hdr := Hv.drawn
        obtain ⟨a1, n1, c1, ev1⟩ := hO.isSlice
        have hcells : l.map (fun v => v.1.cells.toList) = (parts.map fun x => ev r x.2).map fun v => v.cells.toList := by
          rw [← hl, List.map_map]; rfl
        rw [hcells] at hO
        have hxs' : Al2 (At w (memOf M S w0 h' g w).I t) xs ((parts.map fun x => ev r x.2).map fun v => v.cells.toList) := by
          have key : ∀ {xs : List (den t)} {vals : List Value}, Al2 (fun x (v : Value) => At w (memOf M S w0 h' g w).I t x v.cells.toList) xs vals → Al2 (At w (memOf M S w0 h' g w).I t) xs (vals.map fun v => v.cells.toList) := by
            intro xs
            induction xs with
            | nil => intro vals h; have := h.nil_left; subst this; trivial
            | cons x xs ih =>
              intro vals h
              obtain ⟨u, us, rfl, h1, h2⟩ := h.cons_left
              exact ⟨h1, ih h2⟩
          exact key hxs
        obtain ⟨H2, le2⟩ := H1.add (w' := w') hbel (.arr el t xs) v (fun q hq => by
          have h3 := Hv.mine 0 _ rfl rfl q (by rw [hO.foot_eq] at hq; exact hq)
          rcases h3 with h3 | h3
          · exact h3
          · exact h3.elim) fun le => ⟨_, by rw [← hz]; exact hO, hxs'.mono (At.mono le.imm t)⟩
        exact ⟨.one (.own h'.length), _, _, H2, le1.trans le2, ⟨by simp [memOf], v, rfl, by rw [ev1]; rfl, by rw [ev1]; rfl, fun _ => (gx_same g h'.length _).symm⟩, hk⟩
      · cases hk
    · cases hk
  · cases hk
end
end Go.Dor
end

section
/- VALUES HELD AGAINST EACH OTHER; what is left of the operations. Plain lemmas over any program. -/
namespace Go.Dor
open Go.RowKit (Below)
section
variable {P : Program} {M S : Nat → Prop} {w0 w w' : World} {h : Hm} {g : Nat → Value} {R : Type} {res : R} {K : V → Hm → Option R} {K1 : V → Option R} {m : Mem}
  {d : Option Tmp} {ty : TypeId} {pos : String} {aft : Array Edge} {gd : Option (Nat × Bool)} {e : Ev} {r : Env}

/-- the value that cells of a type make -/
def VP (P : Program) (t : TypeId) (s : List (List Value)) (v : Value) : Prop :=
  (isScal P t = true ∧ s = [[v]]) ∨ (((∃ fs, P.underlying t = some (.struct fs)) ∨ ∃ n el, P.underlying t = some (.array n el)) ∧ v = ag s)

theorem VP.part {t : TypeId} {off n : Nat} {s mid : List (List Value)} {v : Value} (pre post : List (List Value)) (hv : VP P t mid v) (hw : widT P t = some n) (hn : mid.flatten.length = n) (hs : s = pre ++ (mid ++ post)) (ho : pre.flatten.length = off) (w : World) :
    (part t (cells s) off).run P w = .ok v w := by
  rcases hv with ⟨h1, rfl⟩ | ⟨h1, rfl⟩
  · exact part_scal pre post h1 (by rw [hs, List.append_assoc]) ho w
  · refine part_agg (n := n) pre mid post ?_ (by rw [hs, List.append_assoc]) ho hn w
    unfold aggOf
    rcases h1 with ⟨fs, h1⟩ | ⟨n', el, h1⟩ <;> rw [h1] <;> exact hw

theorem vec_al2 {w : World} {I : Nat → Prop} {t : T} {f : den t → Value} (hf : ∀ (x : den t) (c : List Value), At w I t x c → c = [f x]) : ∀ {l : List (den t)} {ys : List (List Value)}, Al2 (At w I t) l ys → ys.flatten = l.map f
  | [], ys, h => by have := h.nil_left; subst this; rfl
  | x :: l, ys, h => by
    obtain ⟨y, ys, rfl, h1, h2⟩ := h.cons_left
    rw [List.flatten_cons, vec_al2 hf h2, hf _ _ h1]; rfl

theorem castV_self {t u : T} {n k : Nat} {x : Vector (den t) n} {y : Vector (den u) k} {c : List Value} {I : Nat → Prop} (h : castV t u n k x = some y) (ha : At w I (.arr n t) x c) : At w I (.arr k u) y c := by
  obtain ⟨e1, e2, e3⟩ := castV_sound h
  subst e1 e2
  dsimp only at e3; subst e3
  exact ha

theorem arr_seg {t : T} {n : Nat} {x : Vector (den t) n} {s : List (List Value)} (hs : Al2 (Rl m) [.arr t n x] s) : ∃ c, s = [c] ∧ At m.w m.I (.arr n t) x c := by
  obtain ⟨c, s', rfl, h1, h2⟩ := hs.cons_left
  have := h2.nil_left
  subst this
  exact ⟨c, rfl, h1⟩

theorem eqTy_sound : ∀ (k : Nat) (t : TypeId) (x y : List L) (b : Bool) (sx sy : List (List Value)), eqTy P k t x y = some b → Al2 (Rl m) x sx → Al2 (Rl m) y sy →
    ∃ vx vy, VP P t sx vx ∧ VP P t sy vy ∧ ∀ q, Eqs P (q + k + 1) t vx vy b := by
  intro k
  induction k with
  | zero => intro t x y b sx sy h; simp [eqTy] at h
  | succ k ih =>
    intro t x y b sx sy h hx hy
    unfold eqTy at h
    split at h
    · rename_i k0 hT
      split at h
      · rename_i k1 n k2 n'
        rw [cond_eq_ite] at h
        split at h
        · rename_i hsc
          split at h
          · rename_i hkk
            cases h; subst hkk
            obtain ⟨c, s', rfl, h1, h2⟩ := hx.cons_left
            have := h2.nil_left; subst this
            obtain ⟨c', s', rfl, h3, h4⟩ := hy.cons_left
            have := h4.nil_left; subst this
            have h1 : c = _ := h1
            have h3 : c' = _ := h3
            subst h1 h3
            exact ⟨_, _, .inl ⟨hsc, rfl⟩, .inl ⟨hsc, rfl⟩, fun q => eqs_int hT⟩
          · cases h
        · cases h
      · cases h
    · rename_i hT
      split at h
      · rename_i a c
        rw [cond_eq_ite] at h
        split at h
        · rename_i hsc
          cases h
          obtain ⟨c, s', rfl, h1, h2⟩ := hx.cons_left
          have := h2.nil_left; subst this
          obtain ⟨c', s', rfl, h3, h4⟩ := hy.cons_left
          have := h4.nil_left; subst this
          have h1 : c = _ := h1
          have h3 : c' = _ := h3
          subst h1 h3
          exact ⟨_, _, .inl ⟨hsc, rfl⟩, .inl ⟨hsc, rfl⟩, fun q => eqs_bool hT⟩
        · cases h
      · cases h
    · rename_i hT
      split at h
      · rename_i a c
        rw [cond_eq_ite] at h
        split at h
        · rename_i hsc
          cases h
          obtain ⟨c, s', rfl, h1, h2⟩ := hx.cons_left
          have := h2.nil_left; subst this
          obtain ⟨c', s', rfl, h3, h4⟩ := hy.cons_left
          have := h4.nil_left; subst this
          have h1 : c = _ := h1
          have h3 : c' = _ := h3
          subst h1 h3
          exact ⟨_, _, .inl ⟨hsc, rfl⟩, .inl ⟨hsc, rfl⟩, fun q => eqs_str hT⟩
        · cases h
      · cases h
    · rename_i n el hT
      split at h
      · rename_i u n1 v u' n2 v'
        split at h
        · rename_i v'' hc
          obtain ⟨c1, rfl, h1⟩ := arr_seg hx
          obtain ⟨c2, rfl, h2⟩ := arr_seg hy
          have h2 := castV_self hc h2
          obtain ⟨ys1, rfl, h3⟩ := h1
          obtain ⟨ys2, rfl, h4⟩ := h2
          split at h
          · rw [cond_eq_ite] at h
            split at h
            · rename_i hb
              rw [Bool.and_eq_true] at hb
              have hn := Nat.eq_of_beq_eq_true hb.2
              subst hn
              cases h
              rw [vec_al2 (f := fun z => Value.int _ z) (by intro _ _ h; exact h) h3, vec_al2 (f := fun z => Value.int _ z) (by intro _ _ h; exact h) h4]
              exact ⟨_, _, .inr ⟨.inr ⟨_, _, hT⟩, rfl⟩, .inr ⟨.inr ⟨_, _, hT⟩, rfl⟩, fun q => eqs_arr hT hb.1 fun a b => by have h8 : decide (a = b) = (a == b) := by { rw [Bool.eq_iff_iff]; simp }; rw [h8]; exact eqs_int (by assumption)⟩
            · cases h
          · rw [cond_eq_ite] at h
            split at h
            · rename_i hb
              rw [Bool.and_eq_true] at hb
              have hn := Nat.eq_of_beq_eq_true hb.2
              subst hn
              cases h
              rw [vec_al2 (f := fun z => Value.bool z) (by intro _ _ h; exact h) h3, vec_al2 (f := fun z => Value.bool z) (by intro _ _ h; exact h) h4]
              exact ⟨_, _, .inr ⟨.inr ⟨_, _, hT⟩, rfl⟩, .inr ⟨.inr ⟨_, _, hT⟩, rfl⟩, fun q => eqs_arr hT hb.1 fun a b => by have h8 : decide (a = b) = (a == b) := by { rw [Bool.eq_iff_iff]; simp }; rw [h8]; exact eqs_bool (by assumption)⟩
            · cases h
          · rw [cond_eq_ite] at h
            split at h
            · rename_i hb
              rw [Bool.and_eq_true] at hb
              have hn := Nat.eq_of_beq_eq_true hb.2
              subst hn
              cases h
              rw [vec_al2 (f := fun z => sv z) (by intro _ _ h; exact h) h3, vec_al2 (f := fun z => sv z) (by intro _ _ h; exact h) h4]
              exact ⟨_, _, .inr ⟨.inr ⟨_, _, hT⟩, rfl⟩, .inr ⟨.inr ⟨_, _, hT⟩, rfl⟩, fun q => eqs_arr hT hb.1 fun a b => by have h8 : decide (a = b) = (a == b) := by { rw [Bool.eq_iff_iff]; simp }; rw [h8]; exact eqs_str (by assumption)⟩
            · cases h
          · cases h
        · cases h
      · cases h
    · rename_i fs hT
      rw [cond_eq_ite] at h
      split at h
      · rename_i hb
        rw [Bool.and_eq_true] at hb
        obtain ⟨hb1, hb2⟩ := hb
        have hb1 : P.stoodInHeld t = false := by simpa using hb1
        refine ⟨ag sx, ag sy, .inr ⟨.inl ⟨fs, hT⟩, rfl⟩, .inr ⟨.inl ⟨fs, hT⟩, rfl⟩, fun q => ?_⟩
        refine eqs_struct hT hb1 hb2 ?_
        clear hb2
        generalize fs.toList = l at h
        induction l generalizing b with
        | nil => cases h; exact .nil
        | cons f l ihl =>
          simp only [List.foldr_cons] at h
          split at h
          · rename_i n b' hw hacc
            split at h
            · rename_i p1 a p2 q1 c q2 hc1 hc2
              split at h
              · rename_i b1 hE
                cases h
                obtain ⟨s1, s2, s3, e1, k1, k2, k3, l1, l2, _⟩ := cut_segs hc1 hx
                obtain ⟨r1, r2, r3, e2, j1, j2, j3, m1, m2, _⟩ := cut_segs hc2 hy
                obtain ⟨vx, vy, hvx, hvy, hE⟩ := ih _ _ _ _ _ _ hE k2 j2
                exact .cons (hvx.part s1 s3 hw l2 e1 l1) (hvy.part r1 r3 hw m2 e2 m1) (hE q) (ihl _ hacc)
              · cases h
            · cases h
          · cases h
      · cases h
    · cases h

theorem eqAgg_sound {t u : TypeId} {op : BinOp} {x y : Operand} {l l' : List L} (H : Rel M S w0 h g w) (hx : Rv (memOf M S w0 h g w) (.ag l) (ev r x)) (hy : Rv (memOf M S w0 h g w) (.ag l') (ev r y))
    (hk : (bif P.eqGuardType P.depth t || isScal P t then none else match eqTy P depth t l l', op with | some b, .eql => K (.one (.b b)) h | some b, .neq => K (.one (.b (!b))) h | _, _ => none) = some res) :
    Step P ⟨d, .binOp op t x y u, ty, pos, aft, gd⟩ r w (After M S w0 h g w K res) := by
  rw [cond_eq_ite] at hk
  split at hk
  · cases hk
  · rename_i hb
    rw [Bool.or_eq_true, not_or] at hb
    obtain ⟨hb1, hb2⟩ := hb
    have hb1 : P.eqGuardType P.depth t = false := by simpa using hb1
    obtain ⟨s, ex, hs⟩ := hx
    obtain ⟨s', ey, hs'⟩ := hy
    split at hk
    · rename_i b _ hE
      obtain ⟨vx, vy, h1, h2, h3⟩ := eqTy_sound _ _ _ _ _ _ _ hE hs hs'
      have h3 := h3 (9999 - depth)
      rcases h1 with ⟨h1, _⟩ | ⟨_, rfl⟩
      · exact absurd h1 hb2
      rcases h2 with ⟨h2, _⟩ | ⟨_, rfl⟩
      · exact absurd h2 hb2
      exact .value (w' := w) (ex_eqA hb1 ex ey h3) ⟨_, h, g, H, .refl _, mk_bool, hk⟩
    · rename_i b _ hE
      obtain ⟨vx, vy, h1, h2, h3⟩ := eqTy_sound _ _ _ _ _ _ _ hE hs hs'
      have h3 := h3 (9999 - depth)
      rcases h1 with ⟨h1, _⟩ | ⟨_, rfl⟩
      · exact absurd h1 hb2
      rcases h2 with ⟨h2, _⟩ | ⟨_, rfl⟩
      · exact absurd h2 hb2
      exact .value (w' := w) (ex_neA hb1 ex ey h3) ⟨_, h, g, H, .refl _, mk_bool, hk⟩
    · cases hk
end
end Go.Dor
end

section
/- SHAPES: what is taken stands for what is given. Plain lemmas over any program. -/
namespace Go.Dor
open Go.RowKit (Below)

/-! ### numbers -/
structure Tk.Le (a b : Tk) : Prop where
  r : ∀ i id, findN a.r i = some id → findN b.r i = some id
  fz : ∀ id ∈ a.fz, id ∈ b.fz
theorem Tk.Le.refl (a : Tk) : a.Le a := ⟨fun _ _ h => h, fun _ h => h⟩
theorem Tk.Le.trans {a b c : Tk} (h : a.Le b) (k : b.Le c) : a.Le c := ⟨fun i id q => k.r i id (h.r i id q), fun id q => k.fz id (h.fz id q)⟩

theorem bindN_sound {k k' : Tk} {i id : Nat} (h : bindN k i id = some k') : k.Le k' ∧ findN k'.r i = some id := by
  unfold bindN at h
  split at h
  · rename_i id' h1
    rw [cond_eq_ite] at h
    split at h
    · rename_i h2
      cases h
      exact ⟨.refl _, by rw [h1, Nat.eq_of_beq_eq_true h2]⟩
    · cases h
  · rename_i h1
    rw [cond_eq_ite] at h
    split at h
    · cases h
    · cases h
      refine ⟨⟨fun j id' hj => ?_, fun _ q => q⟩, by simp [findN]⟩
      simp only [findN]
      by_cases e : i = j
      · subst e; rw [h1] at hj; cases hj
      · rw [Bool.eq_false_iff.2 fun q => e (Nat.eq_of_beq_eq_true q)]; exact hj
theorem bindNs_sound : ∀ {is ids : List Nat} {k k' : Tk}, bindNs k is ids = some k' → k.Le k' ∧ Al2 (fun i id => findN k'.r i = some id) is ids
  | [], [], k, k', h => by cases h; exact ⟨.refl _, trivial⟩
  | i :: is, id :: ids, k, k', h => by
    simp only [bindNs] at h
    split at h
    · rename_i k1 h1
      obtain ⟨h2, h3⟩ := bindN_sound h1
      obtain ⟨h4, h5⟩ := bindNs_sound h
      exact ⟨h2.trans h4, h4.r _ _ h3, h5⟩
    · cases h
  | [], _ :: _, _, _, h => by cases h
  | _ :: _, [], _, _, h => by cases h

/-- no number stands for two -/
def Tk.Inj (k : Tk) : Prop := ∀ i j id, findN k.r i = some id → findN k.r j = some id → i = j
theorem usedN_of : ∀ {r : List (Nat × Nat)} {i id : Nat}, findN r i = some id → usedN r id = true
  | [], _, _, h => by cases h
  | (a, b) :: l, i, id, h => by
    simp only [findN, usedN] at h ⊢
    cases e : Nat.beq a i with
    | true => rw [e] at h; cases h; simp
    | false => rw [e] at h; rw [usedN_of h]; cases Nat.beq b id <;> rfl
theorem bindN_inj {k k' : Tk} {i id : Nat} (h : bindN k i id = some k') (hk : k.Inj) : k'.Inj := by
  unfold bindN at h
  split at h
  · rw [cond_eq_ite] at h
    split at h
    · cases h; exact hk
    · cases h
  · rename_i h1
    rw [cond_eq_ite] at h
    split at h
    · cases h
    · rename_i h2
      cases h
      have hne : ∀ j, findN k.r j ≠ some id := fun j hj => h2 (usedN_of hj)
      intro a b x ha hb
      simp only [findN] at ha hb
      cases ea : Nat.beq i a with
      | true =>
        rw [ea] at ha; cases ha
        cases eb : Nat.beq i b with
        | true => rw [← Nat.eq_of_beq_eq_true ea, ← Nat.eq_of_beq_eq_true eb]
        | false => rw [eb] at hb; exact absurd hb (hne b)
      | false =>
        rw [ea] at ha
        cases eb : Nat.beq i b with
        | true => rw [eb] at hb; cases hb; exact absurd ha (hne a)
        | false => rw [eb] at hb; exact hk a b x ha hb
theorem bindNs_inj : ∀ {is ids : List Nat} {k k' : Tk}, bindNs k is ids = some k' → k.Inj → k'.Inj
  | [], [], k, k', h, hk => by cases h; exact hk
  | i :: is, id :: ids, k, k', h, hk => by
    simp only [bindNs] at h
    split at h
    · rename_i k1 h1; exact bindNs_inj h (bindN_inj h1 hk)
    · cases h
  | [], _ :: _, _, _, h, _ => by cases h
  | _ :: _, [], _, _, h, _ => by cases h

/-! ### what is given for what is taken -/
structure Goal (m m' : Mem) (h : Hm) (k : Tk) : Prop where
  w : m'.w = m.w
  imm : ∀ b, m.I b → m'.I b
  fz : ∀ id ∈ k.fz, ∀ b, foot (m.g id) = some b → m'.I b
  rd : ∀ i id, findN k.r i = some id → ¬ m'.live i → ∀ b, foot (m.g id) = some b → (liveO h[id]? = true ∨ m.I b) → m'.I b
  r : ∀ i id, findN k.r i = some id → m'.g i = m.g id ∧ i < m'.n ∧ (m'.live i → m.live id)

theorem Goal.hI {m m' : Mem} {h : Hm} {k : Tk} (G : Goal m m' h k) : ∀ b, m.I b → m'.I b ∧ m'.w.heap[b]? = m.w.heap[b]? := fun b hb => ⟨G.imm b hb, by rw [G.w]⟩
theorem Goal.le {m m' : Mem} {h : Hm} {k k' : Tk} (G : Goal m m' h k') (l : k.Le k') : Goal m m' h k :=
  ⟨G.w, G.imm, fun id hid => G.fz id (l.fz id hid), fun i id hi => G.rd i id (l.r i id hi), fun i id hi => G.r i id (l.r i id hi)⟩

theorem giveL_at {m : Mem} {t : T} (ht : leafT t = true) {x : den t} {c : List Value} (h : At m.w m.I t x c) : Rl m (giveL ⟨t, x⟩) c := by
  cases t <;> first | exact h | (simp [leafT] at ht)

section
variable {m m' : Mem} {h : Hm}

theorem takeLd_sound (H : Objs m h) {k k' : Tk} {d : Ld} {ls rest : List L} {ds : List Dt} {s : List (List Value)} (ht : takeLd h k d ls = some (ds, rest, k')) (hs : Al2 (Rl m) ls s) :
    k.Le k' ∧ (k.Inj → k'.Inj) ∧ ∃ c s2, s = c :: s2 ∧ Al2 (Rl m) rest s2 ∧ ds.map (·.1) = d.ts ∧ ∀ (m' : Mem), Goal m m' h k' → ∀ more, ∃ y, giveLd id d (ds ++ more) = (y, more) ∧ Rl m' y c := by
  cases d with
  | im t =>
    simp only [takeLd] at ht
    rw [cond_eq_ite] at ht
    split at ht
    · rename_i hlt
      split at ht
      · rename_i x l f hd
        cases ht
        have one : ∃ y, ls = y :: rest := by
          cases t with
          | unit => simp [leafT] at hlt
          | pair => simp [leafT] at hlt
          | _ =>
            cases ls with
            | nil => simp [decL] at hd
            | cons y l =>
              refine ⟨y, ?_⟩
              cases y <;> simp only [decL] at hd <;> first | (cases hd; done) | (cases hd; rfl) | (split at hd <;> first | (cases hd; done) | (cases hd; rfl) | (split at hd <;> first | (cases hd; done) | (cases hd; rfl)))
        obtain ⟨y, rfl⟩ := one
        obtain ⟨c, s2, rfl, h1, h2⟩ := hs.cons_left
        refine ⟨⟨fun _ _ q => q, fun id q => List.mem_append_left _ q⟩, fun q => q, c, s2, rfl, h2, rfl, fun m' G more => ⟨giveL ⟨t, x⟩, rfl, giveL_at hlt ?_⟩⟩
        have hlv := decL_live _ _ _ _ _ hd
        have hsingle : Al2 (Rl m) (y :: rest) (c :: s2) := ⟨h1, h2⟩
        obtain ⟨l1, s1, s2', e1, e2, h3, h4, h5⟩ := decL_sound (m' := m') H G.hI (fun b _ => by rw [G.w]) _ _ _ _ _ _ hd (fun id hid b hb => G.fz id (List.mem_append_right _ hid) b hb) hsingle
        have e3 : l1 = [y] := by
          have : [y] ++ rest = l1 ++ rest := e1
          exact (List.append_cancel_right this).symm
        subst e3
        obtain ⟨c', s', rfl, h6, h7⟩ := h4.cons_left
        have := h7.nil_left
        subst this
        simp only [List.cons_append, List.nil_append, List.cons.injEq] at e2
        rw [flat_one, ← e2.1] at h3
        exact h3
      · cases ht
    · cases ht
  | own i =>
    cases ls with
    | nil => simp [takeLd] at ht
    | cons y l =>
      cases y <;> simp only [takeLd] at ht <;> try (cases ht)
      split at ht
      · rename_i id _ k1 hb
        cases ht
        obtain ⟨c, s2, rfl, h1, h2⟩ := hs.cons_left
        obtain ⟨h3, h4⟩ := bindN_sound hb
        refine ⟨h3, bindN_inj hb, c, s2, rfl, h2, rfl, fun m' G more => ⟨_, rfl, ?_⟩⟩
        obtain ⟨_, v, h5, h6, h7, h8⟩ := h1
        obtain ⟨g1, g2, g3⟩ := G.r _ _ h4
        exact ⟨g2, v, h5, h6, h7, fun q => by rw [show (_root_.id i : Nat) = i from rfl, g1]; exact h8 (g3 q)⟩
      · cases ht
  | ptr i off =>
    cases ls with
    | nil => simp [takeLd] at ht
    | cons y l =>
      cases y <;> simp only [takeLd] at ht <;> try (cases ht)
      rw [cond_eq_ite] at ht
      split at ht
      · rename_i hoff
        have hoff := Nat.eq_of_beq_eq_true hoff
        subst hoff
        split at ht
        · rename_i k1 hb
          cases ht
          obtain ⟨c, s2, rfl, h1, h2⟩ := hs.cons_left
          obtain ⟨h3, h4⟩ := bindN_sound hb
          refine ⟨h3, bindN_inj hb, c, s2, rfl, h2, rfl, fun m' G more => ⟨_, rfl, ?_⟩⟩
          obtain ⟨_, b, h5, h6⟩ := h1
          obtain ⟨g1, g2, g3⟩ := G.r _ _ h4
          exact ⟨g2, b, by rw [show (_root_.id i : Nat) = i from rfl, g1]; exact h5, h6⟩
        · cases ht
      · cases ht
  | vw i z =>
    cases ls with
    | nil => simp [takeLd] at ht
    | cons y l =>
      cases y <;> simp only [takeLd] at ht <;> try (cases ht)
      rw [cond_eq_ite] at ht
      split at ht
      · rename_i hz
        have hz := Nat.eq_of_beq_eq_true hz
        subst hz
        split at ht
        · rename_i k1 hb
          cases ht
          obtain ⟨c, s2, rfl, h1, h2⟩ := hs.cons_left
          obtain ⟨h3, h4⟩ := bindN_sound hb
          refine ⟨h3, bindN_inj hb, c, s2, rfl, h2, rfl, fun m' G more => ⟨_, rfl, ?_⟩⟩
          obtain ⟨_, h6⟩ := h1
          obtain ⟨g1, g2, g3⟩ := G.r _ _ h4
          exact ⟨g2, by rw [show (_root_.id i : Nat) = i from rfl, g1]; exact h6⟩
        · cases ht
      · cases ht
  | np | nil | nf | ni =>
    cases ls with
    | nil => simp [takeLd] at ht
    | cons y l =>
      cases y <;> simp only [takeLd] at ht <;> cases ht
      obtain ⟨c, s2, rfl, h1, h2⟩ := hs.cons_left
      exact ⟨.refl _, fun q => q, c, s2, rfl, h2, rfl, fun m' G more => ⟨_, rfl, h1⟩⟩
  | lb b =>
    cases ls with
    | nil => cases b <;> simp [takeLd] at ht
    | cons y l =>
      cases b <;> cases y <;> simp only [takeLd] at ht <;> try (cases ht)
      all_goals
        rename_i x
        cases x <;> simp only at ht <;> cases ht
        obtain ⟨c, s2, rfl, h1, h2⟩ := hs.cons_left
        exact ⟨.refl _, fun q => q, c, s2, rfl, h2, rfl, fun m' G more => ⟨_, rfl, h1⟩⟩
  | mp i off =>
    cases ls with
    | nil => simp [takeLd] at ht
    | cons y l =>
      cases y <;> simp only [takeLd] at ht <;> try (cases ht; done)
      · rw [cond_eq_ite] at ht
        split at ht
        · rename_i hoff
          have hoff := Nat.eq_of_beq_eq_true hoff
          subst hoff
          split at ht
          · rename_i k1 hb
            cases ht
            obtain ⟨c, s2, rfl, h1, h2⟩ := hs.cons_left
            obtain ⟨h3, h4⟩ := bindN_sound hb
            refine ⟨h3, bindN_inj hb, c, s2, rfl, h2, rfl, fun m' G more => ⟨_, rfl, ?_⟩⟩
            obtain ⟨_, b, h5, h6⟩ := h1
            obtain ⟨g1, g2, g3⟩ := G.r _ _ h4
            exact .inr ⟨g2, b, by rw [show (_root_.id i : Nat) = i from rfl, g1]; exact h5, h6⟩
          · cases ht
        · cases ht
      · cases ht
        obtain ⟨c, s2, rfl, h1, h2⟩ := hs.cons_left
        exact ⟨.refl _, fun q => q, c, s2, rfl, h2, rfl, fun m' G more => ⟨_, rfl, .inl h1⟩⟩
      · rw [cond_eq_ite] at ht
        split at ht
        · rename_i hoff
          have hoff := Nat.eq_of_beq_eq_true hoff
          subst hoff
          split at ht
          · rename_i k1 hb
            cases ht
            obtain ⟨c, s2, rfl, h1, h2⟩ := hs.cons_left
            obtain ⟨h3, h4⟩ := bindN_sound hb
            refine ⟨h3, bindN_inj hb, c, s2, rfl, h2, rfl, fun m' G more => ⟨_, rfl, ?_⟩⟩
            rcases h1 with h1 | ⟨_, b, h5, h6⟩
            · exact .inl h1
            · obtain ⟨g1, g2, g3⟩ := G.r _ _ h4
              exact .inr ⟨g2, b, by rw [show (_root_.id i : Nat) = i from rfl, g1]; exact h5, h6⟩
          · cases ht
        · cases ht
  | fn f is =>
    cases ls with
    | nil => simp [takeLd] at ht
    | cons y l =>
      cases y <;> simp only [takeLd] at ht <;> try (cases ht)
      rw [cond_eq_ite] at ht
      split at ht
      · rename_i hff
        have hff := Nat.eq_of_beq_eq_true hff
        subst hff
        split at ht
        · rename_i ids _ k1 hb
          cases ht
          obtain ⟨c, s2, rfl, h1, h2⟩ := hs.cons_left
          obtain ⟨h3, h4⟩ := bindNs_sound hb
          refine ⟨h3, bindNs_inj hb, c, s2, rfl, h2, rfl, fun m' G more => ⟨_, rfl, ?_⟩⟩
          obtain ⟨h5, h6⟩ := h1
          have key : ∀ {is ids : List Nat}, Al2 (fun i id => findN k'.r i = some id) is ids → (∀ i ∈ ids, i < m.n ∧ isPtr (m.g i)) → (∀ i ∈ is, i < m'.n ∧ isPtr (m'.g i)) ∧ is.map m'.g = ids.map m.g := by
            intro is
            induction is with
            | nil => intro ids h _; have := h.nil_left; subst this; simp
            | cons i is ih =>
              intro ids h hq
              obtain ⟨id, ids, rfl, h7, h8⟩ := h.cons_left
              obtain ⟨g1, g2, g3⟩ := G.r _ _ h7
              obtain ⟨i1, i2⟩ := ih h8 fun j hj => hq j (List.mem_cons_of_mem _ hj)
              refine ⟨fun j hj => ?_, by simp [g1, i2]⟩
              rcases List.mem_cons.1 hj with rfl | hj
              · exact ⟨g2, by rw [g1]; exact (hq id (by simp)).2⟩
              · exact i1 j hj
          obtain ⟨i1, i2⟩ := key h4 h5
          have e : is.map _root_.id = is := by simp
          refine ⟨?_, ?_⟩
          · rw [e]; exact i1
          · rw [e, i2]; exact h6
        · cases ht
      · cases ht

theorem takeLds_sound (H : Objs m h) : ∀ {d : List Ld} {k k' : Tk} {ls rest : List L} {ds : List Dt} {s : List (List Value)}, takeLds h k d ls = some (ds, rest, k') → Al2 (Rl m) ls s →
    k.Le k' ∧ (k.Inj → k'.Inj) ∧ ∃ s1 s2, s = s1 ++ s2 ∧ Al2 (Rl m) rest s2 ∧ ds.map (·.1) = Lds.ts d ∧ ∀ (m' : Mem), Goal m m' h k' → ∀ more, ∃ y, giveLds id d (ds ++ more) = (y, more) ∧ Al2 (Rl m') y s1
  | [], k, k', ls, rest, ds, s, ht, hs => by
    cases ht
    exact ⟨.refl _, fun q => q, [], s, rfl, hs, rfl, fun m' G more => ⟨[], rfl, trivial⟩⟩
  | x :: d, k, k', ls, rest, ds, s, ht, hs => by
    simp only [takeLds] at ht
    split at ht
    · rename_i ds1 l1 k1 h1
      split at ht
      · rename_i ds2 l2 k2 h2
        cases ht
        obtain ⟨a1, a2, c, s2, rfl, a3, a4, a5⟩ := takeLd_sound H h1 hs
        obtain ⟨b1, b2, s3, s4, rfl, b3, b4, b5⟩ := takeLds_sound H h2 a3
        refine ⟨a1.trans b1, fun q => b2 (a2 q), c :: s3, s4, rfl, b3, by simp [a4, b4, Lds.ts], fun m' G more => ?_⟩
        obtain ⟨y, e1, r1⟩ := a5 m' (G.le b1) (ds2 ++ more)
        obtain ⟨ys, e2, r2⟩ := b5 m' G more
        refine ⟨y :: ys, ?_, r1, r2⟩
        simp only [giveLds, List.append_assoc, e1, e2]
      · cases ht
    · cases ht

theorem decWhole (H : Objs m h) {t : T} {ls : List L} {x : den t} {f : List Nat} {s : List (List Value)} {k : Tk} (hd : decL t ls h = some (x, [], f)) (hs : Al2 (Rl m) ls s) (G : Goal m m' h ⟨k.r, k.fz ++ f⟩) : ∃ s', s.flatten = s'.flatten ∧ Al2 (Rl m') (enc t x) s' := by
  obtain ⟨l1, s1, s2, e1, e2, h3, _, h5⟩ := decL_sound (m' := m') H G.hI (fun b _ => by rw [G.w]) _ _ _ _ _ _ hd (fun id hid b hb => G.fz id (List.mem_append_right _ hid) b hb) hs
  have := h5.nil_left
  subst this
  rw [List.append_nil] at e2
  subst e2
  obtain ⟨s', h6, h7⟩ := At.enc (m := m') _ _ _ h3
  exact ⟨s', h6, h7⟩

theorem ag_flat {s s' : List (List Value)} (h : s.flatten = s'.flatten) : ag s = ag s' := by simp [ag, cells, h]
theorem cells_flat {s s' : List (List Value)} (h : s.flatten = s'.flatten) : cells s = cells s' := by simp [cells, h]

theorem takeVd_sound (H : Objs m h) {k k' : Tk} {d : Vd} {v : V} {ds : List Dt} {val : Value} (ht : takeVd h k d v = some (ds, k')) (hv : Rv m v val) :
    k.Le k' ∧ (k.Inj → k'.Inj) ∧ ds.map (·.1) = d.ts ∧ ∀ (m' : Mem), Goal m m' h k' → ∀ more, ∃ y, giveVd id d (ds ++ more) = (y, more) ∧ Rv m' y val := by
  unfold takeVd at ht
  split at ht
  · rename_i x y
    split at ht
    · rename_i ds1 k1 h1
      cases ht
      obtain ⟨a1, a2, c, s2, e, a3, a4, a5⟩ := takeLd_sound H h1 (s := [[val]]) ⟨hv, trivial⟩
      cases e
      refine ⟨a1, a2, a4, fun m' G more => ?_⟩
      obtain ⟨y, e1, r1⟩ := a5 m' G more
      exact ⟨.one y, by simp only [giveVd, e1], r1⟩
    · cases ht
  · rename_i ls l
    split at ht
    · rename_i ds1 k1 h1
      cases ht
      obtain ⟨s, e, hs⟩ := hv
      obtain ⟨a1, a2, s1, s2, e', a3, a4, a5⟩ := takeLds_sound H h1 hs
      have := a3.nil_left
      subst this
      rw [List.append_nil] at e'
      subst e'
      refine ⟨a1, a2, a4, fun m' G more => ?_⟩
      obtain ⟨y, e1, r1⟩ := a5 m' G more
      exact ⟨.ag y, by simp only [giveVd, e1], s, e, r1⟩
    · cases ht
  · rename_i t l
    split at ht
    · rename_i x f hd
      cases ht
      obtain ⟨s, e, hs⟩ := hv
      refine ⟨⟨fun _ _ q => q, fun id q => List.mem_append_left _ q⟩, fun q => q, rfl, fun m' G more => ?_⟩
      obtain ⟨s', e1, r1⟩ := decWhole H hd hs G
      exact ⟨.ag (enc t x), rfl, s', by rw [e, ag_flat e1], r1⟩
    · cases ht
  · cases ht

theorem takeVds_sound (H : Objs m h) : ∀ {d : List Vd} {k k' : Tk} {vs : List V} {ds : List Dt} {vals : List Value}, takeVds h k d vs = some (ds, k') → Al2 (Rv m) vs vals →
    k.Le k' ∧ (k.Inj → k'.Inj) ∧ ds.map (·.1) = Vds.ts d ∧ ∀ (m' : Mem), Goal m m' h k' → ∀ more, ∃ y, giveVds id d (ds ++ more) = (y, more) ∧ Al2 (Rv m') y vals
  | [], k, k', vs, ds, vals, ht, hs => by
    cases vs with
    | nil => cases ht; have := hs.nil_left; subst this; exact ⟨.refl _, fun q => q, rfl, fun m' G more => ⟨[], rfl, trivial⟩⟩
    | cons v vs => cases ht
  | x :: d, k, k', vs, ds, vals, ht, hs => by
    cases vs with
    | nil => cases ht
    | cons v vs =>
      simp only [takeVds] at ht
      split at ht
      · rename_i ds1 k1 h1
        split at ht
        · rename_i ds2 k2 h2
          cases ht
          obtain ⟨val, vals, rfl, hv, hs⟩ := hs.cons_left
          obtain ⟨a1, a2, a4, a5⟩ := takeVd_sound H h1 hv
          obtain ⟨b1, b2, b4, b5⟩ := takeVds_sound H h2 hs
          refine ⟨a1.trans b1, fun q => b2 (a2 q), by simp [a4, b4, Vds.ts], fun m' G more => ?_⟩
          obtain ⟨y, e1, r1⟩ := a5 m' (G.le b1) (ds2 ++ more)
          obtain ⟨ys, e2, r2⟩ := b5 m' G more
          refine ⟨y :: ys, ?_, r1, r2⟩
          simp only [giveVds, List.append_assoc, e1, e2]
        · cases ht
      · cases ht
end
end Go.Dor
end

section
/- STATES OF A SHAPE: where ways meet, where loops begin. Plain lemmas over any program. -/
namespace Go.Dor
open Go.RowKit (Below)

section
variable {m m' : Mem} {h : Hm}

theorem takeLd_fz {k k' : Tk} {d : Ld} {ls rest : List L} {ds : List Dt} (ht : takeLd h k d ls = some (ds, rest, k')) (hk : ∀ id ∈ k.fz, lives h id) : ∀ id ∈ k'.fz, lives h id := by
  have bn : ∀ {k k' : Tk} {i id : Nat}, bindN k i id = some k' → k'.fz = k.fz := by
    intro k k' i id hb
    unfold bindN at hb
    split at hb
    · rw [cond_eq_ite] at hb; split at hb <;> cases hb; rfl
    · rw [cond_eq_ite] at hb; split at hb <;> cases hb; rfl
  have bns : ∀ {is ids : List Nat} {k k' : Tk}, bindNs k is ids = some k' → k'.fz = k.fz := by
    intro is
    induction is with
    | nil => intro ids k k' hb; cases ids <;> cases hb; rfl
    | cons i is ih =>
      intro ids k k' hb
      cases ids with
      | nil => cases hb
      | cons id ids =>
        simp only [bindNs] at hb
        split at hb
        · rename_i k1 h1; rw [ih hb, bn h1]
        · cases hb
  cases d with
  | im t =>
    simp only [takeLd] at ht
    rw [cond_eq_ite] at ht
    split at ht
    · split at ht
      · rename_i x l f hd
        cases ht
        intro id hid
        rcases List.mem_append.1 hid with h1 | h1
        · exact hk id h1
        · exact decL_live _ _ _ _ _ hd id h1
      · cases ht
    · cases ht
  | own i =>
    cases ls with
    | nil => simp [takeLd] at ht
    | cons y l =>
      cases y <;> simp only [takeLd] at ht <;> try (cases ht)
      split at ht
      · rename_i k1 hb; cases ht; rw [bn hb]; exact hk
      · cases ht
  | ptr i off =>
    cases ls with
    | nil => simp [takeLd] at ht
    | cons y l =>
      cases y <;> simp only [takeLd] at ht <;> try (cases ht)
      rw [cond_eq_ite] at ht
      split at ht
      · split at ht
        · rename_i k1 hb; cases ht; rw [bn hb]; exact hk
        · cases ht
      · cases ht
  | vw i z =>
    cases ls with
    | nil => simp [takeLd] at ht
    | cons y l =>
      cases y <;> simp only [takeLd] at ht <;> try (cases ht)
      rw [cond_eq_ite] at ht
      split at ht
      · split at ht
        · rename_i k1 hb; cases ht; rw [bn hb]; exact hk
        · cases ht
      · cases ht
  | np | nil | nf | ni =>
    cases ls with
    | nil => simp [takeLd] at ht
    | cons y l => cases y <;> simp only [takeLd] at ht <;> cases ht; exact hk
  | lb b =>
    cases ls with
    | nil => cases b <;> simp [takeLd] at ht
    | cons y l =>
      cases b <;> cases y <;> simp only [takeLd] at ht <;> try (cases ht)
      all_goals
        rename_i x
        cases x <;> simp only at ht <;> cases ht
        exact hk
  | mp i off =>
    cases ls with
    | nil => simp [takeLd] at ht
    | cons y l =>
      cases y <;> simp only [takeLd] at ht <;> try (cases ht; done)
      · rw [cond_eq_ite] at ht
        split at ht
        · split at ht
          · rename_i k1 hb; cases ht; rw [bn hb]; exact hk
          · cases ht
        · cases ht
      · cases ht; exact hk
      · rw [cond_eq_ite] at ht
        split at ht
        · split at ht
          · rename_i k1 hb; cases ht; rw [bn hb]; exact hk
          · cases ht
        · cases ht
  | fn f is =>
    cases ls with
    | nil => simp [takeLd] at ht
    | cons y l =>
      cases y <;> simp only [takeLd] at ht <;> try (cases ht)
      rw [cond_eq_ite] at ht
      split at ht
      · split at ht
        · rename_i k1 hb; cases ht; rw [bns hb]; exact hk
        · cases ht
      · cases ht
theorem takeLds_fz : ∀ {d : List Ld} {k k' : Tk} {ls rest : List L} {ds : List Dt}, takeLds h k d ls = some (ds, rest, k') → (∀ id ∈ k.fz, lives h id) → ∀ id ∈ k'.fz, lives h id
  | [], k, k', ls, rest, ds, ht, hk => by cases ht; exact hk
  | x :: d, k, k', ls, rest, ds, ht, hk => by
    simp only [takeLds] at ht
    split at ht
    · rename_i ds1 l1 k1 h1
      split at ht
      · rename_i ds2 l2 k2 h2
        cases ht
        exact takeLds_fz h2 (takeLd_fz h1 hk)
      · cases ht
    · cases ht
theorem takeVd_fz {k k' : Tk} {d : Vd} {v : V} {ds : List Dt} (ht : takeVd h k d v = some (ds, k')) (hk : ∀ id ∈ k.fz, lives h id) : ∀ id ∈ k'.fz, lives h id := by
  unfold takeVd at ht
  split at ht
  · split at ht
    · rename_i h1; cases ht; exact takeLd_fz h1 hk
    · cases ht
  · split at ht
    · rename_i h1; cases ht; exact takeLds_fz h1 hk
    · cases ht
  · split at ht
    · rename_i x f hd
      cases ht
      intro id hid
      rcases List.mem_append.1 hid with h1 | h1
      · exact hk id h1
      · exact decL_live _ _ _ _ _ hd id h1
    · cases ht
  · cases ht
theorem takeVds_fz : ∀ {d : List Vd} {k k' : Tk} {vs : List V} {ds : List Dt}, takeVds h k d vs = some (ds, k') → (∀ id ∈ k.fz, lives h id) → ∀ id ∈ k'.fz, lives h id
  | [], k, k', vs, ds, ht, hk => by cases vs <;> cases ht; exact hk
  | x :: d, k, k', vs, ds, ht, hk => by
    cases vs with
    | nil => cases ht
    | cons v vs =>
      simp only [takeVds] at ht
      split at ht
      · rename_i ds1 k1 h1
        split at ht
        · rename_i ds2 k2 h2; cases ht; exact takeVds_fz h2 (takeVd_fz h1 hk)
        · cases ht
      · cases ht

theorem beqN {a b : Nat} (h : Nat.beq a b = true) : a = b := Nat.eq_of_beq_eq_true h

/-! #### what is given hangs on its data alone -/
theorem map_split {α β : Type} {f : α → β} : ∀ {l : List α} {a b : List β}, l.map f = a ++ b → ∃ l1 l2, l = l1 ++ l2 ∧ l1.map f = a ∧ l2.map f = b
  | l, [], b, h => ⟨[], l, rfl, rfl, h⟩
  | [], a :: a2, b, h => by simp at h
  | x :: l, a :: a2, b, h => by
    simp only [List.map_cons, List.cons_append, List.cons.injEq] at h
    obtain ⟨l1, l2, rfl, h1, h2⟩ := map_split h.2
    exact ⟨x :: l1, l2, rfl, by simp [h.1, h1], h2⟩
variable {f : Nat → Nat}
theorem giveLd_app {d : Ld} {ds : List Dt} (h : ds.map (·.1) = d.ts) (more : List Dt) : giveLd f d (ds ++ more) = ((giveLd f d ds).1, more) := by
  cases d with
  | im t =>
    cases ds with
    | nil => simp [Ld.ts] at h
    | cons x l =>
      have : l = [] := by simp [Ld.ts] at h; exact h.2
      subst this; rfl
  | vw i z =>
    cases ds with
    | nil => simp [Ld.ts] at h
    | cons x l =>
      have : l = [] := by simp [Ld.ts] at h; exact h.2
      subst this; rfl
  | _ =>
    have : ds = [] := by simpa [Ld.ts] using h
    subst this; rfl
theorem giveLds_app : ∀ {d : List Ld} {ds : List Dt} (_ : ds.map (·.1) = Lds.ts d) (more : List Dt), giveLds f d (ds ++ more) = ((giveLds f d ds).1, more)
  | [], ds, h, more => by
    have : ds = [] := by simpa [Lds.ts] using h
    subst this; rfl
  | x :: d, ds, h, more => by
    obtain ⟨l1, l2, rfl, h1, h2⟩ := map_split h
    simp only [giveLds, List.append_assoc, giveLd_app h1, giveLds_app h2]
theorem giveVd_app {d : Vd} {ds : List Dt} (h : ds.map (·.1) = d.ts) (more : List Dt) : giveVd f d (ds ++ more) = ((giveVd f d ds).1, more) := by
  cases d with
  | one x => simp only [giveVd, giveLd_app (d := x) h]
  | ag ls => simp only [giveVd, giveLds_app (d := ls) h]
  | st t =>
    cases ds with
    | nil => simp [Vd.ts] at h
    | cons x l =>
      have : l = [] := by simp [Vd.ts] at h; exact h.2
      subst this; rfl
theorem giveVds_app : ∀ {d : List Vd} {ds : List Dt} (_ : ds.map (·.1) = Vds.ts d) (more : List Dt), giveVds f d (ds ++ more) = ((giveVds f d ds).1, more)
  | [], ds, h, more => by
    have : ds = [] := by simpa [Vds.ts] using h
    subst this; rfl
  | x :: d, ds, h, more => by
    obtain ⟨l1, l2, rfl, h1, h2⟩ := map_split h
    simp only [giveVds, List.append_assoc, giveVd_app h1, giveVds_app h2]
theorem giveOd_app {d : Od} {ds : List Dt} (h : ds.map (·.1) = d.ts) (more : List Dt) : giveOd f d (ds ++ more) = ((giveOd f d ds).1, more) := by
  cases d with
  | blk ty ls => simp only [giveOd, giveLds_app (d := ls) h]
  | rd ty ls => simp only [giveOd, giveLds_app (d := ls) h]
  | gone =>
    have : ds = [] := by simpa [Od.ts] using h
    subst this; rfl
  | blkT ty t | rdT ty t =>
    cases ds with
    | nil => simp [Od.ts] at h
    | cons x l =>
      have : l = [] := by simp [Od.ts] at h; exact h.2
      subst this; rfl
  | arr ty t | fix ty t =>
    cases ds with
    | nil => simp [Od.ts] at h
    | cons x l =>
      simp only [Od.ts, List.map_cons, List.cons.injEq, List.map_eq_nil_iff] at h
      obtain ⟨h1, rfl⟩ := h
      obtain ⟨t', x⟩ := x
      dsimp only at h1; subst h1; rfl
theorem takeOd_sound (H : Objs m h) {k k' : Tk} {d : Od} {o : Ob} {i id : Nat} {ds : List Dt} (ht : takeOd h k d o = some (ds, k')) (ho : h[id]? = some o) (hi : findN k.r i = some id) (hk : ∀ id ∈ k.fz, lives h id) :
    k.Le k' ∧ (k.Inj → k'.Inj) ∧ (∀ id ∈ k'.fz, lives h id) ∧ ds.map (·.1) = d.ts ∧ (odLive d = true → lives h id) ∧
      liveO (some (giveOd _root_.id d ds).1) = odLive d ∧ ∀ m', Goal m m' h k' → (odLive d = false → ¬ m'.live i) → Ho m' (m.g id) (giveOd _root_.id d ds).1 := by
  have hO := H.ho _ _ ho
  -- a variable's leaves; its whole data
  have leavesCase : ∀ {ls : List Ld} {l : List L} {ds : List Dt} {k1 : Tk} {s : List (List Value)}, takeLds h k ls l = some (ds, [], k1) → Al2 (Rl m) l s → k.Le k1 ∧ (k.Inj → k1.Inj) ∧ (∀ id ∈ k1.fz, lives h id) ∧ ds.map (·.1) = Lds.ts ls ∧
      ∀ m', Goal m m' h k1 → Al2 (Rl m') (giveLds _root_.id ls ds).1 s := by
    intro ls l ds k1 s h1 hs
    obtain ⟨a1, a2, s1, s2, e', a3, a4, a5⟩ := takeLds_sound H h1 hs
    have := a3.nil_left
    subst this
    rw [List.append_nil] at e'
    subst e'
    refine ⟨a1, a2, takeLds_fz h1 hk, a4, fun m' G => ?_⟩
    obtain ⟨y, e3, r1⟩ := a5 m' G []
    rw [List.append_nil] at e3
    rw [e3]; exact r1
  have dataCase : ∀ {t : T} {l : List L} {x : den t} {f : List Nat} {s : List (List Value)}, decL t l h = some (x, [], f) → Al2 (Rl m) l s → k.Le ⟨k.r, k.fz ++ f⟩ ∧ (k.Inj → Tk.Inj ⟨k.r, k.fz ++ f⟩) ∧ (∀ id ∈ k.fz ++ f, lives h id) ∧
      ∀ m', Goal m m' h ⟨k.r, k.fz ++ f⟩ → ∃ s', s.flatten = s'.flatten ∧ Al2 (Rl m') (enc t x) s' := by
    intro t l x f s hd hs
    refine ⟨⟨fun _ _ q => q, fun id q => List.mem_append_left _ q⟩, fun q => q, fun id hid => ?_, fun m' G => decWhole H hd hs G⟩
    rcases List.mem_append.1 hid with h1 | h1
    · exact hk id h1
    · exact decL_live _ _ _ _ _ hd id h1
  -- read alone: nobody writes it
  have rdCase : ∀ {m' : Mem} {k1 : Tk} {b : Nat}, k.Le k1 → Goal m m' h k1 → ¬ m'.live i → m.g id = .pointer (some ⟨b, 0, none⟩) → (liveO h[id]? = true ∨ m.I b) → m'.I b := fun l G hl e hb =>
    G.rd i id (l.r _ _ hi) hl _ (by rw [e]; rfl) hb
  unfold takeOd at ht
  split at ht
  · -- blk
    rename_i ty ls ty' l
    rw [cond_eq_ite] at ht
    split at ht
    · rename_i hty
      have := beqN hty; subst this
      split at ht
      · rename_i h1
        cases ht
        obtain ⟨b, s, e1, e2, hs⟩ := hO
        obtain ⟨a1, a2, a3, a4, a5⟩ := leavesCase h1 hs
        exact ⟨a1, a2, a3, a4, fun _ => by simp [lives, ho, liveO], rfl, fun m' G _ => ⟨b, s, e1, by rw [G.w]; exact e2, a5 m' G⟩⟩
      · cases ht
    · cases ht
  · rename_i ty t ty' l
    rw [cond_eq_ite] at ht
    split at ht
    · rename_i hty
      have := beqN hty; subst this
      split at ht
      · rename_i x f hd
        cases ht
        obtain ⟨b, s, e1, e2, hs⟩ := hO
        obtain ⟨a1, a2, a3, a5⟩ := dataCase hd hs
        refine ⟨a1, a2, a3, rfl, fun _ => by simp [lives, ho, liveO], rfl, fun m' G _ => ?_⟩
        obtain ⟨s', e3, r1⟩ := a5 m' G
        exact ⟨b, s', e1, by rw [G.w, ← cells_flat e3]; exact e2, r1⟩
      · cases ht
    · cases ht
  · rename_i ty t ty' t' xs
    rw [cond_eq_ite] at ht
    split at ht
    · rename_i hty
      have := beqN hty; subst this
      split at ht
      · rename_i ys hc
        cases ht
        obtain ⟨e1, e2⟩ := castL_sound hc
        subst e1; dsimp only at e2; subst e2
        obtain ⟨zs, h1, h2⟩ := hO
        exact ⟨.refl _, fun q => q, hk, rfl, fun _ => by simp [lives, ho, liveO], rfl, fun m' G _ => ⟨zs, by rw [G.w]; exact h1, h2.mono (At.mono G.hI _)⟩⟩
      · cases ht
    · cases ht
  · exact hO.elim
  · -- rd of blk
    rename_i ty ls ty' l
    rw [cond_eq_ite] at ht
    split at ht
    · rename_i hty
      have := beqN hty; subst this
      split at ht
      · rename_i h1
        cases ht
        obtain ⟨b, s, e1, e2, hs⟩ := hO
        obtain ⟨a1, a2, a3, a4, a5⟩ := leavesCase h1 hs
        exact ⟨a1, a2, a3, a4, (fun q => (by cases q)), rfl, fun m' G hl => ⟨b, s, e1, by rw [G.w]; exact e2, a5 m' G, rdCase a1 G (hl rfl) e1 (.inl (by rw [ho]; rfl))⟩⟩
      · cases ht
    · cases ht
  · rename_i ty ls ty' l
    rw [cond_eq_ite] at ht
    split at ht
    · rename_i hty
      have := beqN hty; subst this
      split at ht
      · rename_i h1
        cases ht
        obtain ⟨b, s, e1, e2, hs, hI⟩ := hO
        obtain ⟨a1, a2, a3, a4, a5⟩ := leavesCase h1 hs
        exact ⟨a1, a2, a3, a4, (fun q => (by cases q)), rfl, fun m' G hl => ⟨b, s, e1, by rw [G.w]; exact e2, a5 m' G, rdCase a1 G (hl rfl) e1 (.inr hI)⟩⟩
      · cases ht
    · cases ht
  · rename_i ty t ty' l
    rw [cond_eq_ite] at ht
    split at ht
    · rename_i hty
      have := beqN hty; subst this
      split at ht
      · rename_i x f hd
        cases ht
        obtain ⟨b, s, e1, e2, hs⟩ := hO
        obtain ⟨a1, a2, a3, a5⟩ := dataCase hd hs
        refine ⟨a1, a2, a3, rfl, (fun q => (by cases q)), rfl, fun m' G hl => ?_⟩
        obtain ⟨s', e3, r1⟩ := a5 m' G
        exact ⟨b, s', e1, by rw [G.w, ← cells_flat e3]; exact e2, r1, rdCase a1 G (hl rfl) e1 (.inl (by rw [ho]; rfl))⟩
      · cases ht
    · cases ht
  · rename_i ty t ty' l
    rw [cond_eq_ite] at ht
    split at ht
    · rename_i hty
      have := beqN hty; subst this
      split at ht
      · rename_i x f hd
        cases ht
        obtain ⟨b, s, e1, e2, hs, hI⟩ := hO
        obtain ⟨a1, a2, a3, a5⟩ := dataCase hd hs
        refine ⟨a1, a2, a3, rfl, (fun q => (by cases q)), rfl, fun m' G hl => ?_⟩
        obtain ⟨s', e3, r1⟩ := a5 m' G
        exact ⟨b, s', e1, by rw [G.w, ← cells_flat e3]; exact e2, r1, rdCase a1 G (hl rfl) e1 (.inr hI)⟩
      · cases ht
    · cases ht
  · cases ht
    exact ⟨.refl _, fun q => q, hk, rfl, (fun q => (by cases q)), rfl, fun m' G _ => trivial⟩
  · cases ht

theorem takeOds_sound (H : Objs m h) : ∀ {d : List Od} {k k' : Tk} {i : Nat} {ds : List Dt}, takeOds h k i d = some (ds, k') → (∀ id ∈ k.fz, lives h id) →
    k.Le k' ∧ (k.Inj → k'.Inj) ∧ (∀ id ∈ k'.fz, lives h id) ∧ ds.map (·.1) = Ods.ts d ∧ (giveOds _root_.id d ds).1.length = d.length ∧
      (∀ j o, (giveOds _root_.id d ds).1[j]? = some o → ∃ id, findN k'.r (i + j) = some id ∧ (liveO (some o) = true → lives h id) ∧ id < h.length) ∧
      ∀ m', Goal m m' h k' → (∀ j, m'.live (i + j) → liveO (giveOds _root_.id d ds).1[j]? = true) → ∀ j o, (giveOds _root_.id d ds).1[j]? = some o → ∃ id, findN k'.r (i + j) = some id ∧ Ho m' (m.g id) o
  | [], k, k', i, ds, ht, hk => by
    cases ht
    exact ⟨.refl _, fun q => q, hk, rfl, rfl, fun j o h => by simp [giveOds] at h, fun m' G _ j o h => by simp [giveOds] at h⟩
  | x :: d, k, k', i, ds, ht, hk => by
    simp only [takeOds] at ht
    split at ht
    · rename_i id hi
      split at ht
      · rename_i o ho
        split at ht
        · rename_i ds1 k1 h1
          split at ht
          · rename_i ds2 k2 h2
            cases ht
            obtain ⟨a1, a2, a3, a4, a5, a6, a7⟩ := takeOd_sound H h1 ho hi hk
            obtain ⟨b1, b2, b3, b4, b5, b6, b7⟩ := takeOds_sound H h2 a3
            have e1 : giveOds _root_.id (x :: d) (ds1 ++ ds2) = ((giveOd _root_.id x ds1).1 :: (giveOds _root_.id d ds2).1, (giveOds _root_.id d ds2).2) := by
              simp only [giveOds, giveOd_app a4]
            refine ⟨a1.trans b1, fun q => b2 (a2 q), b3, by simp [a4, b4, Ods.ts], by rw [e1]; simp [b5], fun j o h => ?_, fun m' G hlv j o h => ?_⟩
            · rw [e1] at h
              cases j with
              | zero =>
                simp at h; subst h
                exact ⟨id, b1.r _ _ (a1.r _ _ hi), fun q => a5 (by rw [← a6]; exact q), (List.getElem?_eq_some_iff.1 ho).1⟩
              | succ j =>
                simp at h
                obtain ⟨id', h3, h4⟩ := b6 j o h
                exact ⟨id', by rw [show i + (j + 1) = i + 1 + j by omega]; exact h3, h4⟩
            · rw [e1] at h hlv
              cases j with
              | zero =>
                simp at h; subst h
                refine ⟨id, b1.r _ _ (a1.r _ _ hi), a7 m' (G.le b1) fun hd hl => ?_⟩
                have := hlv 0 hl
                simp only [List.getElem?_cons_zero] at this
                rw [a6, hd] at this; cases this
              | succ j =>
                simp at h
                obtain ⟨id', h3, h4⟩ := b7 m' G (fun j hl => by have := hlv (j + 1) (by rw [show i + (j + 1) = i + 1 + j by omega]; exact hl); simpa using this) j o h
                exact ⟨id', by rw [show i + (j + 1) = i + 1 + j by omega]; exact h3, h4⟩
          · cases ht
        · cases ht
      · cases ht
    · cases ht
end
end Go.Dor
end

section
/- ONE STATE FOR ANOTHER; calls. Plain lemmas over any program. -/
namespace Go.Dor
open Go.RowKit (Below)

theorem castD_sound {t : T} {d : Dt} {y : den t} (h : castD t d = some y) : d = ⟨t, y⟩ := by
  unfold castD at h
  split at h
  · rename_i e
    obtain ⟨t', x⟩ := d
    dsimp only at e; subst e
    cases h; rfl
  · cases h
theorem ofL_toL : ∀ (ts : List T) (l : List Dt) (x : HL ts), ofL ts l = some x → toL ts x = l
  | [], [], x, h => rfl
  | [t], [d], x, h => by
    have := castD_sound h
    simp only [toL]; rw [this]
  | t :: u :: ts, d :: ds, x, h => by
    simp only [ofL] at h
    split at h
    · rename_i y hy
      split at h
      · rename_i z hz
        cases h
        have h1 := castD_sound hy
        have h2 := ofL_toL (u :: ts) ds z hz
        simp only [toL]
        rw [h2, h1]
      · cases h
    · cases h
  | [], _ :: _, _, h => by simp [ofL] at h
  | [t], [], _, h => by simp [ofL] at h
  | [t], _ :: _ :: _, _, h => by simp [ofL] at h
  | _ :: _ :: _, [], _, h => by simp [ofL] at h

section
variable {m m' : Mem} {h : Hm}

structure Taken (m : Mem) (h : Hm) (d : Ds) (k0 k : Tk) (l : List Dt) (vals : List Value) (vs' : List V) (os : Hm) : Prop where
  le : k0.Le k
  inj : k.Inj
  fz : ∀ id ∈ k.fz, lives h id
  free : ∀ id ∈ k.fz, ∀ i, findN k.r i ≠ some id
  bound : ∀ i id, findN k.r i = some id → i < d.objs.length
  gv : ∃ do', giveVds _root_.id d.vals l = (vs', do') ∧ (giveOds _root_.id d.objs do').1 = os
  len : os.length = d.objs.length
  live : ∀ i id, findN k.r i = some id → liveO os[i]? = true → lives h id
  all : ∀ j o, os[j]? = some o → ∃ id, findN k.r j = some id
  lt : ∀ j o id, os[j]? = some o → findN k.r j = some id → id < h.length
  rep : ∀ m', Goal m m' h k → (∀ j, m'.live j → liveO os[j]? = true) → Al2 (Rv m') vs' vals ∧ ∀ j o, os[j]? = some o → ∃ id, findN k.r j = some id ∧ Ho m' (m.g id) o

theorem takeDs_sound (H : Objs m h) {d : Ds} {k0 k : Tk} {vs : List V} {vals : List Value} {l : List Dt} (ht : takeDs h k0 d vs = some (l, k)) (hv : Al2 (Rv m) vs vals) (hk0 : ∀ id ∈ k0.fz, lives h id) (hi0 : k0.Inj) :
    ∃ vs' os, Taken m h d k0 k l vals vs' os := by
  unfold takeDs at ht
  split at ht
  · rename_i x k1 h1
    split at ht
    · rename_i y k2 h2
      rw [cond_eq_ite] at ht
      split at ht
      · cases ht
      · rename_i hb
        cases ht
        rw [Bool.or_eq_true, not_or] at hb
        obtain ⟨hb1, hb2⟩ := hb
        obtain ⟨a1, a2, a3, a4⟩ := takeVds_sound H h1 hv
        obtain ⟨b1, b2, b3, b4, b5, b6, b7⟩ := takeOds_sound H h2 (takeVds_fz h1 hk0)
        have hinj := b2 (a2 hi0)
        refine ⟨(giveVds _root_.id d.vals x).1, (giveOds _root_.id d.objs y).1, ⟨a1.trans b1, hinj, b3, fun id hid i hf => hb1 ?_, fun i id hf => ?_, ⟨y, giveVds_app a3 y, rfl⟩, b5, fun i id hf hl => ?_, fun j o hj => ?_, fun j o id hj hf => ?_, fun m' G hlv => ?_⟩⟩
        · exact List.any_eq_true.2 ⟨id, hid, usedN_of hf⟩
        · have hb2 : (k.r.all fun p => Nat.blt p.1 d.objs.length) = true := by simpa using hb2
          have key : ∀ {r : List (Nat × Nat)} {i id : Nat}, findN r i = some id → ∃ p ∈ r, p.1 = i := by
            intro r
            induction r with
            | nil => intro i id h; cases h
            | cons p r ih =>
              intro i id h
              obtain ⟨a, b⟩ := p
              simp only [findN] at h
              cases e : Nat.beq a i with
              | true => exact ⟨_, List.mem_cons_self, Nat.eq_of_beq_eq_true e⟩
              | false =>
                rw [e] at h
                obtain ⟨p, hp, h3⟩ := ih h
                exact ⟨p, List.mem_cons_of_mem _ hp, h3⟩
          obtain ⟨p, hp, rfl⟩ := key hf
          have := List.all_eq_true.1 hb2 p hp
          simpa using this
        · cases e : (giveOds _root_.id d.objs y).1[i]? with
          | none => rw [e] at hl; cases hl
          | some o =>
            obtain ⟨id', h3, h4, _⟩ := b6 i o e
            rw [Nat.zero_add] at h3
            have : id' = id := Option.some.inj (h3.symm.trans hf)
            subst this
            rw [e] at hl; exact h4 hl
        · obtain ⟨id, h3, _⟩ := b6 j o hj
          exact ⟨id, by rw [Nat.zero_add] at h3; exact h3⟩
        · obtain ⟨id', h3, _, h4⟩ := b6 j o hj
          rw [Nat.zero_add] at h3
          have : id' = id := Option.some.inj (h3.symm.trans hf)
          subst this; exact h4
        · obtain ⟨y', e1, r1⟩ := a4 m' (G.le b1) []
          rw [List.append_nil] at e1
          rw [e1]
          refine ⟨r1, fun j o hj => ?_⟩
          obtain ⟨id, h3, h4⟩ := b7 m' G (fun j hl => by rw [Nat.zero_add] at hl; exact hlv j hl) j o hj
          exact ⟨id, by rw [Nat.zero_add] at h3; exact h3, h4⟩
    · cases ht
  · cases ht
end

def ren (k : Tk) (g : Nat → Value) : Nat → Value := fun i => g ((findN k.r i).getD 0)
theorem ren_eq {k : Tk} {g : Nat → Value} {i id : Nat} (h : findN k.r i = some id) : ren k g i = g id := by simp [ren, h]

theorem keepN_find : ∀ {n i id : Nat}, findN (keepN n) i = some id → i = id ∧ i < n
  | 0, i, id, h => by cases h
  | n + 1, i, id, h => by
    simp only [keepN, findN] at h
    cases e : Nat.beq n i with
    | true => rw [e] at h; cases h; exact ⟨(Nat.eq_of_beq_eq_true e).symm, by have := Nat.eq_of_beq_eq_true e; omega⟩
    | false => rw [e] at h; have := keepN_find h; exact ⟨this.1, by omega⟩
theorem keepN_has : ∀ {n i : Nat}, i < n → findN (keepN n) i = some i
  | 0, i, h => absurd h (by omega)
  | n + 1, i, h => by
    simp only [keepN, findN]
    cases e : Nat.beq n i with
    | true => rw [Nat.eq_of_beq_eq_true e]; rfl
    | false => exact keepN_has (by have : n ≠ i := fun q => (by subst q; simp at e); omega)
theorem keepN_inj (n : Nat) : Tk.Inj ⟨keepN n, []⟩ := fun i j id hi hj => by rw [(keepN_find hi).1, (keepN_find hj).1]

section
variable {P : Program} {M S : Nat → Prop} {w0 w w' : World} {h : Hm} {g : Nat → Value} {R : Type} {res : R} {e : Ev} {r : Env}


/-- a state taken in another shape, in the same call -/
theorem Taken.rel (H : Rel M S w0 h g w) {d : Ds} {k0 k : Tk} {l : List Dt} {vals : List Value} {vs' : List V} {os : Hm} (t : Taken (memOf M S w0 h g w) h d k0 k l vals vs' os) :
    Rel M S w0 os (ren k g) w ∧ Al2 (Rv (memOf M S w0 os (ren k g) w)) vs' vals := by
  have hlive : ∀ i, lives os i → ∃ id, findN k.r i = some id ∧ lives h id := fun i hi => by
    have hlt := lives_lt hi
    obtain ⟨id, hid⟩ := t.all i _ (List.getElem?_eq_getElem hlt)
    exact ⟨id, hid, t.live i id hid hi⟩
  have himm : ∀ b, (memOf M S w0 h g w).I b → (memOf M S w0 os (ren k g) w).I b := fun b hb => by
    refine ⟨hb.1, hb.2.1, fun i hi hf => ?_⟩
    obtain ⟨id, h1, h2⟩ := hlive i hi
    rw [ren_eq h1] at hf
    exact hb.2.2 id h2 hf
  have G : Goal (memOf M S w0 h g w) (memOf M S w0 os (ren k g) w) h k := by
    refine ⟨rfl, himm, fun id hid b hb => ?_, fun i id hi hnl b hb hor => ?_, fun i id hi => ⟨ren_eq hi, by show i < os.length; rw [t.len]; exact t.bound i id hi, fun hl => t.live i id hi hl⟩⟩
    · refine ⟨H.foot_lt (t.fz id hid) hb, ?_, fun i hi hf => ?_⟩
      · rcases H.mine id (t.fz id hid) b hb with h1 | h1
        · exact .inl h1
        · exact .inr (.inr h1)
      · obtain ⟨id', h1, h2⟩ := hlive i hi
        rw [ren_eq h1] at hf
        have hne : id' ≠ id := fun q => by subst q; exact t.free _ hid i h1
        exact H.inj id' id h2 (t.fz id hid) hne b hf hb
    · rcases hor with h1 | h1
      · have hl : lives h id := h1
        refine ⟨H.foot_lt hl hb, ?_, fun j hj hf => ?_⟩
        · rcases H.mine id hl b hb with h2 | h2
          · exact .inl h2
          · exact .inr (.inr h2)
        · obtain ⟨id', h2, h3⟩ := hlive j hj
          rw [ren_eq h2] at hf
          have hne : id' ≠ id := fun q => by
            subst q
            have := t.inj i j _ hi h2
            subst this
            exact hnl hj
          exact H.inj id' id h3 hl hne b hf hb
      · exact himm b h1
  obtain ⟨hv, ho⟩ := t.rep _ G (fun j hj => hj)
  refine ⟨⟨H.os, H.tape, H.drawn, H.output, H.size, H.old, H.dis, fun i o hi => ?_, fun i hi b hb => ?_, fun i j hi hj hne b hb hb' => ?_⟩, hv⟩
  · obtain ⟨id, h1, h2⟩ := ho i o hi
    rw [ren_eq h1]; exact h2
  · obtain ⟨id, h1, h2⟩ := hlive i hi
    rw [ren_eq h1] at hb
    exact H.mine id h2 b hb
  · obtain ⟨id, h1, h2⟩ := hlive i hi
    obtain ⟨id', h3, h4⟩ := hlive j hj
    rw [ren_eq h1] at hb
    rw [ren_eq h3] at hb'
    have : id ≠ id' := fun q => by subst q; exact hne (t.inj i j id h1 h3)
    exact H.inj id id' h2 h4 this b hb hb'

theorem getEs_al2 {m : Mem} (E : ER m e r) : ∀ (ss : List Nat), Al2 (Rv m) (getEs e ss) (ss.map r)
  | [] => trivial
  | s :: ss => ⟨E s, getEs_al2 E ss⟩
theorem zipE_er {m : Mem} : ∀ {ss : List Nat} {vs : List V}, Al2 (Rv m) vs (ss.map r) → ER m (zipE ss vs) r
  | [], vs, h => by have : vs = [] := by { cases vs with | nil => rfl | cons _ _ => exact h.elim }; subst this; exact fun t => trivial
  | s :: ss, vs, h => by
    cases vs with
    | nil => exact h.elim
    | cons v vs =>
      intro t
      simp only [zipE, getE]
      cases e : Nat.beq s t with
      | true => rw [← Nat.eq_of_beq_eq_true e]; exact h.1
      | false => exact zipE_er h.2 t

/-! ### lent slices under numbers of their own -/
theorem renew_sound (H : Rel M S w0 h g w) (i : Nat) {vs : List V} {vals : List Value} (hv : Al2 (Rv (memOf M S w0 h g w)) vs vals) :
    ∃ g', Rel M S w0 (renew i vs h).2 g' w ∧ Al2 (Rv (memOf M S w0 (renew i vs h).2 g' w)) (renew i vs h).1 vals ∧ (∀ j, j < h.length → g' j = g j) ∧ h.length ≤ (renew i vs h).2.length := by
  unfold renew
  split
  rotate_left
  · exact ⟨g, H, hv, fun _ _ => rfl, Nat.le_refl _⟩
  rename_i ty t xs hi
  have hil : i < h.length := (List.getElem?_eq_some_iff.1 hi).1
  have hli : lives h i := by unfold lives; rw [hi]; rfl
  generalize hf : (fun j => bif Nat.beq j i then h.length else j) = f
  have fi : f i = h.length := by rw [← hf]; simp [Nat.beq_refl]
  have fo : ∀ j, j ≠ i → f j = j := fun j hj => by
    rw [← hf]
    have : Nat.beq j i = false := Bool.eq_false_iff.2 fun q => hj (Nat.eq_of_beq_eq_true q)
    simp [this]
  have hg : ∀ j, j < h.length → gx g h.length (g i) (f j) = g j ∧ f j < h.length + 1 := fun j hj => by
    by_cases e : j = i
    · subst e; rw [fi, gx_same]; exact ⟨rfl, by omega⟩
    · rw [fo j e, gx_lt g _ hj]; exact ⟨rfl, by omega⟩
  have hlen : ((h.map (renO f)).set i Ob.gone).length = h.length := by simp
  have get : ∀ j, j < h.length → j ≠ i → ((h.map (renO f)).set i Ob.gone ++ [Ob.arr ty t xs])[j]? = (h[j]?).map (renO f) := fun j hj e => by
    rw [List.getElem?_append_left (by omega), List.getElem?_set, if_neg (fun q => e q.symm), List.getElem?_map]
  have lv : ∀ j, lives ((h.map (renO f)).set i Ob.gone ++ [Ob.arr ty t xs]) j → (j ≠ i ∧ lives h j) ∨ j = h.length := fun j hj => by
    have hjl := lives_lt hj
    simp only [List.length_append, hlen, List.length_cons, List.length_nil] at hjl
    by_cases e : j = h.length
    · exact .inr e
    · left
      by_cases e2 : j = i
      · subst e2
        unfold lives at hj
        rw [List.getElem?_append_left (by omega), List.getElem?_set, if_pos rfl, if_pos (by simpa using hil)] at hj
        cases hj
      · refine ⟨e2, ?_⟩
        unfold lives at hj ⊢
        rw [get j (by omega) e2] at hj
        cases ho : h[j]? with
        | none => rw [ho] at hj; cases hj
        | some o => rw [ho] at hj; cases o <;> first | rfl | exact hj
  have lf : ∀ j, lives ((h.map (renO f)).set i Ob.gone ++ [Ob.arr ty t xs]) j → ∃ j0, lives h j0 ∧ gx g h.length (g i) j = g j0 ∧ f j0 = j := fun j hj => by
    rcases lv j hj with ⟨e, h1⟩ | e
    · exact ⟨j, h1, gx_lt g _ (lives_lt h1), fo j e⟩
    · subst e; exact ⟨i, hli, gx_same g _ _, fi⟩
  have imm : ∀ b, (memOf M S w0 h g w).I b → (memOf M S w0 ((h.map (renO f)).set i Ob.gone ++ [Ob.arr ty t xs]) (gx g h.length (g i)) w).I b := fun b hb => by
    refine ⟨hb.1, hb.2.1, fun j hj hfj => ?_⟩
    obtain ⟨j0, h1, h2, _⟩ := lf j hj
    rw [h2] at hfj
    exact hb.2.2 j0 h1 hfj
  have hn : (memOf M S w0 ((h.map (renO f)).set i Ob.gone ++ [Ob.arr ty t xs]) (gx g h.length (g i)) w).n = h.length + 1 := by simp [memOf]
  have rl : ∀ (x : L) (c : List Value), Rl (memOf M S w0 h g w) x c → Rl (memOf M S w0 ((h.map (renO f)).set i Ob.gone ++ [Ob.arr ty t xs]) (gx g h.length (g i)) w) (renL f x) c := by
    intro x c hx
    have mono : ∀ (t' : T) (x : den t') (c : List Value), At w (memOf M S w0 h g w).I t' x c → At w (memOf M S w0 ((h.map (renO f)).set i Ob.gone ++ [Ob.arr ty t xs]) (gx g h.length (g i)) w).I t' x c := fun t' x c hx => At.mono (fun b hb => ⟨imm b hb, rfl⟩) t' x c hx
    cases x with
    | i | b | s | f | fx | nil | np | nf | ni => exact hx
    | arr t' n x => exact mono (.arr n t') _ _ hx
    | ro t' xs' => exact mono (.sl t') _ _ hx
    | own id =>
      obtain ⟨h1, v, h2, h3, h5, h4⟩ := hx
      have h1 : id < h.length := h1
      refine ⟨by rw [hn]; exact (hg id h1).2, v, h2, h3, h5, fun hl => ?_⟩
      show v = gx g h.length (g i) (f id)
      rw [(hg id h1).1]
      refine h4 ?_
      show lives h id
      by_cases e : id = i
      · subst e; exact hli
      · have hl : lives _ (f id) := hl
        rw [fo id e] at hl
        rcases lv id hl with ⟨_, q⟩ | q
        · exact q
        · omega
    | ptr id off =>
      obtain ⟨h1, b, h2, h3⟩ := hx
      have h1 : id < h.length := h1
      exact ⟨by rw [hn]; exact (hg id h1).2, b, (hg id h1).1.trans h2, h3⟩
    | fn q ids =>
      obtain ⟨h1, h2⟩ := hx
      refine ⟨fun j hj => ?_, ?_⟩
      · obtain ⟨j0, hj0, rfl⟩ := List.mem_map.1 hj
        have k1 : j0 < h.length := (h1 j0 hj0).1
        refine ⟨by rw [hn]; exact (hg j0 k1).2, ?_⟩
        show isPtr (gx g h.length (g i) (f j0))
        rw [(hg j0 k1).1]
        exact (h1 j0 hj0).2
      · rw [h2, List.map_map]
        congr 3
        exact List.map_congr_left fun j0 hj0 => ((hg j0 (h1 j0 hj0).1).1).symm
    | sub id off n lo hi =>
      obtain ⟨h1, h2, h3, h4, b, h5, h6⟩ := hx
      have h1 : id < h.length := h1
      exact ⟨by rw [hn]; exact (hg id h1).2, h2, h3, h4, b, (hg id h1).1.trans h5, h6⟩
    | mp id off =>
      rcases hx with hx | ⟨h1, b, h2, h3⟩
      · exact .inl hx
      · have h1 : id < h.length := h1
        exact .inr ⟨by rw [hn]; exact (hg id h1).2, b, (hg id h1).1.trans h2, h3⟩
    | vw id z lo =>
      obtain ⟨h1, h2⟩ := hx
      have h1 : id < h.length := h1
      refine ⟨by rw [hn]; exact (hg id h1).2, ?_⟩
      show VW (gx g h.length (g i) (f id)) z lo c
      rw [(hg id h1).1]
      exact h2
  have rls : ∀ (ls : List L) (s : List (List Value)), Al2 (Rl (memOf M S w0 h g w)) ls s → Al2 (Rl (memOf M S w0 ((h.map (renO f)).set i Ob.gone ++ [Ob.arr ty t xs]) (gx g h.length (g i)) w)) (ls.map (renL f)) s := by
    intro ls
    induction ls with
    | nil => intro s hs; rw [hs.nil_left]; trivial
    | cons x ls ih =>
      intro s hs
      obtain ⟨c, s, rfl, h1, h2⟩ := hs.cons_left
      exact ⟨rl x c h1, ih s h2⟩
  have ho : ∀ (o : Ob) (v : Value), Ho (memOf M S w0 h g w) v o → Ho (memOf M S w0 ((h.map (renO f)).set i Ob.gone ++ [Ob.arr ty t xs]) (gx g h.length (g i)) w) v (renO f o) := by
    intro o v hh
    cases o with
    | gone => trivial
    | blk ty ls => obtain ⟨b, s, h1, h2, h3⟩ := hh; exact ⟨b, s, h1, h2, rls _ _ h3⟩
    | rd ty ls => obtain ⟨b, s, h1, h2, h3, h4⟩ := hh; exact ⟨b, s, h1, h2, rls _ _ h3, imm b h4⟩
    | arr ty' t' xs' => obtain ⟨ys, h1, h2⟩ := hh; exact ⟨ys, h1, h2.mono fun x c => At.mono (fun b hb => ⟨imm b hb, rfl⟩) t' x c⟩
    | fix => exact hh.elim
  refine ⟨gx g h.length (g i), ⟨H.os, H.tape, H.drawn, H.output, H.size, H.old, H.dis, fun j o hj => ?_, fun j hj b hb => ?_, fun a b ha hb hne c hc hc' => ?_⟩, ?_, fun j hj => gx_lt g _ hj, by simp⟩
  · have hjl := (List.getElem?_eq_some_iff.1 hj).1
    simp only [List.length_append, hlen, List.length_cons, List.length_nil] at hjl
    by_cases e : j = h.length
    · subst e
      rw [List.getElem?_append_right (by omega), hlen, Nat.sub_self] at hj
      cases hj
      rw [gx_same]
      exact ho (.arr ty t xs) (g i) (H.obj i _ hi)
    · rw [gx_lt g _ (by omega)]
      by_cases e2 : j = i
      · subst e2
        rw [List.getElem?_append_left (by omega), List.getElem?_set, if_pos rfl, if_pos (by simpa using hil)] at hj
        cases hj
        trivial
      · rw [get j (by omega) e2] at hj
        cases hq : h[j]? with
        | none => rw [hq] at hj; cases hj
        | some o' =>
          rw [hq] at hj
          cases hj
          exact ho o' _ (H.obj j o' hq)
  · obtain ⟨j0, h1, h2, _⟩ := lf j hj
    rw [h2] at hb
    exact H.mine j0 h1 b hb
  · obtain ⟨a0, h1, h2, h3⟩ := lf a ha
    obtain ⟨b0, h4, h5, h6⟩ := lf b hb
    rw [h2] at hc
    rw [h5] at hc'
    have : a0 ≠ b0 := fun q => by subst q; exact hne (h3.symm.trans h6)
    exact H.inj a0 b0 h1 h4 this c hc hc'
  · have key : ∀ (vs : List V) (vals : List Value), Al2 (Rv (memOf M S w0 h g w)) vs vals → Al2 (Rv (memOf M S w0 ((h.map (renO f)).set i Ob.gone ++ [Ob.arr ty t xs]) (gx g h.length (g i)) w)) (vs.map (renW f)) vals := by
      intro vs
      induction vs with
      | nil => intro s hs; rw [hs.nil_left]; trivial
      | cons x vs ih =>
        intro s hs
        obtain ⟨c, s, rfl, h1, h2⟩ := hs.cons_left
        refine ⟨?_, ih s h2⟩
        cases x with
        | one x => exact rl x _ h1
        | ag ls => obtain ⟨s, h3, h4⟩ := h1; exact ⟨s, h3, rls _ _ h4⟩
        | _ => trivial
    exact key vs vals hv
theorem renewAll_sound : ∀ (is : List Nat) {h : Hm} {g : Nat → Value} {vs : List V} {vals : List Value} (_ : Rel M S w0 h g w) (_ : Al2 (Rv (memOf M S w0 h g w)) vs vals),
    ∃ g', Rel M S w0 (renewAll is vs h).2 g' w ∧ Al2 (Rv (memOf M S w0 (renewAll is vs h).2 g' w)) (renewAll is vs h).1 vals ∧ (∀ j, j < h.length → g' j = g j) ∧ h.length ≤ (renewAll is vs h).2.length
  | [], h, g, vs, vals, H, hv => ⟨g, H, hv, fun _ _ => rfl, Nat.le_refl _⟩
  | i :: is, h, g, vs, vals, H, hv => by
    obtain ⟨g1, H1, hv1, e1, l1⟩ := renew_sound H i hv
    obtain ⟨g2, H2, hv2, e2, l2⟩ := renewAll_sound is H1 hv1
    exact ⟨g2, H2, hv2, fun j hj => (e2 j (by omega)).trans (e1 j hj), Nat.le_trans l1 l2⟩

/-- where ways meet -/
theorem arrive_sound {X : Cx} {d : Sd} {J : HL d.ds.ts → Option R} (H : Rel M S w0 h g w) (E : ER (memOf M S w0 h g w) e r) (hk : arrive X d J e h = some res) :
    ∃ x g', J x = some res ∧ Rel M S w0 (givenO d.ds id x) g' w ∧ ER (memOf M S w0 (givenO d.ds id x) g' w) (zipE d.slots (givenV d.ds id x).1) r ∧ ∀ i, i < X.keep → i < h.length → i < d.ds.objs.length ∧ g' i = g i := by
  unfold arrive at hk
  obtain ⟨g0, H0, hv0, eg0, lg0⟩ := renewAll_sound (goneN 0 X.keep d.ds.objs) H (getEs_al2 E d.slots)
  split at hk
  · rename_i l k ht
    split at hk
    · rename_i x hx
      obtain ⟨vs', os, t⟩ := takeDs_sound H0.objs ht hv0 (by simp) (keepN_inj _)
      obtain ⟨H', hv⟩ := t.rel H0
      obtain ⟨do', h1, h2⟩ := t.gv
      have e1 := ofL_toL _ _ _ hx
      have e2 : givenV d.ds id x = (vs', do') := by unfold givenV; rw [e1]; exact h1
      have e3 : givenO d.ds id x = os := by unfold givenO; rw [e2]; exact h2
      refine ⟨x, ren k g0, hk, by rw [e3]; exact H', ?_, fun i hi hih => ?_⟩
      · rw [e3, e2]; exact zipE_er hv
      · exact ⟨t.bound i i (t.le.r i i (keepN_has hi)), (ren_eq (t.le.r i i (keepN_has hi))).trans (eg0 i hih)⟩
    · cases hk
  · cases hk
end
end Go.Dor
end

section
/- CALLS: what a call is given, what it leaves. Plain lemmas over any program. -/
namespace Go.Dor
open Go.RowKit (Below)

/-- what is lent may be written -/
def lentOf (h : Hm) (g : Nat → Value) : Nat → Prop := fun b => ∃ i, lives h i ∧ foot (g i) = some b

/-- what holds where a call begins -/
structure Start (pre : Ds) (x : HL pre.ts) (S : Nat → Prop) (w : World) (g : Nat → Value) (vals : List Value) : Prop where
  rel : Rel (lentOf (givenO pre id x) g) S w (givenO pre id x) g w
  vals : Al2 (Rv (memOf (lentOf (givenO pre id x) g) S w (givenO pre id x) g w)) (givenV pre id x).1 vals

/-- a function comes to what an entry says -/
structure Entry.Sound (P : Program) (f : FuncId) (en : Entry) : Prop where
  out : ∀ x y, en.fn x = some y → ∀ (S : Nat → Prop) (w : World) (g : Nat → Value) (vals : List Value), Start en.pre x S w g vals →
    Calls P f vals.toArray w fun e w' => ∃ vs g', e = .returned (one vs) ∧ Rel (lentOf (givenO en.pre id x) g) S w (givenO en.post id y) g' w' ∧
      Al2 (Rv (memOf (lentOf (givenO en.pre id x) g) S w (givenO en.post id y) g' w')) (givenV en.post id y).1 vs ∧ ∀ i, i < en.pre.objs.length → g' i = g i

/-! ### other numbers -/
def renV (f : Nat → Nat) : V → V
  | .one x => .one (renL f x)
  | .ag ls => .ag (ls.map (renL f))
  | v => v

theorem renL_giveL (f : Nat → Nat) (d : Dt) : renL f (giveL d) = giveL d := by
  obtain ⟨t, x⟩ := d
  cases t <;> rfl
theorem renL_enc (f : Nat → Nat) : ∀ (t : T) (x : den t), (enc t x).map (renL f) = enc t x
  | .int _, _ => rfl
  | .bool, _ => rfl
  | .str, _ => rfl
  | .flt _, _ => rfl
  | .fx _, _ => rfl
  | .unit, _ => rfl
  | .pair a b, x => by simp only [enc, List.map_append, renL_enc f a, renL_enc f b]
  | .arr _ _, _ => rfl
  | .sl _, _ => rfl
theorem vwOf_ren (f : Nat → Nat) (i z : Nat) (d : Dt) : vwOf (f i) z d = renL f (vwOf i z d) := by
  obtain ⟨t, x⟩ := d
  cases t with
  | int k => cases k <;> rfl
  | _ => rfl
theorem giveLd_ren (f : Nat → Nat) (d : Ld) (l : List Dt) : giveLd f d l = (renL f (giveLd id d l).1, (giveLd id d l).2) := by
  cases d with
  | im t => cases l with
    | nil => rfl
    | cons d l => simp only [giveLd, renL_giveL]
  | fn q is => simp [giveLd, renL]
  | vw i z => cases l with
    | nil => rfl
    | cons d l => simp only [giveLd, id, vwOf_ren]
  | _ => rfl
theorem giveLds_ren (f : Nat → Nat) : ∀ (d : List Ld) (l : List Dt), giveLds f d l = ((giveLds id d l).1.map (renL f), (giveLds id d l).2)
  | [], l => rfl
  | x :: d, l => by simp only [giveLds, giveLd_ren f x l, giveLds_ren f d, List.map_cons]
theorem giveVd_ren (f : Nat → Nat) (d : Vd) (l : List Dt) : giveVd f d l = (renV f (giveVd id d l).1, (giveVd id d l).2) := by
  cases d with
  | one x => simp only [giveVd, giveLd_ren f x l, renV]
  | ag ls => simp only [giveVd, giveLds_ren f ls l, renV]
  | st t => cases l with
    | nil => rfl
    | cons d l => simp only [giveVd, renV, renL_enc]
theorem giveVds_ren (f : Nat → Nat) : ∀ (d : List Vd) (l : List Dt), giveVds f d l = ((giveVds id d l).1.map (renV f), (giveVds id d l).2)
  | [], l => rfl
  | x :: d, l => by simp only [giveVds, giveVd_ren f x l, giveVds_ren f d, List.map_cons]
theorem giveOd_ren (f : Nat → Nat) (d : Od) (l : List Dt) : giveOd f d l = (renO f (giveOd id d l).1, (giveOd id d l).2) := by
  cases d with
  | blk ty ls => simp only [giveOd, giveLds_ren f ls l, renO]
  | rd ty ls => simp only [giveOd, giveLds_ren f ls l, renO]
  | blkT ty t => cases l with
    | nil => rfl
    | cons d l => simp only [giveOd, renO, renL_enc]
  | rdT ty t => cases l with
    | nil => rfl
    | cons d l => simp only [giveOd, renO, renL_enc]
  | arr ty t => cases l with
    | nil => rfl
    | cons d l => obtain ⟨t', x⟩ := d; cases t' <;> rfl
  | fix ty t => cases l with
    | nil => rfl
    | cons d l => obtain ⟨t', x⟩ := d; cases t' <;> rfl
  | gone => rfl
theorem giveOds_ren (f : Nat → Nat) : ∀ (d : List Od) (l : List Dt), giveOds f d l = ((giveOds id d l).1.map (renO f), (giveOds id d l).2)
  | [], l => rfl
  | x :: d, l => by simp only [giveOds, giveOd_ren f x l, giveOds_ren f d, List.map_cons]
theorem givenV_ren (f : Nat → Nat) (d : Ds) (x : HL d.ts) : givenV d f x = ((givenV d id x).1.map (renV f), (givenV d id x).2) := giveVds_ren f _ _
theorem givenO_ren (f : Nat → Nat) (d : Ds) (x : HL d.ts) : givenO d f x = (givenO d id x).map (renO f) := by
  unfold givenO
  rw [givenV_ren f, giveOds_ren f]
theorem liveO_ren (f : Nat → Nat) (o : Ob) : liveO (some (renO f o)) = liveO (some o) := by cases o <;> rfl

/-- no slice that is read lies in it -/
def flatL : L → Bool
  | .arr t _ _ => flat t
  | .ro _ _ => false
  | _ => true

theorem At.flat {w w' : World} {I I' : Nat → Prop} : ∀ (t : T) (x : den t) (c : List Value), flat t = true → At w I t x c → At w' I' t x c
  | .int _, _, _, _, h => h
  | .bool, _, _, _, h => h
  | .str, _, _, _, h => h
  | .flt _, _, _, _, h => h
  | .fx _, _, _, _, h => h
  | .unit, _, _, _, h => h
  | .pair a b, _, _, hf, ⟨c1, c2, h, h1, h2⟩ => by
    simp only [Dor.flat, Bool.and_eq_true] at hf
    exact ⟨c1, c2, h, At.flat a _ _ hf.1 h1, At.flat b _ _ hf.2 h2⟩
  | .arr _ e, _, _, hf, ⟨ys, h, h1⟩ => ⟨ys, h, h1.mono fun x c => At.flat e x c hf⟩
  | .sl e, _, _, hf, _ => by cases hf

/-- a memory seen with other numbers -/
structure Ren (m m' : Mem) (f : Nat → Nat) (fl : Bool) : Prop where
  w : m'.w = m.w
  imm : fl = false → ∀ b, m.I b → m'.I b
  r : ∀ j, j < m.n → f j < m'.n ∧ m'.g (f j) = m.g j

section
variable {m m' : Mem} {f : Nat → Nat} {fl : Bool}
theorem Ren.at (Q : Ren m m' f fl) {t : T} {x : den t} {c : List Value} (hf : fl = true → flat t = true) (h : At m.w m.I t x c) : At m'.w m'.I t x c := by
  cases fl with
  | true => exact At.flat t x c (hf rfl) h
  | false => exact At.mono (fun b hb => ⟨Q.imm rfl b hb, by rw [Q.w]⟩) t x c h
theorem Ren.rl (Q : Ren m m' f fl) : ∀ (x : L) (c : List Value), (fl = true → flatL x = true) → (∀ id, x = .own id → m.live id) → Rl m x c → Rl m' (renL f x) c := by
  intro x c hf ho h
  cases x with
  | i | b | s | f | fx | nil | np | nf | ni => exact h
  | arr t n x => exact Q.at (t := .arr n t) (fun q => hf q) h
  | ro t xs => exact Q.at (t := .sl t) (fun q => by have := hf q; cases this) h
  | own id =>
    obtain ⟨h1, v, h2, h3, h4, h5⟩ := h
    obtain ⟨a, b⟩ := Q.r id h1
    exact ⟨a, v, h2, h3, h4, fun _ => by rw [b]; exact h5 (ho id rfl)⟩
  | ptr id off =>
    obtain ⟨h1, b, h2, h3⟩ := h
    obtain ⟨a, e⟩ := Q.r id h1
    exact ⟨a, b, by rw [e]; exact h2, h3⟩
  | fn q ids =>
    obtain ⟨h1, h2⟩ := h
    refine ⟨fun i hi => ?_, ?_⟩
    · obtain ⟨j, hj, rfl⟩ := List.mem_map.1 hi
      obtain ⟨a, e⟩ := Q.r j (h1 j hj).1
      exact ⟨a, by rw [e]; exact (h1 j hj).2⟩
    · rw [h2, List.map_map]
      congr 3
      exact List.map_congr_left fun i hi => ((Q.r i (h1 i hi).1).2).symm
  | sub id off n lo hi =>
    obtain ⟨h1, h2, h3, h4, b, h5, h6⟩ := h
    obtain ⟨a, e⟩ := Q.r id h1
    exact ⟨a, h2, h3, h4, b, by rw [e]; exact h5, h6⟩
  | mp id off =>
    rcases h with h | ⟨h1, b, h2, h3⟩
    · exact .inl h
    · obtain ⟨a, e⟩ := Q.r id h1
      exact .inr ⟨a, b, by rw [e]; exact h2, h3⟩
  | vw id z lo =>
    obtain ⟨h1, h2⟩ := h
    obtain ⟨a, e⟩ := Q.r id h1
    exact ⟨a, by rw [e]; exact h2⟩
theorem Ren.rls (Q : Ren m m' f fl) : ∀ {ls : List L} {s : List (List Value)}, (fl = true → ls.all flatL = true) → (∀ x ∈ ls, ∀ id, x = .own id → m.live id) → Al2 (Rl m) ls s → Al2 (Rl m') (ls.map (renL f)) s
  | [], [], _, _, _ => trivial
  | x :: ls, c :: s, hf, ho, ⟨a, b⟩ => ⟨Q.rl x c (fun q => by have := hf q; simp only [List.all_cons, Bool.and_eq_true] at this; exact this.1) (ho x (by simp)) a,
      Q.rls (fun q => by have := hf q; simp only [List.all_cons, Bool.and_eq_true] at this; exact this.2) (fun y hy => ho y (List.mem_cons_of_mem _ hy)) b⟩

def flatV : V → Bool
  | .one x => flatL x
  | .ag ls => ls.all flatL
  | _ => false
theorem ownOk_live {ps : Hm} {x : L} (hm : ∀ id, lives ps id → m.live id) (h : ownOkL ps x = true) : ∀ id, x = .own id → m.live id := fun id e => by
  subst e; exact hm id h
theorem Ren.rv (Q : Ren m m' f fl) {v : V} {val : Value} {ps : Hm} (hm : ∀ id, lives ps id → m.live id) (hf : fl = true → flatV v = true) (ho : ownOkV ps v = true) (h : Rv m v val) : Rv m' (renV f v) val := by
  cases v with
  | one x => exact Q.rl x _ hf (ownOk_live hm ho) h
  | ag ls => obtain ⟨s, h1, h2⟩ := h; exact ⟨s, h1, Q.rls hf (fun x hx => ownOk_live hm (List.all_eq_true.1 ho x hx)) h2⟩
  | _ => cases ho

def flatO : Ob → Bool
  | .blk _ ls => ls.all flatL
  | .rd _ ls => ls.all flatL
  | .arr _ t _ => flat t
  | .fix _ t _ => flat t
  | .gone => true
theorem Ren.ho (Q : Ren m m' f fl) {o : Ob} {v : Value} {ps : Hm} (hm : ∀ id, lives ps id → m.live id) (hf : fl = true → flatO o = true) (ho : ownOkO ps o = true) (h : Ho m v o) : Ho m' v (renO f o) := by
  cases o with
  | gone => trivial
  | blk ty ls => obtain ⟨b, s, h1, h2, h3⟩ := h; exact ⟨b, s, h1, by rw [Q.w]; exact h2, Q.rls hf (fun x hx => ownOk_live hm (List.all_eq_true.1 ho x hx)) h3⟩
  | rd ty ls => cases ho
  | arr ty t xs =>
    obtain ⟨ys, h1, h2⟩ := h
    refine ⟨ys, by rw [Q.w]; exact h1, h2.mono fun x c => Q.at hf⟩
  | fix => exact h.elim
end

/-! ### flatness of what is given -/
theorem flat_giveL {d : Dt} (h : flat d.1 = true) : flatL (giveL d) = true := by
  obtain ⟨t, x⟩ := d
  cases t <;> first | rfl | exact h | cases h
theorem flat_enc : ∀ (t : T) (x : den t), flat t = true → (enc t x).all flatL = true
  | .int _, _, _ => rfl
  | .bool, _, _ => rfl
  | .str, _, _ => rfl
  | .flt _, _, _ => rfl
  | .fx _, _, _ => rfl
  | .unit, _, _ => rfl
  | .pair a b, x, h => by
    simp only [Dor.flat, Bool.and_eq_true] at h
    simp only [enc, List.all_append, flat_enc a _ h.1, flat_enc b _ h.2, Bool.and_self]
  | .arr _ _, _, h => by simp only [enc, List.all_cons, List.all_nil, Bool.and_true, flatL]; exact h
  | .sl _, _, h => by cases h
theorem giveLd_flat {d : Ld} {l : List Dt} (hl : ∃ ds more, l = ds ++ more ∧ ds.map (·.1) = d.ts) (h : d.ts.all flat = true) : flatL (giveLd id d l).1 = true := by
  obtain ⟨ds, more, rfl, e⟩ := hl
  cases d with
  | im t =>
    cases ds with
    | nil => simp [Ld.ts] at e
    | cons x ds =>
      simp only [Ld.ts, List.map_cons, List.cons.injEq] at e
      simp only [Ld.ts, List.all_cons, List.all_nil, Bool.and_true] at h
      exact flat_giveL (by rw [e.1]; exact h)
  | vw i z =>
    cases ds with
    | nil => simp [Ld.ts] at e
    | cons x ds =>
      obtain ⟨t, x⟩ := x
      cases t with
      | int k => cases k <;> rfl
      | _ => rfl
  | _ => rfl
end Go.Dor
end

section
/- CALLS, to their end. Plain lemmas over any program. -/
namespace Go.Dor
open Go.RowKit (Below)

theorem toL_types : ∀ (ts : List T) (x : HL ts), (toL ts x).map (·.1) = ts
  | [], _ => rfl
  | [t], _ => rfl
  | t :: u :: ts, x => by simp only [toL, List.map_cons, toL_types (u :: ts)]

theorem giveLds_flat : ∀ {d : List Ld} {ds : List Dt} (_ : ds.map (·.1) = Lds.ts d) (_ : (Lds.ts d).all flat = true), (giveLds id d ds).1.all flatL = true
  | [], ds, _, _ => rfl
  | x :: d, ds, e, h => by
    obtain ⟨l1, l2, rfl, h1, h2⟩ := map_split e
    simp only [Lds.ts, List.all_append, Bool.and_eq_true] at h
    simp only [giveLds, giveLd_app h1, List.all_cons, Bool.and_eq_true]
    exact ⟨giveLd_flat ⟨l1, [], by simp, h1⟩ h.1, giveLds_flat h2 h.2⟩
theorem giveVd_flat {d : Vd} {ds : List Dt} (e : ds.map (·.1) = d.ts) (h : d.flat = true) : flatV (giveVd id d ds).1 = true := by
  cases d with
  | one x => exact giveLd_flat ⟨ds, [], by simp, e⟩ h
  | ag ls => exact giveLds_flat e h
  | st t =>
    cases ds with
    | nil => simp [Vd.ts] at e
    | cons x ds =>
      simp only [Vd.ts, List.map_cons, List.cons.injEq] at e
      have h : flat t = true := h
      simp only [giveVd, flatV]
      exact flat_enc _ _ (by rw [e.1]; exact h)
theorem giveVd_leaves {d : Vd} {ds : List Dt} (e : ds.map (·.1) = d.ts) : ∃ ls, leaves (giveVd id d ds).1 = some ls := by
  cases d with
  | one x => exact ⟨_, rfl⟩
  | ag ls => exact ⟨_, rfl⟩
  | st t =>
    cases ds with
    | nil => simp [Vd.ts] at e
    | cons x ds => exact ⟨_, rfl⟩
theorem giveVds_all : ∀ {d : List Vd} {ds : List Dt} (_ : ds.map (·.1) = Vds.ts d), ∀ v ∈ (giveVds id d ds).1, (∃ ls, leaves v = some ls) ∧ (d.all Vd.flat = true → flatV v = true)
  | [], ds, _, v, hv => by cases hv
  | x :: d, ds, e, v, hv => by
    obtain ⟨l1, l2, rfl, h1, h2⟩ := map_split e
    simp only [giveVds, giveVd_app h1, List.mem_cons] at hv
    rcases hv with rfl | hv
    · exact ⟨giveVd_leaves h1, fun h => giveVd_flat h1 (by simp only [List.all_cons, Bool.and_eq_true] at h; exact h.1)⟩
    · have := giveVds_all h2 v hv
      exact ⟨this.1, fun h => this.2 (by simp only [List.all_cons, Bool.and_eq_true] at h; exact h.2)⟩
theorem giveOd_flat {d : Od} {ds : List Dt} (e : ds.map (·.1) = d.ts) (h : d.flat = true) : flatO (giveOd id d ds).1 = true := by
  cases d with
  | blk ty ls => exact giveLds_flat e h
  | rd ty ls => exact giveLds_flat e h
  | blkT ty t | rdT ty t =>
    cases ds with
    | nil => simp [Od.ts] at e
    | cons x ds =>
      simp only [Od.ts, List.map_cons, List.cons.injEq] at e
      have h : flat t = true := by simpa [Od.flat, Od.ts] using h
      exact flat_enc _ _ (by rw [e.1]; exact h)
  | arr ty t | fix ty t =>
    cases ds with
    | nil => simp [Od.ts] at e
    | cons x ds =>
      obtain ⟨t', x⟩ := x
      simp only [Od.ts, List.map_cons, List.cons.injEq] at e
      obtain ⟨e, _⟩ := e
      subst e
      exact h
  | gone => rfl
theorem giveOds_all : ∀ {d : List Od} {ds : List Dt} (_ : ds.map (·.1) = Ods.ts d) (_ : d.all Od.flat = true), ∀ o ∈ (giveOds id d ds).1, flatO o = true
  | [], ds, _, _, o, hv => by cases hv
  | x :: d, ds, e, h, o, hv => by
    obtain ⟨l1, l2, rfl, h1, h2⟩ := map_split e
    simp only [List.all_cons, Bool.and_eq_true] at h
    simp only [giveOds, giveOd_app h1, List.mem_cons] at hv
    rcases hv with rfl | hv
    · exact giveOd_flat h1 h.1
    · exact giveOds_all h2 h.2 o hv
theorem given_types (d : Ds) (x : HL d.ts) : ∃ l1 l2, toL d.ts x = l1 ++ l2 ∧ l1.map (·.1) = Vds.ts d.vals ∧ l2.map (·.1) = Ods.ts d.objs ∧ givenV d id x = ((giveVds id d.vals l1).1, l2) ∧ givenO d id x = (giveOds id d.objs l2).1 := by
  obtain ⟨l1, l2, h, h1, h2⟩ := map_split (toL_types d.ts x)
  have e1 : givenV d id x = ((giveVds id d.vals l1).1, l2) := by unfold givenV; rw [h, giveVds_app h1]
  exact ⟨l1, l2, h, h1, h2, e1, by unfold givenO; rw [e1]⟩
theorem giveOds_len : ∀ (d : List Od) (l : List Dt), (giveOds id d l).1.length = d.length
  | [], _ => rfl
  | x :: d, l => by simp only [giveOds, List.length_cons, giveOds_len d]
theorem givenO_len (d : Ds) (x : HL d.ts) : (givenO d id x).length = d.objs.length := giveOds_len _ _

/-! ### objects that come back -/
def isRdO : Od → Bool
  | .rd .. => true
  | .rdT .. => true
  | _ => false
theorem putOld_len {f : Nat → Nat} {fl : Bool} : ∀ (j : Nat) (ps : List Od) (os h : Hm), (putOld f fl j ps os h).length = h.length
  | j, [], os, h => by simp [putOld]
  | j, p :: ps, [], h => by cases p <;> simp [putOld]
  | j, p :: ps, o :: os, h => by
    cases p <;> simp only [putOld] <;> rw [putOld_len] <;> first | simp | (cases fl <;> simp)
theorem putOld_ne {f : Nat → Nat} {fl : Bool} {id : Nat} : ∀ (j : Nat) (ps : List Od) (os h : Hm), (∀ i, j ≤ i → i < j + ps.length → f i ≠ id) → (putOld f fl j ps os h)[id]? = h[id]?
  | j, [], os, h, _ => by simp [putOld]
  | j, p :: ps, [], h, _ => by cases p <;> simp [putOld]
  | j, p :: ps, o :: os, h, hne => by
    have h0 := hne j (Nat.le_refl _) (by simp)
    have ih := fun h => putOld_ne (f := f) (fl := fl) (id := id) (j + 1) ps os h fun i h1 h2 => hne i (by omega) (by simp only [List.length_cons]; omega)
    cases p <;> simp only [putOld] <;> rw [ih]
    all_goals first | (rw [List.getElem?_set, if_neg h0]) | (cases fl <;> simp [h0])
theorem putOld_at {f : Nat → Nat} {fl : Bool} {id : Nat} : ∀ (j : Nat) (ps : List Od) (os h : Hm) (i : Nat) (p : Od) (o : Ob), ps[i]? = some p → os[i]? = some o → f (j + i) = id → (∀ a b, j ≤ a → a < j + ps.length → j ≤ b → b < j + ps.length → f a = f b → a = b) → id < h.length →
    (putOld f fl j ps os h)[id]? = if isRdO p then (if fl then h[id]? else h[id]?.map asRd) else some o
  | j, [], os, h, i, p, o, h1, _, _, _, _ => by simp at h1
  | j, q :: ps, [], h, i, p, o, _, h2, _, _, _ => by simp at h2
  | j, q :: ps, o' :: os, h, 0, p, o, h1, h2, h3, h4, h5 => by
    simp at h1 h2
    subst h1 h2
    have hne : ∀ i, j + 1 ≤ i → i < j + 1 + ps.length → f i ≠ id := fun i a b e => by
      have := h4 i j (by omega) (by simp only [List.length_cons]; omega) (Nat.le_refl _) (by simp) (by rw [e]; exact h3.symm)
      omega
    rw [Nat.add_zero] at h3
    subst h3
    cases q <;> simp only [putOld, isRdO] <;> rw [putOld_ne _ _ _ _ hne]
    all_goals first | (simp [h5]; done) | (cases fl <;> simp [h5])
  | j, q :: ps, o' :: os, h, i + 1, p, o, h1, h2, h3, h4, h5 => by
    simp at h1 h2
    have hj : f j ≠ id := fun e => by
      have hlt : i < ps.length := (List.getElem?_eq_some_iff.1 h1).1
      have := h4 j (j + (i + 1)) (Nat.le_refl _) (by simp) (by omega) (by simp only [List.length_cons]; omega) (by rw [e, h3])
      omega
    have ih := fun (h : Hm) (h5 : id < h.length) => putOld_at (f := f) (fl := fl) (id := id) (j + 1) ps os h i p o h1 h2 (by rw [← h3]; congr 1; omega) (fun a b a1 a2 b1 b2 => h4 a b (by omega) (by simp only [List.length_cons]; omega) (by omega) (by simp only [List.length_cons]; omega)) h5
    cases q <;> simp only [putOld] <;> rw [ih _ (by first | simpa using h5 | (cases fl <;> simpa using h5))]
    all_goals first | (rw [List.getElem?_set, if_neg hj]) | (cases fl <;> simp [hj])

theorem pre_live {d : Od} {l : List Dt} (e : l.map (·.1) = d.ts) : liveO (some (giveOd id d l).1) = odLive d := by
  cases d with
  | blkT ty t | rdT ty t =>
    cases l with
    | nil => simp [Od.ts] at e
    | cons x l => rfl
  | arr ty t | fix ty t =>
    cases l with
    | nil => simp [Od.ts] at e
    | cons x l => 
      obtain ⟨t', x⟩ := x
      simp only [Od.ts, List.map_cons, List.cons.injEq] at e
      obtain ⟨e, _⟩ := e
      subst e
      rfl
  | _ => rfl
theorem giveOds_live : ∀ {d : List Od} {l : List Dt} (_ : l.map (·.1) = Ods.ts d) (i : Nat), liveO (giveOds id d l).1[i]? = ((d[i]?).map odLive).getD false
  | [], l, _, i => by simp [giveOds, liveO]
  | x :: d, l, e, i => by
    obtain ⟨l1, l2, rfl, h1, h2⟩ := map_split e
    simp only [giveOds, giveOd_app h1]
    cases i with
    | zero => simp [pre_live h1]
    | succ i => simp [giveOds_live h2 i]
end Go.Dor
end

section
/- A CALL: what the machine says of it holds. Plain lemmas over any program. -/
namespace Go.Dor
open Go.RowKit (Below)

/-- an object that no one touched -/
theorem Ho.keep {m m' : Mem} {o : Ob} {v : Value} (h : Ho m v o) (le : m.Le m') (hb : ∀ b, foot v = some b → liveO (some o) = true → m'.w.heap[b]? = m.w.heap[b]?) : Ho m' v o := by
  cases o with
  | gone => trivial
  | blk ty ls =>
    obtain ⟨b, s, h3, h4, h5⟩ := h
    exact ⟨b, s, h3, (hb b (by rw [h3]; rfl) rfl).trans h4, Rls.mono le h5⟩
  | rd ty ls =>
    obtain ⟨b, s, h3, h4, h5, h6⟩ := h
    exact ⟨b, s, h3, (le.imm b h6).2.trans h4, Rls.mono le h5, (le.imm b h6).1⟩
  | arr ty t xs =>
    obtain ⟨ys, h3, h4⟩ := h
    exact ⟨ys, h3.kept le.size fun b hbb => hb b (foot_vfoot hbb) rfl, h4.mono (At.mono le.imm t)⟩
  | fix => exact h.elim

theorem freeze_get : ∀ (f : List Nat) (h : Hm) (id : Nat), (freeze h f)[id]? = h[id]? ∨ (id ∈ f ∧ ((freeze h f)[id]? = some .gone ∨ (freeze h f)[id]? = none))
  | [], h, id => .inl rfl
  | i :: f, h, id => by
    rcases freeze_get f (h.set i .gone) id with h1 | ⟨h1, h2⟩
    · rw [freeze, h1, List.getElem?_set]
      by_cases e : i = id
      · subst e
        rw [if_pos rfl]
        split
        · exact .inr ⟨by simp, .inl rfl⟩
        · exact .inr ⟨by simp, .inr rfl⟩
      · rw [if_neg e]; exact .inl rfl
    · exact .inr ⟨List.mem_cons_of_mem _ h1, h2⟩
theorem freeze_len (f : List Nat) (h : Hm) : (freeze h f).length = h.length := by
  induction f generalizing h with
  | nil => rfl
  | cons i f ih => rw [freeze, ih]; simp

theorem goneOk_get : ∀ {pre : List Od} {ps : Hm}, goneOk pre ps = true → pre.length ≤ ps.length ∧ ∀ (i : Nat) (p : Od) (o : Ob), pre[i]? = some p → ps[i]? = some o → odLive p = false → liveO (some o) = false
  | [], ps, _ => ⟨by simp, fun i p o h => by simp at h⟩
  | p :: pre, o :: ps, h => by
    simp only [goneOk, Bool.and_eq_true] at h
    obtain ⟨h1, h2⟩ := goneOk_get h.2
    refine ⟨by simpa using h1, fun i p' o' hp ho hd => ?_⟩
    cases i with
    | zero =>
      simp at hp ho; subst hp ho
      have := h.1
      rw [hd] at this
      simpa using this
    | succ i => simp at hp ho; exact h2 i p' o' hp ho hd
  | _ :: _, [], h => by cases h

theorem isRd_live {p : Od} (h : isRdO p = true) : odLive p = false := by cases p <;> first | rfl | cases h

section
variable {P : Program} {M S : Nat → Prop} {w0 w : World} {h : Hm} {g : Nat → Value} {R : Type} {res : R} {K : V → Hm → Option R}

theorem resV_one {m : Mem} : ∀ {vs : List V} {vals : List Value} (_ : Al2 (Rv m) vs vals) (_ : ∀ v ∈ vs, ∃ ls, leaves v = some ls), Rv m (resV vs) (one vals) := by
  intro vs vals hv hl
  have tup : ∀ {vs : List V} {vals : List Value}, Al2 (Rv m) vs vals → (∀ v ∈ vs, ∃ ls, leaves v = some ls) → Al2 (Rp m) (vs.map unone) vals := by
    intro vs
    induction vs with
    | nil => intro vals hv _; have := hv.nil_left; subst this; trivial
    | cons v vs ih =>
      intro vals hv hl
      obtain ⟨x, xs, rfl, h1, h2⟩ := hv.cons_left
      refine ⟨?_, ih h2 fun q hq => hl q (List.mem_cons_of_mem _ hq)⟩
      obtain ⟨ls, hls⟩ := hl v (by simp)
      cases v <;> first | exact h1 | cases hls
  match vs, vals, hv with
  | [], [], _ => exact ⟨[], rfl, trivial⟩
  | [v], [x], hv => exact hv.1
  | v :: v2 :: vs, x :: y :: xs, hv => exact ⟨_, rfl, tup hv hl⟩
  | [_], [], hv => exact hv.elim
  | [_], _ :: _ :: _, hv => exact hv.2.elim
  | _ :: _ :: _, [_], hv => exact hv.2.elim

theorem enterE_sound {fid : FuncId} {en : Entry} {vs : List V} {vals : List Value} (hS : Entry.Sound P fid en) (H : Rel M S w0 h g w) (hv : Al2 (Rv (memOf M S w0 h g w)) vs vals) (hk : enterE en vs h K = some res) :
    Calls P fid vals.toArray w fun e w' => ∃ v, e = .returned v ∧ After M S w0 h g w K res v w' := by
  unfold enterE at hk
  split at hk
  rotate_left
  · cases hk
  rename_i l k ht
  split at hk
  rotate_left
  · cases hk
  rename_i x hx
  obtain ⟨y, hfn, hk⟩ := bind_some hk
  rw [cond_eq_ite] at hk
  split at hk
  rotate_left
  · cases hk
  rename_i hok
  simp only [okBack, Bool.and_eq_true] at hok
  obtain ⟨⟨hgone, hown⟩, hownO⟩ := hok
  obtain ⟨vs', os, t⟩ := takeDs_sound H.objs ht hv (by simp) (fun i j id hi => by cases hi)
  obtain ⟨do', hg1, hg2⟩ := t.gv
  have el := ofL_toL _ _ _ hx
  have eV : givenV en.pre id x = (vs', do') := by unfold givenV; rw [el]; exact hg1
  have eO : givenO en.pre id x = os := by unfold givenO; rw [eV]; exact hg2
  generalize hg1e : ren k g = g1
  have g1e : ∀ i id, findN k.r i = some id → g1 i = g id := fun i id hi => by rw [← hg1e]; exact ren_eq hi
  have hlive : ∀ i, lives os i → ∃ id, findN k.r i = some id ∧ lives h id := fun i hi => by
    obtain ⟨id, hid⟩ := t.all i _ (List.getElem?_eq_getElem (lives_lt hi))
    exact ⟨id, hid, t.live i id hid hi⟩
  -- what the callee may read
  let S' : Nat → Prop := fun b => (memOf M S w0 h g w).I b ∨ ∃ id, (id ∈ k.fz ∨ ∃ i, findN k.r i = some id ∧ ¬ lives os i) ∧ lives h id ∧ foot (g id) = some b
  have lent : ∀ b, lentOf os g1 b → ∃ i id, lives os i ∧ findN k.r i = some id ∧ lives h id ∧ foot (g id) = some b := fun b ⟨i, hi, hb⟩ => by
    obtain ⟨id, h1, h2⟩ := hlive i hi
    rw [g1e i id h1] at hb
    exact ⟨i, id, hi, h1, h2, hb⟩
  -- a lent object and one that is read lie apart
  have apart : ∀ {i id id' b}, lives os i → findN k.r i = some id → lives h id → foot (g id) = some b → (id' ∈ k.fz ∨ ∃ i, findN k.r i = some id' ∧ ¬ lives os i) → lives h id' → foot (g id') = some b → False := by
    intro i id id' b hi hf hl hb hor hl' hb'
    have hne : id ≠ id' := fun q => by
      subst q
      rcases hor with h1 | ⟨i', h1, h2⟩
      · exact t.free _ h1 i hf
      · have := t.inj i i' _ hf h1
        subst this
        exact h2 hi
    exact H.inj id id' hl hl' hne b hb hb'
  have dis : ∀ b, S' b → ¬ lentOf os g1 b := fun b hSb hL => by
    obtain ⟨i, id, hi, hf, hl, hb⟩ := lent b hL
    rcases hSb with h1 | ⟨id', hor, hl', hb'⟩
    · exact h1.2.2 id hl hb
    · exact apart hi hf hl hb hor hl' hb'
  have G : Goal (memOf M S w0 h g w) (memOf (lentOf os g1) S' w os g1 w) h k := by
    have nof : ∀ {b}, S' b → ∀ i, lives os i → foot (g1 i) ≠ some b := fun hSb i hi hf => dis _ hSb ⟨i, hi, hf⟩
    refine ⟨rfl, fun b hb => ⟨hb.1, .inr (.inl (.inl hb)), nof (.inl hb)⟩, fun id hid b hb => ?_, fun i id hi hnl b hb hor => ?_, fun i id hi => ⟨g1e i id hi, by show i < os.length; rw [t.len]; exact t.bound i id hi, fun hl => t.live i id hi hl⟩⟩
    · have hSb : S' b := .inr ⟨id, .inl hid, t.fz id hid, hb⟩
      exact ⟨H.foot_lt (t.fz id hid) hb, .inr (.inl hSb), nof hSb⟩
    · rcases hor with h1 | h1
      · have hSb : S' b := .inr ⟨id, .inr ⟨i, hi, hnl⟩, h1, hb⟩
        exact ⟨H.foot_lt h1 hb, .inr (.inl hSb), nof hSb⟩
      · exact ⟨h1.1, .inr (.inl (.inl h1)), nof (.inl h1)⟩
  obtain ⟨hv', ho'⟩ := t.rep _ G (fun j hj => hj)
  have Hs : Start en.pre x S' w g1 vals := by
    refine ⟨?_, ?_⟩
    · rw [eO]
      refine ⟨rfl, rfl, .refl _, rfl, Nat.le_refl _, fun _ _ _ => rfl, dis, fun i o hi => ?_, fun i hi b hb => .inr ⟨i, hi, hb⟩, fun i j hi hj hne b hb hb' => ?_⟩
      · obtain ⟨id, h1, h2⟩ := ho' i o hi
        rw [g1e i id h1]; exact h2
      · obtain ⟨id, h1, h2⟩ := hlive i hi
        obtain ⟨id', h3, h4⟩ := hlive j hj
        rw [g1e i id h1] at hb
        rw [g1e j id' h3] at hb'
        have : id ≠ id' := fun q => by subst q; exact hne (t.inj i j id h1 h3)
        exact H.inj id id' h2 h4 this b hb hb'
    · rw [eO, eV]; exact hv'
  refine (hS.out x y hfn S' w g1 vals Hs).mono fun e w' ⟨vs2, g2, he, R2, hv2, hgg⟩ => ⟨_, he, ?_⟩
  rw [eO] at R2 hv2
  -- the objects behind the call
  generalize hps : givenO en.post id y = ps at R2 hv2 hgone hown hownO
  generalize hfe : backN k.r en.pre.objs.length h.length = f at hk
  generalize hfl : en.post.flat = fl at hk
  generalize hh1 : (bif fl then h else freeze h k.fz) = h1 at hk
  have hOf : givenO en.post f y = ps.map (renO f) := by rw [givenO_ren f, hps]
  rw [hOf] at hk
  obtain ⟨hlen, hgl⟩ := goneOk_get hgone
  have h1len : h1.length = h.length := by rw [← hh1]; cases fl <;> simp [freeze_len]
  have npre : os.length = en.pre.objs.length := t.len
  have fpre : ∀ i id, findN k.r i = some id → f i = id := fun i id hi => by
    have hlt := t.bound i id hi
    have hb : Nat.blt i en.pre.objs.length = true := by rw [Nat.blt_eq]; exact hlt
    rw [← hfe, backN, hb, hi]; rfl
  have allb : ∀ i, i < en.pre.objs.length → ∃ id, findN k.r i = some id := fun i hi => t.all i _ (List.getElem?_eq_getElem (by rw [npre]; exact hi))
  have hidlt : ∀ i id, findN k.r i = some id → lives os i → id < h.length := fun i id hi hl => lives_lt (t.live i id hi hl)
  have fnew : ∀ j, en.pre.objs.length ≤ j → f j = h.length + (j - en.pre.objs.length) := fun j hj => by
    have hb : Nat.blt j en.pre.objs.length = false := by rw [Bool.eq_false_iff, ne_eq, Nat.blt_eq]; omega
    rw [← hfe, backN, hb]; rfl
  have osl : ∀ i p, en.pre.objs[i]? = some p → liveO os[i]? = odLive p := fun i p hp => by
    obtain ⟨l1, l2, _, _, e3, _, e5⟩ := given_types en.pre x
    rw [eO] at e5
    rw [e5, giveOds_live e3, hp]; rfl
  generalize hfin : putBack f fl en.pre.objs (ps.map (renO f)) h1 = hF at hk
  have finj : ∀ a b, 0 ≤ a → a < 0 + en.pre.objs.length → 0 ≤ b → b < 0 + en.pre.objs.length → f a = f b → a = b := fun a b _ ha _ hb e => by
    obtain ⟨i, hi⟩ := allb a (by omega)
    obtain ⟨j, hj⟩ := allb b (by omega)
    rw [fpre a i hi, fpre b j hj] at e
    subst e
    exact t.inj a b i hi hj
  have blt : ∀ i id, i < en.pre.objs.length → findN k.r i = some id → id < h.length := fun i id hi hf => t.lt i _ id (List.getElem?_eq_getElem (by rw [npre]; exact hi)) hf
  have hFlen : hF.length = h.length + (ps.length - en.pre.objs.length) := by
    rw [← hfin]; simp only [putBack, List.length_append, putOld_len, List.length_drop, List.length_map, h1len]
  have plen : (putOld f fl 0 en.pre.objs (ps.map (renO f)) h1).length = h.length := by rw [putOld_len, h1len]
  have F1 : ∀ id, id < h.length → (∀ i, i < en.pre.objs.length → findN k.r i ≠ some id) → hF[id]? = h1[id]? := fun id hid hne => by
    rw [← hfin, putBack, List.getElem?_append_left (by rw [plen]; exact hid)]
    refine putOld_ne _ _ _ _ fun i _ hi e => ?_
    obtain ⟨id', hid'⟩ := allb i (by omega)
    rw [fpre i id' hid'] at e
    subst e
    exact hne i (by omega) hid'
  have F2 : ∀ i id p o, en.pre.objs[i]? = some p → ps[i]? = some o → findN k.r i = some id → hF[id]? = if isRdO p then (if fl then h1[id]? else h1[id]?.map asRd) else some (renO f o) := fun i id p o hp ho hi => by
    have hilt : i < en.pre.objs.length := (List.getElem?_eq_some_iff.1 hp).1
    have hid := blt i id hilt hi
    rw [← hfin, putBack, List.getElem?_append_left (by rw [plen]; exact hid)]
    exact putOld_at 0 _ _ _ i p (renO f o) hp (by simp [ho]) (by rw [Nat.zero_add]; exact fpre i id hi) finj (by rw [h1len]; exact hid)
  have F3 : ∀ j, en.pre.objs.length ≤ j → hF[f j]? = (ps[j]?).map (renO f) := fun j hj => by
    rw [fnew j hj, ← hfin, putBack, List.getElem?_append_right (by rw [plen]; omega), plen, List.getElem?_drop, List.getElem?_map]
    congr 2; omega
  have h1of : ∀ id o, h1[id]? = some o → h[id]? = some o ∨ (fl = false ∧ id ∈ k.fz ∧ o = .gone) := fun id o ho => by
    cases fl with
    | true => rw [← hh1] at ho; exact .inl ho
    | false =>
      rw [← hh1] at ho
      rcases freeze_get k.fz h id with h2 | ⟨h2, h3⟩
      · simp only [cond_false] at ho; rw [h2] at ho; exact .inl ho
      · simp only [cond_false] at ho
        rcases h3 with h3 | h3 <;> rw [h3] at ho <;> cases ho
        exact .inr ⟨rfl, h2, rfl⟩
  let gF : Nat → Value := fun id => if id < h.length then g id else g2 (en.pre.objs.length + (id - h.length))
  have gFlt : ∀ id, id < h.length → gF id = g id := fun id hid => if_pos hid
  have gFf : ∀ j, j < ps.length → gF (f j) = g2 j := fun j hj => by
    by_cases hlt : j < en.pre.objs.length
    · obtain ⟨id, hid⟩ := allb j hlt
      rw [fpre j id hid, gFlt id (blt j id hlt hid), hgg j hlt, g1e j id hid]
    · rw [fnew j (by omega)]
      simp only [gF]
      rw [if_neg (by omega)]
      congr 1; omega
  have fF : ∀ j, j < ps.length → f j < hF.length := fun j hj => by
    rw [hFlen]
    by_cases hlt : j < en.pre.objs.length
    · obtain ⟨id, hid⟩ := allb j hlt
      have := blt j id hlt hid
      rw [fpre j id hid]; omega
    · rw [fnew j (by omega)]; omega
  have LF : ∀ a, lives hF a → (a < h.length ∧ lives h a ∧ (∀ i, lives os i → findN k.r i ≠ some a) ∧ (fl = false → a ∉ k.fz ∧ ∀ i, findN k.r i = some a → lives os i)) ∨ ∃ j, lives ps j ∧ a = f j := fun a ha => by
    have halt := lives_lt ha
    by_cases hn : a < h.length
    · by_cases hb : ∃ i, i < en.pre.objs.length ∧ findN k.r i = some a
      · obtain ⟨i, hi, hf⟩ := hb
        have hp : en.pre.objs[i]? = some en.pre.objs[i] := List.getElem?_eq_getElem hi
        have hilt : i < ps.length := by omega
        have ho : ps[i]? = some ps[i] := List.getElem?_eq_getElem hilt
        have h2 := F2 i a _ _ hp ho hf
        by_cases hrd : isRdO en.pre.objs[i] = true
        · rw [if_pos hrd] at h2
          cases hflc : fl with
          | true =>
            rw [hflc] at h2
            simp only [if_true] at h2
            rw [lives, h2] at ha
            left
            refine ⟨hn, ?_, fun i' hi' hf' => ?_, fun q => by cases q⟩
            · cases e : h1[a]? with
              | none => rw [e] at ha; cases ha
              | some o =>
                rcases h1of a o e with h3 | ⟨h3, _⟩
                · rw [lives, h3, ← e]; exact ha
                · rw [hflc] at h3; cases h3
            · have := t.inj i i' a hf hf'
              subst this
              have h4 := osl i _ hp
              rw [isRd_live hrd] at h4
              rw [lives, h4] at hi'; cases hi'
          | false =>
            rw [hflc] at h2
            simp only [Bool.false_eq_true, if_false] at h2
            rw [lives, h2] at ha
            exfalso
            cases e : h1[a]? with
            | none => rw [e] at ha; cases ha
            | some o =>
              rw [e] at ha
              cases o <;> cases ha
        · rw [if_neg hrd] at h2
          rw [lives, h2, liveO_ren] at ha
          exact .inr ⟨i, by rw [lives, ho]; exact ha, (fpre i a hf).symm⟩
      · have hne : ∀ i, i < en.pre.objs.length → findN k.r i ≠ some a := fun i hi hf => hb ⟨i, hi, hf⟩
        rw [lives, F1 a hn hne] at ha
        left
        cases e : h1[a]? with
        | none => rw [e] at ha; cases ha
        | some o =>
          rw [e] at ha
          rcases h1of a o e with h3 | ⟨_, _, h3⟩
          · refine ⟨hn, by rw [lives, h3]; exact ha, fun i hi hf => hne i (t.bound i a hf) hf, fun q => ⟨fun hfz => ?_, fun i hf => absurd hf (hne i (t.bound i a hf))⟩⟩
            subst q
            rw [← hh1] at e
            simp only [cond_false] at e
            exact freeze_gone k.fz h a hfz (by rw [lives, e]; exact ha)
          · subst h3; cases ha
    · right
      refine ⟨en.pre.objs.length + (a - h.length), ?_, ?_⟩
      · have h2 := F3 (en.pre.objs.length + (a - h.length)) (by omega)
        rw [fnew _ (by omega), show h.length + (en.pre.objs.length + (a - h.length) - en.pre.objs.length) = a by omega] at h2
        rw [lives, h2] at ha
        cases e : ps[en.pre.objs.length + (a - h.length)]? with
        | none => rw [e] at ha; cases ha
        | some o => rw [e] at ha; rw [lives, e]; simpa [liveO_ren] using ha
      · rw [fnew _ (by omega)]; omega
  have R2foot : ∀ j, lives ps j → ∀ b, foot (g2 j) = some b → w.heap.size ≤ b ∨ ∃ i id, lives os i ∧ findN k.r i = some id ∧ lives h id ∧ foot (g id) = some b := fun j hj b hb => by
    rcases R2.mine j hj b hb with h2 | h2
    · exact .inl h2
    · exact .inr (lent b h2)
  have unf : ∀ {a b}, lives h a → (∀ i, lives os i → findN k.r i ≠ some a) → foot (g a) = some b → ∀ j, lives ps j → foot (g2 j) ≠ some b := fun {a b} ha hne hb j hj hb2 => by
    rcases R2foot j hj b hb2 with h2 | ⟨i, id, h2, h3, h4, h5⟩
    · have := H.foot_lt ha hb; omega
    · have : id ≠ a := fun q => by subst q; exact hne i h2 h3
      exact H.inj id a h4 ha this b h5 hb
  have hsz : w.heap.size ≤ w'.heap.size := R2.size
  have hold : ∀ b, b < w.heap.size → (∀ i id, lives os i → findN k.r i = some id → lives h id → foot (g id) ≠ some b) → w'.heap[b]? = w.heap[b]? := fun b hb hne => R2.old b hb fun hL => by
    obtain ⟨i, id, h2, h3, h4, h5⟩ := lent b hL
    exact hne i id h2 h3 h4 h5
  have le : (memOf M S w0 h g w).Le (memOf M S w0 hF gF w') := by
    refine ⟨by show h.length ≤ hF.length; omega, gFlt, fun a han ha => ?_, fun b hb => ⟨⟨Nat.lt_of_lt_of_le hb.1 hsz, hb.2.1, fun a ha hfa => ?_⟩, hold b hb.1 fun i id _ _ h4 h5 => hb.2.2 id h4 h5⟩, hsz⟩
    · rcases LF a ha with h2 | ⟨j, h2, h3⟩
      · exact h2.2.1
      · have hj : j < en.pre.objs.length := by
          rcases Nat.lt_or_ge j en.pre.objs.length with q | q
          · exact q
          · rw [h3, fnew j q] at han
            have : h.length + (j - en.pre.objs.length) < h.length := han
            omega
        obtain ⟨id, hid⟩ := allb j hj
        rw [fpre j id hid] at h3
        subst h3
        refine t.live j a hid ?_
        rw [osl j _ (List.getElem?_eq_getElem hj)]
        cases hd : odLive en.pre.objs[j] with
        | true => rfl
        | false =>
          have hjp := lives_lt h2
          have := hgl j _ _ (List.getElem?_eq_getElem hj) (List.getElem?_eq_getElem hjp) hd
          rw [lives, List.getElem?_eq_getElem hjp, this] at h2
          cases h2
    · rcases LF a ha with ⟨h2, h3, h4, _⟩ | ⟨j, h2, h3⟩
      · rw [gFlt a h2] at hfa; exact hb.2.2 a h3 hfa
      · rw [h3, gFf j (lives_lt h2)] at hfa
        rcases R2foot j h2 b hfa with h4 | ⟨i, id, _, _, h4, h5⟩
        · have h9 : b < w.heap.size := hb.1
          omega
        · exact hb.2.2 id h4 h5
  have cond : ∀ b, S' b → w0.heap.size ≤ b ∨ S b ∨ M b := fun b hb => by
    rcases hb with h2 | ⟨id, _, h2, h3⟩
    · exact h2.2.1
    · rcases H.mine id h2 b h3 with h4 | h4
      · exact .inl h4
      · exact .inr (.inr h4)
  have nolive : fl = false → ∀ b, S' b → (∀ j, lives ps j → foot (g2 j) ≠ some b) → ∀ a, lives hF a → foot (gF a) ≠ some b := fun hfl b hb hnp a ha hfa => by
    rcases LF a ha with ⟨h2, h3, h4, h5⟩ | ⟨j, h2, h3⟩
    · rw [gFlt a h2] at hfa
      rcases hb with h6 | ⟨id, h6, h7, h8⟩
      · exact h6.2.2 a h3 hfa
      · have hne : id ≠ a := fun q => by
          subst q
          rcases h6 with h6 | ⟨i, h6, h9⟩
          · exact (h5 hfl).1 h6
          · exact h9 ((h5 hfl).2 i h6)
        exact H.inj id a h7 h3 hne b h8 hfa
    · rw [h3, gFf j (lives_lt h2)] at hfa
      exact hnp j h2 hfa
  have Q : Ren (memOf (lentOf os g1) S' w ps g2 w') (memOf M S w0 hF gF w') f fl := by
    refine ⟨rfl, fun hfl b hb => ⟨hb.1, ?_, fun a ha hfa => ?_⟩, fun j hj => ⟨fF j hj, gFf j hj⟩⟩
    · rcases hb.2.1 with h2 | h2 | h2
      · exact .inl (Nat.le_trans H.size h2)
      · exact cond b h2
      · obtain ⟨i, id, _, _, h4, h5⟩ := lent b h2
        rcases H.mine id h4 b h5 with h6 | h6
        · exact .inl h6
        · exact .inr (.inr h6)
    · rcases hb.2.1 with h2 | h2 | h2
      · rcases LF a ha with ⟨h3, h4, _, _⟩ | ⟨j, h3, h4⟩
        · rw [gFlt a h3] at hfa
          have := H.foot_lt h4 hfa; omega
        · rw [h4, gFf j (lives_lt h3)] at hfa; exact hb.2.2 j h3 hfa
      · exact nolive hfl b h2 hb.2.2 a ha hfa
      · obtain ⟨i, id, h3, h4, h5, h6⟩ := lent b h2
        rcases LF a ha with ⟨h7, h8, h9, _⟩ | ⟨j, h7, h8⟩
        · rw [gFlt a h7] at hfa
          have hne : id ≠ a := fun q => by subst q; exact h9 i h3 h4
          exact H.inj id a h5 h8 hne b h6 hfa
        · rw [h8, gFf j (lives_lt h7)] at hfa; exact hb.2.2 j h7 hfa
  have psflat : fl = true → ∀ o ∈ ps, flatO o = true := fun q => by
    obtain ⟨l1, l2, _, _, e3, _, e5⟩ := given_types en.post y
    rw [hps] at e5
    rw [e5]
    refine giveOds_all e3 ?_
    rw [q] at hfl
    simp only [Ds.flat, Bool.and_eq_true] at hfl
    exact hfl.2
  have newHo : ∀ j o, ps[j]? = some o → Ho (memOf M S w0 hF gF w') (gF (f j)) (renO f o) := fun j o ho => by
    rw [gFf j (List.getElem?_eq_some_iff.1 ho).1]
    exact Q.ho (ps := ps) (fun _ q => q) (fun q => psflat q o (List.mem_of_getElem? ho)) (List.all_eq_true.1 hownO o (List.mem_of_getElem? ho)) (R2.obj j o ho)
  -- what is not lent stays
  have keep : ∀ a o, a < h.length → h[a]? = some o → (∀ i, lives os i → findN k.r i ≠ some a) → Ho (memOf M S w0 hF gF w') (gF a) o := fun a o ha ho hne => by
    rw [gFlt a ha]
    refine (H.obj a o ho).keep le fun b hb hl => hold b ?_ fun i id h2 h3 h4 h5 => ?_
    · exact H.foot_lt (by rw [lives, ho]; exact hl) hb
    · have : id ≠ a := fun q => by subst q; exact hne i h2 h3
      exact H.inj id a h4 (by rw [lives, ho]; exact hl) this b h5 hb
  have rdne : ∀ i a p, en.pre.objs[i]? = some p → isRdO p = true → findN k.r i = some a → ∀ i', lives os i' → findN k.r i' ≠ some a := fun i a p hp hrd hf i' hi' hf' => by
    have := t.inj i i' a hf hf'
    subst this
    have h4 := osl i _ hp
    rw [isRd_live hrd] at h4
    rw [lives, h4] at hi'; cases hi'
  have HF : Rel M S w0 hF gF w' := by
    refine ⟨R2.os.trans H.os, R2.tape.trans H.tape, H.drawn.trans R2.drawn, R2.output.trans H.output, Nat.le_trans H.size hsz, fun b h2 h3 => ?_, H.dis, fun a o ha => ?_, fun a ha b hb => ?_, fun a a' ha ha' hne b hb hb' => ?_⟩
    · rw [hold b (Nat.lt_of_lt_of_le h2 H.size) fun i id _ _ h4 h5 => ?_]
      · exact H.old b h2 h3
      · rcases H.mine id h4 b h5 with h6 | h6
        · omega
        · exact h3 h6
    · by_cases han : a < h.length
      · by_cases hb : ∃ i, i < en.pre.objs.length ∧ findN k.r i = some a
        · obtain ⟨i, hi, hf⟩ := hb
          have hp : en.pre.objs[i]? = some en.pre.objs[i] := List.getElem?_eq_getElem hi
          have ho : ps[i]? = some ps[i] := List.getElem?_eq_getElem (by omega)
          have h2 := F2 i a _ _ hp ho hf
          by_cases hrd : isRdO en.pre.objs[i] = true
          · rw [if_pos hrd] at h2
            have hne := rdne i a _ hp hrd hf
            by_cases hflc : fl = true
            · rw [if_pos hflc] at h2
              rw [h2] at ha
              rcases h1of a o ha with h3 | ⟨h3, _⟩
              · exact keep a o han h3 hne
              · rw [hflc] at h3; cases h3
            · rw [if_neg hflc] at h2
              have hflf : fl = false := by simpa using hflc
              rw [h2] at ha
              cases e : h1[a]? with
              | none => rw [e] at ha; cases ha
              | some o1 =>
                rw [e] at ha
                simp only [Option.map_some, Option.some.injEq] at ha
                subst ha
                rcases h1of a o1 e with h3 | ⟨_, _, h3⟩
                · have hk1 := keep a o1 han h3 hne
                  cases o1 with
                  | blk ty ls =>
                    have h0 := H.obj a _ h3
                    obtain ⟨b, s, e1, e2, e3⟩ := h0
                    obtain ⟨b', s', e1', e2', e3'⟩ := hk1
                    rw [gFlt a han, e1] at e1'
                    cases e1'
                    refine ⟨b, s', by rw [gFlt a han]; exact e1, e2', e3', ?_⟩
                    have hla : lives h a := by simp [lives, h3, liveO]
                    have hfa : foot (g a) = some b := by rw [e1]; rfl
                    have hSb : S' b := .inr ⟨a, .inr ⟨i, hf, fun q => hne i q hf⟩, hla, hfa⟩
                    exact ⟨Nat.lt_of_lt_of_le (H.foot_lt hla hfa) hsz, cond b hSb, nolive hflf b hSb (unf hla hne hfa)⟩
                  | rd ty ls => exact hk1
                  | _ => trivial
                · subst h3; trivial
          · rw [if_neg hrd] at h2
            rw [h2] at ha
            cases ha
            have := newHo i _ ho
            rw [fpre i a hf] at this
            exact this
        · have hne : ∀ i, i < en.pre.objs.length → findN k.r i ≠ some a := fun i hi hf => hb ⟨i, hi, hf⟩
          rw [F1 a han hne] at ha
          rcases h1of a o ha with h3 | ⟨_, _, h3⟩
          · exact keep a o han h3 fun i _ hf => hne i (t.bound i a hf) hf
          · subst h3; trivial
      · have h2 := F3 (en.pre.objs.length + (a - h.length)) (by omega)
        have hfa : f (en.pre.objs.length + (a - h.length)) = a := by rw [fnew _ (by omega)]; omega
        rw [hfa, ha] at h2
        cases e : ps[en.pre.objs.length + (a - h.length)]? with
        | none => rw [e] at h2; cases h2
        | some o' =>
          rw [e] at h2
          simp only [Option.map_some, Option.some.injEq] at h2
          subst h2
          have := newHo _ _ e
          rw [hfa] at this; exact this
    · rcases LF a ha with ⟨h2, h3, _, _⟩ | ⟨j, h2, h3⟩
      · rw [gFlt a h2] at hb; exact H.mine a h3 b hb
      · rw [h3, gFf j (lives_lt h2)] at hb
        rcases R2foot j h2 b hb with h4 | ⟨i, id, _, _, h4, h5⟩
        · exact .inl (Nat.le_trans H.size h4)
        · exact H.mine id h4 b h5
    · rcases LF a ha with ⟨h2, h3, h4, _⟩ | ⟨j, h2, h3⟩ <;> rcases LF a' ha' with ⟨k2, k3, k4, _⟩ | ⟨j', k2, k3⟩
      · rw [gFlt a h2] at hb; rw [gFlt a' k2] at hb'
        exact H.inj a a' h3 k3 hne b hb hb'
      · rw [gFlt a h2] at hb; rw [k3, gFf j' (lives_lt k2)] at hb'
        exact unf h3 h4 hb j' k2 hb'
      · rw [gFlt a' k2] at hb'; rw [h3, gFf j (lives_lt h2)] at hb
        exact unf k3 k4 hb' j h2 hb
      · rw [h3, gFf j (lives_lt h2)] at hb
        rw [k3, gFf j' (lives_lt k2)] at hb'
        have : j ≠ j' := fun q => by subst q; exact hne (h3.trans k3.symm)
        exact R2.inj j j' h2 k2 this b hb hb'
  refine ⟨_, hF, gF, HF, le, ?_, hk⟩
  obtain ⟨l1, l2, _, e2, _, e4, _⟩ := given_types en.post y
  have hall := giveVds_all (d := en.post.vals) e2
  rw [givenV_ren f]
  dsimp only
  have key : ∀ {vs : List V} {vals : List Value}, Al2 (Rv (memOf (lentOf os g1) S' w ps g2 w')) vs vals → (∀ v ∈ vs, (∃ ls, leaves v = some ls) ∧ (fl = true → flatV v = true) ∧ ownOkV ps v = true) →
      Al2 (Rv (memOf M S w0 hF gF w')) (vs.map (renV f)) vals := by
    intro vs
    induction vs with
    | nil => intro vals h2 _; have := h2.nil_left; subst this; trivial
    | cons v vs ih =>
      intro vals h2 h3
      obtain ⟨x, xs, rfl, h4, h5⟩ := h2.cons_left
      obtain ⟨h6, h7, h8⟩ := h3 v (by simp)
      exact ⟨Q.rv (fun _ q => q) h7 h8 h4, ih h5 fun q hq => h3 q (List.mem_cons_of_mem _ hq)⟩
  have hmem : ∀ v ∈ (givenV en.post id y).1, (∃ ls, leaves v = some ls) ∧ (fl = true → flatV v = true) ∧ ownOkV ps v = true := fun v hv => by
    have h2 := hall v (by rw [e4] at hv; exact hv)
    refine ⟨h2.1, fun q => h2.2 ?_, List.all_eq_true.1 hown v hv⟩
    rw [q] at hfl
    simp only [Ds.flat, Bool.and_eq_true] at hfl
    exact hfl.1
  refine resV_one (key hv2 hmem) fun v hv => ?_
  obtain ⟨q, hq, rfl⟩ := List.mem_map.1 hv
  obtain ⟨ls, hls⟩ := (hmem q hq).1
  cases q <;> first | exact ⟨_, rfl⟩ | cases hls
end
end Go.Dor
end

section
/- A SLICE MADE. Plain lemmas over any program. -/
namespace Go.Dor
open Go.RowKit (Below)
section
variable {P : Program} {M S : Nat → Prop} {w0 w w' : World} {h : Hm} {g : Nat → Value} {R : Type} {res : R} {K : V → Hm → Option R}
  {d : Option Tmp} {ty : TypeId} {pos : String} {aft : Array Edge} {gd : Option (Nat × Bool)} {e : Ev} {r : Env} {m : Mem}

theorem flat_rep {α : Type} {l : List α} : ∀ (n j : Nat) (x : α), (List.replicate n l).flatten[j]? = some x → j < n * l.length ∧ l[j % l.length]? = some x
  | 0, j, x, h => by simp at h
  | n + 1, j, x, h => by
    rw [List.replicate_succ, List.flatten_cons] at h
    by_cases hj : j < l.length
    · rw [List.getElem?_append_left hj] at h
      refine ⟨by rw [Nat.add_mul]; omega, ?_⟩
      rw [Nat.mod_eq_of_lt hj]; exact h
    · rw [List.getElem?_append_right (by omega)] at h
      obtain ⟨h1, h2⟩ := flat_rep n (j - l.length) x h
      refine ⟨by rw [Nat.add_mul]; omega, ?_⟩
      rw [Nat.mod_eq_sub_mod (by omega)]; exact h2
theorem rep_al2 {α β : Type} {Q : α → β → Prop} {a : α} {b : β} (h : Q a b) : ∀ n, Al2 Q (List.replicate n a) (List.replicate n b)
  | 0 => trivial
  | n + 1 => ⟨h, rep_al2 h n⟩

theorem make_sound {T : TypeId} {x y : Operand} (H : Rel M S w0 h g w) (E : ER (memOf M S w0 h g w) e r) (hk : makeOp P T (opnd e x) (opnd e y) h K = some res) :
    Step P ⟨d, .makeSlice T x y, ty, pos, aft, gd⟩ r w (After M S w0 h g w K res) := by
  have hx := opnd_sound E x
  have hy := opnd_sound E y
  generalize opnd e x = p at hk hx
  generalize opnd e y = q at hk hy
  unfold makeOp at hk
  split at hk
  rotate_left
  · cases hk
  rename_i k1 n k2 m' el hT
  split at hk
  rotate_left
  · cases hk
  rename_i t z b hc he
  split at hk
  rotate_left
  · cases hk
  rename_i cs c hz hcd
  rw [cond_eq_ite] at hk
  split at hk
  rotate_left
  · cases hk
  rename_i hb
  rw [Bool.and_eq_true, Bool.and_eq_true] at hb
  obtain ⟨⟨hzw, _⟩, heq⟩ := hb
  have hzw := Nat.eq_of_beq_eq_true hzw
  obtain ⟨⟨hnm, h0, hbig⟩, hk2⟩ := need_some hk
  clear hk
  subst hnm
  have hx : ev r x = .int k1 n := rv_int hx
  have hy : ev r y = .int k2 n := rv_int hy
  obtain ⟨i, v, hi, hv, rfl, rfl, hvs, hz0, hb0⟩ := elem_spec he
  have hcs : cs = v.cells := by
    have : zeroOf P el = some v.cells := by simp [zeroOf, hi, hv]
    rw [this] at hz; cases hz; rfl
  have hcell := eqZs_eq heq
  have hat := fun I => cellsD_at (w := w.alloc (.cells (madeCells v.cells (n.toNat * i.size)) el)) (I := I) t (dflt t) c hcd
  have hle : n * 1 ≤ n * (i.bytes : Int) := Int.mul_le_mul_of_nonneg_left (by omega) h0
  have hrun := run_make (P := P) w T el i v hT hi hv k1 k2 n n h0 (Int.le_refl _) (by rw [Int.mul_comm]; exact hbig) (by omega)
  have hbel : Below w.heap.size w (w.alloc (.cells (madeCells v.cells (n.toNat * i.size)) el)) := below_alloc w _
  have hlen : c.length = i.size := by rw [← hcell, hcs]; simpa using hvs
  have hown : Own (w.alloc (.cells (madeCells v.cells (n.toNat * i.size)) el)) (.slice (some ⟨w.heap.size, 0, none⟩) n.toNat n.toNat) el (wid t) (List.replicate n.toNat c) := by
    refine ⟨fun y hy => ?_, .inr ⟨w.heap.size, n.toNat, madeCells v.cells (n.toNat * i.size), (0, 0), by simp, by simp, ?_, ?_, fun j _ hj => by omega, ?_, fun j y hj => ?_⟩⟩
    · rw [List.eq_of_mem_replicate hy, hlen, hzw]
    · unfold maxLen; omega
    · exact heap_alloc_new w _
    · rw [size_madeCells, hzw]
    · obtain ⟨h1, h2⟩ := flat_rep _ _ _ hj
      rw [hlen] at h1 h2
      have h3 : v.cells[j % i.size]? = some y := by rw [← hcell, hcs] at h2; simpa using h2
      have h4 : j % i.size < v.cells.size := (Array.getElem?_eq_some_iff.1 h3).1
      rw [madeCells, Array.getElem?_map, Array.getElem?_range, if_pos h1, Option.map_some]
      have h5 : v.cells[j % v.cells.size]! = y := by
        rw [hvs] at h4 ⊢
        rw [getElem!_pos v.cells (j % i.size) (by rw [hvs]; exact h4)]
        exact (Array.getElem?_eq_some_iff.1 h3).2
      rw [h5]
  obtain ⟨H2, le2⟩ := H.add hbel (.arr el t (List.replicate n.toNat (dflt t))) (.slice (some ⟨w.heap.size, 0, none⟩) n.toNat n.toNat) (fun b hb => by
      simp only [foot, vfoot] at hb
      split at hb
      · cases hb
      · simp at hb; omega) fun _ => ⟨_, hown, rep_al2 (hat _) _⟩
  refine .value (v := .slice (some ⟨w.heap.size, 0, none⟩) n.toNat n.toNat) (w' := w.alloc (.cells (madeCells v.cells (n.toNat * i.size)) el)) ?_ ⟨_, _, _, H2, le2, ?_, hk2⟩
  · simp [execOp, hx, hy, hrun]
  · exact ⟨by simp [memOf], _, rfl, rfl, rfl, fun _ => (gx_same g h.length _).symm⟩
end
end Go.Dor
end

section
/- PARTS OF A SLICE OF THE CALL'S OWN, SEEN WHILE IT GOES ON; AND CLEARED. Plain lemmas over any program. -/
set_option linter.unusedVariables false
set_option linter.unusedSimpArgs false
namespace Go.Dor
open Go.RowKit (Below)
section
variable {P : Program} {M S : Nat → Prop} {w0 w w' : World} {h : Hm} {g : Nat → Value} {R : Type} {res : R} {K : V → Hm → Option R} {K1 : V → Option R}
  {d : Option Tmp} {ty : TypeId} {pos : String} {aft : Array Edge} {gd : Option (Nat × Bool)} {e : Ev} {r : Env} {m : Mem}

theorem view_sound {T : TypeId} {x : Operand} {lo hi : Option Operand} (H : Rel M S w0 h g w) (E : ER (memOf M S w0 h g w) e r) (hk : viewOp P T (opnd e x) lo hi e h K = some res) :
    Step P ⟨d, .slice T x lo hi none, ty, pos, aft, gd⟩ r w (After M S w0 h g w K res) := by
  have hx := opnd_sound E x
  generalize opnd e x = p at hk hx
  unfold viewOp at hk
  split at hk
  rotate_left
  · cases hk
  rename_i id
  split at hk
  rotate_left
  · cases hk
  rename_i ty' t xs el a ho hT ha
  rw [cond_eq_ite] at hk
  split at hk
  rotate_left
  · cases hk
  rename_i hz
  have hz := zIs_eq hz
  obtain ⟨hc, hk⟩ := need_some hk
  have hli : lives h id := by simp [lives, ho, liveO]
  obtain ⟨hlt, v, hv, _, _, hv2⟩ := hx
  have hv : ev r x = v := by simpa using hv
  have hv2 : v = g id := hv2 hli
  rw [hv2] at hv
  obtain ⟨ys, hO, hs⟩ := H.obj _ _ ho
  have hl := hs.length
  have hrun := ex_subS (P := P) (d := d) (ty := ty) (pos := pos) (aft := aft) (gd := gd) (w := w) (lo := lo) (hi := none) (x := x) (r := r) (a := a) (b := (ys.length : Int)) (by rw [hv]; exact hO.rd) hT hz (bound_sound E ha) (.inl ⟨rfl, rfl⟩) ⟨hc.1, by omega, Int.le_refl _⟩
  refine .value (w' := w) hrun ⟨.one (.vw id (wid t) a), h, g, H, .refl _, ⟨hlt, ?_⟩, hk⟩
  obtain ⟨a1, n, cap, e1⟩ := hO.isSlice
  have hn : slen (g id) = ys.length := hO.rd.slen
  rw [e1] at hn
  have hn : n = ys.length := hn
  show VW (g id) (wid t) a _
  refine ⟨a1, n, cap, e1, hc.1, by omega, ?_⟩
  rw [hv, hn]
theorem zeroCells_flat {z : Array Value} {n : Nat} : (Builtin.zeroCells z n).toList = (List.replicate n z.toList).flatten := by
  apply List.ext_getElem?
  intro j
  have hl : (List.replicate n z.toList).flatten.length = n * z.size := by
    have := flat_len (xs := List.replicate n z.toList) (z := z.size) (fun y hy => by rw [List.eq_of_mem_replicate hy]; simp)
    rw [List.length_replicate] at this
    exact this
  by_cases hj : j < n * z.size
  · have h1 : (List.replicate n z.toList).flatten[j]? = some ((List.replicate n z.toList).flatten[j]'(by rw [hl]; exact hj)) := List.getElem?_eq_getElem _
    obtain ⟨h2, h3⟩ := flat_rep _ _ _ h1
    rw [h1, ← h3]
    have h4 : z.toList.length = z.size := by simp
    rw [h4]
    have h5 : j % z.size < z.size := Nat.mod_lt _ (Nat.pos_of_ne_zero fun q => by rw [q] at hj; omega)
    simp only [Builtin.zeroCells, Array.toList_map, Array.toList_range, List.getElem?_map, List.getElem?_range hj, Option.map_some]
    rw [getElem!_pos z (j % z.size) h5]
    simp [h5]
  · rw [List.getElem?_eq_none (by simp [Builtin.zeroCells]; omega), List.getElem?_eq_none (by rw [hl]; omega)]
theorem clear_sound {T : TypeId} {x : Operand} (H : Rel M S w0 h g w) (E : ER (memOf M S w0 h g w) e r) (hk : clearOp P T (opnd e x) h K = some res) :
    Step P ⟨d, .call { callee := .builtin .clear, args := #[x], argTypes := #[T] }, ty, pos, aft, gd⟩ r w (After M S w0 h g w K res) := by
  have hx := opnd_sound E x
  generalize opnd e x = p at hk hx
  unfold clearOp at hk
  split at hk
  rotate_left
  · cases hk
  rename_i id z lo
  split at hk
  rotate_left
  · cases hk
  rename_i ty' t xs el ho hT
  split at hk
  rotate_left
  · cases hk
  rename_i z' b cs c he hz hcd
  rw [cond_eq_ite] at hk
  split at hk
  rotate_left
  · cases hk
  rename_i hb
  rw [Bool.and_eq_true, Bool.and_eq_true] at hb
  obtain ⟨⟨hzw, hzw'⟩, heq⟩ := hb
  have hzw := Nat.eq_of_beq_eq_true hzw
  have hzw' := Nat.eq_of_beq_eq_true hzw'
  subst hzw
  obtain ⟨i, v, hi, hv, hsz, _, hvs, hz0, _⟩ := elem_spec he
  have hcs : cs = v.cells := by
    have : zeroOf P el = some v.cells := by simp [zeroOf, hi, hv]
    rw [this] at hz; cases hz; rfl
  have hcell : v.cells.toList = c := by rw [← hcs]; exact eqZs_eq heq
  have hli : lives h id := by simp [lives, ho, liveO]
  obtain ⟨hlt, a1, n, cap, e1, h0, h1, hval⟩ := hx
  have e1 : g id = .slice a1 n cap := e1
  have hval : ev r x = slv (g id) lo n (wid t) := (List.cons.inj hval).1
  obtain ⟨ys, hO, hs⟩ := H.obj _ _ ho
  have hl := hs.length
  have hn : n = ys.length := by
    have hn := hO.rd.slen
    rw [e1] at hn
    exact hn
  have hzv : (zeroValue el).run P w = .ok v w := by simp [zeroValue, typeInfo, run_program, hi, hv]
  have hdef : ∀ W I, Al2 (At W I t) (List.replicate (xs.length - lo.toNat) (dflt t)) (List.replicate (xs.length - lo.toNat) c) := fun W I => rep_al2 (cellsD_at t (dflt t) c hcd) _
  by_cases hn0 : (n : Int) = lo
  · -- nothing to clear
    have hrun : (execOp (ev r) ⟨d, .call { callee := .builtin .clear, args := #[x], argTypes := #[T] }, ty, pos, aft, gd⟩).run P w = .ok (.value (.tuple #[])) w := by
      have hval2 : ev r x = .slice (if cap = lo.toNat then a1 else a1.map (·.add (lo.toNat * wid t))) 0 (cap - lo.toNat) := by
        rw [hval, e1]
        simp only [slv]
        congr 1
        omega
      generalize (if cap = lo.toNat then a1 else a1.map (·.add (lo.toNat * wid t))) = A at hval2
      cases A <;> simp [execOp, hval2, resolve, invoke, builtin, Builtin.clear_, run_underlying hT]
    have hxs : xs.take lo.toNat ++ List.replicate (xs.length - lo.toNat) (dflt t) = xs := by
      have e2 : xs.length - lo.toNat = 0 := by omega
      rw [e2, List.replicate_zero, List.append_nil, List.take_of_length_le (by omega)]
    rw [hxs] at hk
    obtain ⟨H', le⟩ := H.set (w' := w) hli (.arr ty' t xs) (grown_refl w _) fun le => ⟨ys, hO, hs.mono (At.mono le.imm t)⟩
    exact .value (w' := w) hrun ⟨.u, _, _, H', le, trivial, hk⟩
  · rcases hO.2 with ⟨_, h00⟩ | ⟨q, cap', cur, fz, hgq, hcp, hcm, hg, hfz, hcs2, hxx⟩
    · rw [h00, List.length_nil] at hn
      omega
    · rw [hgq] at e1
      cases e1
      have hall := (hs.flat_len (At.len t)).1
      have hyl := flat_len hall
      have hlo : lo.toNat < ys.length := by omega
      have hval2 : ev r x = .slice (some ⟨q, lo.toNat * wid t, none⟩) (ys.length - lo.toNat) (cap - lo.toNat) := by
        rw [hval, hgq]
        simp only [slv]
        rw [if_neg (by omega), Option.map_some, add_lit, Nat.zero_add, Int.toNat_natCast]
      have hvl : (Builtin.zeroCells v.cells (ys.length - lo.toNat)).toList = (List.replicate (ys.length - lo.toNat) c).flatten := by rw [zeroCells_flat, hcell]
      have hcl : c.length = wid t := by rw [← hcell]; simp; omega
      have hrl : (List.replicate (ys.length - lo.toNat) c).flatten.length = (ys.length - lo.toNat) * wid t := by
        have := flat_len (xs := List.replicate (ys.length - lo.toNat) c) (z := wid t) (fun y hy => by rw [List.eq_of_mem_replicate hy]; exact hcl)
        rw [List.length_replicate] at this
        exact this
      have hone : ∀ y ∈ (List.replicate (ys.length - lo.toNat) c).flatten, y.oneCell' = true := fun y hy => by
        obtain ⟨l, h2, h3⟩ := List.mem_flatten.1 hy
        rw [List.eq_of_mem_replicate h2] at h3
        exact At.one (w := w) (I := fun _ => True) t _ _ (cellsD_at t (dflt t) c hcd) y h3
      have hmul : lo.toNat * wid t + (ys.length - lo.toNat) * wid t = ys.length * wid t := by rw [← Nat.add_mul]; congr 1; omega
      have hcap : ys.length * wid t ≤ cap * wid t := Nat.mul_le_mul_right _ hcp
      have hst := run_storeCells_seg P q (lo.toNat * wid t) ty' fz (List.replicate (ys.length - lo.toNat) c).flatten 0 cur w hg (fun j hj => hfz j (.inl hj)) (by rw [hrl]; omega) hone
      simp only [Nat.add_zero, hrl, hmul] at hst
      have hrun : (execOp (ev r) ⟨d, .call { callee := .builtin .clear, args := #[x], argTypes := #[T] }, ty, pos, aft, gd⟩).run P w = .ok (.value (.tuple #[])) (w.setRow q (cur.toList.take (lo.toNat * wid t) ++ (List.replicate (ys.length - lo.toNat) c).flatten ++ cur.toList.drop (ys.length * wid t)).toArray) := by
        obtain ⟨k, hk1⟩ : ∃ k, ys.length - lo.toNat = k + 1 := ⟨ys.length - lo.toNat - 1, by omega⟩
        rw [hk1] at hval2 hvl hst ⊢
        simp [execOp, hval2, resolve, invoke, builtin, Builtin.clear_, run_underlying hT, hzv, hvl, hst]
      obtain ⟨g1, g2⟩ := setRow_grown (cs' := (cur.toList.take (lo.toNat * wid t) ++ (List.replicate (ys.length - lo.toNat) c).flatten ++ cur.toList.drop (ys.length * wid t)).toArray) hg
      have hnew : (xs.take lo.toNat ++ List.replicate (xs.length - lo.toNat) (dflt t)).length = ys.length := by rw [List.length_append, List.length_take, List.length_replicate]; omega
      have hyl2 : (ys.take lo.toNat ++ List.replicate (ys.length - lo.toNat) c).length = ys.length := by rw [List.length_append, List.length_take, List.length_replicate]; omega
      have hall' : ∀ y ∈ ys.take lo.toNat ++ List.replicate (ys.length - lo.toNat) c, y.length = wid t := fun y hy => by
        rcases List.mem_append.1 hy with h2 | h2
        · exact hall y (List.mem_of_mem_take h2)
        · rw [List.eq_of_mem_replicate h2]; exact hcl
      have htl := flat_len (xs := ys.take lo.toNat) (z := wid t) (fun y hy => hall y (List.mem_of_mem_take hy))
      rw [List.length_take, Nat.min_eq_left (Nat.le_of_lt hlo)] at htl
      have hsize : (cur.toList.take (lo.toNat * wid t) ++ (List.replicate (ys.length - lo.toNat) c).flatten ++ cur.toList.drop (ys.length * wid t)).toArray.size = cur.size := by
        simp only [List.size_toArray, List.length_append, List.length_take, List.length_drop, Array.length_toList, hrl]
        omega
      have hfo : foot (g id) = some q := by
        rw [hgq]
        simp [foot, vfoot]
        omega
      have hho : ∀ (le : (memOf M S w0 h g w).Le (memOf M S w0 (h.set id (.arr ty' t (xs.take lo.toNat ++ List.replicate (xs.length - lo.toNat) (dflt t)))) g (w.setRow q (cur.toList.take (lo.toNat * wid t) ++ (List.replicate (ys.length - lo.toNat) c).flatten ++ cur.toList.drop (ys.length * wid t)).toArray))), Ho (memOf M S w0 (h.set id (.arr ty' t (xs.take lo.toNat ++ List.replicate (xs.length - lo.toNat) (dflt t)))) g (w.setRow q (cur.toList.take (lo.toNat * wid t) ++ (List.replicate (ys.length - lo.toNat) c).flatten ++ cur.toList.drop (ys.length * wid t)).toArray)) (g id) (.arr ty' t (xs.take lo.toNat ++ List.replicate (xs.length - lo.toNat) (dflt t))) := by
        intro le
        refine ⟨ys.take lo.toNat ++ List.replicate (ys.length - lo.toNat) c, ⟨hall', .inr ⟨q, cap, _, fz, by rw [hyl2]; exact hgq, by rw [hyl2]; exact hcp, hcm, g2, fun j hj => hfz j (by rw [hsize] at hj; exact hj), by rw [hsize]; exact hcs2, fun j u hj => ?_⟩⟩, ?_⟩
        · simp only [List.getElem?_toArray]
          rw [List.flatten_append] at hj
          by_cases hj1 : j < lo.toNat * wid t
          · rw [List.getElem?_append_left (by rw [htl]; exact hj1)] at hj
            rw [List.append_assoc, List.getElem?_append_left (by rw [List.length_take, Array.length_toList]; omega), List.getElem?_take, if_pos hj1]
            have e2 : ys.flatten = (ys.take lo.toNat).flatten ++ (ys.drop lo.toNat).flatten := by rw [← List.flatten_append, List.take_append_drop]
            have := hxx j u (by rw [e2, List.getElem?_append_left (by rw [htl]; exact hj1)]; exact hj)
            simpa using this
          · rw [List.getElem?_append_right (by rw [htl]; omega), htl] at hj
            have hj2 := (List.getElem?_eq_some_iff.1 hj).1
            have e3 : (cur.toList.take (lo.toNat * wid t)).length = lo.toNat * wid t := by rw [List.length_take, Array.length_toList]; omega
            rw [List.append_assoc, List.getElem?_append_right (by rw [e3]; omega), e3, List.getElem?_append_left hj2]
            exact hj
        · have key : ∀ {α β : Type} {Q : α → β → Prop} {x : α} {y : β} (n m : Nat), n = m → Q x y → Al2 Q (List.replicate n x) (List.replicate m y) := by
            intro α β Q x y n m e k
            subst e
            exact rep_al2 k n
          exact ((hs.mono (At.mono le.imm t)).take _).append (key _ _ (by rw [hl]) (cellsD_at t (dflt t) c hcd))
      obtain ⟨H', le⟩ := H.set (w' := (w.setRow q (cur.toList.take (lo.toNat * wid t) ++ (List.replicate (ys.length - lo.toNat) c).flatten ++ cur.toList.drop (ys.length * wid t)).toArray)) hli (.arr ty' t (xs.take lo.toNat ++ List.replicate (xs.length - lo.toNat) (dflt t))) (by rw [hfo]; exact g1) hho
      exact .value hrun ⟨.u, _, _, H', le, trivial, hk⟩
end
end Go.Dor
end

section
/- OPERATIONS ALL TOLD: what the machine says of one operation holds. Plain lemmas over any program. -/
namespace Go.Dor
open Go.RowKit (Below)

structure CxOk (X : Cx) : Prop where
  D : ∀ f en, (f, en) ∈ X.D → Entry.Sound X.P f en
  ext : ∀ f k, findA X.ext f = some k → ExternOf X.P f (externFn k)
  mo : X.P.follows .mixedOrders = true

section
variable {P : Program} {M S : Nat → Prop} {w0 w w' : World} {h : Hm} {g : Nat → Value} {R : Type} {res : R} {K : V → Hm → Option R} {K1 : V → Option R}
  {d : Option Tmp} {ty : TypeId} {pos : String} {aft : Array Edge} {gd : Option (Nat × Bool)} {e : Ev} {r : Env} {m : Mem}

theorem isPtr_rv {i : Nat} (h1 : i < m.n) (h2 : isPtr (m.g i)) : Rv m (.one (.ptr i 0)) (m.g i) := by
  unfold isPtr at h2
  split at h2
  · rename_i a ha
    obtain ⟨b, o, s⟩ := a
    obtain ⟨h3, h4⟩ := h2
    dsimp only at h3 h4
    subst h3 h4
    exact ⟨h1, b, ha, by rw [ha]⟩
  · exact h2.elim
theorem ptrs_al2 : ∀ {ids : List Nat}, (∀ i ∈ ids, i < m.n ∧ isPtr (m.g i)) → Al2 (Rv m) (ptrsOf ids) (ids.map m.g)
  | [], _ => trivial
  | i :: l, h => ⟨isPtr_rv (h i (by simp)).1 (h i (by simp)).2, ptrs_al2 fun j hj => h j (List.mem_cons_of_mem _ hj)⟩
theorem opndS_al2 (E : ER m e r) : ∀ l : List Operand, Al2 (Rv m) (opndS e l) (l.map (ev r))
  | [] => trivial
  | x :: l => ⟨opnd_sound E x, opndS_al2 E l⟩

theorem callF_sound {oops : Nat → List V → Hm → Option Unit} {f : FuncId} {vs : List V} {vals : List Value} (H : Rel M S w0 h g w) (hv : Al2 (Rv (memOf M S w0 h g w)) vs vals) :
    ∀ {D : List (Nat × Entry)}, (∀ f en, (f, en) ∈ D → Entry.Sound P f en) → callF oops D f vs h K = some res → Calls P f vals.toArray w fun e w' => ∃ v, e = .returned v ∧ After M S w0 h g w K res v w'
  | [], _, hk => by simp [callF] at hk
  | (q, en) :: D, hD, hk => by
    simp only [callF, cond_eq_ite] at hk
    split at hk
    · rename_i hc
      rw [Bool.and_eq_true] at hc
      have := Nat.eq_of_beq_eq_true hc.1
      subst this
      exact enterE_sound (hD _ _ (by simp)) H hv hk
    · exact callF_sound H hv (fun f en hm => hD f en (List.mem_cons_of_mem _ hm)) hk

theorem equalIn_nil {T el : TypeId} {q : Nat} {a : Option Addr} {n c : Nat} (hT : P.underlying T = some (.slice el)) : (Op.equalIn (q + 1) T (.slice a n c) (.slice none 0 0)).run P w = .ok a.isNone w := by
  cases a <;> simp [Op.equalIn, run_underlying hT]
theorem run_nil {T el : TypeId} {x y : Operand} {u : TypeId} {a : Option Addr} {n c : Nat} (hT : P.underlying T = some (.slice el)) (hx : ev r x = .slice a n c) (hy : ev r y = .slice none 0 0) :
    (execOp (ev r) ⟨d, .binOp .eql T x y u, ty, pos, aft, gd⟩).run P w = .ok (.value (.bool a.isNone)) w ∧ (execOp (ev r) ⟨d, .binOp .neq T x y u, ty, pos, aft, gd⟩).run P w = .ok (.value (.bool (!a.isNone))) w := by
  have h := equalIn_nil (P := P) (w := w) (q := 9999) (a := a) (n := n) (c := c) hT
  rw [← equal_run] at h
  constructor <;> simp [execOp, hx, hy, eqGuard, binOp, h]

theorem bothC_some {a b : Option R} (h : bothC a b = some res) : a = some res ∧ b = some res := by
  unfold bothC at h
  split at h
  · rename_i e; exact ⟨h, by rw [← e]; exact h⟩
  · cases h

/-- what a comparison with nil comes to -/
theorem nilEq_val {T : TypeId} {x : Operand} {KB : Bool → Option R} (H : Rel M S w0 h g w) (E : ER (memOf M S w0 h g w) e r) (hk : nilEq P T (opnd e x) h KB = some res) :
    ∃ el a n c, P.underlying T = some (.slice el) ∧ ev r x = .slice a n c ∧ KB a.isNone = some res := by
  have hx := opnd_sound E x
  generalize opnd e x = y at hk hx
  unfold nilEq at hk
  split at hk
  · rename_i el hT
    split at hk
    · exact ⟨el, none, 0, 0, hT, rv_nil hx, hk⟩
    · rename_i id off n lo hi
      obtain ⟨_, _, _, _, b, _, h6⟩ := hx
      have h6 : ev r x = bsv b off n lo hi := by simpa using h6
      exact ⟨el, _, _, _, hT, h6, hk⟩
    · split at hk
      · rename_i t xs hr
        obtain ⟨ys, hrd, hal⟩ := readS_sound H hx hr
        have hl := hal.length
        rw [cond_eq_ite] at hk
        rcases hrd.2 with ⟨⟨a, hv⟩, rfl⟩ | ⟨b, off, cap, cur, t', fz, hv, h1, h2, h3⟩
        · split at hk
          · obtain ⟨k1, k2⟩ := bothC_some hk
            refine ⟨el, a, 0, _, hT, hv, ?_⟩
            cases a.isNone
            · exact k2
            · exact k1
          · rename_i hne
            exact absurd (by simpa using hl) (by simpa using hne)
        · refine ⟨el, _, _, _, hT, hv, ?_⟩
          split at hk
          · exact (bothC_some hk).2
          · exact hk
      · cases hk
  · cases hk

theorem nilEq_sound {op : BinOp} {T u : TypeId} {x y : Operand} (H : Rel M S w0 h g w) (E : ER (memOf M S w0 h g w) e r) (hn : isNil (opnd e y) = true)
    (hk : (match op with | .eql => nilEq P T (opnd e x) h fun b => K1 (.one (.b b)) | .neq => nilEq P T (opnd e x) h fun b => K1 (.one (.b (!b))) | _ => none) = some res) :
    Pure P M S w0 h g w r ⟨d, .binOp op T x y u, ty, pos, aft, gd⟩ K1 res := by
  have hy := opnd_sound E y
  generalize opnd e y = z at hn hy
  have hy : ev r y = .slice none 0 0 := by
    unfold isNil at hn
    split at hn
    · exact rv_nil hy
    · cases hn
  cases op <;> simp only [] at hk <;> first | (cases hk; done) | skip
  · obtain ⟨el, a, n, c, hT, hx, hk⟩ := nilEq_val H E hk
    exact .of (fun _ => (run_nil hT hx hy).1) mk_bool hk
  · obtain ⟨el, a, n, c, hT, hx, hk⟩ := nilEq_val H E hk
    exact .of (fun _ => (run_nil hT hx hy).2) mk_bool hk

theorem equalIn_np {T el : TypeId} {q : Nat} {a : Option Addr} (hT : P.underlying T = some (.pointer el)) : (Op.equalIn (q + 1) T (.pointer a) (.pointer none)).run P w = .ok a.isNone w := by
  cases a <;> simp [Op.equalIn, run_underlying hT]
theorem run_np {T el : TypeId} {x y : Operand} {u : TypeId} {a : Option Addr} (hT : P.underlying T = some (.pointer el)) (hx : ev r x = .pointer a) (hy : ev r y = .pointer none) :
    (execOp (ev r) ⟨d, .binOp .eql T x y u, ty, pos, aft, gd⟩).run P w = .ok (.value (.bool a.isNone)) w ∧ (execOp (ev r) ⟨d, .binOp .neq T x y u, ty, pos, aft, gd⟩).run P w = .ok (.value (.bool (!a.isNone))) w := by
  have h := equalIn_np (P := P) (w := w) (q := 9999) (a := a) hT
  rw [← equal_run] at h
  constructor <;> simp [execOp, hx, hy, eqGuard, binOp, h]
theorem npEq_val {T : TypeId} {x : Operand} {KB : Bool → Option R} (E : ER (memOf M S w0 h g w) e r) (hk : npEq P T (opnd e x) KB = some res) :
    ∃ el a, P.underlying T = some (.pointer el) ∧ ev r x = .pointer a ∧ KB a.isNone = some res := by
  have hx := opnd_sound E x
  generalize opnd e x = y at hk hx
  unfold npEq at hk
  split at hk
  · rename_i el id off hT
    obtain ⟨_, b, _, h6⟩ := hx
    have h6 : ev r x = .pointer (some ⟨b, off, none⟩) := by simpa using h6
    exact ⟨el, _, hT, h6, hk⟩
  · rename_i el hT
    have h6 : ev r x = .pointer none := by simpa [Rv, Rl] using hx
    exact ⟨el, _, hT, h6, hk⟩
  · cases hk
theorem npEq_sound {op : BinOp} {T u : TypeId} {x y : Operand} (E : ER (memOf M S w0 h g w) e r) (hn : isNp (opnd e y) = true)
    (hk : (match op with | .eql => npEq P T (opnd e x) fun b => K1 (.one (.b b)) | .neq => npEq P T (opnd e x) fun b => K1 (.one (.b (!b))) | _ => none) = some res) :
    Pure P M S w0 h g w r ⟨d, .binOp op T x y u, ty, pos, aft, gd⟩ K1 res := by
  have hy := opnd_sound E y
  generalize opnd e y = z at hn hy
  have hy : ev r y = .pointer none := by
    unfold isNp at hn
    split at hn
    · simpa [Rv, Rl] using hy
    · cases hn
  cases op <;> simp only [] at hk <;> first | (cases hk; done) | skip
  · obtain ⟨el, a, hT, hx, hk⟩ := npEq_val E hk
    exact .of (fun _ => (run_np hT hx hy).1) mk_bool hk
  · obtain ⟨el, a, hT, hx, hk⟩ := npEq_val E hk
    exact .of (fun _ => (run_np hT hx hy).2) mk_bool hk

/-! ### parts of what is known -/
theorem notNil_some {v : V} (h : notNil v K1 = some res) : isNil v = false ∧ K1 v = some res := by
  unfold notNil at h
  cases e : isNil v
  · rw [e] at h; exact ⟨rfl, h⟩
  · rw [e] at h; cases h

theorem extract_val {t : Operand} {i : Nat} (E : ER m e r) (hk : (match opnd e t with | .tup vs => (match vs[i]? with | some (.inl x) => K1 (.one x) | some (.inr l) => K1 (.ag l) | none => none) | _ => none) = some res) :
    ∃ v val, (∀ w, (execOp (ev r) ⟨d, .extract t i, ty, pos, aft, gd⟩).run P w = .ok (.value val) w) ∧ Rv m v val ∧ K1 v = some res := by
  have hx := opnd_sound E t
  generalize opnd e t = y at hk hx
  split at hk
  · rename_i vs
    obtain ⟨l, hl, hal⟩ := hx
    split at hk
    · rename_i x hi
      obtain ⟨y, hy, h1⟩ := hal.get hi
      exact ⟨.one x, y, fun _ => ex_extract hl hy, h1, hk⟩
    · rename_i x hi
      obtain ⟨y, hy, h1⟩ := hal.get hi
      exact ⟨.ag x, y, fun _ => ex_extract hl hy, h1, hk⟩
    · cases hk
  · cases hk

theorem idsOf_sound (E : ER m e r) : ∀ {l : List Operand} {ids : List Nat}, idsOf e l = some ids → (∀ i ∈ ids, i < m.n ∧ isPtr (m.g i)) ∧ l.map (ev r) = ids.map m.g
  | [], ids, h => by cases h; exact ⟨by simp, rfl⟩
  | x :: l, ids, h => by
    simp only [idsOf] at h
    have hx := opnd_sound E x
    split at h
    · rename_i id q h1 h2
      cases h
      rw [h1] at hx
      obtain ⟨h3, h4⟩ := idsOf_sound E h2
      obtain ⟨h5, b, h6, h7⟩ := hx
      have h7 : ev r x = .pointer (some ⟨b, 0, none⟩) := by simpa using h7
      refine ⟨fun i hi => ?_, by rw [List.map_cons, List.map_cons, h4, h7, h6]⟩
      rcases List.mem_cons.1 hi with rfl | hi
      · exact ⟨h5, by rw [h6]; exact ⟨rfl, rfl⟩⟩
      · exact h3 i hi
    · cases h

/-- what is known of a value that is looked at -/
theorem step_val {o : Oper} {v : V} {val : Value} (H : Rel M S w0 h g w) (h1 : (execOp (ev r) o).run P w = .ok (.value val) w) (h2 : Rv (memOf M S w0 h g w) v val) (h3 : K v h = some res) : Step P o r w (After M S w0 h g w K res) :=
  .value h1 ⟨v, h, g, H, .refl _, h2, h3⟩

theorem move_sound {T : TypeId} {x : Operand} (H : Rel M S w0 h g w) (E : ER (memOf M S w0 h g w) e r) (hk : nilOp P T (opnd e x) h K = some res) {o : Oper} (ho : (execOp (ev r) o).run P w = .ok (.value (ev r x)) w) :
    Step P o r w (After M S w0 h g w K res) := by
  obtain ⟨v', h', g', H1, le, h2, h3⟩ := nilOp_sound H (opnd_sound E x) hk
  exact .value ho ⟨v', h', g', H1, le, h2, h3⟩

theorem unOp_val {u : UnOp} {T : TypeId} {x : Operand} (E : ER m e r) (hk : (match u, opnd e x with | .not, .one (.b b) => K1 (.one (.b (!b))) | .neg, .one (.i k n) => K1 (int1 k (k.wrap (0 - n))) | .xor, .one (.i k n) => K1 (int1 k (inot k n)) | .neg, .one (.f k n) => K1 (.one (.f k (flNeg k n))) | _, _ => none) = some res) :
    ∃ v val, (∀ w, (execOp (ev r) ⟨d, .unOp u T x, ty, pos, aft, gd⟩).run P w = .ok (.value val) w) ∧ Rv m v val ∧ K1 v = some res := by
  have hx := opnd_sound E x
  generalize opnd e x = y at hk hx
  split at hk
  · exact ⟨_, _, fun _ => ex_not (rv_bool hx), mk_bool, hk⟩
  · exact ⟨_, _, fun _ => ex_neg (rv_int hx), mk_int, hk⟩
  · exact ⟨_, _, fun _ => ex_inot (rv_int hx), mk_int, hk⟩
  · exact ⟨_, _, fun _ => ex_negf (rv_flt hx), mk_flt, hk⟩
  · cases hk

theorem makeFunc_val {fn : Fn} {first caps : Array Operand} (E : ER m e r) (hk : (match fn with | .func f => (match first.toList, idsOf e caps.toList with | [], some ids => K1 (.one (.fn f ids)) | _, _ => none) | _ => none) = some res) :
    ∃ v val, (∀ w, (execOp (ev r) ⟨d, .makeFunc fn first caps, ty, pos, aft, gd⟩).run P w = .ok (.value val) w) ∧ Rv m v val ∧ K1 v = some res := by
  split at hk
  · split at hk
    · rename_i f _ _ ids hf hc
      obtain ⟨h1, h2⟩ := idsOf_sound E hc
      obtain ⟨l⟩ := first
      obtain ⟨l'⟩ := caps
      dsimp only at hf h2
      subst hf
      exact ⟨.one (.fn f ids), _, fun _ => ex_makeFunc h2, ⟨h1, rfl⟩, hk⟩
    · cases hk
  · cases hk

theorem nilCheck_val {x : Operand} (E : ER m e r) (hk : (match opnd e x with | .one (.ptr id off) => K1 (.one (.ptr id off)) | _ => none) = some res) :
    ∃ v val, (∀ w, (execOp (ev r) ⟨d, .nilCheck x, ty, pos, aft, gd⟩).run P w = .ok (.value val) w) ∧ Rv m v val ∧ K1 v = some res := by
  have hx := opnd_sound E x
  generalize opnd e x = y at hk hx
  split at hk
  · rename_i id off
    obtain ⟨h1, b, h2, h3⟩ := hx
    have h4 := (List.cons.inj h3).1
    exact ⟨.one (.ptr id off), _, fun _ => ex_nilCheck h4, ⟨h1, b, h2, rfl⟩, hk⟩
  · cases hk

theorem toArrQ_sound {T : TypeId} {x : Operand} (E : ER (memOf M S w0 h g w) e r) (hk : toArrQ P T (opnd e x) K1 = some res) : Pure P M S w0 h g w r ⟨d, .sliceToArrayPointer T x, ty, pos, aft, gd⟩ K1 res := by
  have hx := opnd_sound E x
  generalize opnd e x = y at hk hx
  unfold toArrQ at hk
  split at hk
  · rename_i n el t xs hT
    rw [cond_eq_ite] at hk
    split at hk
    · rename_i h0
      obtain ⟨hn, hk⟩ := need_some hk
      have h0 : 0 < n := by simpa [Nat.blt_eq] using h0
      have hs : SlR w (memOf M S w0 h g w).I (wid t) (At w (memOf M S w0 h g w).I t) xs (ev r x) := by
        obtain ⟨v, h1, h2⟩ := hx
        cases h1; exact h2
      obtain ⟨ys, hrd, hal, _⟩ := id hs
      exact .of (v := .toA t n xs) (fun _ => ex_toArr (l := ys) (f := id) (v := ev r x) (w1 := w) (z := wid t) (by simpa using hrd) hT rfl (by rw [← hal.length]; exact hn) h0) ⟨h0, hn, ev r x, hs, rfl⟩ hk
    · cases hk
  · cases hk

theorem toArrOp_sound {T : TypeId} {x : Operand} (H : Rel M S w0 h g w) (E : ER (memOf M S w0 h g w) e r) (hk : toArrOp P T (opnd e x) h K = some res) : Step P ⟨d, .sliceToArrayPointer T x, ty, pos, aft, gd⟩ r w (After M S w0 h g w K res) := by
  unfold toArrOp at hk
  split at hk
  · rename_i id hid
    have hx := opnd_sound E x
    rw [hid] at hx
    split at hk
    · rename_i tt t xs n el ho hT
      rw [cond_eq_ite] at hk
      split at hk
      · rename_i h0
        obtain ⟨hn, hk⟩ := need_some hk
        have h0 : 0 < n := by simpa [Nat.blt_eq] using h0
        have hli : lives h id := by simp [lives, ho, liveO]
        obtain ⟨_, v, h1, _, _, h4⟩ := hx
        have h1 : ev r x = v := by simpa using h1
        have h4 : v = g id := h4 hli
        rw [h4] at h1
        obtain ⟨ys, hO, hal⟩ := H.obj _ _ ho
        obtain ⟨H1, le⟩ := H.drops [id]
        have hI := H.drops_imm (f := [id]) (by simpa using hli) id (by simp)
        refine .value (ex_toArr (l := ys) (f := fun y => y) (v := g id) (w1 := w) (z := wid t) (by have := hO.rd; simpa using (show Rd w (g id) (wid t) ys from this)) hT h1 (by rw [← hal.length]; exact hn) h0)
          ⟨.toA t n xs, _, g, H1, le, ⟨h0, hn, g id, ⟨ys, hO.rd, hal.mono (At.mono le.imm t), fun b hb => hI b (foot_vfoot hb)⟩, rfl⟩, hk⟩
      · cases hk
    · cases hk
  · exact (toArrQ_sound E hk).step H

theorem opndS_one {l : List Operand} {a : V} (h : opndS e l = [a]) : ∃ x, l = [x] ∧ opnd e x = a := by
  match l, h with
  | [x], h => simp only [opndS, List.cons.injEq, and_true] at h; exact ⟨x, rfl, h⟩
  | [], h => cases h
  | _ :: _ :: _, h => simp [opndS] at h
theorem opndS_two {l : List Operand} {a b : V} (h : opndS e l = [a, b]) : ∃ x y, l = [x, y] ∧ opnd e x = a ∧ opnd e y = b := by
  match l, h with
  | [x, y], h => simp only [opndS, List.cons.injEq, and_true] at h; exact ⟨x, y, rfl, h⟩
  | [], h => cases h
  | [_], h => simp [opndS] at h
  | _ :: _ :: _ :: _, h => simp [opndS] at h

theorem extOp_val {X : Cx} (hX : CxOk X) {f : Operand} {q kind : Nat} {args : List Operand} {ats : Array TypeId} (E : ER m e r) (hext : findA X.ext q = some kind) (hf : ev r f = .func (.func q) #[] #[]) (hk : extOp kind (opndS e args) K1 = some res) :
    ∃ v val, (∀ w, (execOp (ev r) ⟨d, .call { callee := .value f, args := args.toArray, argTypes := ats }, ty, pos, aft, gd⟩).run X.P w = .ok (.value val) w) ∧ Rv m v val ∧ K1 v = some res := by
  unfold extOp at hk
  split at hk
  · rename_i _ a c ha
    obtain ⟨x, y, rfl, h1, h2⟩ := opndS_two ha
    have hx := opnd_sound E x
    have hy := opnd_sound E y
    rw [h1] at hx
    rw [h2] at hy
    exact ⟨_, _, fun _ => ex_indexByte (hX.ext _ _ hext) hf (rv_str hx) (rv_int hy), mk_int, hk⟩
  · rename_i _ a c ha
    obtain ⟨x, y, rfl, h1, h2⟩ := opndS_two ha
    have hx := opnd_sound E x
    have hy := opnd_sound E y
    rw [h1] at hx
    rw [h2] at hy
    exact ⟨_, _, fun _ => ex_countByte (hX.ext _ _ hext) hf (rv_str hx) (rv_int hy), mk_int, hk⟩
  · rename_i _ a ha
    obtain ⟨x, rfl, h1⟩ := opndS_one ha
    have hx := opnd_sound E x
    rw [h1] at hx
    exact ⟨_, _, fun _ => ex_bitsf (hX.ext _ _ hext) hf (rv_flt hx), mk_int, hk⟩
  · rename_i _ a ha
    obtain ⟨x, rfl, h1⟩ := opndS_one ha
    have hx := opnd_sound E x
    rw [h1] at hx
    exact ⟨_, _, fun _ => ex_ofBits (hX.ext _ _ hext) hf (rv_int hx), mk_flt, hk⟩
  · cases hk

theorem callOp_sound {X : Cx} (hX : CxOk X) {c : Call} (H : Rel M S w0 h g w) (E : ER (memOf M S w0 h g w) e r) (hk : callOp X c e h K = some res) :
    Step X.P ⟨d, .call c, ty, pos, aft, gd⟩ r w (After M S w0 h g w K res) := by
  obtain ⟨callee, ⟨args⟩, ⟨ats⟩⟩ := c
  unfold callOp at hk
  dsimp only at hk
  split at hk
  · rename_i f
    have hf := opnd_sound E f
    split at hk
    · rename_i q ids hfe
      rw [hfe] at hf
      obtain ⟨h1, h2⟩ := hf
      have h2 := (List.cons.inj h2).1
      split at hk
      · rename_i kind hext
        split at hk
        · obtain ⟨v, val, h3, h4, h5⟩ := extOp_val (d := d) (ty := ty) (pos := pos) (aft := aft) (gd := gd) (ats := ats.toArray) hX E hext h2 hk
          exact step_val H (h3 w) h4 h5
        · cases hk
      · rw [cond_eq_ite] at hk
        split at hk
        · rename_i hc
          exact .enter (ex_call hc h2 rfl) (callF_sound H ((opndS_al2 E args).append (ptrs_al2 h1)) hX.D hk)
        · cases hk
    · cases hk
  · rename_i b
    split at hk
    · rename_i x T ha
      obtain ⟨x, rfl, rfl⟩ := opndS_one ha
      exact (lenOp_sound H E hk).step H
    · rename_i x y T U ha
      obtain ⟨x, y, rfl, rfl, rfl⟩ := opndS_two ha
      exact append_sound H E hk
    · rename_i x y T U ha
      obtain ⟨x, y, rfl, rfl, rfl⟩ := opndS_two ha
      exact copy_sound H E hk
    · rename_i x T ha
      obtain ⟨x, rfl, rfl⟩ := opndS_one ha
      exact clear_sound H E hk
    · rename_i k a k' b ha
      obtain ⟨x, y, rfl, hx, hy⟩ := opndS_two ha
      have h1 := opnd_sound E x
      have h2 := opnd_sound E y
      rw [hx] at h1
      rw [hy] at h2
      split at hk
      · rename_i e; subst e
        exact step_val H (ex_max2 (rv_int h1) (rv_int h2)) mk_int hk
      · cases hk
    · rename_i k a k' b ha
      obtain ⟨x, y, rfl, hx, hy⟩ := opndS_two ha
      have h1 := opnd_sound E x
      have h2 := opnd_sound E y
      rw [hx] at h1
      rw [hy] at h2
      split at hk
      · rename_i e; subst e
        exact step_val H (ex_min2 (rv_int h1) (rv_int h2)) mk_int hk
      · cases hk
    · rename_i k a k' b ha
      obtain ⟨x, y, rfl, hx, hy⟩ := opndS_two ha
      have h1 := opnd_sound E x
      have h2 := opnd_sound E y
      rw [hx] at h1
      rw [hy] at h2
      split at hk
      · rename_i e; subst e
        obtain ⟨z, h0, hk⟩ := Option.bind_eq_some_iff.1 hk
        exact step_val H (ex_maxf (rv_flt h1) (rv_flt h2) h0) mk_flt hk
      · cases hk
    · rename_i k a k' b ha
      obtain ⟨x, y, rfl, hx, hy⟩ := opndS_two ha
      have h1 := opnd_sound E x
      have h2 := opnd_sound E y
      rw [hx] at h1
      rw [hy] at h2
      split at hk
      · rename_i e; subst e
        obtain ⟨z, h0, hk⟩ := Option.bind_eq_some_iff.1 hk
        exact step_val H (ex_minf (rv_flt h1) (rv_flt h2) h0) mk_flt hk
      · cases hk
    · rename_i k a b ha
      obtain ⟨x, y, rfl, hx, hy⟩ := opndS_two ha
      have h1 := opnd_sound E x
      have h2 := opnd_sound E y
      rw [hx] at h1
      rw [hy] at h2
      split at hk
      · rename_i k' b' hfo
        split at hk
        · rename_i e; subst e
          obtain ⟨q, hq, hf⟩ := rv_fx h1
          obtain ⟨q', hq', hf'⟩ := fltOf_sound hfo h2
          obtain ⟨z, h0, hk⟩ := Option.bind_eq_some_iff.1 hk
          exact step_val H (ex_maxf hq hq' (hf.max hf' h0)) mk_flt hk
        · cases hk
      · cases hk
    · cases hk
  · cases hk

theorem stepOp_sound {X : Cx} (hX : CxOk X) {op : Op} {T : TypeId} (H : Rel M S w0 h g w) (E : ER (memOf M S w0 h g w) e r) (hk : stepOp X op T e h K = some res) :
    Step X.P ⟨d, op, T, pos, aft, gd⟩ r w (After M S w0 h g w K res) := by
  unfold stepOp at hk
  split at hk
  · exact move_sound H E hk (ex_move rfl)
  · exact move_sound H E hk (ex_assign rfl)
  · rename_i c x y
    have hc := opnd_sound E c
    split at hk
    · rename_i b hb
      rw [hb] at hc
      cases b
      · exact move_sound H E hk (ex_pick (rv_bool hc) (u := ev r x) (v := ev r y) rfl rfl)
      · exact move_sound H E hk (ex_pick (rv_bool hc) (u := ev r x) (v := ev r y) rfl rfl)
    · cases hk
  · obtain ⟨v, val, h1, h2, h3⟩ := extract_val (K1 := fun v => K v h) (d := d) (ty := T) (pos := pos) (aft := aft) (gd := gd) (P := X.P) E hk
    exact step_val H (h1 w) h2 h3
  · rename_i f first caps
    obtain ⟨v, val, h1, h2, h3⟩ := makeFunc_val (K1 := fun v => K v h) (fn := .func f) (first := first) (caps := caps) (d := d) (ty := T) (pos := pos) (aft := aft) (gd := gd) (P := X.P) E hk
    exact step_val H (h1 w) h2 h3
  · rename_i op t x y u
    have hx := opnd_sound E x
    have hy := opnd_sound E y
    split at hk
    · rename_i k a k' b hxe hye
      rw [hxe] at hx
      rw [hye] at hy
      split at hk
      · exact (binI_sound hk (rv_int hx) (rv_int hy) (.inr (.inl rfl))).step H
      · exact (binI_sound hk (rv_int hx) (rv_int hy) (.inr (.inr rfl))).step H
      · split at hk
        · rename_i e
          exact (binI_sound hk (rv_int hx) (rv_int hy) (.inl e)).step H
        · cases hk
    · rename_i a b hxe hye
      rw [hxe] at hx
      rw [hye] at hy
      exact (binS_sound hk (rv_str hx) (rv_str hy)).step H
    · rename_i k a k' b hxe hye
      rw [hxe] at hx
      rw [hye] at hy
      split at hk
      · rename_i e
        subst e
        rw [cond_eq_ite] at hk
        split at hk
        · exact binFx_sound H hk (rv_flt hx) (rv_flt hy) (.inl rfl) (.inl rfl)
        · exact (binFl_sound hk (rv_flt hx) (rv_flt hy)).step H
      · cases hk
    · rename_i k a b hxe
      rw [hxe] at hx
      split at hk
      · rename_i k' b' hfo
        split at hk
        · rename_i e
          subst e
          obtain ⟨q, hq, hf⟩ := rv_fx hx
          obtain ⟨q', hq', hf'⟩ := fltOf_sound hfo hy
          rw [cond_eq_ite] at hk
          split at hk
          · exact (binFc_sound hk hq hq' hf hf').step H
          · exact binFx_sound H hk hq hq' hf hf'
        · cases hk
      · cases hk
    · rename_i k a k' b hxe hye
      rw [hxe] at hx
      rw [hye] at hy
      split at hk
      · rename_i e
        subst e
        obtain ⟨q', hq', hf'⟩ := rv_fx hy
        rw [cond_eq_ite] at hk
        split at hk
        · exact (binFc_sound hk (rv_flt hx) hq' (.inl rfl) hf').step H
        · exact binFx_sound H hk (rv_flt hx) hq' (.inl rfl) hf'
      · cases hk
    · rename_i a b hxe hye
      rw [hxe] at hx
      rw [hye] at hy
      split at hk
      · rename_i ht
        exact (binB_sound ht hk (rv_bool hx) (rv_bool hy)).step H
      · cases hk
    · rename_i l l' hxe hye
      rw [hxe] at hx
      rw [hye] at hy
      exact eqAgg_sound H hx hy hk
    · rw [cond_eq_ite] at hk
      split at hk
      · rename_i hn
        exact (nilEq_sound (K1 := fun v => K v h) H E hn hk).step H
      · rw [cond_eq_ite] at hk
        split at hk
        · rename_i hn
          exact (npEq_sound (K1 := fun v => K v h) E hn hk).step H
        · cases hk
  · obtain ⟨v, val, h1, h2, h3⟩ := unOp_val (K1 := fun v => K v h) (d := d) (ty := T) (pos := pos) (aft := aft) (gd := gd) (P := X.P) E hk
    exact step_val H (h1 w) h2 h3
  · exact conv_sound H E hk
  · exact (idxOp_sound E hk).step H
  · rename_i t x lo hi mx
    rw [cond_eq_ite] at hk
    split at hk
    · rename_i hv
      rw [Bool.and_eq_true] at hv
      have hmx : mx = none := by
        have h2 := hv.2
        unfold isVw at h2
        split at h2
        · rfl
        · cases h2
      subst hmx
      exact view_sound H E hk
    · exact sliceOp_sound H E hk
  · exact (fieldOp_sound H E hk).step H
  · exact (idxAddr_sound H E hk).step H
  · exact (load_sound H E hk).step H
  · exact box_sound H E hk
  · split at hk
    · rename_i ls hs hz
      rw [cond_eq_ite] at hk
      split at hk
      · rename_i hc
        exact alloc_sound H hc hk
      · cases hk
    · cases hk
  · rename_i t p v
    obtain ⟨v', h', g', H1, le, h2, h3⟩ := nilOp_sound H (opnd_sound E v) hk
    have E1 := E.mono le
    refine (store_sound (d := d) (ty := T) (pos := pos) (aft := aft) (gd := gd) H1 (opnd_sound E1 p) h2 h3).mono fun val w' q => ?_
    obtain ⟨v, h4, g4, H4, le4, h5, h6⟩ := q
    exact ⟨.u, h4, g4, H4, le.trans le4, trivial, h6⟩
  · exact build_sound H E hk
  · exact buildSlice_sound H E hk
  · exact toArrOp_sound H E hk
  · obtain ⟨v, val, h1, h2, h3⟩ := nilCheck_val (K1 := fun v => K v h) (d := d) (ty := T) (pos := pos) (aft := aft) (gd := gd) (P := X.P) E hk
    exact step_val H (h1 w) h2 h3
  · exact make_sound H E hk
  · exact callOp_sound hX H E hk
  · cases hk

end
end Go.Dor
end

section
/- REGIONS: operations one behind the other, quiet ones in whatever order. Plain lemmas over any program. -/
namespace Go.Dor
open Go.RowKit (Below)

section
variable {P : Program} {M S : Nat → Prop} {w0 w w' : World} {h : Hm} {g : Nat → Value} {R : Type} {res : R} {K : V → Hm → Option R} {K1 : V → Option R}
  {e : Ev} {r : Env} {m m' : Mem}

/-! ### values without an address -/
theorem At.uniq {w w' : World} {I I' : Nat → Prop} : ∀ (t : T) (x : den t) (c c' : List Value), Dor.flat t = true → At w I t x c → At w' I' t x c' → c = c'
  | .int _, _, _, _, _, h, h' => Eq.trans h (Eq.symm h')
  | .bool, _, _, _, _, h, h' => Eq.trans h (Eq.symm h')
  | .str, _, _, _, _, h, h' => Eq.trans h (Eq.symm h')
  | .flt _, _, _, _, _, h, h' => Eq.trans h (Eq.symm h')
  | .fx _, _, _, _, hf, _, _ => by cases hf
  | .unit, _, _, _, _, h, h' => Eq.trans h (Eq.symm h')
  | .pair a b, x, c, c', hf, ⟨d1, d2, e, h1, h2⟩, ⟨d3, d4, e', h3, h4⟩ => by
    simp only [Dor.flat, Bool.and_eq_true] at hf
    rw [e, e', At.uniq a _ _ _ hf.1 h1 h3, At.uniq b _ _ _ hf.2 h2 h4]
  | .arr n e, x, c, c', hf, ⟨ys, e1, hs⟩, ⟨zs, e2, hs'⟩ => by
    simp only [Dor.flat] at hf
    have key : ∀ (l : List (den e)) (ys zs : List (List Value)), Al2 (At w I e) l ys → Al2 (At w' I' e) l zs → ys = zs := by
      intro l
      induction l with
      | nil => intro ys zs h h'; rw [h.nil_left, h'.nil_left]
      | cons y l ih =>
        intro ys zs h h'
        obtain ⟨a, ys, rfl, h1, h2⟩ := h.cons_left
        obtain ⟨b, zs, rfl, h3, h4⟩ := h'.cons_left
        rw [At.uniq e _ _ _ hf h1 h3, ih _ _ h2 h4]
    rw [e1, e2, key _ _ _ hs hs']
  | .sl _, _, _, _, hf, _, _ => by cases hf
theorem At.ex (w : World) (I : Nat → Prop) : ∀ (t : T) (x : den t), Dor.flat t = true → ∃ c, At w I t x c
  | .int _, _, _ => ⟨_, rfl⟩
  | .bool, _, _ => ⟨_, rfl⟩
  | .str, _, _ => ⟨_, rfl⟩
  | .flt _, _, _ => ⟨_, rfl⟩
  | .fx _, _, _ => ⟨_, _, rfl, .inl rfl⟩
  | .unit, _, _ => ⟨_, rfl⟩
  | .pair a b, x, hf => by
    simp only [Dor.flat, Bool.and_eq_true] at hf
    obtain ⟨c1, h1⟩ := At.ex w I a x.1 hf.1
    obtain ⟨c2, h2⟩ := At.ex w I b x.2 hf.2
    exact ⟨_, c1, c2, rfl, h1, h2⟩
  | .arr n e, x, hf => by
    simp only [Dor.flat] at hf
    have key : ∀ (l : List (den e)), ∃ ys, Al2 (At w I e) l ys := by
      intro l
      induction l with
      | nil => exact ⟨[], trivial⟩
      | cons y l ih =>
        obtain ⟨ys, h⟩ := ih
        obtain ⟨c, h1⟩ := At.ex w I e y hf
        exact ⟨c :: ys, h1, h⟩
    obtain ⟨ys, h⟩ := key x.toList
    exact ⟨_, ys, rfl, h⟩
  | .sl _, _, hf => by cases hf

theorem detL_eq {x : L} {c c' : List Value} (hd : detL x = true) (h : Rl m x c) (h' : Rl m' x c') : c = c' := by
  cases x with
  | arr t n x => exact At.uniq (.arr n t) _ _ _ hd h h'
  | i | b | s | f | nil | np | nf | ni => exact Eq.trans h (Eq.symm h')
  | _ => cases hd
theorem detLs_eq : ∀ {ls : List L} {s s' : List (List Value)}, ls.all detL = true → Al2 (Rl m) ls s → Al2 (Rl m') ls s' → s = s'
  | [], s, s', _, h, h' => by rw [h.nil_left, h'.nil_left]
  | x :: l, s, s', hd, h, h' => by
    rw [List.all_cons, Bool.and_eq_true] at hd
    obtain ⟨c, s, rfl, h1, h2⟩ := h.cons_left
    obtain ⟨c', s', rfl, h3, h4⟩ := h'.cons_left
    rw [detL_eq hd.1 h1 h3, detLs_eq hd.2 h2 h4]
theorem detV_eq {v : V} {a b : Value} (hd : detV v = true) (h : Rv m v a) (h' : Rv m' v b) : a = b := by
  unfold detV at hd
  split at hd
  · cases hd
  · exact (List.cons.inj (detL_eq hd h h')).1
  · obtain ⟨s, rfl, h⟩ := h
    obtain ⟨s', rfl, h'⟩ := h'
    rw [detLs_eq hd h h']
  · cases hd
theorem detVs_eq : ∀ {vs : List V} {a b : List Value}, vs.all detV = true → Al2 (Rv m) vs a → Al2 (Rv m') vs b → a = b
  | [], s, s', _, h, h' => by rw [h.nil_left, h'.nil_left]
  | x :: l, s, s', hd, h, h' => by
    rw [List.all_cons, Bool.and_eq_true] at hd
    obtain ⟨c, s, rfl, h1, h2⟩ := h.cons_left
    obtain ⟨c', s', rfl, h3, h4⟩ := h'.cons_left
    rw [detV_eq hd.1 h1 h3, detVs_eq hd.2 h2 h4]

theorem detL_any {x : L} {c : List Value} (hd : detL x = true) (h : Rl m x c) : Rl m' x c := by
  cases x with
  | arr t n x => exact At.flat (.arr n t) _ _ hd h
  | i | b | s | f | nil | np | nf | ni => exact h
  | _ => cases hd
theorem detL_ex (m : Mem) {x : L} (hd : detL x = true) : ∃ c, Rl m x c := by
  cases x with
  | arr t n x => exact At.ex _ _ (.arr n t) _ hd
  | i | b | s | f | nil | np | nf | ni => exact ⟨_, rfl⟩
  | _ => cases hd
theorem detV_any {v : V} {a : Value} (hd : detV v = true) (h : Rv m v a) : Rv m' v a := by
  unfold detV at hd
  split at hd
  · cases hd
  · exact detL_any hd h
  rotate_left
  · cases hd
  · rename_i ls
    obtain ⟨s, e, h⟩ := h
    refine ⟨s, e, ?_⟩
    have key : ∀ {ls : List L} {s : List (List Value)}, ls.all detL = true → Al2 (Rl m) ls s → Al2 (Rl m') ls s := by
      intro ls
      induction ls with
      | nil => intro s _ h; rw [h.nil_left]; trivial
      | cons x l ih =>
        intro s hd h
        rw [List.all_cons, Bool.and_eq_true] at hd
        obtain ⟨c, s, rfl, h1, h2⟩ := h.cons_left
        exact ⟨detL_any hd.1 h1, ih hd.2 h2⟩
    exact key hd h
theorem detVs_any : ∀ {vs : List V} {a : List Value}, vs.all detV = true → Al2 (Rv m) vs a → Al2 (Rv m') vs a
  | [], s, _, h => by rw [h.nil_left]; trivial
  | x :: l, s, hd, h => by
    rw [List.all_cons, Bool.and_eq_true] at hd
    obtain ⟨c, s, rfl, h1, h2⟩ := h.cons_left
    exact ⟨detV_any hd.1 h1, detVs_any hd.2 h2⟩

/-- how a call begins -/
theorem pre_start {d : Ds} {vs : List V} {vals : List Value} {l : List Dt} {k : Tk} {x : HL d.ts} (H : Rel M S w0 h g w) (hv : Al2 (Rv (memOf M S w0 h g w)) vs vals) (ht : takeDs h ⟨[], []⟩ d vs = some (l, k)) (hx : ofL d.ts l = some x) :
    ∃ S' g1, Start d x S' w g1 vals := by
  obtain ⟨vs', os, t⟩ := takeDs_sound H.objs ht hv (by simp) (fun i j id hi => by cases hi)
  obtain ⟨do', hg1, hg2⟩ := t.gv
  have el := ofL_toL _ _ _ hx
  have eV : givenV d id x = (vs', do') := by unfold givenV; rw [el]; exact hg1
  have eO : givenO d id x = os := by unfold givenO; rw [eV]; exact hg2
  generalize hg1e : ren k g = g1
  have g1e : ∀ i id, findN k.r i = some id → g1 i = g id := fun i id hi => by rw [← hg1e]; exact ren_eq hi
  have hlive : ∀ i, lives os i → ∃ id, findN k.r i = some id ∧ lives h id := fun i hi => by
    obtain ⟨id, hid⟩ := t.all i _ (List.getElem?_eq_getElem (lives_lt hi))
    exact ⟨id, hid, t.live i id hid hi⟩
  -- what the callee may read
  let S' : Nat → Prop := fun b => (memOf M S w0 h g w).I b ∨ ∃ id, (id ∈ k.fz ∨ ∃ i, findN k.r i = some id ∧ ¬ lives os i) ∧ lives h id ∧ foot (g id) = some b
  have lent : ∀ b, lentOf os g1 b → ∃ i id, lives os i ∧ findN k.r i = some id ∧ lives h id ∧ foot (g id) = some b := fun b ⟨i, hi, hb⟩ => by
    obtain ⟨id, h1, h2⟩ := hlive i hi
    rw [g1e i id h1] at hb
    exact ⟨i, id, hi, h1, h2, hb⟩
  -- a lent object and one that is read lie apart
  have apart : ∀ {i id id' b}, lives os i → findN k.r i = some id → lives h id → foot (g id) = some b → (id' ∈ k.fz ∨ ∃ i, findN k.r i = some id' ∧ ¬ lives os i) → lives h id' → foot (g id') = some b → False := by
    intro i id id' b hi hf hl hb hor hl' hb'
    have hne : id ≠ id' := fun q => by
      subst q
      rcases hor with h1 | ⟨i', h1, h2⟩
      · exact t.free _ h1 i hf
      · have := t.inj i i' _ hf h1
        subst this
        exact h2 hi
    exact H.inj id id' hl hl' hne b hb hb'
  have dis : ∀ b, S' b → ¬ lentOf os g1 b := fun b hSb hL => by
    obtain ⟨i, id, hi, hf, hl, hb⟩ := lent b hL
    rcases hSb with h1 | ⟨id', hor, hl', hb'⟩
    · exact h1.2.2 id hl hb
    · exact apart hi hf hl hb hor hl' hb'
  have G : Goal (memOf M S w0 h g w) (memOf (lentOf os g1) S' w os g1 w) h k := by
    have nof : ∀ {b}, S' b → ∀ i, lives os i → foot (g1 i) ≠ some b := fun hSb i hi hf => dis _ hSb ⟨i, hi, hf⟩
    refine ⟨rfl, fun b hb => ⟨hb.1, .inr (.inl (.inl hb)), nof (.inl hb)⟩, fun id hid b hb => ?_, fun i id hi hnl b hb hor => ?_, fun i id hi => ⟨g1e i id hi, by show i < os.length; rw [t.len]; exact t.bound i id hi, fun hl => t.live i id hi hl⟩⟩
    · have hSb : S' b := .inr ⟨id, .inl hid, t.fz id hid, hb⟩
      exact ⟨H.foot_lt (t.fz id hid) hb, .inr (.inl hSb), nof hSb⟩
    · rcases hor with h1 | h1
      · have hSb : S' b := .inr ⟨id, .inr ⟨i, hi, hnl⟩, h1, hb⟩
        exact ⟨H.foot_lt h1 hb, .inr (.inl hSb), nof hSb⟩
      · exact ⟨h1.1, .inr (.inl (.inl h1)), nof (.inl h1)⟩
  obtain ⟨hv', ho'⟩ := t.rep _ G (fun j hj => hj)
  have Hs : Start d x S' w g1 vals := by
    refine ⟨?_, ?_⟩
    · rw [eO]
      refine ⟨rfl, rfl, .refl _, rfl, Nat.le_refl _, fun _ _ _ => rfl, dis, fun i o hi => ?_, fun i hi b hb => .inr ⟨i, hi, hb⟩, fun i j hi hj hne b hb hb' => ?_⟩
      · obtain ⟨id, h1, h2⟩ := ho' i o hi
        rw [g1e i id h1]; exact h2
      · obtain ⟨id, h1, h2⟩ := hlive i hi
        obtain ⟨id', h3, h4⟩ := hlive j hj
        rw [g1e i id h1] at hb
        rw [g1e j id' h3] at hb'
        have : id ≠ id' := fun q => by subst q; exact hne (t.inj i j id h1 h3)
        exact H.inj id id' h2 h4 this b hb hb'
    · rw [eO, eV]; exact hv'
  exact ⟨S', g1, Hs⟩

theorem detV_ex (m : Mem) {v : V} (hd : detV v = true) : ∃ a, Rv m v a ∧ ∃ ls, leaves v = some ls := by
  unfold detV at hd
  split at hd
  · cases hd
  · rename_i x hx
    suffices h : ∃ a, Rl m x [a] by obtain ⟨a, h⟩ := h; exact ⟨a, h, _, rfl⟩
    cases x with
    | arr t n y => exact absurd rfl (hx t n y)
    | i | b | s | f | nil | np | nf | ni => exact ⟨_, rfl⟩
    | _ => cases hd
  · rename_i ls
    have key : ∀ ls : List L, ls.all detL = true → ∃ s, Al2 (Rl m) ls s := by
      intro ls
      induction ls with
      | nil => intro _; exact ⟨[], trivial⟩
      | cons x l ih =>
        intro hd
        rw [List.all_cons, Bool.and_eq_true] at hd
        obtain ⟨s, hs⟩ := ih hd.2
        obtain ⟨c, h⟩ := detL_ex m hd.1
        exact ⟨c :: s, h, hs⟩
    obtain ⟨s, hs⟩ := key ls hd
    exact ⟨_, ⟨s, rfl, hs⟩, _, rfl⟩
  · cases hd
theorem detVs_ex (m : Mem) : ∀ {vs : List V}, vs.all detV = true → (∃ l, Al2 (Rv m) vs l) ∧ ∀ v ∈ vs, ∃ ls, leaves v = some ls
  | [], _ => ⟨⟨[], trivial⟩, by simp⟩
  | x :: l, hd => by
    rw [List.all_cons, Bool.and_eq_true] at hd
    obtain ⟨a, h1, h2⟩ := detV_ex m hd.1
    obtain ⟨⟨s, hs⟩, h3⟩ := detVs_ex m hd.2
    refine ⟨⟨a :: s, h1, hs⟩, fun v hv => ?_⟩
    rcases List.mem_cons.1 hv with rfl | hv
    · exact h2
    · exact h3 v hv

/-- what a quiet call leaves as it was -/
theorem enterQ_sound {fid : FuncId} {en : Entry} {vs : List V} {vals : List Value} (hS : Entry.Sound P fid en) (H : Rel M S w0 h g w) (hv : Al2 (Rv (memOf M S w0 h g w)) vs vals) (hk : enterQ en vs h K1 = some res) :
    ∃ v val, (∀ w', Bel w.heap.size w w' → Calls P fid vals.toArray w' fun e w'' => e = .returned val ∧ Bel w.heap.size w w'') ∧ Rv (memOf M S w0 h g w) v val ∧ K1 v = some res := by
  unfold enterQ at hk
  split at hk
  rotate_left
  · cases hk
  rename_i l k ht
  split at hk
  rotate_left
  · cases hk
  rename_i x hx
  rw [cond_eq_ite] at hk
  split at hk
  rotate_left
  · cases hk
  rename_i hq
  obtain ⟨y, hfn, hk⟩ := bind_some hk
  rw [cond_eq_ite] at hk
  split at hk
  rotate_left
  · cases hk
  rename_i hd
  obtain ⟨⟨a, ha⟩, hl⟩ := detVs_ex (memOf M S w0 h g w) hd
  refine ⟨_, one a, fun w' hb => ?_, resV_one ha hl, hk⟩
  obtain ⟨H', le⟩ := H.below hb.b hb.d
  obtain ⟨S', g1, Hs⟩ := pre_start H' (hv.mono (Rv.mono le)) ht hx
  refine (hS.out x y hfn S' w' g1 vals Hs).mono fun e w'' ⟨vs2, g2, he, R2, hv2, _⟩ => ?_
  have e1 := detVs_eq hd ha hv2
  subst e1
  refine ⟨he, ⟨hb.b.trans ⟨R2.os, R2.tape, R2.output, R2.size, fun b hlt => R2.old b (Nat.lt_of_lt_of_le hlt hb.b.size) ?_⟩, hb.d.trans R2.drawn⟩⟩
  rintro ⟨i, hi, _⟩
  obtain ⟨l1, l2, _, _, e3, _, e5⟩ := given_types en.pre x
  rw [e5, lives, giveOds_live e3] at hi
  cases hp : en.pre.objs[i]? with
  | none => rw [hp] at hi; cases hi
  | some p =>
    rw [hp] at hi
    have := List.all_eq_true.1 hq p (List.mem_of_getElem? hp)
    simp only [Option.map_some, Option.getD_some] at hi
    rw [hi] at this
    cases this

theorem callQ_sound {oops : Nat → List V → Hm → Option Unit} {f : FuncId} {vs : List V} {vals : List Value} (H : Rel M S w0 h g w) (hv : Al2 (Rv (memOf M S w0 h g w)) vs vals) :
    ∀ {D : List (Nat × Entry)}, (∀ f en, (f, en) ∈ D → Entry.Sound P f en) → callQ oops D f vs h K1 = some res →
      ∃ v val, (∀ w', Bel w.heap.size w w' → Calls P f vals.toArray w' fun e w'' => e = .returned val ∧ Bel w.heap.size w w'') ∧ Rv (memOf M S w0 h g w) v val ∧ K1 v = some res
  | [], _, hk => by simp [callQ] at hk
  | (q, en) :: D, hD, hk => by
    simp only [callQ, cond_eq_ite] at hk
    split at hk
    · rename_i hc
      rw [Bool.and_eq_true] at hc
      have := Nat.eq_of_beq_eq_true hc.1
      subst this
      exact enterQ_sound (hD _ _ (by simp)) H hv hk
    · exact callQ_sound H hv (fun f en hm => hD f en (List.mem_cons_of_mem _ hm)) hk

/-- a call that asks nothing of memory -/
theorem enterN_sound {fid : FuncId} {en : Entry} {vs : List V} {vals : List Value} (hS : Entry.Sound P fid en) (m : Mem) (hv : Al2 (Rv m) vs vals) (hdv : vs.all detV = true) (hk : enterQ en vs [] K1 = some res) :
    ∃ v val, (∀ w', Calls P fid vals.toArray w' fun e w'' => e = .returned val ∧ Gr w' w'') ∧ (∀ m : Mem, Rv m v val) ∧ K1 v = some res := by
  unfold enterQ at hk
  split at hk
  rotate_left
  · cases hk
  rename_i l k ht
  split at hk
  rotate_left
  · cases hk
  rename_i x hx
  rw [cond_eq_ite] at hk
  split at hk
  rotate_left
  · cases hk
  rename_i hq
  obtain ⟨y, hfn, hk⟩ := bind_some hk
  rw [cond_eq_ite] at hk
  split at hk
  rotate_left
  · cases hk
  rename_i hd
  obtain ⟨⟨a, ha⟩, hl⟩ := detVs_ex m hd
  refine ⟨_, one a, fun w' => ?_, fun m' => resV_one (detVs_any hd ha) hl, hk⟩
  have H' : Rel (fun _ => False) (fun _ => False) w' [] (fun _ => undef) w' :=
    ⟨rfl, rfl, .refl _, rfl, Nat.le_refl _, fun _ _ _ => rfl, fun b hb => hb.elim, fun id o hid => by simp at hid, fun id hid => by simp [lives, liveO] at hid, fun i j hi => by simp [lives, liveO] at hi⟩
  obtain ⟨S', g1, Hs⟩ := pre_start H' (detVs_any hdv hv) ht hx
  refine (hS.out x y hfn S' w' g1 vals Hs).mono fun e w'' ⟨vs2, g2, he, R2, hv2, _⟩ => ?_
  have e1 := detVs_eq hd ha hv2
  subst e1
  refine ⟨he, ⟨⟨R2.os, R2.tape, R2.output, R2.size, fun b hlt => R2.old b hlt ?_⟩, R2.drawn⟩⟩
  rintro ⟨i, hi, _⟩
  obtain ⟨l1, l2, _, _, e3, _, e5⟩ := given_types en.pre x
  rw [e5, lives, giveOds_live e3] at hi
  cases hp : en.pre.objs[i]? with
  | none => rw [hp] at hi; cases hi
  | some p =>
    rw [hp] at hi
    have := List.all_eq_true.1 hq p (List.mem_of_getElem? hp)
    simp only [Option.map_some, Option.getD_some] at hi
    rw [hi] at this
    cases this
theorem callN_sound {oops : Nat → List V → Hm → Option Unit} {f : FuncId} {vs : List V} {vals : List Value} (m : Mem) (hv : Al2 (Rv m) vs vals) (hdv : vs.all detV = true) :
    ∀ {D : List (Nat × Entry)}, (∀ f en, (f, en) ∈ D → Entry.Sound P f en) → callQ oops D f vs [] K1 = some res →
      ∃ v val, (∀ w', Calls P f vals.toArray w' fun e w'' => e = .returned val ∧ Gr w' w'') ∧ (∀ m : Mem, Rv m v val) ∧ K1 v = some res
  | [], _, hk => by simp [callQ] at hk
  | (q, en) :: D, hD, hk => by
    simp only [callQ, cond_eq_ite] at hk
    split at hk
    · rename_i hc
      rw [Bool.and_eq_true] at hc
      have := Nat.eq_of_beq_eq_true hc.1
      subst this
      exact enterN_sound (hD _ _ (by simp)) m hv hdv hk
    · exact callN_sound m hv hdv (fun f en hm => hD f en (List.mem_cons_of_mem _ hm)) hk

/-! ### guards -/
theorem ER.same {e : Ev} {t : Nat} {v : V} (E : ER m e r) (h : getE e t = v) : ER m (putE e (some t) v) r := by
  intro t'
  simp only [putE, getE]
  cases hb : Nat.beq t t'
  · exact E t'
  · have := Nat.eq_of_beq_eq_true hb
    subst this
    simp only [cond_true]
    rw [← h]; exact E t

theorem wantV_sound {ops : List Oper} {o : Oper} {e : Ev} (E : ER m e r) :
    match wantV ops o e with
    | .yes => wantedE ops.toArray o r = true
    | .no => wantedE ops.toArray o r = false
    | .ask t x want => getE e t = .one (.b x) ∧ wantedE ops.toArray o r = (x == want)
    | .bad => True := by
  unfold wantV wantedE
  cases o.guard with
  | none => rfl
  | some gw =>
    obtain ⟨q, want⟩ := gw
    dsimp only
    rw [show ops.toArray[q]? = ops[q]? by simp]
    cases (ops[q]?).bind (·.dst) with
    | none => trivial
    | some t =>
      dsimp only
      have ht := E t
      cases hg : getE e t with
      | one x =>
        rw [hg] at ht
        cases x with
        | b x => rw [rv_bool ht]; exact ⟨hg, rfl⟩
        | _ => trivial
      | sk =>
        rw [hg] at ht
        have ht : r t = undef := ht
        dsimp only
        rw [ht]; rfl
      | _ => trivial

/-- what is known behind some code: a state of the machine's, from which the rest comes to res -/
structure St (M S : Nat → Prop) (w0 : World) (keep : Nat) (G0 : Nat → Value) (K : Ev → Hm → Option R) (res : R) (r : Env) (w : World) : Prop where
  out : ∃ e h g, Rel M S w0 h g w ∧ ER (memOf M S w0 h g w) e r ∧ (∀ i, i < keep → i < h.length ∧ g i = G0 i) ∧ K e h = some res

theorem kept_le {keep : Nat} {G0 : Nat → Value} {h' : Hm} {g' : Nat → Value} (hk : ∀ i, i < keep → i < h.length ∧ g i = G0 i) (le : (memOf M S w0 h g w).Le (memOf M S w0 h' g' w')) : ∀ i, i < keep → i < h'.length ∧ g' i = G0 i := fun i hi => by
  obtain ⟨h1, h2⟩ := hk i hi
  exact ⟨Nat.lt_of_lt_of_le h1 le.n, (le.g i h1).trans h2⟩

theorem runL_sound {X : Cx} (hX : CxOk X) {ops : List Oper} {keep : Nat} {G0 : Nat → Value} {KE : Ev → Hm → Option R} : ∀ (l : List Oper) {e : Ev} {h : Hm} {g : Nat → Value} {r : Env} {w : World}, l.all (dstOk X.nt) = true →
    Rel M S w0 h g w → ER (memOf M S w0 h g w) e r → (∀ i, i < keep → i < h.length ∧ g i = G0 i) → runL X ops l e h KE = some res → WlD X.P X.nt ops.toArray (St M S w0 keep G0 KE res) l r w
  | [], e, h, g, r, w, _, H, E, hg, hk => ⟨e, h, g, H, E, hg, hk⟩
  | o :: l, e, h, g, r, w, hd, H, E, hg, hk => by
    rw [List.all_cons, Bool.and_eq_true] at hd
    have hd1 : ∀ d, o.dst = some d → d < X.nt := fun d hdd => by
      have := hd.1
      rw [dstOk, hdd] at this
      simpa [Nat.blt_eq] using this
    refine ⟨hd1, ?_⟩
    have yes : ∀ e', ER (memOf M S w0 h g w) e' r → (stepOp X o.op o.type e' h fun v h => runL X ops l (putE e' o.dst v) h KE) = some res → Step X.P o r w (fun v w' => WlD X.P X.nt ops.toArray (St M S w0 keep G0 KE res) l (putO r o.dst v) w') := fun e' E' hk => by
      obtain ⟨d, op, T, pos, aft, gd⟩ := o
      refine (stepOp_sound (d := d) (pos := pos) (aft := aft) (gd := gd) hX H E' hk).mono fun val w' ⟨v, h', g', H', le, hv, hk'⟩ => ?_
      exact runL_sound hX l hd.2 H' ((E'.mono le).put d hv) (kept_le hg le) hk'
    have no : ∀ e', ER (memOf M S w0 h g w) e' r → runL X ops l (putE e' o.dst .sk) h KE = some res → WlD X.P X.nt ops.toArray (St M S w0 keep G0 KE res) l (putO r o.dst undef) w := fun e' E' hk =>
      runL_sound hX l hd.2 H (E'.put o.dst (v := .sk) (val := undef) rfl) hg hk
    simp only [runL] at hk
    have hw := wantV_sound (ops := ops) (o := o) E
    cases hwv : wantV ops o e with
    | yes => rw [hwv] at hk hw; rw [if_pos hw]; exact yes e E hk
    | no => rw [hwv] at hk hw; rw [if_neg (by simpa using hw)]; exact no e E hk
    | bad => rw [hwv] at hk; cases hk
    | ask t x want =>
      rw [hwv] at hk hw
      obtain ⟨h1, h2⟩ := hw
      have E' := E.same h1
      cases x <;> cases want <;> simp only [cond_true, cond_false] at hk
      · rw [if_pos (by rw [h2]; rfl)]; exact yes _ E' hk
      · rw [if_neg (by rw [h2]; decide)]; exact no _ E' hk
      · rw [if_neg (by rw [h2]; decide)]; exact no _ E' hk
      · rw [if_pos (by rw [h2]; rfl)]; exact yes _ E' hk

/-! ### operations whose order is open -/
variable {d : Option Tmp} {ty : TypeId} {pos : String} {aft : Array Edge} {gd : Option (Nat × Bool)}

/-- what a state reads is as it was -/
def Kept (M S : Nat → Prop) (w0 : World) (h : Hm) (g : Nat → Value) (w : World) (w' : World) : Prop := ∀ b, Seen (memOf M S w0 h g w) h b → w'.heap[b]? = w.heap[b]?
theorem Rel.seen_lt (H : Rel M S w0 h g w) {b : Nat} (hb : Seen (memOf M S w0 h g w) h b) : b < w.heap.size := by
  rcases hb with hb | ⟨id, h1, h2⟩
  · exact hb.1
  · exact H.foot_lt h1 h2
theorem Rel.kept (H : Rel M S w0 h g w) : ∀ w', Bel w.heap.size w w' → Kept M S w0 h g w w' := fun _ hb b hs => hb.b.block b (H.seen_lt hs)
def Quiets (P : Program) (M S : Nat → Prop) (w0 : World) (h : Hm) (g : Nat → Value) (w : World) (r : Env) (o : Oper) (fl : Nat) (K1 : V → Option R) (res : R) : Prop :=
  ∃ v val, HOk P (Bel w.heap.size w) (Kept M S w0 h g w) o val r fl ∧ Rv (memOf M S w0 h g w) v val ∧ K1 v = some res

theorem Quiets.pure {o : Oper} {fl : Nat} {v : V} {val : Value} (h1 : ∀ w', (execOp (ev r) o).run P w' = .ok (.value val) w') (h2 : Rv (memOf M S w0 h g w) v val) (h3 : K1 v = some res) : Quiets P M S w0 h g w r o fl K1 res := by
  refine ⟨v, val, ?_, h2, h3⟩
  match fl with
  | 0 => exact fun w' _ => .same (.value (h1 w'))
  | 1 => exact fun w' _ => .value (h1 w')
  | 2 => exact fun w' => .value (h1 w')
  | _ + 3 => exact fun w' => .same (.value (h1 w'))
theorem Quiets.of {o : Oper} {fl : Nat} (k : Pure P M S w0 h g w r o K1 res) : Quiets P M S w0 h g w r o fl K1 res := by
  obtain ⟨v, val, h1, h2, h3⟩ := k
  exact .pure h1 h2 h3
theorem Quiets.reads {o : Oper} {fl : Nat} (H : Rel M S w0 h g w) (hfl : fl ≤ 1) {v : V} {val : Value} (h1 : ∀ w', (∀ b, Seen (memOf M S w0 h g w) h b → w'.heap[b]? = w.heap[b]?) → (execOp (ev r) o).run P w' = .ok (.value val) w') (h2 : Rv (memOf M S w0 h g w) v val) (h3 : K1 v = some res) : Quiets P M S w0 h g w r o fl K1 res := by
  refine ⟨v, val, ?_, h2, h3⟩
  match fl, hfl with
  | 0, _ => exact fun w' hb => .same (.value (h1 w' (H.kept w' hb)))
  | 1, _ => exact fun w' hb => .value (h1 w' hb)

theorem convQ_sound {A B : TypeId} {x : Operand} {fl : Nat} (H : Rel M S w0 h g w) (E : ER (memOf M S w0 h g w) e r)
    (hk : (match P.underlying A, P.underlying B, opnd e x with
      | some (.int _), some (.int k), .one (.i _ n) => K1 (int1 k (k.wrap n))
      | some .string, some .string, .one (.s l) => K1 (.one (.s l))
      | some (.int _), some (.float k), .one (.i _ n) => K1 (.one (.f k (flNear k n)))
      | some (.float _), some (.int q), .one (.f k n) => (flInt k n q).bind fun z => K1 (int1 q z)
      | some (.float _), some (.float k), .one (.f k' n) => if k' = k then K1 (.one (.f k' n)) else none
      | some (.float _), some (.float k), .one (.fx k' n) => if k' = k then K1 (.one (.fx k' n)) else none
      | some (.slice el), some .string, x =>
        match P.underlying el, readS h x with
        | some (.int .u8), some ⟨.int .u8, xs⟩ => bif Nat.ble fl 1 then K1 (.one (.s (bytesOf xs))) else none
        | _, _ => none
      | _, _, _ => none) = some res) : Quiets P M S w0 h g w r ⟨d, .convert A B x, ty, pos, aft, gd⟩ fl K1 res := by
  have hx := opnd_sound E x
  generalize opnd e x = p at hk hx
  split at hk
  · rename_i hA hB
    exact .of (.mk' hk (fun _ => ex_convInt hA hB (rv_int hx)) mk_int)
  · rename_i hA hB
    exact .of (.mk' hk (fun _ => ex_convStr hA hB (rv_str hx)) mk_str)
  · rename_i hA hB
    exact .of (.mk' hk (fun _ => ex_convIF (by rw [hA]; rfl) hB (rv_int hx)) mk_flt)
  · rename_i hA hB
    obtain ⟨z, h0, hk⟩ := Option.bind_eq_some_iff.1 hk
    exact .of (.mk' hk (fun _ => ex_convFI (by rw [hA]; rfl) hB (rv_flt hx) h0) mk_int)
  · rename_i hA hB
    split at hk
    · rename_i e
      subst e
      exact .of (.mk' hk (fun _ => ex_convFF (by rw [hA]; rfl) hB (rv_flt hx)) mk_flt)
    · cases hk
  · rename_i hA hB
    split at hk
    · rename_i e
      subst e
      obtain ⟨q, hq, hf⟩ := rv_fx hx
      exact .of (.mk' hk (fun _ => ex_convFF (by rw [hA]; rfl) hB hq) (mk_fx hf))
    · cases hk
  · rename_i el hA hB
    split at hk
    · rename_i xs he hr
      rw [cond_eq_ite] at hk
      split at hk
      · rename_i hfl
        obtain ⟨ys, h1, h2, h3⟩ := readS_seen H hx hr
        have := al2_nums h2
        subst this
        exact .reads H (Nat.le_of_ble_eq_true hfl) (fun w' hb => ex_convBT (h1.kept fun b hf => hb b (h3 b hf)) hA he hB rfl) mk_str hk
      · cases hk
    · cases hk
  · cases hk

theorem eqQ_sound {t u : TypeId} {op : BinOp} {x y : Operand} {l l' : List L} {fl : Nat} (hx : Rv (memOf M S w0 h g w) (.ag l) (ev r x)) (hy : Rv (memOf M S w0 h g w) (.ag l') (ev r y))
    (hk : (bif P.eqGuardType P.depth t || isScal P t then none else match eqTy P depth t l l', op with | some b, .eql => K1 (.one (.b b)) | some b, .neq => K1 (.one (.b (!b))) | _, _ => none) = some res) :
    Quiets P M S w0 h g w r ⟨d, .binOp op t x y u, ty, pos, aft, gd⟩ fl K1 res := by
  rw [cond_eq_ite] at hk
  split at hk
  · cases hk
  · rename_i hb
    rw [Bool.or_eq_true, not_or] at hb
    obtain ⟨hb1, hb2⟩ := hb
    have hb1 : P.eqGuardType P.depth t = false := by simpa using hb1
    obtain ⟨s, ex, hs⟩ := hx
    obtain ⟨s', ey, hs'⟩ := hy
    split at hk
    · rename_i b _ hE
      obtain ⟨vx, vy, h1, h2, h3⟩ := eqTy_sound _ _ _ _ _ _ _ hE hs hs'
      have h3 := h3 (9999 - depth)
      rcases h1 with ⟨h1, _⟩ | ⟨_, rfl⟩
      · exact absurd h1 hb2
      rcases h2 with ⟨h2, _⟩ | ⟨_, rfl⟩
      · exact absurd h2 hb2
      exact .pure (fun _ => ex_eqA hb1 ex ey h3) mk_bool hk
    · rename_i b _ hE
      obtain ⟨vx, vy, h1, h2, h3⟩ := eqTy_sound _ _ _ _ _ _ _ hE hs hs'
      have h3 := h3 (9999 - depth)
      rcases h1 with ⟨h1, _⟩ | ⟨_, rfl⟩
      · exact absurd h1 hb2
      rcases h2 with ⟨h2, _⟩ | ⟨_, rfl⟩
      · exact absurd h2 hb2
      exact .pure (fun _ => ex_neA hb1 ex ey h3) mk_bool hk
    · cases hk

theorem moveQ {x : Operand} {fl : Nat} {o : Oper} (E : ER (memOf M S w0 h g w) e r) (ho : ∀ w', (execOp (ev r) o).run P w' = .ok (.value (ev r x)) w') (hk : notNil (opnd e x) K1 = some res) : Quiets P M S w0 h g w r o fl K1 res := by
  obtain ⟨_, hk⟩ := notNil_some hk
  exact .pure ho (opnd_sound E x) hk

theorem detLs_any : ∀ {ls : List L} {s : List (List Value)}, ls.all detL = true → Al2 (Rl m) ls s → Al2 (Rl m') ls s
  | [], s, _, h => by rw [h.nil_left]; trivial
  | x :: l, s, hd, h => by
    rw [List.all_cons, Bool.and_eq_true] at hd
    obtain ⟨c, s, rfl, h1, h2⟩ := h.cons_left
    exact ⟨detL_any hd.1 h1, detLs_any hd.2 h2⟩
theorem buildQ_sound {T : TypeId} {parts : Array (Nat × Operand)} {fl : Nat} (H : Rel M S w0 h g w) (E : ER (memOf M S w0 h g w) e r) (hk : buildQ P T parts.toList e h K1 = some res) :
    Quiets P M S w0 h g w r ⟨d, .build T parts, ty, pos, aft, gd⟩ fl K1 res := by
  obtain ⟨parts⟩ := parts
  unfold buildQ at hk
  split at hk
  · split at hk
    · rename_i ps pl ls hp hpl hz
      rw [cond_eq_ite] at hk
      split at hk
      · rename_i hck
        rw [Bool.and_eq_true] at hck
        obtain ⟨hck, hdet⟩ := hck
        split at hk
        · rename_i ls' hf
          obtain ⟨g1, s, H1, le1, hzo, hs1⟩ := zeroCk_sound H hck
          have hs1 : Al2 (Rl (memOf M S w0 h g w)) ls s := detLs_any hdet hs1
          obtain ⟨e1, hv⟩ := allLeaves_sound E hp
          obtain ⟨s', hfill, hs'⟩ := fillL_sound hf hs1 hv
          refine .pure (v := .ag ls') (val := ag s') (fun w' => ex_buildS hpl hzo rfl ?_) ⟨s', rfl, hs'⟩ hk
          rw [e1, zip_fst_map] at hfill
          exact hfill
        · cases hk
      · cases hk
    · cases hk
  · cases hk

theorem stepQ_sound {X : Cx} (hX : CxOk X) {fl : Nat} {op : Op} {T : TypeId} (H : Rel M S w0 h g w) (E : ER (memOf M S w0 h g w) e r) (hk : stepQ X fl op e h K1 = some res) :
    Quiets X.P M S w0 h g w r ⟨d, op, T, pos, aft, gd⟩ fl K1 res := by
  unfold stepQ at hk
  split at hk
  · exact moveQ E (fun _ => ex_move rfl) hk
  · exact moveQ E (fun _ => ex_assign rfl) hk
  · rename_i c x y
    have hc := opnd_sound E c
    split at hk
    · rename_i b hb
      rw [hb] at hc
      cases b
      · exact moveQ E (fun _ => ex_pick (rv_bool hc) (u := ev r x) (v := ev r y) rfl rfl) hk
      · exact moveQ E (fun _ => ex_pick (rv_bool hc) (u := ev r x) (v := ev r y) rfl rfl) hk
    · cases hk
  · obtain ⟨v, val, h1, h2, h3⟩ := extract_val (d := d) (ty := T) (pos := pos) (aft := aft) (gd := gd) (P := X.P) E hk
    exact .pure h1 h2 h3
  · rename_i f first caps
    obtain ⟨v, val, h1, h2, h3⟩ := makeFunc_val (fn := .func f) (first := first) (caps := caps) (d := d) (ty := T) (pos := pos) (aft := aft) (gd := gd) (P := X.P) E hk
    exact .pure h1 h2 h3
  · rename_i op t x y u
    have hx := opnd_sound E x
    have hy := opnd_sound E y
    split at hk
    · rename_i k a k' b hxe hye
      rw [hxe] at hx
      rw [hye] at hy
      split at hk
      · exact .of (binI_sound hk (rv_int hx) (rv_int hy) (.inr (.inl rfl)))
      · exact .of (binI_sound hk (rv_int hx) (rv_int hy) (.inr (.inr rfl)))
      · split at hk
        · rename_i e
          exact .of (binI_sound hk (rv_int hx) (rv_int hy) (.inl e))
        · cases hk
    · rename_i a b hxe hye
      rw [hxe] at hx
      rw [hye] at hy
      exact .of (binS_sound hk (rv_str hx) (rv_str hy))
    · rename_i k a k' b hxe hye
      rw [hxe] at hx
      rw [hye] at hy
      split at hk
      · rename_i e
        subst e
        rw [cond_eq_ite] at hk
        split at hk
        · cases hk
        · exact .of (binFl_sound hk (rv_flt hx) (rv_flt hy))
      · cases hk
    · rename_i k a b hxe
      rw [hxe] at hx
      split at hk
      · rename_i k' b' hfo
        split at hk
        · rename_i e
          subst e
          obtain ⟨q, hq, hf⟩ := rv_fx hx
          obtain ⟨q', hq', hf'⟩ := fltOf_sound hfo hy
          exact .of (binFc_sound hk hq hq' hf hf')
        · cases hk
      · cases hk
    · rename_i k a k' b hxe hye
      rw [hxe] at hx
      rw [hye] at hy
      split at hk
      · rename_i e
        subst e
        obtain ⟨q', hq', hf'⟩ := rv_fx hy
        exact .of (binFc_sound hk (rv_flt hx) hq' (.inl rfl) hf')
      · cases hk
    · rename_i a b hxe hye
      rw [hxe] at hx
      rw [hye] at hy
      split at hk
      · rename_i ht
        exact .of (binB_sound ht hk (rv_bool hx) (rv_bool hy))
      · cases hk
    · rename_i l l' hxe hye
      rw [hxe] at hx
      rw [hye] at hy
      exact eqQ_sound hx hy hk
    · cases hk
  · obtain ⟨v, val, h1, h2, h3⟩ := unOp_val (d := d) (ty := T) (pos := pos) (aft := aft) (gd := gd) (P := X.P) E hk
    exact .pure h1 h2 h3
  · exact convQ_sound H E hk
  · exact .of (idxOp_sound E hk)
  · exact .of (sliceP_sound E hk)
  · exact .of (fieldOp_sound H E hk)
  · exact .of (idxAddr_sound H E hk)
  · rw [cond_eq_ite] at hk
    split at hk
    · rename_i hfl
      obtain ⟨v, val, h1, h2, h3⟩ := load_sound (d := d) (ty := T) (pos := pos) (aft := aft) (gd := gd) H E hk
      exact .reads H (Nat.le_of_ble_eq_true hfl) h1 h2 h3
    · cases hk
  · exact buildQ_sound H E hk
  · exact .of (toArrQ_sound E hk)
  · obtain ⟨v, val, h1, h2, h3⟩ := nilCheck_val (d := d) (ty := T) (pos := pos) (aft := aft) (gd := gd) (P := X.P) E hk
    exact .pure h1 h2 h3
  · rename_i c
    obtain ⟨callee, ⟨args⟩, ⟨ats⟩⟩ := c
    dsimp only at hk
    split at hk
    · rename_i f
      have hf := opnd_sound E f
      split at hk
      · rename_i q ids hfe
        rw [hfe] at hf
        obtain ⟨h1, h2⟩ := hf
        have h2 := (List.cons.inj h2).1
        split at hk
        · rename_i kind hext
          split at hk
          · obtain ⟨v, val, h3, h4, h5⟩ := extOp_val (d := d) (ty := T) (pos := pos) (aft := aft) (gd := gd) (ats := ats.toArray) hX E hext h2 hk
            exact .pure h3 h4 h5
          · cases hk
        · rw [cond_eq_ite] at hk
          split at hk
          · rename_i hc
            rw [cond_eq_ite] at hk
            split at hk
            · rename_i hfl
              have hfl := Nat.eq_of_beq_eq_true hfl
              subst hfl
              obtain ⟨v, val, h3, h4, h5⟩ := callQ_sound H ((opndS_al2 E args).append (ptrs_al2 h1)) hX.D hk
              exact ⟨v, val, fun w' hb => .enter (ex_call hc h2 rfl) (h3 w' hb), h4, h5⟩
            · rw [cond_eq_ite] at hk
              split at hk
              · rename_i hfl
                rw [Bool.and_eq_true] at hfl
                obtain ⟨hfl, hdv⟩ := hfl
                have hfl := Nat.eq_of_beq_eq_true hfl
                subst hfl
                obtain ⟨v, val, h3, h4, h5⟩ := callN_sound _ ((opndS_al2 E args).append (ptrs_al2 h1)) hdv hX.D hk
                exact ⟨v, val, fun w' => .enter (ex_call hc h2 rfl) (h3 w'), h4 _, h5⟩
              · cases hk
          · cases hk
      · cases hk
    · split at hk
      · exact .of (lenOp_sound H E hk)
      · rename_i x y
        have h1 := opnd_sound E x
        have h2 := opnd_sound E y
        split at hk
        · rename_i k a k' b hx hy
          rw [hx] at h1
          rw [hy] at h2
          split at hk
          · rename_i e; subst e
            exact .pure (fun _ => ex_max2 (rv_int h1) (rv_int h2)) mk_int hk
          · cases hk
        · cases hk
      · rename_i x y
        have h1 := opnd_sound E x
        have h2 := opnd_sound E y
        split at hk
        · rename_i k a k' b hx hy
          rw [hx] at h1
          rw [hy] at h2
          split at hk
          · rename_i e; subst e
            exact .pure (fun _ => ex_min2 (rv_int h1) (rv_int h2)) mk_int hk
          · cases hk
        · cases hk
      · cases hk
    · cases hk
  · cases hk

theorem WhD.mono {n : Nat} {ops : Array Oper} {C0 C : World → Prop} {KQ KQ' : Env → Prop} (hm : ∀ r, KQ r → KQ' r) : ∀ {l : List (Oper × Nat)} {r : Env}, WhD P n ops C0 C KQ l r → WhD P n ops C0 C KQ' l r
  | [], _, h => hm _ h
  | (o, fl) :: l, r, ⟨hd, h⟩ => by
    refine ⟨hd, ?_⟩
    by_cases hw : wantedE ops o r = true
    · rw [if_pos hw] at h ⊢
      obtain ⟨v, h1, h2⟩ := h
      exact ⟨v, h1, WhD.mono hm h2⟩
    · rw [if_neg hw] at h ⊢
      exact WhD.mono hm h

theorem runH_sound {X : Cx} (hX : CxOk X) {ops : List Oper} {KE : Ev → Option R} (H : Rel M S w0 h g w) : ∀ (l : List (Oper × Nat)) {e : Ev} {r : Env}, (∀ x ∈ l, dstOk X.nt x.1 = true) →
    ER (memOf M S w0 h g w) e r → runH X ops l e h KE = some res → WhD X.P X.nt ops.toArray (Bel w.heap.size w) (Kept M S w0 h g w) (fun r' => ∃ e', ER (memOf M S w0 h g w) e' r' ∧ KE e' = some res) l r
  | [], e, r, _, E, hk => ⟨e, E, hk⟩
  | (o, fl) :: l, e, r, hd, E, hk => by
    have hd1 : ∀ d, o.dst = some d → d < X.nt := fun d hdd => by
      have := hd (o, fl) (by simp)
      rw [dstOk, hdd] at this
      simpa [Nat.blt_eq] using this
    have hd2 : ∀ x ∈ l, dstOk X.nt x.1 = true := fun x hx => hd x (List.mem_cons_of_mem _ hx)
    refine ⟨hd1, ?_⟩
    have yes : ∀ e', ER (memOf M S w0 h g w) e' r → (stepQ X fl o.op e' h fun v => runH X ops l (putE e' o.dst v) h KE) = some res →
        ∃ v, HOk X.P (Bel w.heap.size w) (Kept M S w0 h g w) o v r fl ∧ WhD X.P X.nt ops.toArray (Bel w.heap.size w) (Kept M S w0 h g w) (fun r' => ∃ e', ER (memOf M S w0 h g w) e' r' ∧ KE e' = some res) l (putO r o.dst v) := fun e' E' hk => by
      obtain ⟨d, op, T, pos, aft, gd⟩ := o
      obtain ⟨v, val, h1, h2, h3⟩ := stepQ_sound (d := d) (T := T) (pos := pos) (aft := aft) (gd := gd) hX H E' hk
      exact ⟨val, h1, runH_sound hX H l hd2 (E'.put d h2) h3⟩
    have no : ∀ e', ER (memOf M S w0 h g w) e' r → runH X ops l (putE e' o.dst .sk) h KE = some res → WhD X.P X.nt ops.toArray (Bel w.heap.size w) (Kept M S w0 h g w) (fun r' => ∃ e', ER (memOf M S w0 h g w) e' r' ∧ KE e' = some res) l (putO r o.dst undef) := fun e' E' hk =>
      runH_sound hX H l hd2 (E'.put o.dst (v := .sk) (val := undef) rfl) hk
    simp only [runH] at hk
    have hw := wantV_sound (ops := ops) (o := o) E
    cases hwv : wantV ops o e with
    | yes => rw [hwv] at hk hw; rw [if_pos hw]; exact yes e E hk
    | no => rw [hwv] at hk hw; rw [if_neg (by simpa using hw)]; exact no e E hk
    | bad => rw [hwv] at hk; cases hk
    | ask t x want =>
      rw [hwv] at hk hw
      obtain ⟨h1, h2⟩ := hw
      have E' := E.same h1
      cases x <;> cases want <;> simp only [cond_true, cond_false] at hk
      · rw [if_pos (by rw [h2]; rfl)]; exact yes _ E' hk
      · rw [if_neg (by rw [h2]; decide)]; exact no _ E' hk
      · rw [if_neg (by rw [h2]; decide)]; exact no _ E' hk
      · rw [if_pos (by rw [h2]; rfl)]; exact yes _ E' hk

theorem picks_mem {α : Type} {ops : List Oper} : ∀ {l : List (Nat × α)} {x : Oper × α}, x ∈ picks ops l → x.1 ∈ ops ∧ ∃ i, (i, x.2) ∈ l
  | [], _, h => by cases h
  | (i, a) :: l, x, h => by
    simp only [picks] at h
    split at h
    · rename_i o ho
      rcases List.mem_cons.1 h with rfl | h
      · exact ⟨List.mem_of_getElem? ho, i, by simp⟩
      · obtain ⟨h1, j, h2⟩ := picks_mem h
        exact ⟨h1, j, List.mem_cons_of_mem _ h2⟩
    · obtain ⟨h1, j, h2⟩ := picks_mem h
      exact ⟨h1, j, List.mem_cons_of_mem _ h2⟩

end
end Go.Dor
end
