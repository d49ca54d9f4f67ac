/- ADDRESSES, PARTS, CONVERSIONS: what the machine says of them holds. Plain lemmas over any program. -/
import Derived.Test.YtlejphdgfoejaaaDoorQ
namespace Go.Dor
open Go.RowKit (Below)
section
variable {P : Program} {M S : Nat → Prop} {w0 w w' : World} {h : Hm} {g : Nat → Value} {R : Type} {res : R} {K : V → Hm → Option R} {K1 : V → Option R}
  {d : Option Tmp} {ty : TypeId} {pos : String} {aft : Array Edge} {gd : Option (Nat × Bool)} {e : Ev} {r : Env}

theorem widT_eq {T : TypeId} {n : Nat} (h : widT P T = some n) : (P.info? T).map (·.size) = some n := h
theorem map_id_list (ys : List (List Value)) : ys.map (fun y => y) = ys := by simp

/-- where a live element lies -/
theorem Rel.epO (H : Rel M S w0 h g w) {id z off : Nat} {i : Int} {ty : TypeId} {t : T} {xs : List (den t)} {v : Value} (ho : h[id]? = some (.arr ty t xs)) (hx : Rv (memOf M S w0 h g w) (.epO id z i off) v) :
    0 ≤ i ∧ i < (xs.length : Int) ∧ ∃ ys b a, Own w (g id) ty (wid t) ys ∧ Al2 (At w (memOf M S w0 h g w).I t) xs ys ∧ (∀ n, eptr (g id) n = .pointer (some ⟨b, a + n, none⟩)) ∧ CA w b a ys.flatten ∧ v = .pointer (some ⟨b, a + (i.toNat * z + off), none⟩) ∧ vfoot (g id) = some b := by
  have hli : lives h id := by simp [lives, ho, liveO]
  obtain ⟨_, hval⟩ := hx
  obtain ⟨hval, h0, h1⟩ := hval hli
  obtain ⟨ys, hO, hs⟩ := H.obj _ _ ho
  have h1 : i < (slen (g id) : Int) := h1
  rw [hO.rd.slen, ← hs.length] at h1
  have hne : ys ≠ [] := fun e => by subst e; have := hs.length; simp only [List.length_nil] at this; omega
  obtain ⟨b, a, hp, hca, hfo, _⟩ := hO.rd.ca hne
  refine ⟨h0, h1, ys, b, a, hO, hs, hp, hca, ?_, hfo⟩
  rw [hval]; exact hp _

theorem fieldOp_sound {T : TypeId} {x : Operand} {f : Nat} (H : Rel M S w0 h g w) (E : ER (memOf M S w0 h g w) e r) (hk : fieldOp P T (opnd e x) f h K1 = some res) :
    Pure P M S w0 h g w r ⟨d, .fieldAddr T x f, ty, pos, aft, gd⟩ K1 res := by
  have hx := opnd_sound E x
  generalize opnd e x = p at hk hx
  unfold fieldOp at hk
  split at hk
  · rename_i fo fz hf
    split at hk
    · rename_i id off
      obtain ⟨h1, b, h2, h3⟩ := hx
      have h3 : ev r x = .pointer (some ⟨b, off, none⟩) := by simpa using h3
      exact .mk' hk (fun _ => ex_fieldAddr hf h3 rfl) ⟨h1, b, h2, rfl⟩
    · rename_i t u off
      obtain ⟨q, o, c, h1, h2, h3, h4⟩ := hx
      exact .mk' hk (fun _ => ex_fieldAddr hf h1 rfl) ⟨q, o, c, by rw [Nat.add_assoc], h2, h3, h4⟩
    · rename_i id z i off
      split at hk
      · rename_i ty' t xs ho
        obtain ⟨h0, h1, ys, b, a, hO, hs, hp, hca, hval, _⟩ := H.epO ho hx
        refine .mk' hk (fun _ => ex_fieldAddr hf hval rfl) ⟨hx.1, fun hl => ⟨?_, (hx.2 hl).2⟩⟩
        have := hp (i.toNat * z + (off + fo))
        rw [show (memOf M S w0 h g w).g id = g id from rfl, this]
        congr 3; omega
      · cases hk
    · rename_i id off n z i k
      obtain ⟨h1, h2, h3, b, h4, h5⟩ := hx
      exact .mk' hk (fun _ => ex_fieldAddr hf h5 rfl) ⟨h1, h2, h3, b, h4, by congr 3; omega⟩
    · cases hk
  · cases hk

theorem ex_ixBs {T el : TypeId} {x y : Operand} {k : IntKind} {i lo hi : Int} {b off n z : Nat} (hT : P.underlying T = some (.slice el)) (he : (P.info? el).map (·.size) = some z) (hx : ev r x = bsv b off n lo hi) (hy : ev r y = .int k i)
    (h0 : 0 ≤ lo) (h1 : lo ≤ hi) (h2 : hi ≤ (n : Int)) (hc : 0 ≤ i ∧ i < hi - lo) (hz : z = 1) :
    (execOp (ev r) ⟨d, .indexAddr T x y, ty, pos, aft, gd⟩).run P w = .ok (.value (.pointer (some ⟨b, off + ((lo + i).toNat * z + 0), none⟩))) w := by
  obtain ⟨ii, hii, hs⟩ := Option.map_eq_some_iff.1 he
  subst hz
  have hne : ¬ n = lo.toNat := by omega
  have hlen : i < ((hi.toNat - lo.toNat : Nat) : Int) := by omega
  have e1 : off + lo.toNat + i.toNat = off + ((lo + i).toNat * 1 + 0) := by omega
  simp only [bsv, if_neg hne] at hx
  simp [execOp, hx, hy, Instr.indexAt, asIntOf, run_underlying hT, hc.1, hlen, sizeOf, typeInfo, hii, hs, add_lit]

theorem idxAddr_sound {T : TypeId} {x y : Operand} (H : Rel M S w0 h g w) (E : ER (memOf M S w0 h g w) e r) (hk : idxAddr P T (opnd e x) (opnd e y) h K1 = some res) :
    Pure P M S w0 h g w r ⟨d, .indexAddr T x y, ty, pos, aft, gd⟩ K1 res := by
  have hx := opnd_sound E x
  have hy := opnd_sound E y
  generalize opnd e x = p at hk hx
  generalize opnd e y = q at hk hy
  unfold idxAddr at hk
  split at hk
  · rename_i k i
    have hy := rv_int hy
    split at hk
    · rename_i el hT
      split at hk
      · rename_i z hz
        split at hk
        · rename_i t xs
          rw [cond_eq_ite] at hk
          split at hk
          · rename_i hzt
            have hzt := Nat.eq_of_beq_eq_true hzt
            obtain ⟨hc, hk⟩ := need_some hk
            obtain ⟨v, hv, ys, hrd, hs, hI⟩ := hx
            have hv : ev r x = v := by simpa using hv
            subst hv
            have hl := hs.length
            have hne : ys ≠ [] := fun e => by subst e; simp only [List.length_nil] at hl; omega
            obtain ⟨b, a, hp, hca, hfo, _⟩ := hrd.ca hne
            obtain ⟨c, hc1, hat⟩ := elem_CA (m := memOf M S w0 h g w) hs hc.1 hc.2
            refine .mk' (val := eptr (ev r x) (i.toNat * z)) hk (fun w' => ex_ixS (l := ys) (f := fun y => y) (by rw [map_id_list]; rw [← hzt]; exact hrd) hT hz rfl hy (by rw [← hl]; exact hc)) ⟨b, a + i.toNat * z, c, ?_, hI b hfo, hat, ?_⟩
            · rw [hp]; rfl
            · exact hca.elem (by rw [← hzt]; exact (hs.flat_len (At.len t)).1) hc1
          · cases hk
        · rename_i id
          split at hk
          · rename_i ty' t xs ho
            rw [cond_eq_ite] at hk
            split at hk
            · rename_i hzt
              have hzt := Nat.eq_of_beq_eq_true hzt
              obtain ⟨hc, hk⟩ := need_some hk
              have hli : lives h id := by simp [lives, ho, liveO]
              obtain ⟨hlt, v, hv, _, _, hv2⟩ := hx
              have hv : ev r x = v := by simpa using hv
              have hv2 := hv2 hli
              have hv2 : v = g id := hv2
              rw [hv2] at hv
              obtain ⟨ys, hO, hs⟩ := H.obj _ _ ho
              have hl := hs.length
              refine .mk' (val := eptr (g id) (i.toNat * z)) hk (fun w' => ex_ixS (l := ys) (f := fun y => y) (by rw [map_id_list]; rw [← hzt]; exact hO.rd) hT hz hv hy (by rw [← hl]; exact hc)) ⟨hlt, fun _ => ⟨rfl, hc.1, ?_⟩⟩
              rw [show (memOf M S w0 h g w).g id = g id from rfl, hO.rd.slen, ← hl]; exact hc.2
            · cases hk
          · rename_i ho; exact (H.obj _ _ ho).elim
          · cases hk
        · rename_i id off n lo hi
          rw [cond_eq_ite] at hk
          split at hk
          · rename_i hz1
            have hz1 := Nat.eq_of_beq_eq_true hz1
            obtain ⟨hc, hk⟩ := need_some hk
            obtain ⟨hlt, h0, h1, h2, b, hb, hval⟩ := hx
            have hval : ev r x = bsv b off n lo hi := by simpa using hval
            exact .mk' hk (fun w' => ex_ixBs hT hz hval hy h0 h1 h2 hc hz1) ⟨hlt, by omega, by omega, b, hb, rfl⟩
          · cases hk
        · cases hk
      · cases hk
    · rename_i n el hT
      split at hk
      · rename_i z hz
        split at hk
        · rename_i id off
          obtain ⟨hc, hk⟩ := need_some hk
          obtain ⟨hlt, b, hb, hval⟩ := hx
          have hval : ev r x = .pointer (some ⟨b, off, none⟩) := by simpa using hval
          exact .mk' hk (fun w' => ex_indexAddrA hT hz hval hy hc.1 hc.2) ⟨hlt, hc.1, hc.2, b, hb, rfl⟩
        · cases hk
      · cases hk
    · cases hk
  · cases hk

/-- a single cell of data -/
theorem scal_cell {m : Mem} {t : T} {x : den t} {c : List Value} {z : L} (hat : At m.w m.I t x c) (he : enc t x = [z]) (hw : c.length = 1) : ∃ v, c = [v] ∧ Rl m z [v] := by
  obtain ⟨s, h1, h2⟩ := At.enc (m := m) _ _ _ hat
  rw [he] at h2
  obtain ⟨c', s', rfl, h3, h4⟩ := h2.cons_left
  have := h4.nil_left
  subst this
  rw [flat_one] at h1
  subst h1
  match c, hw with
  | [v], _ => exact ⟨v, rfl, h3⟩

theorem idxOp_sound {T : TypeId} {x y : Operand} (E : ER (memOf M S w0 h g w) e r) (hk : idxOp P T (opnd e x) (opnd e y) K1 = some res) :
    Pure P M S w0 h g w r ⟨d, .index T x y, ty, pos, aft, gd⟩ K1 res := by
  have hx := opnd_sound E x
  have hy := opnd_sound E y
  generalize opnd e x = p at hk hx
  generalize opnd e y = q at hk hy
  unfold idxOp at hk
  split at hk
  · rename_i k i
    have hy := rv_int hy
    split at hk
    · split at hk
      · rename_i hT
        obtain ⟨hc, hk⟩ := need_some hk
        exact .mk' hk (fun _ => ex_ats hT (rv_str hx) hy hc.1 hc.2) mk_int
      · cases hk
    · rename_i t n v
      split at hk
      · rename_i n' el hT
        rw [cond_eq_ite] at hk
        split at hk
        · rename_i hsc
          rw [Bool.and_eq_true] at hsc
          obtain ⟨hsc, hnn⟩ := hsc
          rw [Bool.and_eq_true] at hsc
          obtain ⟨hsc, hw1⟩ := hsc
          have hnn := Nat.eq_of_beq_eq_true hnn
          have hw1 := Nat.eq_of_beq_eq_true hw1
          subst hnn
          obtain ⟨hc, hk⟩ := need_some hk
          split at hk
          · rename_i z hz
            obtain ⟨s, hv, hs⟩ := hx
            obtain ⟨c, s', rfl, h1, h2⟩ := hs.cons_left
            have := h2.nil_left
            subst this
            obtain ⟨ys, rfl, h3⟩ := h1
            have hlen : (v.toList.length : Int) = n := by simp
            obtain ⟨c, hc1, hat⟩ := elem_CA (m := memOf M S w0 h g w) h3 hc.1 (by rw [hlen]; exact hc.2)
            obtain ⟨u, rfl, hu⟩ := scal_cell hat hz (by rw [At.len _ _ _ hat, hw1])
            have hall := (h3.flat_len (At.len t)).1
            rw [hw1] at hall
            have hget : ys.flatten[i.toNat]? = some u := by
              have := flat_at hall hc1 (k := 0) (by omega)
              simpa using this
            refine .mk' (val := u) hk (fun w' => ?_) hu
            obtain ⟨h4, h5⟩ := scal_spec (w := w') hsc
            have e3 : (cells [ys.flatten])[i.toNat * 1]? = some u := by simpa [cells] using hget
            simp [execOp, hv, hy, Instr.index, asIntOf, ag, run_underlying hT, hc.1, hc.2, part, h4, h5]
            rw [Nat.mul_one] at e3
            rw [e3]
            rfl
          · cases hk
        · cases hk
      · cases hk
    · cases hk
  · cases hk

theorem bound_sound {o : Option Operand} {dv a : Int} (E : ER (memOf M S w0 h g w) e r) (hb : bound e o dv = some a) : (o = none ∧ a = dv) ∨ ∃ x k, o = some x ∧ ev r x = .int k a := by
  unfold bound at hb
  split at hb
  · cases hb; exact .inl ⟨rfl, rfl⟩
  · rename_i x
    have hx := opnd_sound E x
    generalize opnd e x = p at hb hx
    unfold asInt1 at hb
    split at hb
    · cases hb; exact .inr ⟨x, _, rfl, rv_int hx⟩
    · cases hb

theorem sub_al2 {α β : Type} {Q : α → β → Prop} {xs : List α} {ys : List β} (hs : Al2 Q xs ys) (a b : Int) : Al2 Q (sub_ xs a b) (sub_ ys a b) := (hs.take _).drop _

theorem foot_slv {v : Value} {a b : Int} {z q : Nat} (hq : vfoot (slv v a b z) = some q) : vfoot v = some q := foot_sub hq

theorem ex_subS {T el : TypeId} {x : Operand} {lo hi : Option Operand} {a b : Int} {z : Nat} {ys : List (List Value)} {w1 : World} (hrd : Rd w1 (ev r x) z ys) (hT : P.underlying T = some (.slice el)) (hz : widT P el = some z)
    (ha : (lo = none ∧ a = 0) ∨ ∃ x k, lo = some x ∧ ev r x = .int k a) (hb : (hi = none ∧ b = (ys.length : Int)) ∨ ∃ x k, hi = some x ∧ ev r x = .int k b) (hc : 0 ≤ a ∧ a ≤ b ∧ b ≤ (ys.length : Int)) :
    (execOp (ev r) ⟨d, .slice T x lo hi none, ty, pos, aft, gd⟩).run P w = .ok (.value (slv (ev r x) a b z)) w := by
  have hrd' : Rd w1 (ev r x) z (ys.map fun y => y) := by rw [map_id_list]; exact hrd
  rcases ha with ⟨rfl, rfl⟩ | ⟨xl, k, rfl, hl⟩ <;> rcases hb with ⟨rfl, rfl⟩ | ⟨xh, k', rfl, hh⟩
  · exact ex_subSA hrd' hT hz rfl
  · exact ex_subSH hrd' hT hz rfl hh hc
  · exact ex_subSL hrd' hT hz rfl hl hc
  · exact ex_subSLH hrd' hT hz rfl hl hh hc

theorem ex_subT {T : TypeId} {x : Operand} {lo hi : Option Operand} {a b : Int} {l : List UInt8} (hx : ev r x = sv l) (hT : P.underlying T = some .string)
    (ha : (lo = none ∧ a = 0) ∨ ∃ x k, lo = some x ∧ ev r x = .int k a) (hb : (hi = none ∧ b = (l.length : Int)) ∨ ∃ x k, hi = some x ∧ ev r x = .int k b) (hc : 0 ≤ a ∧ a ≤ b ∧ b ≤ (l.length : Int)) :
    (execOp (ev r) ⟨d, .slice T x lo hi none, ty, pos, aft, gd⟩).run P w = .ok (.value (sv (sub_ l a b))) w := by
  rcases ha with ⟨rfl, rfl⟩ | ⟨xl, k, rfl, hl⟩ <;> rcases hb with ⟨rfl, rfl⟩ | ⟨xh, k', rfl, hh⟩
  · simp only [sv] at hx
    have : sub_ l 0 (l.length : Int) = l := by simp [sub_]
    rw [this]
    simp [execOp, hx, Instr.sliceAt, Instr.slice, Instr.sliceBounds, run_underlying hT, sv]
  · exact ex_subH hT hx hh ⟨by omega, hc.2.2⟩
  · have := ex_subL (w := w) (d := d) (ty := ty) (pos := pos) (aft := aft) (g := gd) hT hx hl ⟨hc.1, hc.2.1⟩
    first | exact this | (rw [this]; simp [sub_])
  · exact ex_subLH hT hx hl hh hc

theorem ex_subP {T el : TypeId} {x : Operand} {lo hi : Option Operand} {a b' : Int} {n b off : Nat} (hx : ev r x = .pointer (some ⟨b, off, none⟩)) (hT : P.underlying T = some (.array n el)) (hz : widT P el = some 1)
    (ha : (lo = none ∧ a = 0) ∨ ∃ x k, lo = some x ∧ ev r x = .int k a) (hb : (hi = none ∧ b' = (n : Int)) ∨ ∃ x k, hi = some x ∧ ev r x = .int k b') (hc : 0 ≤ a ∧ a ≤ b' ∧ b' ≤ (n : Int)) :
    (execOp (ev r) ⟨d, .slice T x lo hi none, ty, pos, aft, gd⟩).run P w = .ok (.value (bsv b off n a b')) w := by
  rcases ha with ⟨rfl, rfl⟩ | ⟨xl, k, rfl, hl⟩ <;> rcases hb with ⟨rfl, rfl⟩ | ⟨xh, k', rfl, hh⟩
  · exact ex_sliceA hT hz hx
  · exact ex_sliceH hT hz hx hh hc
  · exact ex_sliceL hT hz hx hl hc
  · exact ex_sliceLH hT hz hx hl hh hc

end
end Go.Dor
