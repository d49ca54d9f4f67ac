/- THE SUM OF A TEXT, on both sides. -/
import Derived.Test.YtejhoahklkbgpaaNg
namespace Go.Dor
open Go.Proofs

def H0 : List Nat := [1779033703, 3144134277, 1013904242, 2773480762, 1359893119, 2600822924, 528734635, 1541459225]
def chunk (t : List UInt8) (j : Nat) : List UInt8 := (t.drop (64 * j)).take 64
def hsN (t : List UInt8) : Nat → List Nat
  | 0 => H0
  | j + 1 => blk (hsN t j) (chunk t j)
theorem hsN_len (t : List UInt8) : ∀ j, (hsN t j).length = 8
  | 0 => rfl
  | _ + 1 => blk_len
theorem H0_w32 : W32 H0 := by intro x hx; simp [H0] at hx; omega
theorem hsN_w32 (t : List UInt8) : ∀ j, W32 (hsN t j)
  | 0 => H0_w32
  | _ + 1 => blk_w32
def digN (h : List Nat) : List Nat := (List.range 32).map fun i => h.getD (i / 4) 0 / 256 ^ (3 - i % 4) % 256
theorem digN_len (h : List Nat) : (digN h).length = 32 := by simp [digN]
theorem digN_lt (h : List Nat) : ∀ x ∈ digN h, x < 256 := by
  intro x hx
  simp only [digN, List.mem_map] at hx
  obtain ⟨i, _, rfl⟩ := hx
  exact Nat.mod_lt _ (by omega)
/-- the sum of a text, as numbers -/
def sumN (s : List UInt8) : List Nat := digN (hsN (fillN s) ((fillN s).length / 64))
theorem sumN_len (s : List UInt8) : (sumN s).length = 32 := digN_len _
theorem sumN_lt (s : List UInt8) : ∀ x ∈ sumN s, x < 256 := digN_lt _

theorem first_eq : p_sum_first = some (vecN 8 H0) := by
  unfold p_sum_first
  exact congrArg some (bparts8 0 1779033703 3144134277 1013904242 2773480762 1359893119 2600822924 528734635 1541459225)

theorem dig_take {h : List Nat} {i : Nat} (hi : i < 32) : (digN h).take (i + 1) = (digN h).take i ++ [h.getD (i / 4) 0 / 256 ^ (3 - i % 4) % 256] := by
  rw [List.take_succ_eq_append_getElem (by rw [digN_len]; exact hi)]
  congr 2
  simp [digN]

theorem sumOf_tail {k : Nat} {h : List Nat} {x : Vector Int 32} (hk : 64 < k) : p_sum_Of.j0 k x (vecN 8 h) = some (vecN 32 (digN h)) := by
  have hz : dflt (T.int IntKind.u8) = (0 : Int) := rfl
  unfold p_sum_Of.j0 joinC
  rw [hz, repl_vecN]
  have L := loop_count (body := fun (r : Int × Vector Int (32) × Vector Int (8) × Vector Int (32) → Option (Vector Int (32))) y => p_sum_Of.b2 k (fun y => p_sum_Of.j1 k y.1 y.2) r y.1 y.2.1 y.2.2.1 y.2.2.2) (res := some (vecN 32 (digN h))) 32 k
    (fun i => ((i : Int), x, vecN 8 h, vecN 32 ((digN h).take i))) (by omega) ?_ ?_
  · exact L
  · intro i hi rec
    dsimp only
    unfold p_sum_Of.b2
    have h1 : decide ((i : Int) < (32 : Int)) = true := by simpa using (by omega : (i : Int) < 32)
    have e1 : IntKind.wrap .i64 (Int.tdiv (i : Int) 4) = ((i / 4 : Nat) : Int) := by rw [Int.tdiv_eq_ediv_of_nonneg (by omega), wrap_i64 (by omega)]; omega
    have e2 : IntKind.wrap .i64 (24 - IntKind.wrap .i64 (8 * Int.tmod (i : Int) 4)) = ((24 - 8 * (i % 4) : Nat) : Int) := by
      have e0 : IntKind.wrap .i64 (8 * Int.tmod (i : Int) 4) = 8 * ((i : Int) % 4) := by rw [Int.tmod_eq_emod_of_nonneg (by omega), wrap_i64 (by omega)]
      rw [e0, wrap_i64 (by omega)]; omega
    have hd : dflt (T.int IntKind.u32) = (0 : Int) := rfl
    have ep : (2 : Nat) ^ (24 - 8 * (i % 4)) = 256 ^ (3 - i % 4) := by
      have : i % 4 = 0 ∨ i % 4 = 1 ∨ i % 4 = 2 ∨ i % 4 = 3 := by omega
      rcases this with h | h | h | h <;> rw [h] <;> rfl
    rw [h1, cond_true, e1, e2, need_yes (by omega), need_yes (by omega), need_yes (by omega), hd, at_vecN (by omega), shr_nat (k := .u32) (show 24 - 8 * (i % 4) ≤ 32 by omega), ep, low8', wrap_i64 (by omega), vset_vecN (by rw [List.length_take, digN_len]; omega), ← dig_take hi]
    rfl
  · intro rec
    dsimp only
    unfold p_sum_Of.b2
    have h1 : decide (((32 : Nat) : Int) < (32 : Int)) = false := by decide
    rw [h1, cond_false, List.take_of_length_le (by rw [digN_len]; omega)]
    rfl

theorem chunk_len {t : List UInt8} {j : Nat} (h : 64 * j + 64 ≤ t.length) : (chunk t j).length = 64 := by simp [chunk]; omega

theorem Of_eq {k : Nat} {s : List UInt8} (hk : 64 < k) (hs : s.length < 1000000000) (hk2 : s.length + 128 < 64 * k) : p_sum_Of k s = some (vecN 32 (sumN s)) := by
  have hl := fillN_len s
  have hz := zerosN_lt s.length
  have hm := fillN_mod s
  unfold p_sum_Of joinC sumN
  rw [first_eq, Option.bind_some, filled_eq hk hs]
  dsimp only
  rw [Option.bind_some]
  generalize fillN s = t at *
  have hm2 : t.length = 64 * (t.length / 64) := by omega
  generalize t.length / 64 = m at *
  have L := loop_count (body := fun (r : List UInt8 × Vector Int (32) × Vector Int (8) → Option (Vector Int (32))) y => p_sum_Of.b3 k (fun y => p_sum_Of.j0 k y.1 y.2) r y.1 y.2.1 y.2.2) (res := some (vecN 32 (digN (hsN t m)))) m k
    (fun j => (t.drop (64 * j), Vector.replicate 32 (dflt (T.int IntKind.u8)), vecN 8 (hsN t j))) (by omega) ?_ ?_
  · exact L
  · intro j hj rec
    dsimp only
    unfold p_sum_Of.b3
    have hld : (t.drop (64 * j)).length = t.length - 64 * j := List.length_drop
    have h1 : (!t.drop (64 * j) == []) = true := by
      cases e : t.drop (64 * j) with
      | nil => rw [e] at hld; simp at hld; omega
      | cons a b => rfl
    have ht : sub_ (t.drop (64 * j)) 0 64 = chunk t j := rfl
    have hr : sub_ (t.drop (64 * j)) 64 ((t.drop (64 * j)).length : Int) = t.drop (64 * (j + 1)) := by
      rw [sub_, Int.toNat_natCast, List.take_length, List.drop_drop]; rfl
    rw [h1, cond_true, need_yes (by omega), ht, step_eq hk (chunk_len (by omega)) (hsN_w32 t j), Option.bind_some, need_yes (by omega), hr]
    rfl
  · intro rec
    dsimp only
    unfold p_sum_Of.b3
    have h0 : t.drop (64 * m) = [] := List.drop_eq_nil_of_le (by omega)
    rw [h0]
    exact sumOf_tail hk

theorem byl_app (a b : List Nat) : byl (a ++ b) = byl a ++ byl b := by simp [byl]
theorem refOf_tail {k : Nat} {h : List Nat} (hk : 64 < k) (h8 : h.length = 8) (hh : W32 h) : p_dormouseref03_Of.j0 k (casts h) = some (byl (digN h)) := by
  unfold p_dormouseref03_Of.j0 joinC
  have L := loop_count (body := fun (r : List UInt8 × Int × List Int → Option (List UInt8)) y => p_dormouseref03_Of.b2 k (p_dormouseref03_Of.j1 k) r y.1 y.2.1 y.2.2) (res := some (byl (digN h))) 32 k
    (fun i => (byl ((digN h).take i), (i : Int), casts h)) (by omega) ?_ ?_
  · exact L
  · intro i hi rec
    dsimp only
    unfold p_dormouseref03_Of.b2 joinC
    have h1 : decide ((i : Int) < (32 : Int)) = true := by simpa using (by omega : (i : Int) < 32)
    have e1 : IntKind.wrap .i64 (Int.tdiv (i : Int) 4) = ((i / 4 : Nat) : Int) := by rw [Int.tdiv_eq_ediv_of_nonneg (by omega), wrap_i64 (by omega)]; omega
    have e2 : Int.tmod (i : Int) 4 = ((i % 4 : Nat) : Int) := by rw [Int.tmod_eq_emod_of_nonneg (by omega)]; omega
    have hd : dflt (T.int IntKind.u64) = (0 : Int) := rfl
    rw [h1, cond_true, e1, e2]
    dsimp only
    rw [need_yes (by rw [casts_len, h8]; omega), hd, at_casts]
    have hx := hh.get (i / 4)
    have ht := dig_take (h := h) hi
    generalize h.getD (i / 4) 0 = x at *
    have L := loop_count (body := fun (r : List UInt8 × Int × Int × Int × List Int → Option (List UInt8)) y => p_dormouseref03_Of.b5 k (fun y => p_dormouseref03_Of.j4 k (fun y => p_dormouseref03_Of.j3 k rec y.1 y.2.1 y.2.2) y.1 y.2.1 y.2.2.1 y.2.2.2) r y.1 y.2.1 y.2.2.1 y.2.2.2.1 y.2.2.2.2) (res := rec (byl ((digN h).take (i + 1)), ((i + 1 : Nat) : Int), casts h)) (3 - i % 4) k
      (fun j => (byl ((digN h).take i), (i : Int), ((x / 256 ^ j : Nat) : Int), ((i % 4 + j : Nat) : Int), casts h)) (by omega) ?_ ?_
    · simp only [Nat.pow_zero, Nat.div_one] at L
      exact L
    · intro j hj rec
      dsimp only
      unfold p_dormouseref03_Of.b5
      have h2 : decide (((i % 4 + j : Nat) : Int) < 3) = true := by simpa using (by omega : ((i % 4 + j : Nat) : Int) < 3)
      have hle : x / 256 ^ j ≤ x := Nat.div_le_self _ _
      have ei : IntKind.wrap .i64 (((i % 4 + j : Nat) : Int) + 1) = ((i % 4 + (j + 1) : Nat) : Int) := by rw [wrap_i64 (by omega)]; omega
      rw [h2, cond_true, div8 (Nat.lt_of_le_of_lt hle (by omega)), ei, div_pow_succ]
    · intro rec2
      dsimp only
      unfold p_dormouseref03_Of.b5
      have h2 : decide (((i % 4 + (3 - i % 4) : Nat) : Int) < 3) = false := by simpa using (by omega : 3 ≤ ((i % 4 + (3 - i % 4) : Nat) : Int))
      rw [h2, cond_false]
      dsimp only
      unfold p_dormouseref03_Of.j4
      rw [low8, bytesOf_one, need_yes (by rw [byl_len, List.length_take, digN_len]; simp only [List.length_cons, List.length_nil]; omega)]
      dsimp only
      unfold p_dormouseref03_Of.j3
      rw [wrap_i64 (by omega), ht, byl_app]
      rfl
  · intro rec
    dsimp only
    unfold p_dormouseref03_Of.b2 joinC
    have h1 : decide (((32 : Nat) : Int) < (32 : Int)) = false := by decide
    rw [h1, cond_false, List.take_of_length_le (by rw [digN_len]; omega)]
    rfl

theorem refOf_eq {k : Nat} {s : List UInt8} (hk : 64 < k) (hs : s.length < 1000000000) (hk2 : s.length + 128 < 64 * k) : p_dormouseref03_Of k s = some (byl (sumN s)) := by
  have hl := fillN_len s
  have hz := zerosN_lt s.length
  have hm := fillN_mod s
  unfold p_dormouseref03_Of joinC sumN
  rw [Fill_eq hk hs, Option.bind_some]
  generalize fillN s = t at *
  have hm2 : t.length = 64 * (t.length / 64) := by omega
  generalize t.length / 64 = m at *
  have L := loop_count (body := fun (r : List UInt8 × Int × List Int → Option (List UInt8)) y => p_dormouseref03_Of.b6 k (p_dormouseref03_Of.j0 k) r y.1 y.2.1 y.2.2) (res := some (byl (digN (hsN t m)))) m k
    (fun j => (t, ((64 * j : Nat) : Int), casts (hsN t j))) (by omega) ?_ ?_
  · exact L
  · intro j hj rec
    dsimp only
    unfold p_dormouseref03_Of.b6
    have h1 : decide (((64 * j : Nat) : Int) < (t.length : Int)) = true := by simpa using (by omega : ((64 * j : Nat) : Int) < (t.length : Int))
    have e1 : IntKind.wrap .i64 (((64 * j : Nat) : Int) + 64) = ((64 * (j + 1) : Nat) : Int) := by rw [wrap_i64 (by omega)]; omega
    have ht : sub_ t ((64 * j : Nat) : Int) ((64 * (j + 1) : Nat) : Int) = chunk t j := by
      rw [sub_, Int.toNat_natCast, Int.toNat_natCast, chunk, List.take_drop, show 64 * (j + 1) = 64 * j + 64 from by omega]
    rw [h1, cond_true, e1, need_yes (by omega), ht, block_eq hk (chunk_len (by omega)) (hsN_len t j) (hsN_w32 t j), Option.bind_some]
    rfl
  · intro rec
    dsimp only
    unfold p_dormouseref03_Of.b6
    have h1 : decide (((64 * m : Nat) : Int) < (t.length : Int)) = false := by simpa using (by omega : (t.length : Int) ≤ ((64 * m : Nat) : Int))
    rw [h1, cond_false]
    exact refOf_tail hk (hsN_len t m) (hsN_w32 t m)

theorem refSum_eq {k : Nat} {s : List UInt8} (hk : 64 < k) (hs : s.length < 1000000000) (hk2 : s.length + 128 < 64 * k) : p_dormouseref03_Sum k s = some (vecN 32 (sumN s)) := by
  have hz : dflt (T.int IntKind.u8) = (0 : Int) := rfl
  have hlen := sumN_len s
  have hlt := sumN_lt s
  unfold p_dormouseref03_Sum joinC
  rw [refOf_eq hk hs hk2, Option.bind_some, hz, repl_vecN]
  generalize sumN s = d at *
  have L := loop_count (body := fun (r : List UInt8 × Int × Vector Int (32) × Vector Int (32) → Option (Vector Int (32))) y => p_dormouseref03_Sum.b1 k (fun y => p_dormouseref03_Sum.j0 k y.1 y.2) r y.1 y.2.1 y.2.2.1 y.2.2.2) (res := some (vecN 32 d)) 32 k
    (fun i => (byl d, (i : Int), vecN 32 [], vecN 32 (d.take i))) (by omega) ?_ ?_
  · exact L
  · intro i hi rec
    dsimp only
    unfold p_dormouseref03_Sum.b1
    have h1 : decide ((i : Int) < (32 : Int)) = true := by simpa using (by omega : (i : Int) < 32)
    have hid : i < d.length := by omega
    have eb : bat (byl d) (i : Int) = ((d[i] : Nat) : Int) := by
      have := hlt d[i] (List.getElem_mem hid)
      simp [bat, byl, hid]; omega
    rw [h1, cond_true, need_yes (by rw [byl_len]; omega), need_yes (by omega), eb, wrap_i64 (by omega), vset_vecN (by rw [List.length_take]; omega), ← List.take_succ_eq_append_getElem hid]
    rfl
  · intro rec
    dsimp only
    unfold p_dormouseref03_Sum.b1
    have h1 : decide (((32 : Nat) : Int) < (32 : Int)) = false := by decide
    rw [h1, cond_false, List.take_of_length_le (by omega)]
    rfl

theorem sumText_eq {d : List Nat} (h : d.length = 32) : p_sum_Text (vecN 32 d) = some (byl d) := by
  have e := sub_vecN (n := 32) (l := d) h (by omega)
  unfold p_sum_Text
  rw [e, bytesOf_casts]

def joinB (l : List (List UInt8)) : List UInt8 := l.flatMap lenB
theorem texts_c1 {k : Nat} {a : List UInt8} {b : List UInt8} (hk : 8 < k) (ha : a.length < 1000000000) (hb : b.length < 1000000000) : p_wide_Texts_c1 k a (numsOf b) = some (numsOf (b ++ lenB a)) := by
  unfold p_wide_Texts_c1
  have e : IntKind.wrap .u64 (a.length : Int) = (a.length : Int) := by rw [wrap_u64]; omega
  have h := wideNum_eq (k := k) (x := a.length) (n := 4) (by omega) (by omega)
  simp only [Int.cast_ofNat_Int] at h
  rw [e, h, Option.bind_some, tb5, need_yes (by rw [numsOf_len, numsOf_len, numB_len]; omega), need_yes (by rw [List.length_append, numsOf_len, numsOf_len, numsOf_len, numB_len]; omega), lenB, numsOf_app, numsOf_app, List.append_assoc]
theorem joinB_take {l : List (List UInt8)} {i : Nat} (hi : i < l.length) : joinB (l.take (i + 1)) = joinB (l.take i) ++ lenB l[i] := by
  unfold joinB; rw [List.take_succ_eq_append_getElem hi, List.flatMap_append]; simp
theorem joinB_len {B : Nat} : ∀ (l : List (List UInt8)), (∀ x ∈ l, x.length ≤ B) → (joinB l).length ≤ l.length * (B + 4)
  | [], _ => by simp [joinB]
  | a :: l, h => by
    have := joinB_len l (fun x hx => h x (List.mem_cons_of_mem _ hx))
    have ha := h a List.mem_cons_self
    have e : joinB (a :: l) = lenB a ++ joinB l := by simp [joinB]
    rw [e, List.length_append, lenB_len, List.length_cons, Nat.add_mul]
    omega
theorem at_getN {α : Type} {d : α} {l : List α} {i : Nat} (hi : i < l.length) : at_ d l (i : Int) = l[i] := by simp [at_, hi]
theorem Texts_eq {k : Nat} {l : List (List UInt8)} (hk : 8 < k) (hkl : l.length < k) (hl : l.length < 1000) (hx : ∀ x ∈ l, x.length ≤ 100000) : p_wide_Texts k l = some (joinB l) := by
  unfold p_wide_Texts joinC
  have L := loop_count (body := fun (r : List (List UInt8) × Int × Int × List Int → Option (List UInt8)) y => p_wide_Texts.b1 k (p_wide_Texts.j0 k) r y.1 y.2.1 y.2.2.1 y.2.2.2) (res := some (joinB l)) l.length k
    (fun i => (l, (l.length : Int), (i : Int), numsOf (joinB (l.take i)))) hkl ?_ ?_
  · exact L
  · intro i hi rec
    dsimp only
    unfold p_wide_Texts.b1
    have h1 : decide ((i : Int) < (l.length : Int)) = true := by simpa using hi
    have ha := hx _ (List.getElem_mem hi)
    have hb := joinB_len (B := 100000) (l.take i) (fun x h => hx x (List.mem_of_mem_take h))
    have hb2 : (joinB (l.take i)).length < 1000000000 := by
      rw [List.length_take] at hb
      have : min i l.length * (100000 + 4) ≤ 1000 * (100000 + 4) := Nat.mul_le_mul_right _ (by omega)
      omega
    rw [h1, cond_true, need_yes (by omega), at_getN hi, texts_c1 hk (by omega) hb2, Option.bind_some, wrap_i64 (by omega), joinB_take hi]
    rfl
  · intro rec
    dsimp only
    unfold p_wide_Texts.b1
    have h1 : decide ((l.length : Int) < (l.length : Int)) = false := by simp
    rw [h1, cond_false, List.take_length]
    unfold p_wide_Texts.j0
    rw [bytesOf_numsOf]
end Go.Dor
