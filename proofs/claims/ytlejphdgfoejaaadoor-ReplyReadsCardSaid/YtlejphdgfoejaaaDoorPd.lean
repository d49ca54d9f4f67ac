/- A TEXT SPLIT AT A LETTER, plain. -/
import Derived.Test.YtlejphdgfoejaaaDoorPc
set_option linter.unusedVariables false
set_option linter.unusedSimpArgs false
namespace Go.Dor
open Go.Proofs

/-- the fields of a text -/
def spl (c : UInt8) : List UInt8 → List (List UInt8)
  | [] => [[]]
  | x :: s => if x = c then [] :: spl c s else match spl c s with | [] => [[x]] | a :: r => (x :: a) :: r
theorem spl_not {c : UInt8} : ∀ {a : List UInt8}, c ∉ a → spl c a = [a]
  | [], _ => rfl
  | x :: a, h => by
    have h1 : ¬ x = c := fun e => h (by simp [e])
    have h2 : c ∉ a := fun e => h (by simp [e])
    unfold spl; rw [if_neg h1, spl_not h2]
theorem spl_app {c : UInt8} {b : List UInt8} : ∀ {a : List UInt8}, c ∉ a → spl c (a ++ c :: b) = a :: spl c b
  | [], _ => by show spl c (c :: b) = _; rw [spl, if_pos rfl]
  | x :: a, h => by
    have h1 : ¬ x = c := fun e => h (by simp [e])
    have h2 : c ∉ a := fun e => h (by simp [e])
    show spl c (x :: (a ++ c :: b)) = _
    rw [spl, if_neg h1, spl_app h2]
theorem spl_len {c : UInt8} : ∀ (a : List UInt8), (spl c a).length = Lib.countByte a c + 1
  | [] => by simp [spl, Lib.countByte]
  | x :: a => by
    have ih := spl_len (c := c) a
    unfold spl
    by_cases h : x = c
    · rw [if_pos h, List.length_cons, ih]; simp [Lib.countByte, h]
    · rw [if_neg h]
      cases hs : spl c a with
      | nil => rw [hs] at ih; simp at ih
      | cons y r => rw [hs] at ih; simp [Lib.countByte, h] at ih ⊢; exact ih
theorem spl_le {c : UInt8} (a : List UInt8) : (spl c a).length ≤ a.length + 1 := by
  rw [spl_len]
  have : Lib.countByte a c ≤ a.length := by unfold Lib.countByte; exact List.countP_le_length
  omega
theorem take_set {α : Type} {l : List α} {i : Nat} {x : α} (h : i < l.length) : (l.set i x).take (i + 1) = l.take i ++ [x] := by
  rw [List.take_succ_eq_append_getElem (by simpa using h), List.getElem_set_self, List.take_set_of_le (Nat.le_refl i)]
theorem IndexS {a b : List UInt8} {c : UInt8} (h : c ∉ a) : p_strings_Index (a ++ c :: b) [c] = some (a.length : Int) := by
  unfold p_strings_Index
  rw [IndexC, index_app h]; rfl
theorem split_loop {k : Nat} : ∀ (m : Nat) (s : List UInt8) (a : List (List UInt8)) (i fuel : Nat), Lib.countByte s 10 = m → m < fuel → s.length < 100000 → a.length = i + m + 1 → i + m < 100000 →
    loopC (fun (r : List UInt8 × List UInt8 × Int × Int × Int × List (List UInt8) → Option (List (List UInt8))) y => p_strings_genSplit.b2 k (fun (y : List UInt8 × Int × List (List UInt8)) => p_strings_genSplit.j1 k y.1 y.2.1 y.2.2) r y.1 y.2.1 y.2.2.1 y.2.2.2.1 y.2.2.2.2.1 y.2.2.2.2.2) fuel (s, [(10 : UInt8)], (0 : Int), ((i + m : Nat) : Int), (i : Int), a) = some (a.take i ++ spl 10 s)
  | 0, s, a, i, fuel + 1, hc, _, hl, ha, hi => by
    have hn : (10 : UInt8) ∉ s := by
      unfold Lib.countByte at hc
      exact List.count_eq_zero.1 hc
    unfold loopC
    dsimp only
    unfold p_strings_genSplit.b2
    have h1 : decide ((i : Int) < ((i + 0 : Nat) : Int)) = false := by simp
    rw [h1, cond_false]
    dsimp only
    unfold p_strings_genSplit.j1 lset
    have e1 : IntKind.wrap .i64 ((i : Int) + 1) = ((i + 1 : Nat) : Int) := by rw [wrap_i64 (by omega)]; omega
    rw [e1, need_yes (by omega), need_yes (by rw [List.length_set]; omega), Int.toNat_natCast, Int.toNat_natCast, take_set (by omega), spl_not hn]
  | m + 1, s, a, i, fuel + 1, hc, hf, hl, ha, hi => by
    have hin : (10 : UInt8) ∈ s := by
      unfold Lib.countByte at hc
      exact List.count_pos_iff.1 (by omega)
    obtain ⟨u, b, rfl, hn⟩ := cut_at hin
    have hcb : Lib.countByte b 10 = m := by
      have h2 := spl_len (c := 10) (u ++ 10 :: b)
      rw [spl_app hn, List.length_cons, spl_len, hc] at h2
      omega
    have hlen : (u ++ (10 : UInt8) :: b).length = u.length + b.length + 1 := by simp; omega
    unfold loopC
    dsimp only
    unfold p_strings_genSplit.b2
    have h1 : decide ((i : Int) < ((i + (m + 1) : Nat) : Int)) = true := by simp; omega
    have h2 : decide ((u.length : Int) < 0) = false := by simp
    have h0 : ([(10 : UInt8)].length : Int) = 1 := rfl
    have e1 : IntKind.wrap .i64 ((u.length : Int) + 0) = (u.length : Int) := by rw [wrap_i64 (by omega)]; omega
    have e2 : IntKind.wrap .i64 ((u.length : Int) + 1) = ((u.length + 1 : Nat) : Int) := by rw [wrap_i64 (by omega)]; omega
    have e3 : IntKind.wrap .i64 ((i : Int) + 1) = ((i + 1 : Nat) : Int) := by rw [wrap_i64 (by omega)]; omega
    have s1 : sub_ (u ++ (10 : UInt8) :: b) 0 (u.length : Int) = u := by simp [sub_]
    have s2 : sub_ (u ++ (10 : UInt8) :: b) ((u.length + 1 : Nat) : Int) ((u ++ (10 : UInt8) :: b).length : Int) = b := by
      rw [sub_, Int.toNat_natCast, Int.toNat_natCast, List.take_length, show u.length + 1 = (u ++ [(10 : UInt8)]).length from by simp]
      rw [show u ++ (10 : UInt8) :: b = (u ++ [(10 : UInt8)]) ++ b from by simp, List.drop_left]
    rw [h1, cond_true, IndexS hn, Option.bind_some, h2, cond_false, h0, e1, e2, e3, s1, s2, need_yes (by rw [hlen]; omega), need_yes (by omega), need_yes (by rw [hlen]; omega)]
    have ih := split_loop (k := k) m b (lset a (i : Int) u) (i + 1) fuel hcb (by omega) (by omega) (by unfold lset; rw [List.length_set]; omega) (by omega)
    rw [show i + 1 + m = i + (m + 1) from by omega] at ih
    have hia : i < a.length := by omega
    have hs := take_set (x := u) hia
    unfold p_strings_genSplit.b2 at ih
    rw [ih, spl_app hn]
    clear ih
    unfold lset
    rw [Int.toNat_natCast, hs]
    generalize spl 10 b = z
    generalize a.take i = w
    exact congrArg some (List.append_assoc w [u] z)
set_option maxRecDepth 100000 in
theorem tbD9 : Go.TypeInfo.bytes (Go.Tables.types (Go.Program.toTables Go.Proofs.Tryd.prog))[(9 : Nat)] = 16 := by kernel_rfl
theorem CountS {s : List UInt8} {c : UInt8} : p_strings_Count 2000 s [c] = some ((Lib.countByte s c : Nat) : Int) := by
  unfold p_strings_Count
  have e0 : (([c].length : Int) == 0) = false := rfl
  have e1 : (([c].length : Int) == 1) = true := rfl
  have e2 : bat [c] 0 = (c.toNat : Int) := rfl
  rw [e0, cond_false, e1, cond_true, need_yes (by simp), e2]
  unfold countByteOf
  rw [Int.toNat_natCast]
  simp
theorem Split_eq {s : List UInt8} (hl : s.length < 1000) : p_strings_Split 2000 s [(10 : UInt8)] = some (spl 10 s) := by
  have hle := spl_le (c := 10) s
  rw [spl_len] at hle
  have e0 : ((-1 : Int) == 0) = false := rfl
  have e1 : ([(10 : UInt8)] == []) = false := rfl
  have e2 : decide ((-1 : Int) < 0) = true := by decide
  unfold p_strings_Split p_strings_genSplit joinC
  rw [e0, cond_false, e1, cond_false, e2]
  dsimp only
  rw [cond_true, CountS, Option.bind_some]
  generalize hc : Lib.countByte s 10 = m at *
  have e3 : IntKind.wrap .i64 ((m : Int) + 1) = ((m + 1 : Nat) : Int) := by rw [wrap_i64 (by omega)]; omega
  have e4 : IntKind.wrap .i64 ((s.length : Int) + 1) = ((s.length + 1 : Nat) : Int) := by rw [wrap_i64 (by omega)]; omega
  have e5 : Min.min ((m + 1 : Nat) : Int) ((s.length + 1 : Nat) : Int) = ((m + 1 : Nat) : Int) := by omega
  have e6 : IntKind.wrap .i64 (((m + 1 : Nat) : Int) - 1) = ((0 + m : Nat) : Int) := by rw [wrap_i64 (by omega)]; omega
  unfold p_strings_genSplit.j0 joinC
  rw [e3, e4, e5, e6, tbD9, need_yes (by omega), Int.toNat_natCast]
  have L := split_loop (k := 2000) m s (List.replicate (m + 1) (dflt T.str)) 0 2000 hc (by omega) (by omega) (by simp) (by omega)
  rw [show (((0 : Nat) : Int)) = (0 : Int) from rfl] at L
  dsimp only
  rw [L]
  rfl
end Go.Dor
