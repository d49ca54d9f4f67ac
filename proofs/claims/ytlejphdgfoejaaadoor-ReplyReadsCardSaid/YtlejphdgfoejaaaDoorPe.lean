/- THE REPLIES OF A TEXT, plain. -/
import Derived.Test.YtlejphdgfoejaaaDoorPd
set_option linter.unusedVariables false
set_option linter.unusedSimpArgs false
namespace Go.Dor
open Go.Proofs

theorem spl_mem {c : UInt8} : ∀ {a : List UInt8} {x : List UInt8}, x ∈ spl c a → x.length ≤ a.length
  | [], x, h => by simp [spl] at h; simp [h]
  | y :: a, x, h => by
    have ih := fun z => spl_mem (c := c) (a := a) (x := z)
    unfold spl at h
    by_cases hy : y = c
    · rw [if_pos hy] at h
      rcases List.mem_cons.1 h with h | h
      · simp [h]
      · have := ih _ h; simp; omega
    · rw [if_neg hy] at h
      cases hs : spl c a with
      | nil => have := spl_len (c := c) a; rw [hs] at this; simp at this
      | cons z r =>
        rw [hs] at h
        rcases List.mem_cons.1 h with h | h
        · have := ih z (by rw [hs]; simp); rw [h]; simp; omega
        · have := ih x (by rw [hs]; simp [h]); simp; omega
/-- the lines of a text -/
def lns (s : List UInt8) : List (List UInt8) := if (spl 10 s).getD ((spl 10 s).length - 1) [] = [] then (spl 10 s).take ((spl 10 s).length - 1) else spl 10 s
theorem lns_cons {u b : List UInt8} (h : (10 : UInt8) ∉ u) : lns (u ++ 10 :: b) = u :: lns b := by
  have hl := spl_len (c := 10) b
  unfold lns
  rw [spl_app h]
  generalize spl 10 b = F at *
  cases F with
  | nil => simp at hl
  | cons x r =>
    have e1 : (u :: x :: r).getD ((u :: x :: r).length - 1) [] = (x :: r).getD ((x :: r).length - 1) [] := by simp
    have e2 : (u :: x :: r).take ((u :: x :: r).length - 1) = u :: (x :: r).take ((x :: r).length - 1) := by simp
    rw [e1, e2]
    split <;> rfl
theorem lns_nil : lns [] = [] := rfl
theorem lns_one {u : List UInt8} (h : (10 : UInt8) ∉ u) (h0 : u ≠ []) : lns u = [u] := by
  unfold lns
  rw [spl_not h]
  simp [h0]
theorem lns_mem {s x : List UInt8} (h : x ∈ lns s) : x.length ≤ s.length := by
  unfold lns at h
  split at h
  · exact spl_mem (List.mem_of_mem_take h)
  · exact spl_mem h
theorem lns_len (s : List UInt8) : (lns s).length ≤ s.length + 1 := by
  have := spl_le (c := 10) s
  unfold lns
  split
  · rw [List.length_take]; omega
  · exact this

noncomputable def rdL : List (List UInt8) → Nat → List (Int × List UInt8) → Int × Int × List (Int × List UInt8)
  | [], _, acc => (0, 0, acc)
  | x :: M, i, acc => if (parseR x).2 = 0 then rdL M (i + 1) (acc ++ [(parseR x).1]) else (((i + 1 : Nat) : Int), (parseR x).2, [])
set_option maxRecDepth 100000 in
theorem tbD24 : Go.TypeInfo.bytes (Go.Tables.types (Go.Program.toTables Go.Proofs.Tryd.prog))[(24 : Nat)] = 24 := by kernel_rfl
theorem read_loop {L : List (List UInt8)} (hL : ∀ x ∈ L, x.length < 2000) (hn : L.length < 2000) : ∀ (m i : Nat) (acc : List (Int × List UInt8)) (fuel : Nat), i + m = L.length → m < fuel → acc.length ≤ i →
    loopC (fun (r : Int × Int × List (Int × List UInt8) × List (List UInt8) → Option (Int × Int × List (Int × List UInt8))) y => p_reply_Read.b2 2000 (p_reply_Read.j1 2000) r y.1 y.2.1 y.2.2.1 y.2.2.2) fuel ((L.length : Int), (i : Int), acc, L) = some (rdL (L.drop i) i acc)
  | 0, i, acc, fuel + 1, hi, _, ha => by
    unfold loopC
    dsimp only
    unfold p_reply_Read.b2
    have h1 : decide ((i : Int) < (L.length : Int)) = false := by simp; omega
    rw [h1, cond_false, List.drop_of_length_le (by omega)]
    rfl
  | m + 1, i, acc, fuel + 1, hi, hf, ha => by
    have hil : i < L.length := by omega
    have h1 : decide ((i : Int) < (L.length : Int)) = true := by simp; omega
    have hx := hL _ (List.getElem_mem hil)
    have e1 : at_ (dflt T.str) L (i : Int) = L[i] := by
      unfold at_
      rw [Int.toNat_natCast, List.getD_eq_getElem?_getD, List.getElem?_eq_getElem hil]; rfl
    have e2 : IntKind.wrap .i64 ((i : Int) + 1) = ((i + 1 : Nat) : Int) := by rw [wrap_i64 (by omega)]; omega
    have hd : L.drop i = L[i] :: L.drop (i + 1) := List.drop_eq_getElem_cons hil
    unfold loopC
    dsimp only
    unfold p_reply_Read.b2
    rw [h1, cond_true, need_yes (by omega), e1, parse_eq (by omega) (by omega) (by omega), Option.bind_some, hd, rdL, e2, tbD24]
    have ih := read_loop hL hn m (i + 1) (acc ++ [(parseR L[i]).1]) fuel (by omega) (by omega) (by rw [List.length_append]; simp; omega)
    generalize parseR L[i] = q at *
    obtain ⟨⟨q1, q2⟩, q3⟩ := q
    dsimp only at ih ⊢
    by_cases h : q3 = 0
    · have h2 : (q3 != 0) = false := by simp [h]
      unfold p_reply_Read.b2 at ih
      rw [h2, cond_false, if_pos h, need_yes (by simp; omega)]
      rw [tbD24] at ih
      exact ih
    · have h2 : (q3 != 0) = true := by simp [h]
      rw [h2, cond_true, if_neg h]
theorem Read_eq {s : List UInt8} (hs : s.length < 1000) : p_reply_Read 2000 s = some (rdL (lns s) 0 []) := by
  have hl := spl_len (c := 10) s
  have hle := spl_le (c := 10) s
  unfold p_reply_Read joinC
  rw [Split_eq hs, Option.bind_some]
  have e1 : IntKind.wrap .i64 (((spl 10 s).length : Int) - 1) = (((spl 10 s).length - 1 : Nat) : Int) := by rw [wrap_i64 (by omega)]; omega
  have e2 : at_ (dflt T.str) (spl 10 s) (((spl 10 s).length - 1 : Nat) : Int) = (spl 10 s).getD ((spl 10 s).length - 1) [] := by
    unfold at_; rw [Int.toNat_natCast]; rfl
  have hj : p_reply_Read.j0 2000 (lns s) = some (rdL (lns s) 0 []) := by
    have hll := lns_len s
    unfold p_reply_Read.j0 joinC
    have L := read_loop (L := lns s) (fun x hx => by have := lns_mem hx; omega) (by omega) (lns s).length 0 [] 2000 (by omega) (by omega) (by simp)
    rw [List.drop_zero] at L
    exact L
  dsimp only
  rw [e1, e2, need_yes (by omega)]
  by_cases h : (spl 10 s).getD ((spl 10 s).length - 1) [] = []
  · have h1 : ((spl 10 s).getD ((spl 10 s).length - 1) [] == []) = true := by simpa using h
    have e3 : lns s = (spl 10 s).take ((spl 10 s).length - 1) := by unfold lns; rw [if_pos h]
    rw [h1, cond_true, need_yes (by omega), Int.toNat_natCast, ← e3]
    exact hj
  · have h1 : ((spl 10 s).getD ((spl 10 s).length - 1) [] == []) = false := by simpa using h
    have e3 : lns s = spl 10 s := by unfold lns; rw [if_neg h]
    rw [h1, cond_false, ← e3]
    exact hj
end Go.Dor
