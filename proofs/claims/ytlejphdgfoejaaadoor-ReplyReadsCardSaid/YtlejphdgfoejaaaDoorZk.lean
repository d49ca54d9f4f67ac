/- CODE: what the machine says of a function holds. Plain lemmas over any program. -/
import Derived.Test.YtlejphdgfoejaaaDoorZp
namespace Go.Dor
open Go.RowKit (Below)

section
variable {M S : Nat → Prop} {w0 w w' : World} {h : Hm} {g : Nat → Value} {R : Type} {res : R} {e : Ev} {r : Env} {m m' : Mem}

theorem St.arrive {X : Cx} {d : Sd} {G0 : Nat → Value} {J : HL d.ds.ts → Option R} (s : St M S w0 X.keep G0 (arrive X d J) res r w) :
    ∃ x, J x = some res ∧ ∀ {R' : Type} {res' : R'} (KE : Ev → Hm → Option R'), resume d KE x = some res' → St M S w0 X.keep G0 KE res' r w := by
  obtain ⟨e, h, g, H, E, hg, hk⟩ := s
  obtain ⟨x, g', h1, H', E', hg'⟩ := arrive_sound H E hk
  refine ⟨x, h1, fun KE hk' => ⟨_, _, g', H', E', fun i hi => ?_, hk'⟩⟩
  obtain ⟨h2, h3⟩ := hg' i hi
  exact ⟨by rw [givenO_len]; exact h2, h3.trans (hg i hi).2⟩

theorem exec_sound {X : Cx} (hX : CxOk X) {k : Nat} {G0 : Nat → Value} : ∀ (c : Code) {KQ : KK R} {Q : Post} {r : Env} {w : World}, St M S w0 X.keep G0 (exec X k c KQ) res r w →
    (∀ r w, St M S w0 X.keep G0 KQ.normal res r w → Q.normal r w) → (∀ i r w, St M S w0 X.keep G0 (KQ.exit i) res r w → Q.exit i r w) → (∀ r w, St M S w0 X.keep G0 KQ.ret res r w → Q.ret r w) → Wc X.P X.nt c Q r w
  | .skip, KQ, Q, r, w, s, hn, hx, hr => by
    simp only [exec] at s
    exact .skip (hn _ _ s)
  | .ret, KQ, Q, r, w, s, hn, hx, hr => by
    simp only [exec] at s
    exact .ret (hr _ _ s)
  | .exit i, KQ, Q, r, w, s, hn, hx, hr => by
    simp only [exec] at s
    exact .exit (hx _ _ _ s)
  | .seq a b, KQ, Q, r, w, s, hn, hx, hr => by
    simp only [exec] at s
    refine .seq ?_
    split at s
    · rename_i d hd
      simp only [joinC] at s
      refine exec_sound hX a s (fun r w s => ?_) hx hr
      obtain ⟨x, h1, h2⟩ := s.arrive
      exact exec_sound hX b (h2 _ h1) hn hx hr
    · exact exec_sound hX a s (fun r w s => exec_sound hX b s hn hx hr) hx hr
  | .cond c a b, KQ, Q, r, w, s, hn, hx, hr => by
    obtain ⟨e, h, g, H, E, hg, hk⟩ := s
    simp only [exec] at hk
    have hc := opnd_sound E c
    split at hk
    · rename_i x hxe
      rw [hxe] at hc
      refine .iff (rv_bool hc) (fun ht => ?_) fun hf => ?_
      · subst ht; exact exec_sound hX a ⟨e, h, g, H, E, hg, hk⟩ hn hx hr
      · subst hf; exact exec_sound hX b ⟨e, h, g, H, E, hg, hk⟩ hn hx hr
    · cases hk
  | .block i c, KQ, Q, r, w, s, hn, hx, hr => by
    simp only [exec] at s
    refine .block (exec_sound hX c s hn (fun j r w s => ?_) hr)
    dsimp only at s ⊢
    by_cases hj : j = i
    · subst hj
      simp only [show Nat.beq j j = true from Nat.beq_refl j, cond_true, if_true] at s ⊢
      exact hn _ _ s
    · have : Nat.beq j i = false := Bool.eq_false_iff.2 fun q => hj (Nat.eq_of_beq_eq_true q)
      simp only [this, cond_false] at s
      rw [if_neg hj]
      exact hx _ _ _ s
  | .region id ops draw, KQ, Q, r, w, s, hn, hx, hr => by
    obtain ⟨e, h, g, H, E, hg, hk⟩ := s
    simp only [exec] at hk
    split at hk
    · rename_i d hd
      simp only [joinC] at hk
      refine runRg_sound hX H E hg hk fun r w s => ?_
      obtain ⟨x, h1, h2⟩ := s.arrive
      exact hn _ _ (h2 _ h1)
    · exact runRg_sound hX H E hg hk hn
  | .loop c, KQ, Q, r, w, s, hn, hx, hr => by
    simp only [exec] at s
    split at s
    · rename_i d hd
      refine .loop (fun j r w => St M S w0 X.keep G0 (arrive X d (loopC (fun rec => resume d (exec X k c { KQ with normal := arrive X d rec })) j)) res r w) k s fun j r w s => ?_
      obtain ⟨x, h1, h2⟩ := s.arrive
      cases j with
      | zero => cases h1
      | succ j => exact exec_sound hX c (h2 _ h1) (fun r w s => ⟨j, Nat.lt_succ_self j, s⟩) hx hr
    · obtain ⟨e, h, g, H, E, hg, hk⟩ := s
      cases hk
  | .rangeFunc .., KQ, Q, r, w, s, hn, hx, hr => by
    obtain ⟨e, h, g, H, E, hg, hk⟩ := s
    simp only [exec] at hk; cases hk
  | .scope _, KQ, Q, r, w, s, hn, hx, hr => by
    obtain ⟨e, h, g, H, E, hg, hk⟩ := s
    simp only [exec] at hk; cases hk
  | .label _, KQ, Q, r, w, s, hn, hx, hr => by
    obtain ⟨e, h, g, H, E, hg, hk⟩ := s
    simp only [exec] at hk; cases hk

/-! ### how a function ends and begins -/
theorem load_inv {P : Program} {d : Option Tmp} {ty : TypeId} {pos : String} {aft : Array Edge} {gd : Option (Nat × Bool)} {x : Operand} {T : TypeId} {v : Value} (hl : (execOp (ev r) ⟨d, .load T x, ty, pos, aft, gd⟩).run P w = .ok (.value v) w') :
    ∃ a, ev r x = .pointer (some a) ∧ (loadVar T a).run P w = .ok v w' := by
  cases hx : ev r x with
  | pointer a =>
    cases a with
    | none => simp [execOp, hx, Instr.loadAt, Instr.sureAddr, stuck] at hl
    | some a =>
      refine ⟨a, rfl, ?_⟩
      simp [execOp, hx, Instr.loadAt, Instr.sureAddr] at hl
      cases hq : (loadVar T a).run P w with
      | ok v' w'' => rw [hq] at hl; simpa using hl
      | _ => rw [hq] at hl; simp at hl
  | _ => simp [execOp, hx, Instr.loadAt, Instr.sureAddr, stuck] at hl

theorem resAll_sound {P : Program} (H : Rel M S w0 h g w) (E : ER (memOf M S w0 h g w) e r) : ∀ {rs : List ResultVar} {KV : List V → Option R}, resAll P e h rs KV = some res →
    ∃ vs vals, ResV P r w rs vals ∧ Al2 (Rv (memOf M S w0 h g w)) vs vals ∧ KV vs = some res
  | [], KV, hk => ⟨[], [], .nil, trivial, hk⟩
  | .tmp t :: l, KV, hk => by
    simp only [resAll, resOne] at hk
    obtain ⟨vs, vals, h1, h2, h3⟩ := resAll_sound H E hk
    exact ⟨getE e t :: vs, _, .tmp rfl h1, ⟨E t, h2⟩, h3⟩
  | .cell t T :: l, KV, hk => by
    simp only [resAll, resOne] at hk
    obtain ⟨v, val, k1, k2, k3⟩ := load_sound (d := none) (ty := 0) (pos := "") (aft := #[]) (gd := none) (x := .tmp t) (K := fun v _ => resAll P e h l fun vs => KV (v :: vs)) H E hk
    obtain ⟨a, k4, k5⟩ := load_inv (k1 w fun _ _ => rfl)
    obtain ⟨vs, vals, h1, h2, h3⟩ := resAll_sound H E k3
    exact ⟨v :: vs, _, .cell k4 k5 h1, ⟨k2, h2⟩, h3⟩

theorem natsTo_map (l : List Value) : ∀ (pre suf : List Value), l = pre ++ suf → (natsTo pre.length suf.length).map (envL l) = suf
  | pre, [], _ => rfl
  | pre, v :: suf, h => by
    have ih := natsTo_map l (pre ++ [v]) suf (by rw [h]; simp)
    simp only [List.length_append, List.length_cons, List.length_nil, Nat.zero_add] at ih
    simp only [List.length_cons, natsTo, List.map_cons, ih, List.cons.injEq, and_true]
    simp [envL, h]
theorem giveVds_len (f : Nat → Nat) : ∀ (d : List Vd) (l : List Dt), (giveVds f d l).1.length = d.length
  | [], _ => rfl
  | x :: d, l => by
    simp only [giveVds]
    rw [List.length_cons, List.length_cons, giveVds_len f d]

/-- what a function comes to holds of the program -/
theorem runF_sound {X : Cx} (hX : CxOk X) {fid : FuncId} {fn : Func} {k : Nat} {pre post : Ds} {q : HL pre.ts → Option (HL post.ts)} (hf : X.P.funcs[fid]? = some fn) (hq : ∀ x, runF X k fn pre post x = q x) : Entry.Sound X.P fid ⟨pre, post, q⟩ := by
  refine ⟨fun x y hy S w g vals Hs => ?_⟩
  dsimp only at x y hy Hs ⊢
  rw [← hq] at hy
  unfold runF at hy
  split at hy
  rotate_left
  · cases hy
  rename_i c hc
  rw [cond_eq_ite] at hy
  split at hy
  rotate_left
  · cases hy
  rename_i hb
  simp only [Bool.and_eq_true] at hb
  obtain ⟨⟨⟨hb1, hb2⟩, hb3⟩, hb4⟩ := hb
  have hb1 := Nat.eq_of_beq_eq_true hb1
  have hb2 := Nat.le_of_ble_eq_true hb2
  have hb3 := Nat.eq_of_beq_eq_true hb3
  have hlen : vals.length = pre.vals.length := by
    rw [← Hs.vals.length]; exact giveVds_len _ _ _
  refine enter (n := X.nt) (R := fun v w' => ∃ vs g', v = one vs ∧ Rel (lentOf (givenO pre id x) g) S w (givenO post id y) g' w' ∧
      Al2 (Rv (memOf (lentOf (givenO pre id x) g) S w (givenO post id y) g' w')) (givenV post id y).1 vs ∧ ∀ i, i < pre.objs.length → g' i = g i) hf hc hb3.symm (by omega) ?_ |>.mono fun e w' ⟨v, he, vs, g', hv, h1⟩ => ⟨vs, g', by rw [he, hv], h1⟩
  have E0 : ER (memOf (lentOf (givenO pre id x) g) S w (givenO pre id x) g w) (zipE (natsTo 0 pre.vals.length) (givenV pre id x).1) (envL vals) := by
    refine zipE_er ?_
    rw [← hlen]
    have := natsTo_map vals [] vals rfl
    simp only [List.length_nil] at this
    rw [this]
    exact Hs.vals
  have s0 : St (lentOf (givenO pre id x) g) S w X.keep g (exec X k c ⟨leave X fn.results.toList post, fun _ _ _ => none, leave X fn.results.toList post⟩) y (envL vals) w :=
    ⟨_, _, g, Hs.rel, E0, fun i hi => ⟨by rw [givenO_len, ← hb1]; exact hi, rfl⟩, hy⟩
  have fin_ : ∀ r w', St (lentOf (givenO pre id x) g) S w X.keep g (leave X fn.results.toList post) y r w' → fin X.P fn (fun v w' => ∃ vs g', v = one vs ∧ Rel (lentOf (givenO pre id x) g) S w (givenO post id y) g' w' ∧
      Al2 (Rv (memOf (lentOf (givenO pre id x) g) S w (givenO post id y) g' w')) (givenV post id y).1 vs ∧ ∀ i, i < pre.objs.length → g' i = g i) r w' := by
    rintro r w' ⟨e, h, g1, H, E, hg, hk⟩
    unfold leave at hk
    obtain ⟨vs, vals', h1, h2, h3⟩ := resAll_sound H E hk
    split at h3
    rotate_left
    · cases h3
    rename_i l kk ht
    obtain ⟨vs', os, t⟩ := takeDs_sound H.objs ht h2 (by simp) (keepN_inj _)
    obtain ⟨H', hv⟩ := t.rel H
    obtain ⟨do', k1, k2⟩ := t.gv
    have e1 := ofL_toL _ _ _ h3
    have e2 : givenV post id y = (vs', do') := by unfold givenV; rw [e1]; exact k1
    have e3 : givenO post id y = os := by unfold givenO; rw [e2]; exact k2
    refine ⟨vals', h1, vals', ren kk g1, rfl, by rw [e3]; exact H', by rw [e3, e2]; exact hv, fun i hi => ?_⟩
    have hi' : i < X.keep := by omega
    rw [ren_eq (t.le.r i i (keepN_has hi'))]
    exact (hg i hi').2
  exact exec_sound hX c s0 fin_ (fun i r w' s => (by obtain ⟨e, h, g1, H, E, hg, hk⟩ := s; cases hk)) fin_

theorem sound_none {P : Program} {f : Nat} {en : Entry} (h : ∀ x, en.fn x = none) : Entry.Sound P f en := ⟨fun x y hy => by rw [h x] at hy; cases hy⟩
theorem dOk_nil {P : Program} : ∀ f en, (f, en) ∈ ([] : List (Nat × Entry)) → Entry.Sound P f en := fun _ _ h => by cases h
theorem dOk_cons {P : Program} {f : Nat} {en : Entry} {D : List (Nat × Entry)} (h : Entry.Sound P f en) (k : ∀ f en, (f, en) ∈ D → Entry.Sound P f en) : ∀ f' en', (f', en') ∈ (f, en) :: D → Entry.Sound P f' en' := fun f' en' q => by
  rcases List.mem_cons.1 q with q | q
  · cases q; exact h
  · exact k _ _ q
theorem ext_nil {P : Program} : ∀ f kd, findA ([] : List (Nat × Nat)) f = some kd → ExternOf P f (externFn kd) := fun _ _ h => by cases h
theorem ext_cons {P : Program} {a kd : Nat} {l : List (Nat × Nat)} (h : ExternOf P a (externFn kd)) (k : ∀ f kd, findA l f = some kd → ExternOf P f (externFn kd)) : ∀ f kd', findA ((a, kd) :: l) f = some kd' → ExternOf P f (externFn kd') := fun f kd' q => by
  simp only [findA] at q
  cases hb : Nat.beq a f
  · rw [hb] at q; exact k f kd' q
  · have := Nat.eq_of_beq_eq_true hb
    rw [hb] at q
    simp only [cond_true, Option.some.injEq] at q
    subst this; subst q; exact h

end
end Go.Dor
