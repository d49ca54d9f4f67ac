/- PART 4 OF WHAT THE ROW STANDS ON: the texts Zk Zl Zm Zs Zu Zt Wa Zx Wb Na Ga Gb Fc Gc Fg Gd, one behind the other. -/
import Derived.Scope
import Derived.Test.YtaglmapfcjbcfaaX33
import Derived.ProofKit
import Derived.OpenShut
import Derived.WideShapes
import Derived.Shelf.SlSortCmp.NoneTotal
import Derived.Test.YtaglmapfcjbcfaaProg
import Derived.Shelf.SlLaysF
import Derived.KernelRfl
import Derived.Test.YtaglmapfcjbcfaaX32
import Derived.Test.YtaglmapfcjbcfaaX31
section
/- CODE: what the machine says of a function holds. Plain lemmas over any program. -/
namespace Go.Dor
open Go.RowKit (Below)

section
variable {M S : Nat → Prop} {w0 w w' : World} {h : Hm} {g : Nat → Value} {R : Type} {res : R} {e : Ev} {r : Env} {m m' : Mem}

theorem St.arrive {X : Cx} {d : Sd} {G0 : Nat → Value} {J : HL d.ds.ts → Option R} (s : St M S w0 X.keep G0 (arrive X d J) res r w) :
    ∃ x, J x = some res ∧ ∀ {R' : Type} {res' : R'} (KE : Ev → Hm → Option R'), resume d KE x = some res' → St M S w0 X.keep G0 KE res' r w := by
  obtain ⟨e, h, g, H, E, hg, hk⟩ := s
  obtain ⟨x, g', h1, H', E', hg'⟩ := arrive_sound H E hk
  refine ⟨x, h1, fun KE hk' => ⟨_, _, g', H', E', fun i hi => ?_, hk'⟩⟩
  obtain ⟨h2, h3⟩ := hg' i hi
  exact ⟨by rw [givenO_len]; exact h2, h3.trans (hg i hi).2⟩

theorem Wc.scope {P : Program} {n : Nat} {c : Code} {Q : Post} {r : Env} {w : World} (h : Wc P n c Q r w) : Wc P n (.scope c) Q r w :=
  ⟨fun a ha => wp_scope_straight (wp_mono (h.out a ha) fun e a w q => by cases e <;> exact q)⟩
theorem Wc.label {P : Program} {n l : Nat} {Q : Post} {r : Env} {w : World} (h : Q.normal r w) : Wc P n (.label l) Q r w := ⟨fun _ ha => wp_label ⟨r, ha, h⟩⟩
theorem exec_sound {X : Cx} (hX : CxOk X) {k : Nat} {G0 : Nat → Value} : ∀ (c : Code) {KQ : KK R} {Q : Post} {r : Env} {w : World}, St M S w0 X.keep G0 (exec X k c KQ) res r w →
    (∀ r w, St M S w0 X.keep G0 KQ.normal res r w → Q.normal r w) → (∀ i r w, St M S w0 X.keep G0 (KQ.exit i) res r w → Q.exit i r w) → (∀ r w, St M S w0 X.keep G0 KQ.ret res r w → Q.ret r w) → Wc X.P X.nt c Q r w
  | .skip, KQ, Q, r, w, s, hn, hx, hr => by
    simp only [exec] at s
    exact .skip (hn _ _ s)
  | .ret, KQ, Q, r, w, s, hn, hx, hr => by
    simp only [exec] at s
    exact .ret (hr _ _ s)
  | .exit i, KQ, Q, r, w, s, hn, hx, hr => by
    simp only [exec] at s
    exact .exit (hx _ _ _ s)
  | .seq a b, KQ, Q, r, w, s, hn, hx, hr => by
    simp only [exec] at s
    refine .seq ?_
    split at s
    · rename_i d hd
      simp only [joinC] at s
      refine exec_sound hX a s (fun r w s => ?_) hx hr
      obtain ⟨x, h1, h2⟩ := s.arrive
      exact exec_sound hX b (h2 _ h1) hn hx hr
    · exact exec_sound hX a s (fun r w s => exec_sound hX b s hn hx hr) hx hr
  | .cond c a b, KQ, Q, r, w, s, hn, hx, hr => by
    obtain ⟨e, h, g, H, E, hg, hk⟩ := s
    simp only [exec] at hk
    have hc := opnd_sound E c
    split at hk
    · rename_i x hxe
      rw [hxe] at hc
      refine .iff (rv_bool hc) (fun ht => ?_) fun hf => ?_
      · subst ht; exact exec_sound hX a ⟨e, h, g, H, E, hg, hk⟩ hn hx hr
      · subst hf; exact exec_sound hX b ⟨e, h, g, H, E, hg, hk⟩ hn hx hr
    · cases hk
  | .block i c, KQ, Q, r, w, s, hn, hx, hr => by
    simp only [exec] at s
    refine .block (exec_sound hX c s hn (fun j r w s => ?_) hr)
    dsimp only at s ⊢
    by_cases hj : j = i
    · subst hj
      simp only [show Nat.beq j j = true from Nat.beq_refl j, cond_true, if_true] at s ⊢
      exact hn _ _ s
    · have : Nat.beq j i = false := Bool.eq_false_iff.2 fun q => hj (Nat.eq_of_beq_eq_true q)
      simp only [this, cond_false] at s
      rw [if_neg hj]
      exact hx _ _ _ s
  | .region id ops draw, KQ, Q, r, w, s, hn, hx, hr => by
    obtain ⟨e, h, g, H, E, hg, hk⟩ := s
    simp only [exec] at hk
    split at hk
    · rename_i d hd
      simp only [joinC] at hk
      refine runRg_sound hX H E hg hk fun r w s => ?_
      obtain ⟨x, h1, h2⟩ := s.arrive
      exact hn _ _ (h2 _ h1)
    · exact runRg_sound hX H E hg hk hn
  | .loop c, KQ, Q, r, w, s, hn, hx, hr => by
    simp only [exec] at s
    split at s
    · rename_i d hd
      refine .loop (fun j r w => St M S w0 X.keep G0 (arrive X d (loopC (fun rec => resume d (exec X k c { KQ with normal := arrive X d rec })) j)) res r w) k s fun j r w s => ?_
      obtain ⟨x, h1, h2⟩ := s.arrive
      cases j with
      | zero => cases h1
      | succ j => exact exec_sound hX c (h2 _ h1) (fun r w s => ⟨j, Nat.lt_succ_self j, s⟩) hx hr
    · obtain ⟨e, h, g, H, E, hg, hk⟩ := s
      cases hk
  | .rangeFunc .., KQ, Q, r, w, s, hn, hx, hr => by
    obtain ⟨e, h, g, H, E, hg, hk⟩ := s
    simp only [exec] at hk; cases hk
  | .scope c, KQ, Q, r, w, s, hn, hx, hr => by
    simp only [exec] at s
    exact .scope (exec_sound hX c s hn hx hr)
  | .label _, KQ, Q, r, w, s, hn, hx, hr => by
    simp only [exec] at s
    exact .label (hn _ _ s)

/-! ### lent slices under numbers of their own -/
theorem renew_sound (H : Rel M S w0 h g w) (i : Nat) {vs : List V} {vals : List Value} (hv : Al2 (Rv (memOf M S w0 h g w)) vs vals) :
    ∃ g', Rel M S w0 (renew i vs h).2 g' w ∧ Al2 (Rv (memOf M S w0 (renew i vs h).2 g' w)) (renew i vs h).1 vals ∧ (∀ j, j < h.length → g' j = g j) ∧ h.length ≤ (renew i vs h).2.length := by
  unfold renew
  split
  rotate_left
  · exact ⟨g, H, hv, fun _ _ => rfl, Nat.le_refl _⟩
  rename_i ty t xs hi
  have hil : i < h.length := (List.getElem?_eq_some_iff.1 hi).1
  have hli : lives h i := by unfold lives; rw [hi]; rfl
  generalize hf : (fun j => bif Nat.beq j i then h.length else j) = f
  have fi : f i = h.length := by rw [← hf]; simp [Nat.beq_refl]
  have fo : ∀ j, j ≠ i → f j = j := fun j hj => by
    rw [← hf]
    have : Nat.beq j i = false := Bool.eq_false_iff.2 fun q => hj (Nat.eq_of_beq_eq_true q)
    simp [this]
  have hg : ∀ j, j < h.length → gx g h.length (g i) (f j) = g j ∧ f j < h.length + 1 := fun j hj => by
    by_cases e : j = i
    · subst e; rw [fi, gx_same]; exact ⟨rfl, by omega⟩
    · rw [fo j e, gx_lt g _ hj]; exact ⟨rfl, by omega⟩
  have hlen : ((h.map (renO f)).set i Ob.gone).length = h.length := by simp
  have get : ∀ j, j < h.length → j ≠ i → ((h.map (renO f)).set i Ob.gone ++ [Ob.arr ty t xs])[j]? = (h[j]?).map (renO f) := fun j hj e => by
    rw [List.getElem?_append_left (by omega), List.getElem?_set, if_neg (fun q => e q.symm), List.getElem?_map]
  have lv : ∀ j, lives ((h.map (renO f)).set i Ob.gone ++ [Ob.arr ty t xs]) j → (j ≠ i ∧ lives h j) ∨ j = h.length := fun j hj => by
    have hjl := lives_lt hj
    simp only [List.length_append, hlen, List.length_cons, List.length_nil] at hjl
    by_cases e : j = h.length
    · exact .inr e
    · left
      by_cases e2 : j = i
      · subst e2
        unfold lives at hj
        rw [List.getElem?_append_left (by omega), List.getElem?_set, if_pos rfl, if_pos (by simpa using hil)] at hj
        cases hj
      · refine ⟨e2, ?_⟩
        unfold lives at hj ⊢
        rw [get j (by omega) e2] at hj
        cases ho : h[j]? with
        | none => rw [ho] at hj; cases hj
        | some o => rw [ho] at hj; cases o <;> first | rfl | exact hj
  have lf : ∀ j, lives ((h.map (renO f)).set i Ob.gone ++ [Ob.arr ty t xs]) j → ∃ j0, lives h j0 ∧ gx g h.length (g i) j = g j0 ∧ f j0 = j := fun j hj => by
    rcases lv j hj with ⟨e, h1⟩ | e
    · exact ⟨j, h1, gx_lt g _ (lives_lt h1), fo j e⟩
    · subst e; exact ⟨i, hli, gx_same g _ _, fi⟩
  have imm : ∀ b, (memOf M S w0 h g w).I b → (memOf M S w0 ((h.map (renO f)).set i Ob.gone ++ [Ob.arr ty t xs]) (gx g h.length (g i)) w).I b := fun b hb => by
    refine ⟨hb.1, hb.2.1, fun j hj hfj => ?_⟩
    obtain ⟨j0, h1, h2, _⟩ := lf j hj
    rw [h2] at hfj
    exact hb.2.2 j0 h1 hfj
  have hn : (memOf M S w0 ((h.map (renO f)).set i Ob.gone ++ [Ob.arr ty t xs]) (gx g h.length (g i)) w).n = h.length + 1 := by simp [memOf]
  have rl : ∀ (x : L) (c : List Value), Rl (memOf M S w0 h g w) x c → Rl (memOf M S w0 ((h.map (renO f)).set i Ob.gone ++ [Ob.arr ty t xs]) (gx g h.length (g i)) w) (renL f x) c := by
    intro x c hx
    have mono : ∀ (t' : T) (x : den t') (c : List Value), At w (memOf M S w0 h g w).I t' x c → At w (memOf M S w0 ((h.map (renO f)).set i Ob.gone ++ [Ob.arr ty t xs]) (gx g h.length (g i)) w).I t' x c := fun t' x c hx => At.mono (fun b hb => ⟨imm b hb, rfl⟩) t' x c hx
    cases x with
    | i | b | s | f | fx | nil | np | nf | ni => exact hx
    | arr t' n x => exact mono (.arr n t') _ _ hx
    | ro t' xs' => exact mono (.sl t') _ _ hx
    | own id =>
      obtain ⟨h1, v, h2, h3, h5, h4⟩ := hx
      have h1 : id < h.length := h1
      refine ⟨by rw [hn]; exact (hg id h1).2, v, h2, h3, h5, fun hl => ?_⟩
      show v = gx g h.length (g i) (f id)
      rw [(hg id h1).1]
      refine h4 ?_
      show lives h id
      by_cases e : id = i
      · subst e; exact hli
      · have hl : lives _ (f id) := hl
        rw [fo id e] at hl
        rcases lv id hl with ⟨_, q⟩ | q
        · exact q
        · omega
    | ptr id off =>
      obtain ⟨h1, b, h2, h3⟩ := hx
      have h1 : id < h.length := h1
      exact ⟨by rw [hn]; exact (hg id h1).2, b, (hg id h1).1.trans h2, h3⟩
    | fn q ids =>
      obtain ⟨h1, h2⟩ := hx
      refine ⟨fun j hj => ?_, ?_⟩
      · obtain ⟨j0, hj0, rfl⟩ := List.mem_map.1 hj
        have k1 : j0 < h.length := (h1 j0 hj0).1
        refine ⟨by rw [hn]; exact (hg j0 k1).2, ?_⟩
        show isPtr (gx g h.length (g i) (f j0))
        rw [(hg j0 k1).1]
        exact (h1 j0 hj0).2
      · rw [h2, List.map_map]
        congr 3
        exact List.map_congr_left fun j0 hj0 => ((hg j0 (h1 j0 hj0).1).1).symm
    | sub id off n lo hi =>
      obtain ⟨h1, h2, h3, h4, b, h5, h6⟩ := hx
      have h1 : id < h.length := h1
      exact ⟨by rw [hn]; exact (hg id h1).2, h2, h3, h4, b, (hg id h1).1.trans h5, h6⟩
    | mp id off =>
      rcases hx with hx | ⟨h1, b, h2, h3⟩
      · exact .inl hx
      · have h1 : id < h.length := h1
        exact .inr ⟨by rw [hn]; exact (hg id h1).2, b, (hg id h1).1.trans h2, h3⟩
    | vw id z lo =>
      obtain ⟨h1, h2⟩ := hx
      have h1 : id < h.length := h1
      refine ⟨by rw [hn]; exact (hg id h1).2, ?_⟩
      show VW (gx g h.length (g i) (f id)) z lo c
      rw [(hg id h1).1]
      exact h2
  have rls : ∀ (ls : List L) (s : List (List Value)), Al2 (Rl (memOf M S w0 h g w)) ls s → Al2 (Rl (memOf M S w0 ((h.map (renO f)).set i Ob.gone ++ [Ob.arr ty t xs]) (gx g h.length (g i)) w)) (ls.map (renL f)) s := by
    intro ls
    induction ls with
    | nil => intro s hs; rw [hs.nil_left]; trivial
    | cons x ls ih =>
      intro s hs
      obtain ⟨c, s, rfl, h1, h2⟩ := hs.cons_left
      exact ⟨rl x c h1, ih s h2⟩
  have ho : ∀ (o : Ob) (v : Value), Ho (memOf M S w0 h g w) v o → Ho (memOf M S w0 ((h.map (renO f)).set i Ob.gone ++ [Ob.arr ty t xs]) (gx g h.length (g i)) w) v (renO f o) := by
    intro o v hh
    cases o with
    | gone => trivial
    | blk ty ls => obtain ⟨b, s, h1, h2, h3⟩ := hh; exact ⟨b, s, h1, h2, rls _ _ h3⟩
    | rd ty ls => obtain ⟨b, s, h1, h2, h3, h4⟩ := hh; exact ⟨b, s, h1, h2, rls _ _ h3, imm b h4⟩
    | arr ty' t' xs' => obtain ⟨ys, h1, h2⟩ := hh; exact ⟨ys, h1, h2.mono fun x c => At.mono (fun b hb => ⟨imm b hb, rfl⟩) t' x c⟩
    | fix => exact hh.elim
  refine ⟨gx g h.length (g i), ⟨H.os, H.tape, H.drawn, H.output, H.size, H.old, H.dis, fun j o hj => ?_, fun j hj b hb => ?_, fun a b ha hb hne c hc hc' => ?_⟩, ?_, fun j hj => gx_lt g _ hj, by simp⟩
  · have hjl := (List.getElem?_eq_some_iff.1 hj).1
    simp only [List.length_append, hlen, List.length_cons, List.length_nil] at hjl
    by_cases e : j = h.length
    · subst e
      rw [List.getElem?_append_right (by omega), hlen, Nat.sub_self] at hj
      cases hj
      rw [gx_same]
      exact ho (.arr ty t xs) (g i) (H.obj i _ hi)
    · rw [gx_lt g _ (by omega)]
      by_cases e2 : j = i
      · subst e2
        rw [List.getElem?_append_left (by omega), List.getElem?_set, if_pos rfl, if_pos (by simpa using hil)] at hj
        cases hj
        trivial
      · rw [get j (by omega) e2] at hj
        cases hq : h[j]? with
        | none => rw [hq] at hj; cases hj
        | some o' =>
          rw [hq] at hj
          cases hj
          exact ho o' _ (H.obj j o' hq)
  · obtain ⟨j0, h1, h2, _⟩ := lf j hj
    rw [h2] at hb
    exact H.mine j0 h1 b hb
  · obtain ⟨a0, h1, h2, h3⟩ := lf a ha
    obtain ⟨b0, h4, h5, h6⟩ := lf b hb
    rw [h2] at hc
    rw [h5] at hc'
    have : a0 ≠ b0 := fun q => by subst q; exact hne (h3.symm.trans h6)
    exact H.inj a0 b0 h1 h4 this c hc hc'
  · have key : ∀ (vs : List V) (vals : List Value), Al2 (Rv (memOf M S w0 h g w)) vs vals → Al2 (Rv (memOf M S w0 ((h.map (renO f)).set i Ob.gone ++ [Ob.arr ty t xs]) (gx g h.length (g i)) w)) (vs.map (renW f)) vals := by
      intro vs
      induction vs with
      | nil => intro s hs; rw [hs.nil_left]; trivial
      | cons x vs ih =>
        intro s hs
        obtain ⟨c, s, rfl, h1, h2⟩ := hs.cons_left
        refine ⟨?_, ih s h2⟩
        cases x with
        | one x => exact rl x _ h1
        | ag ls => obtain ⟨s, h3, h4⟩ := h1; exact ⟨s, h3, rls _ _ h4⟩
        | _ => trivial
    exact key vs vals hv
theorem renewAll_sound : ∀ (is : List Nat) {h : Hm} {g : Nat → Value} {vs : List V} {vals : List Value} (_ : Rel M S w0 h g w) (_ : Al2 (Rv (memOf M S w0 h g w)) vs vals),
    ∃ g', Rel M S w0 (renewAll is vs h).2 g' w ∧ Al2 (Rv (memOf M S w0 (renewAll is vs h).2 g' w)) (renewAll is vs h).1 vals ∧ (∀ j, j < h.length → g' j = g j) ∧ h.length ≤ (renewAll is vs h).2.length
  | [], h, g, vs, vals, H, hv => ⟨g, H, hv, fun _ _ => rfl, Nat.le_refl _⟩
  | i :: is, h, g, vs, vals, H, hv => by
    obtain ⟨g1, H1, hv1, e1, l1⟩ := renew_sound H i hv
    obtain ⟨g2, H2, hv2, e2, l2⟩ := renewAll_sound is H1 hv1
    exact ⟨g2, H2, hv2, fun j hj => (e2 j (by omega)).trans (e1 j hj), Nat.le_trans l1 l2⟩

/-! ### how a function ends and begins -/
theorem load_inv {P : Program} {d : Option Tmp} {ty : TypeId} {pos : String} {aft : Array Edge} {gd : Option (Nat × Bool)} {x : Operand} {T : TypeId} {v : Value} (hl : (execOp (ev r) ⟨d, .load T x, ty, pos, aft, gd⟩).run P w = .ok (.value v) w') :
    ∃ a, ev r x = .pointer (some a) ∧ (loadVar T a).run P w = .ok v w' := by
  cases hx : ev r x with
  | pointer a =>
    cases a with
    | none => simp [execOp, hx, Instr.loadAt, Instr.sureAddr, stuck] at hl
    | some a =>
      refine ⟨a, rfl, ?_⟩
      simp [execOp, hx, Instr.loadAt, Instr.sureAddr] at hl
      cases hq : (loadVar T a).run P w with
      | ok v' w'' => rw [hq] at hl; simpa using hl
      | _ => rw [hq] at hl; simp at hl
  | _ => simp [execOp, hx, Instr.loadAt, Instr.sureAddr, stuck] at hl

theorem resAll_sound {P : Program} (H : Rel M S w0 h g w) (E : ER (memOf M S w0 h g w) e r) : ∀ {rs : List ResultVar} {KV : List V → Option R}, resAll P e h rs KV = some res →
    ∃ vs vals, ResV P r w rs vals ∧ Al2 (Rv (memOf M S w0 h g w)) vs vals ∧ KV vs = some res
  | [], KV, hk => ⟨[], [], .nil, trivial, hk⟩
  | .tmp t :: l, KV, hk => by
    simp only [resAll, resOne] at hk
    obtain ⟨vs, vals, h1, h2, h3⟩ := resAll_sound H E hk
    exact ⟨getE e t :: vs, _, .tmp rfl h1, ⟨E t, h2⟩, h3⟩
  | .cell t T :: l, KV, hk => by
    simp only [resAll, resOne] at hk
    obtain ⟨v, val, k1, k2, k3⟩ := load_sound (d := none) (ty := 0) (pos := "") (aft := #[]) (gd := none) (x := .tmp t) (K := fun v _ => resAll P e h l fun vs => KV (v :: vs)) H E hk
    obtain ⟨a, k4, k5⟩ := load_inv (k1 w fun _ _ => rfl)
    obtain ⟨vs, vals, h1, h2, h3⟩ := resAll_sound H E k3
    exact ⟨v :: vs, _, .cell k4 k5 h1, ⟨k2, h2⟩, h3⟩

theorem natsTo_map (l : List Value) : ∀ (pre suf : List Value), l = pre ++ suf → (natsTo pre.length suf.length).map (envL l) = suf
  | pre, [], _ => rfl
  | pre, v :: suf, h => by
    have ih := natsTo_map l (pre ++ [v]) suf (by rw [h]; simp)
    simp only [List.length_append, List.length_cons, List.length_nil, Nat.zero_add] at ih
    simp only [List.length_cons, natsTo, List.map_cons, ih, List.cons.injEq, and_true]
    simp [envL, h]
theorem giveVds_len (f : Nat → Nat) : ∀ (d : List Vd) (l : List Dt), (giveVds f d l).1.length = d.length
  | [], _ => rfl
  | x :: d, l => by
    simp only [giveVds]
    rw [List.length_cons, List.length_cons, giveVds_len f d]

/-- what a function comes to holds of the program -/
theorem runF_sound {X : Cx} (hX : CxOk X) {fid : FuncId} {fn : Func} {k : Nat} {pre post : Ds} {q : HL pre.ts → Option (HL post.ts)} (hf : X.P.funcs[fid]? = some fn) (hq : ∀ x, runF X k fn pre post x = q x) : Entry.Sound X.P fid ⟨pre, post, q⟩ := by
  refine ⟨fun x y hy S w g vals Hs => ?_⟩
  dsimp only at x y hy Hs ⊢
  rw [← hq] at hy
  unfold runF at hy
  split at hy
  rotate_left
  · cases hy
  rename_i c hc
  rw [cond_eq_ite] at hy
  split at hy
  rotate_left
  · cases hy
  rename_i hb
  simp only [Bool.and_eq_true] at hb
  obtain ⟨⟨⟨hb1, hb2⟩, hb3⟩, hb4⟩ := hb
  have hb1 := Nat.eq_of_beq_eq_true hb1
  have hb2 := Nat.le_of_ble_eq_true hb2
  have hb3 := Nat.eq_of_beq_eq_true hb3
  have hlen : vals.length = pre.vals.length := by
    rw [← Hs.vals.length]; exact giveVds_len _ _ _
  refine enter (n := X.nt) (R := fun v w' => ∃ vs g', v = one vs ∧ Rel (lentOf (givenO pre id x) g) S w (givenO post id y) g' w' ∧
      Al2 (Rv (memOf (lentOf (givenO pre id x) g) S w (givenO post id y) g' w')) (givenV post id y).1 vs ∧ ∀ i, i < pre.objs.length → g' i = g i) hf hc hb3.symm (by omega) ?_ |>.mono fun e w' ⟨v, he, vs, g', hv, h1⟩ => ⟨vs, g', by rw [he, hv], h1⟩
  have E0 : ER (memOf (lentOf (givenO pre id x) g) S w (givenO pre id x) g w) (zipE (natsTo 0 pre.vals.length) (givenV pre id x).1) (envL vals) := by
    refine zipE_er ?_
    rw [← hlen]
    have := natsTo_map vals [] vals rfl
    simp only [List.length_nil] at this
    rw [this]
    exact Hs.vals
  have s0 : St (lentOf (givenO pre id x) g) S w X.keep g (exec X k c ⟨leave X fn.results.toList post, fun _ _ _ => none, leave X fn.results.toList post⟩) y (envL vals) w :=
    ⟨_, _, g, Hs.rel, E0, fun i hi => ⟨by rw [givenO_len, ← hb1]; exact hi, rfl⟩, hy⟩
  have fin_ : ∀ r w', St (lentOf (givenO pre id x) g) S w X.keep g (leave X fn.results.toList post) y r w' → fin X.P fn (fun v w' => ∃ vs g', v = one vs ∧ Rel (lentOf (givenO pre id x) g) S w (givenO post id y) g' w' ∧
      Al2 (Rv (memOf (lentOf (givenO pre id x) g) S w (givenO post id y) g' w')) (givenV post id y).1 vs ∧ ∀ i, i < pre.objs.length → g' i = g i) r w' := by
    rintro r w' ⟨e, h, g1, H, E, hg, hk⟩
    unfold leave at hk
    obtain ⟨vs, vals', h1, h2, h3⟩ := resAll_sound H E hk
    split at h3
    rotate_left
    · cases h3
    rename_i l kk ht
    obtain ⟨g3, H3, hv3, eg3, _⟩ := renewAll_sound (goneN 0 X.keep post.objs) H h2
    obtain ⟨vs', os, t⟩ := takeDs_sound H3.objs ht hv3 (by simp) (keepN_inj _)
    obtain ⟨H', hv⟩ := t.rel H3
    obtain ⟨do', k1, k2⟩ := t.gv
    have e1 := ofL_toL _ _ _ h3
    have e2 : givenV post id y = (vs', do') := by unfold givenV; rw [e1]; exact k1
    have e3 : givenO post id y = os := by unfold givenO; rw [e2]; exact k2
    refine ⟨vals', h1, vals', ren kk g3, rfl, by rw [e3]; exact H', by rw [e3, e2]; exact hv, fun i hi => ?_⟩
    have hi' : i < X.keep := by omega
    rw [ren_eq (t.le.r i i (keepN_has hi')), eg3 i (hg i hi').1]
    exact (hg i hi').2
  exact exec_sound hX c s0 fin_ (fun i r w' s => (by obtain ⟨e, h, g1, H, E, hg, hk⟩ := s; cases hk)) fin_

theorem sound_none {P : Program} {f : Nat} {en : Entry} (h : ∀ x, en.fn x = none) : Entry.Sound P f en := ⟨fun x y hy => by rw [h x] at hy; cases hy⟩
theorem dOk_nil {P : Program} : ∀ f en, (f, en) ∈ ([] : List (Nat × Entry)) → Entry.Sound P f en := fun _ _ h => by cases h
theorem dOk_cons {P : Program} {f : Nat} {en : Entry} {D : List (Nat × Entry)} (h : Entry.Sound P f en) (k : ∀ f en, (f, en) ∈ D → Entry.Sound P f en) : ∀ f' en', (f', en') ∈ (f, en) :: D → Entry.Sound P f' en' := fun f' en' q => by
  rcases List.mem_cons.1 q with q | q
  · cases q; exact h
  · exact k _ _ q
theorem ext_nil {P : Program} : ∀ f kd, findA ([] : List (Nat × Nat)) f = some kd → ExternOf P f (externFn kd) := fun _ _ h => by cases h
theorem ext_cons {P : Program} {a kd : Nat} {l : List (Nat × Nat)} (h : ExternOf P a (externFn kd)) (k : ∀ f kd, findA l f = some kd → ExternOf P f (externFn kd)) : ∀ f kd', findA ((a, kd) :: l) f = some kd' → ExternOf P f (externFn kd') := fun f kd' q => by
  simp only [findA] at q
  cases hb : Nat.beq a f
  · rw [hb] at q; exact k f kd' q
  · have := Nat.eq_of_beq_eq_true hb
    rw [hb] at q
    simp only [cond_true, Option.some.injEq] at q
    subst this; subst q; exact h

end
end Go.Dor
end

section
/- WHAT A CALLER HANDS IN, AS DATA; a law of data, called. Plain lemmas over any program. -/
namespace Go.Dor
open Go.RowKit (Below)

def chainF (P : Program) : Nat → List Field → Option Nat
  | o, [] => some o
  | o, f :: l => bif Nat.beq f.offset o then chainF P (o + P.cellsOf f.type) l else none
/-- types of data whose parts lie one behind the other -/
def tiled (P : Program) : Nat → TypeId → Bool
  | 0, _ => false
  | n + 1, t =>
    match P.underlying t with
    | some (.int _) | some .bool | some .string | some (.float _) => true
    | some (.array m e) => Nat.beq (P.cellsOf t) (m * P.cellsOf e) && tiled P n e
    | some (.slice e) => Nat.blt 0 (P.cellsOf e) && tiled P n e
    | some (.struct fs) => (match chainF P 0 fs.toList with | some s => Nat.beq s (P.cellsOf t) | none => false) && fs.toList.all (fun f => tiled P n f.type)
    | _ => false

theorem pieces {α : Type} {Q : α → List Value → Prop} (k : Nat) : ∀ (m : Nat) (cs : List Value), cs.length = m * k → (∀ i, i < m → ∃ d, Q d ((cs.drop (i * k)).take k)) → ∃ (l : List α) (ys : List (List Value)), l.length = m ∧ cs = ys.flatten ∧ Al2 Q l ys
  | 0, cs, hl, _ => ⟨[], [], rfl, by simpa using hl, trivial⟩
  | m + 1, cs, hl, h => by
    obtain ⟨d, hd⟩ := h 0 (by omega)
    have hl' : (cs.drop k).length = m * k := by rw [List.length_drop, hl, Nat.add_mul]; omega
    obtain ⟨l, ys, h1, h2, h3⟩ := pieces k m (cs.drop k) hl' fun i hi => by
      obtain ⟨d, hd⟩ := h (i + 1) (by omega)
      refine ⟨d, ?_⟩
      rw [List.drop_drop]
      have : k + i * k = (i + 1) * k := by rw [Nat.add_mul]; omega
      rw [this]; exact hd
    refine ⟨d :: l, cs.take k :: ys, by simp [h1], ?_, ?_, h3⟩
    · rw [List.flatten_cons, ← h2, List.take_append_drop]
    · simpa using hd

/-- data that a program can hold: each number fits its kind -/
def okD : (t : T) → den t → Prop
  | .int k, n => (Lit.int k n).wf = true
  | .pair a b, x => okD a x.1 ∧ okD b x.2
  | .arr _ e, x => ∀ y ∈ x.toList, okD e y
  | .sl e, x => x.length ≤ 9223372036854775807 ∧ ∀ y ∈ x, okD e y
  | .str, _ => True
  | .bool, _ => True
  | .flt k, n => (Lit.float k n).wf = true
  | .fx _, _ => True
  | .unit, _ => True
theorem al2_split {α β : Type} {Q : α → β → Prop} {R : α → Prop} : ∀ {l : List α} {m : List β}, Al2 (fun a b => Q a b ∧ R a) l m → Al2 Q l m ∧ ∀ a ∈ l, R a
  | [], [], _ => ⟨trivial, by simp⟩
  | a :: l, b :: m, h => by
    obtain ⟨h1, h2⟩ := al2_split (l := l) (m := m) h.2
    exact ⟨⟨h.1.1, h1⟩, fun x hx => (List.mem_cons.1 hx).elim (fun e => e ▸ h.1.2) (h2 x)⟩

theorem list_of {α : Type} {Q : Nat → α → Prop} : ∀ (n : Nat), (∀ i, i < n → ∃ p, Q i p) → ∃ l : List α, l.length = n ∧ ∀ i p, l[i]? = some p → Q i p
  | 0, _ => ⟨[], rfl, by simp⟩
  | n + 1, h => by
    obtain ⟨l, h1, h2⟩ := list_of n fun i hi => h i (by omega)
    obtain ⟨p, hp⟩ := h n (by omega)
    refine ⟨l ++ [p], by simp [h1], fun i q hq => ?_⟩
    by_cases hlt : i < n
    · rw [List.getElem?_append_left (by omega)] at hq; exact h2 i q hq
    · have hi : i < (l ++ [p]).length := (List.getElem?_eq_some_iff.1 hq).1
      have : i = n := by simp [h1] at hi; omega
      subst this
      rw [List.getElem?_append_right (by omega), h1] at hq
      simp at hq; subst hq; exact hp

theorem al2_of {α β : Type} {Q : α → β → Prop} : ∀ (l : List (α × β)), (∀ (i : Nat) p, l[i]? = some p → Q p.1 p.2) → Al2 Q (l.map (·.1)) (l.map (·.2))
  | [], _ => trivial
  | p :: l, h => ⟨h 0 p rfl, al2_of l fun i q hq => h (i + 1) q hq⟩

section
variable {H : Type} {enc : TypeId × Value → H} {P : Program} {w : World} {spare : Nat → Bool} {held : Bool}

theorem fields_at {I : Nat → Prop} {cs : List Value} {n s : Nat} : ∀ (l : List Field) (o : Nat) (cl : List T), chainF P o l = some s → cs.length = s → (∀ c, codeT P n 0 = c → True) →
    l.foldr (fun f acc => match codeT P n f.type, acc with | some a, some l => some (a :: l) | _, _ => none) (some []) = some cl →
    (∀ f ∈ l, ∀ c, codeT P n f.type = some c → ∃ d : den c, At w I c d ((cs.drop f.offset).take (P.cellsOf f.type)) ∧ okD c d) → ∃ d : den (mkT cl), At w I (mkT cl) d (cs.drop o) ∧ okD (mkT cl) d
  | [], o, cl, hc, hl, _, hf, _ => by
    cases hf
    simp only [chainF, Option.some.injEq] at hc
    exact ⟨(), List.drop_eq_nil_of_le (by omega), trivial⟩
  | [f], o, cl, hc, hl, _, hf, h => by
    simp only [chainF, cond_eq_ite] at hc
    split at hc
    · rename_i ho
      have ho := Nat.eq_of_beq_eq_true ho
      simp only [Option.some.injEq] at hc
      simp only [List.foldr_cons, List.foldr_nil] at hf
      split at hf
      · rename_i a l' ha hl'
        cases hf; cases hl'
        obtain ⟨d, hd, hk⟩ := h f (by simp) a ha
        refine ⟨d, ?_, hk⟩
        rw [ho, List.take_of_length_le (by rw [List.length_drop]; omega)] at hd
        exact hd
      · cases hf
    · cases hc
  | f :: f2 :: l, o, cl, hc, hl, ht, hf, h => by
    rw [chainF, cond_eq_ite] at hc
    split at hc
    · rename_i ho
      have ho := Nat.eq_of_beq_eq_true ho
      rw [List.foldr_cons] at hf
      split at hf
      · rename_i a l' ha hl'
        cases hf
        obtain ⟨d, hd, hk⟩ := h f (by simp) a ha
        obtain ⟨d2, hd2, hk2⟩ := fields_at (f2 :: l) _ l' hc hl ht hl' fun g hg => h g (List.mem_cons_of_mem _ hg)
        have hne : ∃ b r, l' = b :: r := by
          rw [List.foldr_cons] at hl'
          split at hl'
          · cases hl'; exact ⟨_, _, rfl⟩
          · cases hl'
        obtain ⟨b, r, rfl⟩ := hne
        refine ⟨(d, d2), ⟨_, _, ?_, hd, hd2⟩, hk, hk2⟩
        rw [ho, ← List.drop_drop, List.take_append_drop]
      · cases hf
    · cases hc

theorem cell_heap {b o : Nat} {y : Value} (hc : w.cell? ⟨b, o, none⟩ = some y) : ∃ cur t fz, w.heap[b]? = some (.cells cur t fz) := by
  simp only [World.cell?] at hc
  split at hc
  · rename_i cur t fz hb
    exact ⟨_, _, _, hb⟩
  · cases hc

theorem mapM_get {α β : Type} {f : α → Option β} : ∀ {l0 : List α} {l : List β}, l0.mapM f = some l → l.length = l0.length ∧ ∀ (i : Nat) a, l0[i]? = some a → f a = l[i]?
  | [], l, h => by
    simp only [List.mapM_nil] at h
    cases h
    exact ⟨rfl, by simp⟩
  | a :: l0, l, h => by
    rw [List.mapM_cons] at h
    cases ha : f a with
    | none => rw [ha] at h; cases h
    | some b =>
      rw [ha] at h
      cases hl : l0.mapM f with
      | none => rw [hl] at h; cases h
      | some bs =>
        rw [hl] at h
        have h : some (b :: bs) = some l := h
        cases h
        obtain ⟨h1, h2⟩ := mapM_get hl
        refine ⟨by simp [h1], fun i x hx => ?_⟩
        cases i with
        | zero => simp at hx; subst hx; simpa using ha
        | succ i => simp at hx; simpa using h2 i x hx
theorem cells_get {base k : Nat} {a : Addr} {l : List Value} (h : w.cells? base a k = some l) : l.length = k ∧ ∀ i, i < k → w.cell? (a.add i) = l[i]? := by
  unfold World.cells? at h
  split at h
  · obtain ⟨h1, h2⟩ := mapM_get h
    exact ⟨by simpa using h1, fun i hi => h2 i i (by simp [hi])⟩
  · cases h

theorem trod_float {t : TypeId} {k : FloatKind} {fuel : Nat} {cs : List Value} {x : DataW H × List MemPlace} (ht : P.underlying t = some (.float k)) (h : DataW.trod enc P w 0 spare held fuel t cs = some x) : ∃ n, cs = [.float k n] ∧ (Lit.float k n).wf = true := by
  cases fuel with
  | zero => simp [DataW.trod] at h
  | succ n =>
    unfold DataW.trod at h
    rw [ht] at h
    split at h <;> simp_all
/-- what a caller hands in reads as data -/
theorem trod_at (hsp : ∀ b, spare b = true) : ∀ (n : Nat) (t : TypeId) (c : T) (fuel : Nat) (cs : List Value) (x : DataW H × List MemPlace), codeT P n t = some c → tiled P n t = true →
    DataW.trod enc P w 0 spare held fuel t cs = some x → ∃ d : den c, At w (fun b => b < w.heap.size) c d cs ∧ okD c d
  | 0, t, c, fuel, cs, x, hc, _, _ => by cases hc
  | n + 1, t, c, fuel, cs, x, hc, hd, h => by
    unfold codeT at hc
    unfold tiled at hd
    split at hc
    · rename_i k ht
      cases hc
      obtain ⟨y, rfl, _, hwf⟩ := DataW.trod_int ht h
      exact ⟨y, rfl, hwf⟩
    · rename_i ht
      cases hc
      obtain ⟨y, rfl, _⟩ := DataW.trod_bool ht h
      exact ⟨y, rfl, trivial⟩
    · rename_i ht
      cases hc
      obtain ⟨y, rfl, _⟩ := DataW.trod_string ht h
      exact ⟨y.data.toList, by simp [At, sv], trivial⟩
    · rename_i k ht
      cases hc
      obtain ⟨y, rfl, hwf⟩ := trod_float ht h
      exact ⟨y, rfl, hwf⟩
    · rename_i m e ht
      rw [ht] at hd
      simp only [Bool.and_eq_true] at hd
      obtain ⟨hd1, hd2⟩ := hd
      have hd1 := Nat.eq_of_beq_eq_true hd1
      split at hc
      · rename_i ce hce
        cases hc
        obtain ⟨xs, q, _, _, h1, h2, h3⟩ := DataW.trod_array ht h
        obtain ⟨l, ys, k1, k2, k3⟩ := pieces (Q := fun d y => At w (fun b => b < w.heap.size) ce d y ∧ okD ce d) (P.cellsOf e) m cs (by rw [h1, hd1]) fun i hi => by
          have := h3 i hi
          rw [List.getElem?_eq_getElem (by omega)] at this
          exact trod_at hsp n e ce _ _ _ hce hd2 this
        obtain ⟨k3, k4⟩ := al2_split k3
        refine ⟨⟨l.toArray, by simpa using k1⟩, ⟨ys, k2, ?_⟩, fun y hy => k4 y (by simpa using hy)⟩
        simpa using k3
      · cases hc
    · rename_i e ht
      rw [ht] at hd
      simp only [Bool.and_eq_true] at hd
      obtain ⟨hd1, hd2⟩ := hd
      have hd1 : 0 < P.cellsOf e := by simpa [Nat.blt_eq] using hd1
      split at hc
      · rename_i ce hce
        cases hc
        rcases DataW.trod_slice ht h with ⟨rfl, _⟩ | ⟨a, len, cap, elems, rest, q, _, rfl, _, _, hlc, hcm, hel, he, hrest, _⟩
        · exact ⟨[], ⟨_, rfl, [], ⟨by simp, .inl ⟨⟨none, rfl⟩, rfl⟩⟩, trivial, by simp [vfoot]⟩, Nat.zero_le _, fun y hy => by cases hy⟩
        · obtain ⟨hr1, hr2⟩ := hrest (hsp _)
          by_cases hcap : cap = 0
          · subst hcap
            have hl0 : len = 0 := by omega
            subst hl0
            exact ⟨[], ⟨_, rfl, [], ⟨by simp, .inl ⟨⟨_, rfl⟩, rfl⟩⟩, trivial, by simp [vfoot]⟩, Nat.zero_le _, fun y hy => by cases hy⟩
          · -- a cell is there
            have h0 : ∃ y, w.cell? (a.add 0) = some y := by
              have key : ∀ {o : Option (DataW H × List MemPlace)} {i : Nat}, i = 0 → (w.cells? 0 (a.add (i * P.cellsOf e)) (P.cellsOf e)).bind (DataW.trod enc P w 0 spare held q e) = o → o.isSome = true → ∃ y, w.cell? (a.add 0) = some y := by
                intro o i hi hb ho
                subst hi
                cases hcl : w.cells? 0 (a.add (0 * P.cellsOf e)) (P.cellsOf e) with
                | none => rw [hcl] at hb; subst hb; cases ho
                | some l =>
                  obtain ⟨k1, k2⟩ := cells_get hcl
                  have := k2 0 hd1
                  rw [List.getElem?_eq_getElem (by omega)] at this
                  exact ⟨l[0]'(by omega), by simpa [Addr.add] using this⟩
              by_cases hl0 : len = 0
              · exact key (i := len + 0) (by omega) (hr2 0 (by omega)) (by rw [List.getElem?_eq_getElem (by omega)]; rfl)
              · exact key (i := 0) rfl (he 0 (by omega)) (by rw [List.getElem?_eq_getElem (by omega)]; rfl)
            obtain ⟨y0, hy0⟩ := h0
            have hspot := World.cell?_spot hy0
            obtain ⟨b, off, spot⟩ := a
            have hspot : spot = none := by simpa [Addr.add] using hspot
            subst hspot
            have hadd : ∀ i, (⟨b, off, none⟩ : Addr).add i = ⟨b, off + i, none⟩ := fun i => by simp [Addr.add]
            have hadd2 : ∀ o i, (⟨b, o, none⟩ : Addr).add i = ⟨b, o + i, none⟩ := fun o i => by simp [Addr.add]
            rw [hadd] at hy0
            obtain ⟨cur, bt, fz, hb⟩ := cell_heap hy0
            obtain ⟨l, k1, k2⟩ := list_of (α := den ce × List Value) (Q := fun i p => (At w (fun b => b < w.heap.size) ce p.1 p.2 ∧ okD ce p.1) ∧ p.2.length = P.cellsOf e ∧ ∀ j, j < P.cellsOf e → cur[off + (i * P.cellsOf e + j)]? = p.2[j]?) len fun i hi => by
              have h1 := he i hi
              rw [List.getElem?_eq_getElem (by omega)] at h1
              cases hcl : w.cells? 0 ((⟨b, off, none⟩ : Addr).add (i * P.cellsOf e)) (P.cellsOf e) with
              | none => rw [hcl] at h1; cases h1
              | some cl =>
                rw [hcl] at h1
                obtain ⟨d, hdd⟩ := trod_at hsp n e ce _ _ _ hce hd2 h1
                obtain ⟨k1, k2⟩ := cells_get hcl
                refine ⟨(d, cl), hdd, k1, fun j hj => ?_⟩
                have := k2 j hj
                rw [← this, hadd2, hadd2, World.cell?, hb]
                simp [Nat.add_assoc]
            have hal := al2_of (Q := fun d y => At w (fun b => b < w.heap.size) ce d y ∧ okD ce d) l fun i p hp => (k2 i p hp).1
            obtain ⟨hal, hok⟩ := al2_split hal
            refine ⟨l.map (·.1), ⟨_, rfl, l.map (·.2), ⟨fun y hy => ?_, .inr ⟨b, off, cap, cur, bt, fz, by simp [k1], by simpa [k1] using hlc, hb, fun j y hj => ?_⟩⟩, hal, fun q hq => ?_⟩, by rw [List.length_map, k1]; unfold maxLen at hcm; omega, fun y hy => hok y hy⟩
            · obtain ⟨z, hz⟩ := List.getElem?_of_mem hy
              obtain ⟨d, _, hQ⟩ : ∃ d : den ce, True ∧ At w (fun b => b < w.heap.size) ce d y := by
                rw [List.getElem?_map] at hz
                cases hlz : l[z]? with
                | none => rw [hlz] at hz; cases hz
                | some p => rw [hlz] at hz; cases hz; exact ⟨p.1, trivial, (k2 z p hlz).1.1⟩
              exact At.len _ _ _ hQ
            · have hz : ∀ y ∈ l.map (·.2), y.length = P.cellsOf e := fun y hy => by
                obtain ⟨p, hp, rfl⟩ := List.mem_map.1 hy
                obtain ⟨z, hz⟩ := List.getElem?_of_mem hp
                exact (k2 z p hz).2.1
              have hjl := (List.getElem?_eq_some_iff.1 hj).1
              have hfl : (l.map (·.2)).flatten.length = l.length * P.cellsOf e := by
                have : ∀ (ys : List (List Value)), (∀ y ∈ ys, y.length = P.cellsOf e) → ys.flatten.length = ys.length * P.cellsOf e := by
                  intro ys
                  induction ys with
                  | nil => simp
                  | cons y ys ih =>
                    intro h
                    rw [List.flatten_cons, List.length_append, ih fun z hz => h z (List.mem_cons_of_mem _ hz), h y (by simp), List.length_cons, Nat.add_mul]; omega
                rw [this _ hz, List.length_map]
              have hdiv : j / P.cellsOf e < l.length := Nat.div_lt_of_lt_mul (by rw [Nat.mul_comm]; omega)
              have hmod : j % P.cellsOf e < P.cellsOf e := Nat.mod_lt _ hd1
              have hp : l[j / P.cellsOf e]? = some l[j / P.cellsOf e] := List.getElem?_eq_getElem hdiv
              obtain ⟨_, _, h5⟩ := k2 _ _ hp
              have h6 := flat_at hz (j := j / P.cellsOf e) (k := j % P.cellsOf e) (x := (l[j / P.cellsOf e]).2) (by rw [List.getElem?_map, hp]; rfl) hmod
              have hjj : j / P.cellsOf e * P.cellsOf e + j % P.cellsOf e = j := by rw [Nat.mul_comm]; exact Nat.div_add_mod _ _
              have h7 := h5 _ hmod
              rw [hjj] at h6 h7
              rw [h7, ← h6]; exact hj
            · simp only [vfoot, hcap, if_false, Option.some.injEq] at hq
              subst hq
              exact (Array.getElem?_eq_some_iff.1 hb).1
      · cases hc
    · rename_i fs ht
      rw [ht] at hd
      simp only [Bool.and_eq_true] at hd
      obtain ⟨hd1, hd2⟩ := hd
      split at hc
      · rename_i cl hcl
        cases hc
        split at hd1
        · rename_i s hs
          have hd1 := Nat.eq_of_beq_eq_true hd1
          obtain ⟨xs, q, _, _, h1, h2, h3⟩ := DataW.trod_struct ht h
          have := fields_at (w := w) (I := fun b => b < w.heap.size) (cs := cs) (n := n) fs.toList 0 cl hs (by rw [h1, hd1]) (fun _ _ => trivial) hcl fun f hf c hc => by
            obtain ⟨i, hi⟩ := List.getElem?_of_mem hf
            have hi' : fs[i]? = some f := by simpa using hi
            have h4 := h3 i f hi'
            have hlt : i < fs.size := (Array.getElem?_eq_some_iff.1 hi').1
            rw [List.getElem?_eq_getElem (by omega)] at h4
            exact trod_at hsp n f.type c _ _ _ hc (List.all_eq_true.1 hd2 f hf) h4
          simpa using this
        · cases hd1
      · cases hc
    · cases hc

end
end Go.Dor
namespace Go.Dor
open Go.RowKit (Below)
section
variable {H : Type} {enc : TypeId × Value → H} {P : Program} {w w' : World}

/-- all that stands at the beginning may be read -/
noncomputable def m0 (w : World) : Mem := memOf (lentOf [] fun _ => undef) (fun _ => True) w [] (fun _ => undef) w

theorem m0_imm {b : Nat} (h : b < w.heap.size) : (m0 w).I b := ⟨h, .inr (.inl trivial), fun id hid => by simp [lives, liveO] at hid⟩
theorem at_m0 {c : T} {d : den c} {cs : List Value} (h : At w (fun b => b < w.heap.size) c d cs) : At (m0 w).w (m0 w).I c d cs := At.mono (fun _ hb => ⟨m0_imm hb, rfl⟩) _ _ _ h

theorem arg_ok {t : TypeId} {v : Value} {d : DataW H} {p : List MemPlace} {c : T} (h : DataW.Trod enc P w 0 (fun _ => true) true t v d p) (hc : codeT P depth t = some c) (ht : tiled P depth t = true) : ∃ a : den c, At (m0 w).w (m0 w).I c a v.cells.toList ∧ okD c a := by
  obtain ⟨fuel, h⟩ := h
  obtain ⟨a, ha, hk⟩ := trod_at (fun _ => rfl) _ _ _ _ _ _ hc ht h
  exact ⟨a, at_m0 ha, hk⟩
theorem arg_at {t : TypeId} {v : Value} {d : DataW H} {p : List MemPlace} {c : T} (h : DataW.Trod enc P w 0 (fun _ => true) true t v d p) (hc : codeT P depth t = some c) (ht : tiled P depth t = true) : ∃ a : den c, At (m0 w).w (m0 w).I c a v.cells.toList := by
  obtain ⟨a, ha, _⟩ := arg_ok h hc ht
  exact ⟨a, ha⟩

theorem rv_ag {c : T} {a : den c} {v : Value} {cs : Array Value} (hv : v = .agg cs) (h : At (m0 w).w (m0 w).I c a v.cells.toList) : Rv (m0 w) (.ag (Dor.enc c a)) v := by
  obtain ⟨s, h1, h2⟩ := At.enc _ _ _ h
  refine ⟨s, ?_, h2⟩
  subst hv
  have h1 : cs.toList = s.flatten := h1
  simp [ag, cells, ← h1]

/-- a law of data, called -/
theorem law_calls {f : FuncId} {vd : List Vd} {q : HL (Ds.ts ⟨vd, []⟩) → Option (HL (Ds.ts ⟨[.one (.im .bool)], []⟩))} (hS : Entry.Sound P f ⟨⟨vd, []⟩, ⟨[.one (.im .bool)], []⟩, q⟩) {vals : List Value} {x : HL (Ds.ts ⟨vd, []⟩)}
    (hv : Al2 (Rv (m0 w)) (givenV ⟨vd, []⟩ id x).1 vals) (hq : q x = some true) : Calls P f vals.toArray w fun e w' => e = .returned (.bool true) ∧ Below w.heap.size w w' := by
  have hg : givenO ⟨vd, []⟩ id x = [] := rfl
  have hs : Start ⟨vd, []⟩ x (fun _ => True) w (fun _ => undef) vals := by
    refine ⟨?_, hv⟩
    refine ⟨rfl, rfl, .refl _, rfl, Nat.le_refl _, fun _ _ _ => rfl, fun b _ => ?_, fun id o hid => ?_, fun id hid => ?_, fun i j hi => ?_⟩
    · rintro ⟨i, hi, _⟩
      rw [hg] at hi
      simp [lives, liveO] at hi
    · rw [hg] at hid; simp at hid
    · rw [hg] at hid; simp [lives, liveO] at hid
    · rw [hg] at hi; simp [lives, liveO] at hi
  refine (hS.out x true hq (fun _ => True) w (fun _ => undef) vals hs).mono fun e w' ⟨vs, g', he, R', hv', _⟩ => ?_
  have hv' : Al2 (Rv (memOf (lentOf (givenO ⟨vd, []⟩ id x) fun _ => undef) (fun _ => True) w (givenO ⟨[.one (.im .bool)], []⟩ id true) g' w')) [.one (.b true)] vs := hv'
  obtain ⟨v, vs, rfl, h1, h2⟩ := hv'.cons_left
  have := h2.nil_left
  subst this
  have h1 := rv_bool h1
  subst h1
  refine ⟨he, R'.os, R'.tape, R'.output, R'.size, fun b hb => R'.old b hb ?_⟩
  rintro ⟨i, hi, _⟩
  have hg' : lives ([] : Hm) i := hi
  simp [lives, liveO] at hg'

theorem trodAll_stays (hl : laidOutB P = true) (hb : Below w.heap.size w w') : ∀ {ts : List TypeId} {vs : List Value} {ds : List (DataW H)} {ps : List MemPlace}, (∀ t ∈ ts, P.readableRec t = true ∧ t < P.types.size) →
    DataW.TrodAll enc P w 0 (fun _ => true) true ts vs ds ps → (∀ x ∈ ps, x.block < w.heap.size) → DataW.TrodAll enc P w' 0 (fun b => decide (b < w.heap.size)) true ts vs ds ps
  | [], [], [], _, _, h, _ => h
  | t :: ts, v :: vs, d :: ds, ps, hr, h, hlt => by
    obtain ⟨p, q, h1, h2, rfl⟩ := h
    exact ⟨p, q, Go.RowKit.Below.trod hl (hr t (by simp)).1 (hr t (by simp)).2 h1 hb (fun x hx => hlt x (List.mem_append_left _ hx)), trodAll_stays hl hb (fun u hu => hr u (List.mem_cons_of_mem _ hu)) h2 (fun x hx => hlt x (List.mem_append_right _ hx)), rfl⟩

end
end Go.Dor
end

section
/- AN ARGUMENT OF A LAW, as data of its type: numbers fit, the value reads as the data. -/
namespace Go.Dor
section
variable {H : Type} {enc' : TypeId × Value → H} {P : Program} {w : World}

def vOf : (c : T) → den c → V
  | .int k, n => .one (.i k n)
  | .bool, x => .one (.b x)
  | .str, l => .one (.s l)
  | .flt k, n => .one (.f k n)
  | .fx k, n => .one (.fx k n)
  | .sl e, xs => .one (.ro e xs)
  | .unit, x => .ag (enc .unit x)
  | .pair a b, x => .ag (enc (.pair a b) x)
  | .arr n e, x => .ag (enc (.arr n e) x)

def aggT : T → Bool
  | .unit | .pair .. | .arr .. => true
  | _ => false

theorem okWide_agg {t : TypeId} {r : Reach} {base : Nat} {v : Value} (hv : Value.okWide P w r base t v) (hg : (∃ fs, P.underlying t = some (.struct fs)) ∨ ∃ m e, P.underlying t = some (.array m e)) : ∃ cs, v = .agg cs := by
  rcases hg with ⟨fs, hg⟩ | ⟨m, e, hg⟩ <;>
  · simp only [Value.okWide, hg] at hv
    obtain ⟨cs, h1, _⟩ := hv
    exact ⟨cs, h1⟩

theorem one_cells {v : Value} (h : ∀ cs, v ≠ .agg cs) : v.cells.toList = [v] := by
  cases v <;> first | rfl | exact absurd rfl (h _)

theorem arg_rv {t : TypeId} {v : Value} {d : DataW H} {p : List MemPlace} {c : T} (hag : (match P.underlying t with | some (.struct _) | some (.array _ _) => true | _ => false) = aggT c)
    (h : DataW.Trod enc' P w 0 (fun _ => true) true t v d p) (hc : codeT P depth t = some c) (ht : tiled P depth t = true) {r : Reach} {base : Nat} (hv : Value.okWide P w r base t v) : ∃ a : den c, Rv (m0 w) (vOf c a) v ∧ okD c a := by
  obtain ⟨a, ha, hk⟩ := arg_ok h hc ht
  refine ⟨a, ?_, hk⟩
  cases hx : aggT c with
  | true =>
    rw [hx] at hag
    have hcs : ∃ cs, v = .agg cs := by
      split at hag
      · rename_i fs hu; exact okWide_agg hv (.inl ⟨_, hu⟩)
      · rename_i m e hu; exact okWide_agg hv (.inr ⟨_, _, hu⟩)
      · cases hag
    obtain ⟨cs, hcs⟩ := hcs
    cases c <;> first | exact rv_ag hcs ha | cases hx
  | false =>
    rw [hx] at hag
    have hne : ∀ cs, v ≠ .agg cs := by
      rintro cs rfl
      split at hag
      · cases hag
      · cases hag
      · rename_i h1 h2
        unfold Value.okWide at hv
        split at hv
        · rename_i hu; exact h1 _ hu
        · rename_i hu; exact h2 _ _ hu
        · unfold Cell.okWide at hv
          cases hu : P.underlying t with
          | none => rw [hu] at hv; simp [Cell.ok, hu] at hv
          | some u => cases u <;> simp_all [Cell.ok]
    rw [one_cells hne] at ha
    cases c <;> first | exact ha | cases hx
end
end Go.Dor
end

section
/- slices.SortFunc AS AN ENTRY: what the shelf proves of it, turned to the machine's words. Plain lemmas over any program that bears it. -/
set_option linter.unusedVariables false
set_option linter.unusedSimpArgs false
namespace Go.Dor
open Go.Proofs Go.Shelf Go.Sort

/-! ### cells of data without slices -/
def encC : (t : T) → den t → List Value
  | .int k, n => [.int k n]
  | .bool, x => [.bool x]
  | .str, l => [sv l]
  | .flt k, n => [.float k n]
  | .fx _, _ => []
  | .unit, _ => []
  | .pair a b, x => encC a x.1 ++ encC b x.2
  | .arr _ e, x => (x.toList.map (encC e)).flatten
  | .sl _, _ => []
theorem al2_map {α β : Type} {R : α → β → Prop} {f : α → β} (h : ∀ x y, R x y ↔ y = f x) : ∀ {xs : List α} {ys : List β}, Al2 R xs ys ↔ ys = xs.map f
  | [], [] => by simp [Al2]
  | [], _ :: _ => by simp [Al2]
  | _ :: _, [] => by simp [Al2]
  | x :: xs, y :: ys => by
    rw [List.map_cons, List.cons.injEq]
    show R x y ∧ Al2 R xs ys ↔ _
    rw [h, al2_map h]
theorem at_encC {w : World} {I : Nat → Prop} : ∀ (t : T) (x : den t) (c : List Value), flat t = true → (At w I t x c ↔ c = encC t x)
  | .int _, _, _, _ => Iff.rfl
  | .bool, _, _, _ => Iff.rfl
  | .str, _, _, _ => Iff.rfl
  | .flt _, _, _, _ => Iff.rfl
  | .fx _, _, _, hf => by cases hf
  | .unit, _, _, _ => Iff.rfl
  | .pair a b, x, c, hf => by
    have hf : (flat a && flat b) = true := hf
    rw [Bool.and_eq_true] at hf
    constructor
    · rintro ⟨c1, c2, rfl, h1, h2⟩
      rw [(at_encC a _ _ hf.1).1 h1, (at_encC b _ _ hf.2).1 h2]
      rfl
    · rintro rfl
      exact ⟨_, _, rfl, (at_encC a _ _ hf.1).2 rfl, (at_encC b _ _ hf.2).2 rfl⟩
  | .arr n e, x, c, hf => by
    have hf : flat e = true := hf
    constructor
    · rintro ⟨ys, rfl, h⟩
      rw [(al2_map fun x c => at_encC e x c hf).1 h]
      rfl
    · rintro rfl
      exact ⟨_, rfl, (al2_map fun x c => at_encC e x c hf).2 rfl⟩
theorem encC_len {t : T} (hf : flat t = true) (x : den t) : (encC t x).length = wid t := At.len (w := default) (I := fun _ => True) t x _ ((at_encC t x _ hf).2 rfl)
theorem encC_one {t : T} (hf : flat t = true) (x : den t) : ∀ v ∈ encC t x, v.oneCell' = true := At.one (w := default) (I := fun _ => True) t x _ ((at_encC t x _ hf).2 rfl)

/-! ### a row of them -/
theorem flat_atK {α : Type} [Inhabited α] {enc : α → List Value} {k : Nat} (hk : ∀ x, (enc x).length = k) : ∀ (l : List α) (j : Nat), j < l.length * k → (l.map enc).flatten[j]? = some ((enc (l.toArray[j / k]!))[j % k]!)
  | [], j, h => by simp at h
  | a :: l, j, h => by
    have hk0 : 0 < k := by
      rcases Nat.eq_zero_or_pos k with q | q
      · subst q; simp at h
      · exact q
    rw [List.map_cons, List.flatten_cons]
    by_cases hj : j < k
    · rw [List.getElem?_append_left (by rw [hk]; exact hj), Nat.div_eq_of_lt hj, Nat.mod_eq_of_lt hj]
      have e : (a :: l).toArray[0]! = a := by simp
      rw [e, getElem!_pos _ j (by rw [hk]; exact hj), List.getElem?_eq_getElem]
    · have e : (l.length + 1) * k = l.length * k + k := Nat.succ_mul _ _
      rw [List.length_cons, e] at h
      have ih := flat_atK hk l (j - k) (by omega)
      rw [List.getElem?_append_right (by rw [hk]; omega), hk, ih]
      have h1 : j / k = (j - k) / k + 1 := by rw [Nat.div_eq_sub_div hk0 (by omega)]
      have h2 : j % k = (j - k) % k := by rw [Nat.mod_eq_sub_mod (by omega)]
      have h3 : ∀ i, (a :: l).toArray[i + 1]! = l.toArray[i]! := fun i => by simp [Array.getElem!_eq_getD, Array.getD]
      rw [h1, h2, h3]
theorem flatK_list {α : Type} [Inhabited α] {enc : α → List Value} {k : Nat} (hk : ∀ x, (enc x).length = k) (l : List α) (j : Nat) (h : j < l.length * k) : (l.map enc).flatten[j]? = some (flatK enc k l.toArray)[j]! := by
  rw [flat_atK hk l j h, get_flatK enc k l.toArray j (by simpa using h)]
theorem flat_size {α : Type} {enc : α → List Value} {k : Nat} (hk : ∀ x, (enc x).length = k) : ∀ (l : List α), (l.map enc).flatten.length = l.length * k
  | [] => by simp
  | a :: l => by rw [List.map_cons, List.flatten_cons, List.length_append, hk, flat_size hk l, List.length_cons, Nat.succ_mul]; omega
theorem holds_row {α : Type} [Inhabited α] {enc : α → List Value} {k : Nat} (hk : ∀ x, (enc x).length = k) {w : World} {b : Nat} {cur : Array Value} {ty : TypeId} {fz : Nat × Nat} {l : List α} (hb : w.heap[b]? = some (.cells cur ty fz))
    (hfz : ∀ j, j < cur.size → ¬ (fz.1 ≤ j ∧ j < fz.2)) (hx : ∀ (j : Nat) x, (l.map enc).flatten[j]? = some x → cur[j]? = some x) : HoldsK enc k w b 0 l.toArray := by
  intro j hj
  rw [size_flatK] at hj
  have hj' : j < l.length * k := by simpa using hj
  have h1 := hx j _ (flatK_list hk l j hj')
  have h2 : j < cur.size := (Array.getElem?_eq_some_iff.1 h1).1
  refine ⟨?_, ?_⟩
  · simp only [World.cell?, hb, Nat.zero_add, Option.isSome_none, Bool.false_eq_true, if_false]
    exact h1
  · have h3 := hfz j h2
    simp only [World.frozen?, hb, Nat.zero_add]
    simpa using h3
section
variable {α : Type} [Inhabited α] {enc : α → List Value} {k : Nat}
theorem heap_sortedK {w : World} {b n : Nat} {os : Array Obj} {cur : Array Value} {ty : TypeId} {fz : Nat × Nat} (d : Array α) (hb : w.heap[b]? = some (.cells cur ty fz)) :
    (sortWorldK enc k w b 0 n d os).heap[b]? = some (.cells (putCells id 0 (flatK enc k d) cur) ty fz) := by
  have hg : b < w.heap.size := (Array.getElem?_eq_some_iff.1 hb).1
  unfold sortWorldK putRowK
  rw [heap_grow_old _ _ (by simpa using hg)]
  simp [putRow, mapBlock, Sort.ahead, Array.getElem?_modify, hb, onCells]
theorem grown_sortedK {w : World} {b n : Nat} {os : Array Obj} (d : Array α) : w.grownBy (sortWorldK enc k w b 0 n d os) (some b) := by
  refine ⟨rfl, rfl, rfl, by simp [sortWorldK, putRowK], fun q hq hne => ?_⟩
  unfold sortWorldK putRowK
  rw [heap_grow_old _ _ (by simpa using hq)]
  have : b ≠ q := fun e => hne (by rw [e])
  simp [putRow, mapBlock, Sort.ahead, Array.getElem?_modify, this]
theorem own_sortedK (hk : ∀ x, (enc x).length = k) {w : World} {b n cap : Nat} {os : Array Obj} {cur : Array Value} {ty : TypeId} {fz : Nat × Nat} {l l' : List α} (hl : l'.length = l.length) (hb : w.heap[b]? = some (.cells cur ty fz))
    (h1 : l.length ≤ cap) (h2 : cap ≤ maxLen) (h3 : cur.size = cap * k) (hfz : ∀ j, j < cur.size → ¬ (fz.1 ≤ j ∧ j < fz.2)) :
    Own (sortWorldK enc k w b 0 n l'.toArray os) (.slice (some ⟨b, 0, none⟩) l.length cap) ty k (l'.map enc) := by
  have hs : (putCells id 0 (flatK enc k l'.toArray) cur).size = cur.size := by simp [putCells]
  refine ⟨fun x hx => ?_, .inr ⟨b, cap, _, fz, by rw [List.length_map, hl], by rw [List.length_map, hl]; exact h1, h2, heap_sortedK _ hb, fun j hj => hfz j (by rw [← hs]; exact hj), by rw [hs, h3], fun j x hx => ?_⟩⟩
  · obtain ⟨a, _, rfl⟩ := List.mem_map.1 hx
    exact hk a
  · have hj : j < l'.length * k := by
      have := (List.getElem?_eq_some_iff.1 hx).1
      rw [flat_size hk] at this
      exact this
    rw [flatK_list hk l' j hj] at hx
    have hjc : j < cur.size := by
      rw [h3]
      exact Nat.lt_of_lt_of_le hj (Nat.mul_le_mul_right _ (by omega))
    have e : (putCells id 0 (flatK enc k l'.toArray) cur)[j]? = some (flatK enc k l'.toArray)[j]! := by
      have h5 : 0 ≤ j ∧ j < 0 + (flatK enc k l'.toArray).size := ⟨Nat.zero_le _, by rw [size_flatK]; simpa using hj⟩
      simp only [putCells, Array.getElem?_mapIdx, Array.getElem?_eq_getElem hjc, Option.map_some, if_pos h5, Nat.sub_zero, id]
    rw [e]
    exact hx
end

/-! ### the closure's contract -/
theorem world_grown {w w' : World} (h1 : w'.os = w.os) (h2 : w'.tape = w.tape) (h3 : w'.output = w.output) (h4 : w.heap.size ≤ w'.heap.size) (h5 : ∀ b, b < w.heap.size → w'.heap[b]? = w.heap[b]?) (h6 : w.drawn ≤ w'.drawn) : ∃ q os', w' = grow (w.drewN q) os' := by
  obtain ⟨hp, tp, dr, o, out⟩ := w
  obtain ⟨hp', tp', dr', o', out'⟩ := w'
  dsimp only at *
  subst h1 h2 h3
  refine ⟨dr' - dr, hp'.extract hp.size hp'.size, ?_⟩
  have e : (World.drewN ⟨hp, tp', dr, o', out'⟩ (dr' - dr)) = ⟨hp, tp', dr + (dr' - dr), o', out'⟩ := by
    rfl
  rw [e]
  unfold grow
  have e2 : hp ++ hp'.extract hp.size hp'.size = hp' := by
    apply Array.ext_getElem?
    intro i
    rw [Array.getElem?_append]
    by_cases hi : i < hp.size
    · rw [if_pos hi]; exact (h5 i hi).symm
    · rw [if_neg hi, Array.getElem?_extract]
      have : hp.size + (i - hp.size) = i := by omega
      by_cases hj : i < hp'.size
      · rw [if_pos (by omega), this]
      · rw [if_neg (by omega), Array.getElem?_eq_none (by omega)]
  dsimp only
  rw [e2]
  congr 1
  omega
abbrev cmpE (t : T) (fn : den t × den t → Option Int) : Entry := ⟨Ds.mk [Vd.st t, Vd.st t] [], Ds.mk [Vd.one (Ld.im (.int .i64))] [], fn⟩
theorem cmp_calls {P : Program} {c : Nat} {t : T} {fn : den t × den t → Option Int} (ft : flat t = true) (hc : Entry.Sound P c (cmpE t fn)) {x y : den t} {z : Int} (h : fn (x, y) = some z) (W : World) :
    Calls P c #[.agg (encC t x).toArray, .agg (encC t y).toArray] W fun e w' => e = .returned (.int .i64 z) ∧ ∃ q os', w' = grow (W.drewN q) os' := by
  have rv : ∀ a : den t, Rv (m0 W) (.ag (Dor.enc t a)) (.agg (encC t a).toArray) := fun a => by
    obtain ⟨s, h1, h2⟩ := At.enc (m := m0 W) t a _ ((at_encC t a _ ft).2 rfl)
    refine ⟨s, ?_, h2⟩
    rw [h1]
    simp [ag, cells]
  have hs : Start (cmpE t fn).pre (x, y) (fun _ => True) W (fun _ => undef) [.agg (encC t x).toArray, .agg (encC t y).toArray] := by
    have hg : givenO (cmpE t fn).pre id (x, y) = [] := rfl
    refine ⟨?_, rv x, rv y, trivial⟩
    refine ⟨rfl, rfl, .refl _, rfl, Nat.le_refl _, fun _ _ _ => rfl, fun b _ => ?_, fun id o hid => ?_, fun id hid => ?_, fun i j hi => ?_⟩
    · rintro ⟨i, hi, _⟩
      rw [hg] at hi
      simp [lives, liveO] at hi
    · rw [hg] at hid; simp at hid
    · rw [hg] at hid; simp [lives, liveO] at hid
    · rw [hg] at hi; simp [lives, liveO] at hi
  refine (hc.out (x, y) z h (fun _ => True) W (fun _ => undef) _ hs).mono fun e w' ⟨vs, g', he, R', hv', _⟩ => ?_
  obtain ⟨v, vs, rfl, h1, h2⟩ := hv'.cons_left
  obtain rfl := h2.nil_left
  have h1 : [v] = [Value.int .i64 z] := h1
  cases h1
  refine ⟨he, world_grown R'.os R'.tape R'.output R'.size (fun b hb => R'.old b hb ?_) R'.drawn.le⟩
  rintro ⟨i, hi, _⟩
  have hg' : lives ([] : Hm) i := hi
  simp [lives, liveO] at hg'

/-! ### the sort -/
noncomputable def sortL {t : T} (cf : den t → den t → Int) (l : List (den t)) : List (den t) :=
  letI : Inhabited (den t) := ⟨dflt t⟩
  (pdq (ltOf cf) l.toArray 0 l.length (Lib.bitLen l.length) true true).toList
theorem sortL_perm {t : T} {cf : den t → den t → Int} (hO : SWO (ltOf cf)) (l : List (den t)) : (sortL cf l).Perm l := by
  letI : Inhabited (den t) := ⟨dflt t⟩
  have h := pdq_sorts (ltOf cf) hO l.toArray 0 l.length (Lib.bitLen l.length) true true (Nat.zero_le _) (by simp) (Or.inl rfl)
  have h1 := h.1.2.2
  have h2 := h.1.1
  have e1 : (l.toArray.extract 0 l.length).toList = l := by simp
  have e2 : ((pdq (ltOf cf) l.toArray 0 l.length (Lib.bitLen l.length) true true).extract 0 l.length).toList = sortL cf l := by
    have h3 : (pdq (ltOf cf) l.toArray 0 l.length (Lib.bitLen l.length) true true).size = l.length := by rw [h2]; simp
    unfold sortL
    generalize pdq (ltOf cf) l.toArray 0 l.length (Lib.bitLen l.length) true true = A at h3 ⊢
    rw [← h3]
    simp
  rw [e1, e2] at h1
  exact h1
theorem sortL_len {t : T} {cf : den t → den t → Int} (hO : SWO (ltOf cf)) (l : List (den t)) : (sortL cf l).length = l.length := (sortL_perm hO l).length_eq
theorem sortL_sorted {t : T} {cf : den t → den t → Int} (hO : SWO (ltOf cf)) (l : List (den t)) : (sortL cf l).Pairwise fun a b => ¬ cf b a < 0 := by
  letI : Inhabited (den t) := ⟨dflt t⟩
  have h := pdq_sorts (ltOf cf) hO l.toArray 0 l.length (Lib.bitLen l.length) true true (Nat.zero_le _) (by simp) (Or.inl rfl)
  have hs : (pdq (ltOf cf) l.toArray 0 l.length (Lib.bitLen l.length) true true).size = l.length := by rw [h.1.1]; simp
  rw [List.pairwise_iff_getElem]
  intro i j hi hj hij
  have hj' : j < l.length := by rw [sortL_len hO] at hj; exact hj
  have h2 := h.2 i j (Nat.zero_le _) hij hj'
  unfold sortL
  rw [getElem!_pos _ j (by rw [hs]; exact hj'), getElem!_pos _ i (by rw [hs]; omega)] at h2
  simp only [ltOf, decide_eq_false_iff_not] at h2
  intro hlt
  refine h2 ?_
  rw [← Array.getElem_toList, ← Array.getElem_toList]
  exact hlt
noncomputable def sortE (t : T) (ty : TypeId) (c : Nat) (cf : den t → den t → Int) : Entry := ⟨Ds.mk [Vd.one (Ld.own 0), Vd.one (Ld.fn c [])] [Od.arr ty t], Ds.mk [] [Od.arr ty t], fun (l : List (den t)) => need (l.length < 4611686018427387904) (some (sortL cf l))⟩
theorem sortK_sound {P : Program} {ρ : Go.Shelf.Ren} (L : SlLaysF0.n6 P ρ) {t : T} {ty : TypeId} {c : Nat} {fn : den t × den t → Option Int} (ft : flat t = true) (hc : Entry.Sound P c (cmpE t fn))
    (cf : den t → den t → Int) (hcf : ∀ x y, fn (x, y) = some (cf x y)) (hO : SWO (ltOf cf)) (aE : ∀ w, (isAgg (ρ.t 24)).run P w = .ok true w) (zE : ∀ w, (Go.sizeOf (ρ.t 24)).run P w = .ok (wid t) w)
    (eg : ∀ args w, (callFunc c args).run P w = .ok (.enter c args) w) : Entry.Sound P (ρ.f 6) (sortE t ty c cf) := ⟨fun (l : List (den t)) y hy S w g vals hst => by
  letI : Inhabited (den t) := ⟨dflt t⟩
  obtain ⟨hsz, hy⟩ := need_some hy
  cases hy
  have hrel := hst.rel
  obtain ⟨v0, vs1, rfl, h0, hv1⟩ := hst.vals.cons_left
  obtain ⟨v1, vs2, rfl, hf, hv2⟩ := hv1.cons_left
  obtain rfl := hv2.nil_left
  obtain ⟨_, hf⟩ := hf
  cases hf
  obtain ⟨_, v, hv, hone, hcells, hlive⟩ := h0
  cases hv
  have live0 : lives (givenO (sortE t ty c cf).pre id l) 0 := rfl
  have hvg : v0 = g 0 := hlive live0
  subst hvg
  obtain ⟨ys, hown, hal⟩ := hrel.obj 0 (.arr ty t l) rfl
  have hys : ys = l.map (encC t) := (al2_map fun x c => at_encC t x c ft).1 hal
  have hk : ∀ x : den t, (encC t x).length = wid t := encC_len ft
  have none_ : ∀ (p : Option Addr) (cap : Nat), g 0 = .slice p 0 cap → l = [] → Calls P (ρ.f 6) [g 0, .func (.func c) #[] #[]].toArray w fun e w' => ∃ vs g', e = .returned (one vs) ∧ Rel (lentOf (givenO (sortE t ty c cf).pre id l) g) S w (givenO (sortE t ty c cf).post id (sortL cf l)) g' w' ∧
      Al2 (Rv (memOf (lentOf (givenO (sortE t ty c cf).pre id l) g) S w (givenO (sortE t ty c cf).post id (sortL cf l)) g' w')) (givenV (sortE t ty c cf).post id (sortL cf l)).1 vs ∧ ∀ i, i < (sortE t ty c cf).pre.objs.length → g' i = g i := by
    intro p cap hp hl
    have hn : sortL cf l = l := by
      have := sortL_len hO l
      rw [hl] at this ⊢
      exact List.eq_nil_of_length_eq_zero this
    rw [hn]
    rw [hp]
    refine (AnyF.slices_SortFunc_none L p cap (.func (.func c) #[] #[]) w).mono fun e w' ⟨he, hw⟩ => ?_
    subst hw
    exact ⟨[], g, he, hrel, trivial, fun _ _ => rfl⟩
  by_cases hl0 : l = []
  · rcases hown.2 with ⟨⟨a, hva, _⟩, _⟩ | ⟨b, cap, cur, fz, hv, _⟩
    · exact none_ a 0 hva hl0
    · rw [hys, hl0] at hv
      exact none_ _ cap hv hl0
  · rcases hown.2 with ⟨_, hn⟩ | ⟨b, cap, cur, fz, hv, hnc, hcm, hgc, hfz, hcs, hx⟩
    · rw [hys] at hn
      exact absurd (List.map_eq_nil_iff.1 hn) hl0
    · rw [hys, List.length_map] at hv hnc
      rw [hys] at hx
      have hpos : 0 < l.length := List.length_pos_iff.2 hl0
      have hc0 : cap ≠ 0 := by omega
      have hfoot : foot (g 0) = some b := by rw [hv]; simp [foot, vfoot, hc0]
      have hH : HoldsK (encC t) (wid t) w b 0 l.toArray := holds_row hk hgc hfz hx
      have hcmp : CmpLays P c #[] (encC t) (wid t) cf b 0 l.toArray.size w := fun m os dk _ x y => cmp_calls ft hc (hcf x y) _
      have key := AnyQ.slices_SortFunc_eq L (wid t) aE zE (encC t) hk (encC_one ft) cf hO c #[] b 0 cap l.toArray w eg hcmp hH (heap_lt hgc) (by simpa using hsz)
      have hsl : (pdq (ltOf cf) l.toArray 0 l.toArray.size (Lib.bitLen l.toArray.size) true true) = (sortL cf l).toArray := by
        have : l.toArray.size = l.length := by simp
        rw [this]
        unfold sortL
        simp
      rw [hsl] at key
      have key' : Calls P (ρ.f 6) [g 0, .func (.func c) #[] #[]].toArray w fun e w' => e = .returned (.tuple #[]) ∧ ∃ n os, w' = sortWorldK (encC t) (wid t) w b 0 n (sortL cf l).toArray os := by
        rw [hv]
        have : l.toArray.size = l.length := by simp
        rw [this] at key
        exact key
      refine key'.mono fun e w' ⟨he, n, os, hw⟩ => ?_
      have hO' : Own w' (g 0) ty (wid t) ((sortL cf l).map (encC t)) := by
        rw [hw, hv]
        exact own_sortedK hk (sortL_len hO l) hgc hnc hcm hcs hfz
      have hdr : Dr w w' := .of (by rw [hw]; exact Nat.le_add_right _ _)
      have hs := hrel.set (id := 0) live0 (.arr ty t (sortL cf l)) (w' := w') (by rw [hfoot, hw]; exact grown_sortedK _) fun le => ⟨_, hO', (al2_map fun x c => at_encC t x c ft).2 rfl⟩
      exact ⟨[], g, he, hs.1, trivial, fun _ _ => rfl⟩⟩
end Go.Dor
end

section
/- slices.SortFunc AS AN ENTRY, AT ELEMENTS OF ONE CELL. Plain lemmas over any program that bears it. -/
set_option linter.unusedVariables false
set_option linter.unusedSimpArgs false
namespace Go.Dor
open Go.Proofs Go.Shelf Go.Sort

def enc1 : (t : T) → den t → Value
  | .int k, n => .int k n
  | .bool, x => .bool x
  | .str, l => sv l
  | .flt k, n => .float k n
  | _, _ => .nilFunc
theorem at_enc1 {w : World} {I : Nat → Prop} {t : T} (ht : scalT t = true) (x : den t) (c : List Value) : At w I t x c ↔ c = [enc1 t x] := by
  cases t <;> simp only [scalT] at ht <;> first | exact Iff.rfl | cases ht
theorem enc1_one {t : T} (ht : scalT t = true) (x : den t) : (enc1 t x).oneCell' = true := by
  cases t <;> simp only [scalT] at ht <;> first | rfl | cases ht
theorem wid_scal {t : T} (ht : scalT t = true) : wid t = 1 := by
  cases t <;> simp only [scalT] at ht <;> first | rfl | cases ht
theorem enc_scal {m : Mem} {t : T} (ht : scalT t = true) (x : den t) : Rv m (.one (giveL ⟨t, x⟩)) (enc1 t x) := by
  cases t <;> simp only [scalT] at ht <;> first | rfl | cases ht

/-! ### a row of single cells is a row of cells -/
section
variable {α : Type} [Inhabited α] {f : α → Value}
theorem get_flat1 (d : Array α) (j : Nat) (h : j < d.size) : (flatK (fun x => [f x]) 1 d)[j]! = f d[j]! := by
  rw [get_flatK _ _ _ _ (by omega), Nat.div_one, Nat.mod_one]
  simp
theorem putRow_one (w : World) (b off : Nat) (d : Array α) : putRowK (fun x => [f x]) 1 w b off d = putRow f w b off d := by
  unfold putRowK putRow
  congr 1
  funext c
  unfold putCells
  apply Array.ext
  · simp
  · intro i h1 h2
    simp only [Array.getElem_mapIdx, size_flatK, Nat.mul_one]
    split
    · rename_i h
      rw [get_flat1 d (i - off) (by omega)]
      rfl
    · rfl
theorem sortWorld_one (w : World) (b off n : Nat) (d : Array α) (os : Array Obj) : sortWorldK (fun x => [f x]) 1 w b off n d os = sortWorld f w b off n d os := by
  unfold sortWorldK sortWorld
  rw [putRow_one]
theorem holds_one {w : World} {b off : Nat} {d : Array α} (h : HoldsK (fun x => [f x]) 1 w b off d) : Holds f w b off d := by
  intro j hj
  have h1 := h j (by simpa using hj)
  rw [get_flat1 d j hj] at h1
  exact h1
end

abbrev cmp1E (t : T) (fn : den t × den t → Option Int) : Entry := ⟨Ds.mk [Vd.one (Ld.im t), Vd.one (Ld.im t)] [], Ds.mk [Vd.one (Ld.im (.int .i64))] [], fn⟩
theorem cmp1_calls {P : Program} {c : Nat} {t : T} {fn : den t × den t → Option Int} (ht : scalT t = true) (hc : Entry.Sound P c (cmp1E t fn)) {x y : den t} {z : Int} (h : fn (x, y) = some z) (W : World) :
    Calls P c #[enc1 t x, enc1 t y] W fun e w' => e = .returned (.int .i64 z) ∧ ∃ q os', w' = grow (W.drewN q) os' := by
  have hs : Start (cmp1E t fn).pre (x, y) (fun _ => True) W (fun _ => undef) [enc1 t x, enc1 t y] := by
    have hg : givenO (cmp1E t fn).pre id (x, y) = [] := rfl
    refine ⟨?_, enc_scal ht x, enc_scal ht y, trivial⟩
    refine ⟨rfl, rfl, .refl _, rfl, Nat.le_refl _, fun _ _ _ => rfl, fun b _ => ?_, fun id o hid => ?_, fun id hid => ?_, fun i j hi => ?_⟩
    · rintro ⟨i, hi, _⟩
      rw [hg] at hi
      simp [lives, liveO] at hi
    · rw [hg] at hid; simp at hid
    · rw [hg] at hid; simp [lives, liveO] at hid
    · rw [hg] at hi; simp [lives, liveO] at hi
  refine (hc.out (x, y) z h (fun _ => True) W (fun _ => undef) _ hs).mono fun e w' ⟨vs, g', he, R', hv', _⟩ => ?_
  obtain ⟨v, vs, rfl, h1, h2⟩ := hv'.cons_left
  obtain rfl := h2.nil_left
  have h1 : [v] = [Value.int .i64 z] := h1
  cases h1
  refine ⟨he, world_grown R'.os R'.tape R'.output R'.size (fun b hb => R'.old b hb ?_) R'.drawn.le⟩
  rintro ⟨i, hi, _⟩
  have hg' : lives ([] : Hm) i := hi
  simp [lives, liveO] at hg'

theorem sort1_sound {P : Program} {ρ : Go.Shelf.Ren} (L : SlLaysF.n6 P ρ) {t : T} {ty : TypeId} {c : Nat} {fn : den t × den t → Option Int} (ht : scalT t = true) (hc : Entry.Sound P c (cmp1E t fn))
    (cf : den t → den t → Int) (hcf : ∀ x y, fn (x, y) = some (cf x y)) (hO : SWO (ltOf cf))
    (eg : ∀ args w, (callFunc c args).run P w = .ok (.enter c args) w) : Entry.Sound P (ρ.f 6) (sortE t ty c cf) := ⟨fun (l : List (den t)) y hy S w g vals hst => by
  letI : Inhabited (den t) := ⟨dflt t⟩
  obtain ⟨hsz, hy⟩ := need_some hy
  cases hy
  have hrel := hst.rel
  obtain ⟨v0, vs1, rfl, h0, hv1⟩ := hst.vals.cons_left
  obtain ⟨v1, vs2, rfl, hf, hv2⟩ := hv1.cons_left
  obtain rfl := hv2.nil_left
  obtain ⟨_, hf⟩ := hf
  cases hf
  obtain ⟨_, v, hv, hone, hcells, hlive⟩ := h0
  cases hv
  have live0 : lives (givenO (sortE t ty c cf).pre id l) 0 := rfl
  have hvg : v0 = g 0 := hlive live0
  subst hvg
  obtain ⟨ys, hown, hal⟩ := hrel.obj 0 (.arr ty t l) rfl
  have hys : ys = l.map (fun x => [enc1 t x]) := (al2_map fun x c => at_enc1 ht x c).1 hal
  have hk : ∀ x : den t, ((fun x => [enc1 t x]) x).length = 1 := fun _ => rfl
  have hw1 : wid t = 1 := wid_scal ht
  have L0 : SlLaysF0.n6 P ρ := { L with }
  have none_ : ∀ (p : Option Addr) (cap : Nat), g 0 = .slice p 0 cap → l = [] → Calls P (ρ.f 6) [g 0, .func (.func c) #[] #[]].toArray w fun e w' => ∃ vs g', e = .returned (one vs) ∧ Rel (lentOf (givenO (sortE t ty c cf).pre id l) g) S w (givenO (sortE t ty c cf).post id (sortL cf l)) g' w' ∧
      Al2 (Rv (memOf (lentOf (givenO (sortE t ty c cf).pre id l) g) S w (givenO (sortE t ty c cf).post id (sortL cf l)) g' w')) (givenV (sortE t ty c cf).post id (sortL cf l)).1 vs ∧ ∀ i, i < (sortE t ty c cf).pre.objs.length → g' i = g i := by
    intro p cap hp hl
    have hn : sortL cf l = l := by
      have := sortL_len hO l
      rw [hl] at this ⊢
      exact List.eq_nil_of_length_eq_zero this
    rw [hn]
    rw [hp]
    refine (AnyF.slices_SortFunc_none L0 p cap (.func (.func c) #[] #[]) w).mono fun e w' ⟨he, hw⟩ => ?_
    subst hw
    exact ⟨[], g, he, hrel, trivial, fun _ _ => rfl⟩
  by_cases hl0 : l = []
  · rcases hown.2 with ⟨⟨a, hva, _⟩, _⟩ | ⟨b, cap, cur, fz, hv, _⟩
    · exact none_ a 0 hva hl0
    · rw [hys, hl0] at hv
      exact none_ _ cap hv hl0
  · rcases hown.2 with ⟨_, hn⟩ | ⟨b, cap, cur, fz, hv, hnc, hcm, hgc, hfz, hcs, hx⟩
    · rw [hys] at hn
      exact absurd (List.map_eq_nil_iff.1 hn) hl0
    · rw [hys, List.length_map] at hv hnc
      rw [hys] at hx
      rw [hw1] at hcs
      have hpos : 0 < l.length := List.length_pos_iff.2 hl0
      have hc0 : cap ≠ 0 := by omega
      have hfoot : foot (g 0) = some b := by rw [hv]; simp [foot, vfoot, hc0]
      have hH : HoldsK (fun x => [enc1 t x]) 1 w b 0 l.toArray := holds_row hk hgc hfz hx
      have hcmp : CmpLays1 P c #[] (enc1 t) cf b 0 l.toArray.size w := fun m os dk _ x y => cmp1_calls ht hc (hcf x y) _
      have key := Any.slices_SortFunc_eq L (enc1 t) (enc1_one ht) cf hO c #[] b 0 cap l.toArray w eg hcmp (holds_one hH) (heap_lt hgc) (by simpa using hsz)
      have hsl : (pdq (ltOf cf) l.toArray 0 l.toArray.size (Lib.bitLen l.toArray.size) true true) = (sortL cf l).toArray := by
        have : l.toArray.size = l.length := by simp
        rw [this]
        unfold sortL
        simp
      rw [hsl] at key
      have key' : Calls P (ρ.f 6) [g 0, .func (.func c) #[] #[]].toArray w fun e w' => e = .returned (.tuple #[]) ∧ ∃ n os, w' = sortWorldK (fun x => [enc1 t x]) 1 w b 0 n (sortL cf l).toArray os := by
        rw [hv]
        have : l.toArray.size = l.length := by simp
        rw [this] at key
        refine key.mono fun e w' ⟨he, n, os, hw⟩ => ⟨he, n, os, ?_⟩
        rw [hw, sortWorld_one]
      refine key'.mono fun e w' ⟨he, n, os, hw⟩ => ?_
      have hO' : Own w' (g 0) ty (wid t) ((sortL cf l).map (fun x => [enc1 t x])) := by
        rw [hw, hv, hw1]
        exact own_sortedK hk (sortL_len hO l) hgc hnc hcm hcs hfz
      have hdr : Dr w w' := .of (by rw [hw]; exact Nat.le_add_right _ _)
      have hs := hrel.set (id := 0) live0 (.arr ty t (sortL cf l)) (w' := w') (by rw [hfoot, hw]; exact grown_sortedK _) fun le => ⟨_, hO', (al2_map fun x c => at_enc1 ht x c).2 rfl⟩
      exact ⟨[], g, he, hs.1, trivial, fun _ _ => rfl⟩⟩
end Go.Dor
end

section
/- THE SHELF's CONTRACTS FOR GENERIC FUNCTIONS, LAID AT THIS PROGRAM: the numbers of its functions and types, and that they are what the contracts speak of. -/
namespace Go.Proofs
open Go.Shelf

def Try.laysSort1_ren : Go.Shelf.Ren := ⟨fun | 6 => 42 | 15 => 52 | 14 => 51 | 28 => 62 | 29 => 63 | 20 => 54 | 21 => 55 | 22 => 56 | 23 => 57 | 24 => 58 | 25 => 59 | 26 => 60 | 27 => 61 | 46 => 64 | 47 => 65 | 48 => 66 | 49 => 67 | 50 => 68 | 57 => 69 | n => n, fun | 22 => 24 | 24 => 28 | 25 => 59 | 3 => 3 | 39 => 63 | 0 => 0 | 53 => 74 | 55 => 47 | 4 => 4 | 46 => 67 | 45 => 66 | 50 => 71 | 5 => 5 | 9 => 9 | 66 => 76 | 70 => 80 | 76 => 82 | 77 => 83 | n => n, fun | n => n⟩
theorem Try.laysSort1 : Go.Proofs.SlLaysF.n6 Try.prog Try.laysSort1_ren :=
  {
    mixed := by kernel_rfl,
    f6 := ⟨"slices.SortFunc[[]float64,float64]", by decide, Try.func42.trans (congrArg some (by kernel_rfl))⟩,
    f14 := ⟨"slices.pdqsortCmpFunc[float64]", by decide, Try.func51.trans (congrArg some (by kernel_rfl))⟩,
    f15 := Try.func52.trans (congrArg some (by kernel_rfl)),
    f20 := ⟨"slices.insertionSortCmpFunc[float64]", by decide, Try.func54.trans (congrArg some (by kernel_rfl))⟩,
    f21 := ⟨"slices.heapSortCmpFunc[float64]", by decide, Try.func55.trans (congrArg some (by kernel_rfl))⟩,
    f22 := ⟨"slices.breakPatternsCmpFunc[float64]", by decide, Try.func56.trans (congrArg some (by kernel_rfl))⟩,
    f23 := ⟨"slices.choosePivotCmpFunc[float64]", by decide, Try.func57.trans (congrArg some (by kernel_rfl))⟩,
    f24 := ⟨"slices.reverseRangeCmpFunc[float64]", by decide, Try.func58.trans (congrArg some (by kernel_rfl))⟩,
    f25 := ⟨"slices.partialInsertionSortCmpFunc[float64]", by decide, Try.func59.trans (congrArg some (by kernel_rfl))⟩,
    f26 := ⟨"slices.partitionEqualCmpFunc[float64]", by decide, Try.func60.trans (congrArg some (by kernel_rfl))⟩,
    f27 := ⟨"slices.partitionCmpFunc[float64]", by decide, Try.func61.trans (congrArg some (by kernel_rfl))⟩,
    f28 := Try.func62.trans (congrArg some (by kernel_rfl)),
    f29 := Try.func63.trans (congrArg some (by kernel_rfl)),
    f46 := ⟨"slices.siftDownCmpFunc[float64]", by decide, Try.func64.trans (congrArg some (by kernel_rfl))⟩,
    f47 := Try.func65.trans (congrArg some (by kernel_rfl)),
    f48 := Try.func66.trans (congrArg some (by kernel_rfl)),
    f49 := ⟨"slices.medianAdjacentCmpFunc[float64]", by decide, Try.func67.trans (congrArg some (by kernel_rfl))⟩,
    f50 := ⟨"slices.medianCmpFunc[float64]", by decide, Try.func68.trans (congrArg some (by kernel_rfl))⟩,
    f57 := ⟨"slices.order2CmpFunc[float64]", by decide, Try.func69.trans (congrArg some (by kernel_rfl))⟩,
    t0 := Try.underlying0,
    a0 := Try.isAgg0,
    z0 := Try.sizeOf0,
    v0 := Try.zeroValue0,
    t3 := Try.underlying3,
    a3 := Try.isAgg3,
    z3 := Try.sizeOf3,
    v3 := Try.zeroValue3,
    t4 := Try.underlying4,
    a4 := Try.isAgg4,
    z4 := Try.sizeOf4,
    v4 := Try.zeroValue4,
    t5 := Try.underlying5,
    a5 := Try.isAgg5,
    z5 := Try.sizeOf5,
    v5 := Try.zeroValue5,
    t9 := Try.underlying9,
    a9 := Try.isAgg9,
    z9 := Try.sizeOf9,
    v9 := Try.zeroValue9,
    t22 := Try.underlying24,
    a22 := Try.isAgg24,
    z22 := Try.sizeOf24,
    v22 := Try.zeroValue24,
    a24 := Try.isAgg28,
    z24 := Try.sizeOf28,
    t25 := Try.underlying59,
    a25 := Try.isAgg59,
    z25 := Try.sizeOf59,
    v25 := Try.zeroValue59,
    t39 := Try.underlying63,
    a39 := Try.isAgg63,
    z39 := Try.sizeOf63,
    v39 := Try.zeroValue63,
    t45 := Try.underlying66,
    a45 := Try.isAgg66,
    z45 := Try.sizeOf66,
    v45 := Try.zeroValue66,
    t46 := Try.underlying67,
    a46 := Try.isAgg67,
    z46 := Try.sizeOf67,
    v46 := Try.zeroValue67,
    t50 := Try.underlying71,
    a50 := Try.isAgg71,
    z50 := Try.sizeOf71,
    v50 := Try.zeroValue71,
    t53 := Try.underlying74,
    a53 := Try.isAgg74,
    z53 := Try.sizeOf74,
    v53 := Try.zeroValue74,
    t55 := Try.underlying47,
    a55 := Try.isAgg47,
    z55 := Try.sizeOf47,
    v55 := Try.zeroValue47,
    t66 := Try.underlying76,
    a66 := Try.isAgg76,
    z66 := Try.sizeOf76,
    v66 := Try.zeroValue76,
    t70 := Try.underlying80,
    a70 := Try.isAgg80,
    z70 := Try.sizeOf80,
    v70 := Try.zeroValue80,
    t76 := Try.underlying82,
    a76 := Try.isAgg82,
    z76 := Try.sizeOf82,
    v76 := Try.zeroValue82,
    t77 := Try.underlying83,
    a77 := Try.isAgg83,
    z77 := Try.sizeOf83,
    v77 := Try.zeroValue83 }
end Go.Proofs
end

section
/- The functions that the law calls, as the machine shows them. -/
namespace Go.Dor
open Go.Proofs
set_option maxRecDepth 100000
set_option linter.unusedVariables false
noncomputable section
theorem x_mo : Try.prog.follows .mixedOrders = true := by kernel_rfl
theorem x_ext28 : ExternOf Try.prog 28 (externFn 2) := ⟨⟨_, Try.func28, by kernel_rfl, by kernel_rfl, by kernel_rfl, by kernel_rfl⟩⟩
theorem x_ext38 : ExternOf Try.prog 38 (externFn 3) := ⟨⟨_, Try.func38, by kernel_rfl, by kernel_rfl, by kernel_rfl, by kernel_rfl⟩⟩
theorem x_ext : ∀ f kd, findA [(28, 2), (38, 3)] f = some kd → ExternOf Try.prog f (externFn kd) := (ext_cons (kd := 2) x_ext28 (ext_cons (kd := 3) x_ext38 ext_nil))

/- dormouse/gauge.Bits: function 49 -/
noncomputable def p_gauge_Bits (x6 : Nat) : Option Int :=
  some (↑x6 : Int)
noncomputable def e_gauge_Bits : Entry := ⟨Ds.mk [Vd.one (Ld.im (T.flt Go.FloatKind.f64))] [], Ds.mk [Vd.one (Ld.im (T.int IntKind.u64))] [], fun x => p_gauge_Bits x⟩
noncomputable def c_gauge_Bits : Cx := ⟨Try.prog, [], [], [], [], [], 0, 5, [(28, 2), (38, 3)], fun _ _ _ => none⟩
theorem q_gauge_Bits (x : HL (e_gauge_Bits).pre.ts) : runF (c_gauge_Bits) 0 Try.f49 (e_gauge_Bits).pre (e_gauge_Bits).post x = (e_gauge_Bits).fn x := by kernel_rfl
theorem s_gauge_Bits : Entry.Sound Try.prog 49 (e_gauge_Bits) := runF_sound (X := c_gauge_Bits) (pre := (e_gauge_Bits).pre) (post := (e_gauge_Bits).post) (q := (e_gauge_Bits).fn) ⟨dOk_nil, x_ext, x_mo⟩ Try.func49 (q_gauge_Bits)

/- dormouse/gauge.Key: function 45 -/
noncomputable def p_gauge_Key (x8 : Nat) : Option Int :=
  Option.bind (p_gauge_Bits x8) fun t9 => bif (iand IntKind.u64 t9 (9223372036854775808 : Int) != (0 : Int)) then some (inot IntKind.u64 t9) else some (ior IntKind.u64 t9 (9223372036854775808 : Int))
noncomputable def e_gauge_Key : Entry := ⟨Ds.mk [Vd.one (Ld.im (T.flt Go.FloatKind.f64))] [], Ds.mk [Vd.one (Ld.im (T.int IntKind.u64))] [], fun x => p_gauge_Key x⟩
noncomputable def c_gauge_Key : Cx := ⟨Try.prog, [(49, e_gauge_Bits)], [], [], [], [], 0, 13, [(28, 2), (38, 3)], fun _ _ _ => none⟩
theorem q_gauge_Key (x : HL (e_gauge_Key).pre.ts) : runF (c_gauge_Key) 0 Try.f45 (e_gauge_Key).pre (e_gauge_Key).post x = (e_gauge_Key).fn x := by kernel_rfl
theorem s_gauge_Key : Entry.Sound Try.prog 45 (e_gauge_Key) := runF_sound (X := c_gauge_Key) (pre := (e_gauge_Key).pre) (post := (e_gauge_Key).post) (q := (e_gauge_Key).fn) ⟨(dOk_cons (s_gauge_Bits) dOk_nil), x_ext, x_mo⟩ Try.func45 (q_gauge_Key)

/- cmp.isNaN[uint64]: function 53 -/
noncomputable def p_cmp_isNaN_uint64 (x19 : Int) : Option Bool :=
  some (x19 != x19)
noncomputable def e_cmp_isNaN_uint64 : Entry := ⟨Ds.mk [Vd.one (Ld.im (T.int IntKind.u64))] [], Ds.mk [Vd.one (Ld.im T.bool)] [], fun x => p_cmp_isNaN_uint64 x⟩
noncomputable def c_cmp_isNaN_uint64 : Cx := ⟨Try.prog, [], [], [], [], [], 0, 6, [(28, 2), (38, 3)], fun _ _ _ => none⟩
theorem q_cmp_isNaN_uint64 (x : HL (e_cmp_isNaN_uint64).pre.ts) : runF (c_cmp_isNaN_uint64) 0 Try.f53 (e_cmp_isNaN_uint64).pre (e_cmp_isNaN_uint64).post x = (e_cmp_isNaN_uint64).fn x := by kernel_rfl
theorem s_cmp_isNaN_uint64 : Entry.Sound Try.prog 53 (e_cmp_isNaN_uint64) := runF_sound (X := c_cmp_isNaN_uint64) (pre := (e_cmp_isNaN_uint64).pre) (post := (e_cmp_isNaN_uint64).post) (q := (e_cmp_isNaN_uint64).fn) ⟨dOk_nil, x_ext, x_mo⟩ Try.func53 (q_cmp_isNaN_uint64)

/- cmp.Compare[uint64]: function 44 -/
noncomputable def p_cmp_Compare_uint64 (x21 : Int) (x22 : Int) : Option Int :=
  Option.bind (p_cmp_isNaN_uint64 x21) fun t23 => Option.bind (p_cmp_isNaN_uint64 x22) fun t24 => bif t23 then bif t24 then some (0 : Int) else some (-1 : Int) else bif t24 then some (1 : Int) else bif (decide (x21 < x22)) then some (-1 : Int) else bif (decide (x21 > x22)) then some (1 : Int) else some (0 : Int)
noncomputable def e_cmp_Compare_uint64 : Entry := ⟨Ds.mk [Vd.one (Ld.im (T.int IntKind.u64)), Vd.one (Ld.im (T.int IntKind.u64))] [], Ds.mk [Vd.one (Ld.im (T.int IntKind.i64))] [], fun x => p_cmp_Compare_uint64 x.1 x.2⟩
noncomputable def c_cmp_Compare_uint64 : Cx := ⟨Try.prog, [(53, e_cmp_isNaN_uint64)], [], [], [], [], 0, 20, [(28, 2), (38, 3)], fun _ _ _ => none⟩
theorem q_cmp_Compare_uint64 (x : HL (e_cmp_Compare_uint64).pre.ts) : runF (c_cmp_Compare_uint64) 0 Try.f44 (e_cmp_Compare_uint64).pre (e_cmp_Compare_uint64).post x = (e_cmp_Compare_uint64).fn x := by kernel_rfl
theorem s_cmp_Compare_uint64 : Entry.Sound Try.prog 44 (e_cmp_Compare_uint64) := runF_sound (X := c_cmp_Compare_uint64) (pre := (e_cmp_Compare_uint64).pre) (post := (e_cmp_Compare_uint64).post) (q := (e_cmp_Compare_uint64).fn) ⟨(dOk_cons (s_cmp_isNaN_uint64) dOk_nil), x_ext, x_mo⟩ Try.func44 (q_cmp_Compare_uint64)

/- dormouse/gauge.Sort$1: function 43 -/
noncomputable def p_gauge_Sort_c1 (x26 : Nat) (x27 : Nat) : Option Int :=
  Option.bind (p_gauge_Key x26) fun t28 => Option.bind (p_gauge_Key x27) fun t29 => Option.bind (p_cmp_Compare_uint64 t28 t29) fun t30 => some t30
noncomputable def e_gauge_Sort_c1 : Entry := ⟨Ds.mk [Vd.one (Ld.im (T.flt Go.FloatKind.f64)), Vd.one (Ld.im (T.flt Go.FloatKind.f64))] [], Ds.mk [Vd.one (Ld.im (T.int IntKind.i64))] [], fun x => p_gauge_Sort_c1 x.1 x.2⟩
noncomputable def c_gauge_Sort_c1 : Cx := ⟨Try.prog, [(45, e_gauge_Key), (44, e_cmp_Compare_uint64)], [], [], [], [], 0, 10, [(28, 2), (38, 3)], fun _ _ _ => none⟩
theorem q_gauge_Sort_c1 (x : HL (e_gauge_Sort_c1).pre.ts) : runF (c_gauge_Sort_c1) 0 Try.f43 (e_gauge_Sort_c1).pre (e_gauge_Sort_c1).post x = (e_gauge_Sort_c1).fn x := by kernel_rfl
theorem s_gauge_Sort_c1 : Entry.Sound Try.prog 43 (e_gauge_Sort_c1) := runF_sound (X := c_gauge_Sort_c1) (pre := (e_gauge_Sort_c1).pre) (post := (e_gauge_Sort_c1).post) (q := (e_gauge_Sort_c1).fn) ⟨(dOk_cons (s_gauge_Key) (dOk_cons (s_cmp_Compare_uint64) dOk_nil)), x_ext, x_mo⟩ Try.func43 (q_gauge_Sort_c1)
end
end Go.Dor
end

section
/- slices.SortFunc AT THIS PROGRAM's NUMBERS, with its comparison. -/
set_option linter.unusedVariables false
set_option linter.unusedSimpArgs false
namespace Go.Dor
open Go.Proofs Go.Shelf Go.Sort

def cmpN (a b : Int) : Int := if a < b then -1 else if a > b then 1 else 0
theorem cmpN_lt (a b : Int) : (cmpN a b < 0) ↔ a < b := by
  unfold cmpN
  split
  · rename_i h; simp [h]
  · rename_i h
    split <;> simp [h]
theorem swo_key {α : Type} (f : α → Int) : SWO (ltOf fun x y => cmpN (f x) (f y)) := by
  have e : ∀ x y, ltOf (fun x y => cmpN (f x) (f y)) x y = decide (f x < f y) := fun x y => by
    simp only [ltOf, cmpN_lt]
  refine ⟨fun x => ?_, fun x y z h1 h2 => ?_, fun x y z h1 h2 => ?_⟩
  · rw [e]; simp
  · rw [e] at h1 h2 ⊢
    simp only [decide_eq_true_eq] at h1 h2 ⊢
    omega
  · rw [e] at h1 h2 ⊢
    simp only [decide_eq_false_iff_not] at h1 h2 ⊢
    omega
/-- the place of a number in the order of all -/
noncomputable def keyF (x : Nat) : Int := (p_gauge_Key x).getD 0
theorem key_eq (x : Nat) : p_gauge_Key x = some (keyF x) := by
  unfold keyF p_gauge_Key p_gauge_Bits
  simp only [Option.bind_some]
  cases (iand IntKind.u64 (↑x : Int) (9223372036854775808 : Int) != (0 : Int)) <;> rfl
noncomputable def cfF (x y : Nat) : Int := cmpN (keyF x) (keyF y)
theorem compareU_eq (a b : Int) : p_cmp_Compare_uint64 a b = some (cmpN a b) := by
  unfold p_cmp_Compare_uint64 p_cmp_isNaN_uint64 cmpN
  simp only [bne_self_eq_false, Option.bind_some, cond_false]
  by_cases h : a < b
  · simp [h]
  · by_cases h2 : a > b
    · simp [h, h2]
    · simp [h, h2]
theorem cF_eq (x y : Nat) : p_gauge_Sort_c1 x y = some (cfF x y) := by
  unfold p_gauge_Sort_c1
  simp only [key_eq, compareU_eq, Option.bind_some]
  rfl
theorem swoF : SWO (ltOf cfF) := swo_key keyF
noncomputable def p_sort_43 (l : List Nat) : Option (List Nat) := need (l.length < 4611686018427387904) (some (sortL (t := .flt .f64) cfF l))
noncomputable def e_sort_43 : Entry := ⟨Ds.mk [Vd.one (Ld.own 0), Vd.one (Ld.fn 43 [])] [Od.arr 28 (.flt .f64)], Ds.mk [] [Od.arr 28 (.flt .f64)], fun l => p_sort_43 l⟩
set_option maxRecDepth 100000 in
theorem s_sort_43 : Entry.Sound Try.prog 42 e_sort_43 :=
  sort1_sound (ty := 28) (c := 43) Try.laysSort1 (t := .flt .f64) rfl s_gauge_Sort_c1 cfF (fun x y => cF_eq x y) swoF (enters_of Try.func43 (by kernel_rfl) rfl)
end Go.Dor
end

section
/- The functions that the law calls, as the machine shows them. -/
namespace Go.Dor
open Go.Proofs
set_option maxRecDepth 100000
set_option linter.unusedVariables false
noncomputable section

/- dormouse/stat.Lengths: function 6 -/
noncomputable def p_stat_Lengths.j0 (k : Nat) (x22 : List Nat) : Option (List Nat) :=
  some x22
noncomputable def p_stat_Lengths.j2 (k : Nat) (rec20 : List (Int × List UInt8) × Int × Int × List Nat → Option (List Nat)) (x14 : List (Int × List UInt8)) (x15 : Int) (x16 : Int) (x17 : List Nat) : Option (List Nat) :=
  rec20 (x14, x15, IntKind.wrap IntKind.i64 (x16 + (1 : Int)), x17)
noncomputable def p_stat_Lengths.b1 (k : Nat) (j23 : List Nat → Option (List Nat)) (rec20 : List (Int × List UInt8) × Int × Int × List Nat → Option (List Nat)) (x8 : List (Int × List UInt8)) (x9 : Int) (x10 : Int) (x11 : List Nat) : Option (List Nat) :=
  bif (decide (x10 < x9)) then joinC (fun (y : List (Int × List UInt8) × Int × Int × List Nat) => p_stat_Lengths.j2 k rec20 y.1 y.2.1 y.2.2.1 y.2.2.2) fun (j18 : List (Int × List UInt8) × Int × Int × List Nat → Option (List Nat)) => need ((0 : Int) ≤ x10 ∧ x10 < (↑(List.length x8) : Int)) (bif (Prod.fst (at_ (dflt (T.pair (T.int IntKind.i64) T.str)) x8 x10) == (0 : Int)) then need ((List.length x11 + List.length [flNear Go.FloatKind.f64 (↑(List.length (Prod.snd (at_ (dflt (T.pair (T.int IntKind.i64) T.str)) x8 x10))) : Int)]) * 8 ≤ (140737488355328 : Nat)) (j18 (x8, x9, x10, x11 ++ [flNear Go.FloatKind.f64 (↑(List.length (Prod.snd (at_ (dflt (T.pair (T.int IntKind.i64) T.str)) x8 x10))) : Int)])) else j18 (x8, x9, x10, x11)) else j23 x11
noncomputable def p_stat_Lengths (k : Nat) (x7 : List (Int × List UInt8)) : Option (List Nat) :=
  joinC (p_stat_Lengths.j0 k) fun (j23 : List Nat → Option (List Nat)) => loopC (fun (r : List (Int × List UInt8) × Int × Int × List Nat → Option (List Nat)) y => p_stat_Lengths.b1 k j23 r y.1 y.2.1 y.2.2.1 y.2.2.2) k (x7, (↑(List.length x7) : Int), (0 : Int), [])
noncomputable def e_stat_Lengths (k : Nat) : Entry := ⟨Ds.mk [Vd.one (Ld.im (T.sl (T.pair (T.int IntKind.i64) T.str)))] [], Ds.mk [Vd.one (Ld.own (0))] [Od.arr (28) (T.flt Go.FloatKind.f64)], fun x => p_stat_Lengths k x⟩
noncomputable def c_stat_Lengths (k : Nat) : Cx := ⟨Try.prog, [], [(7, Sd.mk [3, 6, 7, 8] (Ds.mk [Vd.one (Ld.own (0)), Vd.one (Ld.im (T.sl (T.pair (T.int IntKind.i64) T.str))), Vd.one (Ld.im (T.int IntKind.i64)), Vd.one (Ld.im (T.int IntKind.i64))] [Od.arr (28) (T.flt Go.FloatKind.f64)])), (8, Sd.mk [3] (Ds.mk [Vd.one (Ld.own (0))] [Od.arr (28) (T.flt Go.FloatKind.f64)]))], [], [(3, Sd.mk [3, 6, 7, 8] (Ds.mk [Vd.one (Ld.own (0)), Vd.one (Ld.im (T.sl (T.pair (T.int IntKind.i64) T.str))), Vd.one (Ld.im (T.int IntKind.i64)), Vd.one (Ld.im (T.int IntKind.i64))] [Od.arr (28) (T.flt Go.FloatKind.f64)]))], [], 0, 24, [(28, 2), (38, 3)], fun _ _ _ => none⟩
theorem q_stat_Lengths (k : Nat) (x : HL (e_stat_Lengths k).pre.ts) : runF (c_stat_Lengths k) k Try.f6 (e_stat_Lengths k).pre (e_stat_Lengths k).post x = (e_stat_Lengths k).fn x := by kernel_rfl
theorem s_stat_Lengths (k : Nat) : Entry.Sound Try.prog 6 (e_stat_Lengths k) := runF_sound (X := c_stat_Lengths k) (pre := (e_stat_Lengths k).pre) (post := (e_stat_Lengths k).post) (q := (e_stat_Lengths k).fn) ⟨dOk_nil, x_ext, x_mo⟩ Try.func6 (q_stat_Lengths k)

/- math.NaN: function 24 -/
noncomputable def p_math_NaN : Option Nat :=
  some (9221120237041090561)
noncomputable def e_math_NaN : Entry := ⟨Ds.mk [] [], Ds.mk [Vd.one (Ld.im (T.flt Go.FloatKind.f64))] [], fun x => p_math_NaN⟩
noncomputable def c_math_NaN : Cx := ⟨Try.prog, [], [], [], [], [], 0, 2, [(28, 2), (38, 3)], fun _ _ _ => none⟩
theorem q_math_NaN (x : HL (e_math_NaN).pre.ts) : runF (c_math_NaN) 0 Try.f24 (e_math_NaN).pre (e_math_NaN).post x = (e_math_NaN).fn x := by kernel_rfl
theorem s_math_NaN : Entry.Sound Try.prog 24 (e_math_NaN) := runF_sound (X := c_math_NaN) (pre := (e_math_NaN).pre) (post := (e_math_NaN).post) (q := (e_math_NaN).fn) ⟨dOk_nil, x_ext, x_mo⟩ Try.func24 (q_math_NaN)

/- slices.Clone[[]float64,float64]: function 31 -/
noncomputable def p_slices_Clone_float64_float64.j0 (x86 : List Nat) (x87 : Bool) : Option (List Nat) :=
  bif x87 then some [] else need ((0 + List.length x86) * 8 ≤ (140737488355328 : Nat)) (some ([] ++ x86))
noncomputable def p_slices_Clone_float64_float64 (x85 : List Nat) : Option (List Nat) :=
  joinC (fun (y : List Nat × Bool) => p_slices_Clone_float64_float64.j0 y.1 y.2) fun (j88 : List Nat × Bool → Option (List Nat)) => bif (List.isEmpty x85) then bothC (j88 (x85, Bool.true)) (j88 (x85, Bool.false)) else j88 (x85, Bool.false)
noncomputable def e_slices_Clone_float64_float64 : Entry := ⟨Ds.mk [Vd.one (Ld.im (T.sl (T.flt Go.FloatKind.f64)))] [], Ds.mk [Vd.one (Ld.own (0))] [Od.arr (28) (T.flt Go.FloatKind.f64)], fun x => p_slices_Clone_float64_float64 x⟩
noncomputable def c_slices_Clone_float64_float64 : Cx := ⟨Try.prog, [], [], [(1, Sd.mk [0, 4] (Ds.mk [Vd.one (Ld.im (T.sl (T.flt Go.FloatKind.f64))), Vd.one (Ld.im T.bool)] []))], [], [], 0, 8, [(28, 2), (38, 3)], fun _ _ _ => none⟩
theorem q_slices_Clone_float64_float64 (x : HL (e_slices_Clone_float64_float64).pre.ts) : runF (c_slices_Clone_float64_float64) 0 Try.f31 (e_slices_Clone_float64_float64).pre (e_slices_Clone_float64_float64).post x = (e_slices_Clone_float64_float64).fn x := by kernel_rfl
theorem s_slices_Clone_float64_float64 : Entry.Sound Try.prog 31 (e_slices_Clone_float64_float64) := runF_sound (X := c_slices_Clone_float64_float64) (pre := (e_slices_Clone_float64_float64).pre) (post := (e_slices_Clone_float64_float64).post) (q := (e_slices_Clone_float64_float64).fn) ⟨dOk_nil, x_ext, x_mo⟩ Try.func31 (q_slices_Clone_float64_float64)

/- dormouse/gauge.Sort: function 26 -/
noncomputable def p_gauge_Sort (x95 : List Nat) : Option (List Nat) :=
  Option.bind (p_slices_Clone_float64_float64 x95) fun t96 => Option.bind (p_sort_43 t96) fun t97 => some t97
noncomputable def e_gauge_Sort : Entry := ⟨Ds.mk [Vd.one (Ld.im (T.sl (T.flt Go.FloatKind.f64)))] [], Ds.mk [Vd.one (Ld.own (0))] [Od.arr (28) (T.flt Go.FloatKind.f64)], fun x => p_gauge_Sort x⟩
noncomputable def c_gauge_Sort : Cx := ⟨Try.prog, [(31, e_slices_Clone_float64_float64), (42, e_sort_43)], [], [], [], [], 0, 9, [(28, 2), (38, 3)], fun _ _ _ => none⟩
theorem q_gauge_Sort (x : HL (e_gauge_Sort).pre.ts) : runF (c_gauge_Sort) 0 Try.f26 (e_gauge_Sort).pre (e_gauge_Sort).post x = (e_gauge_Sort).fn x := by kernel_rfl
theorem s_gauge_Sort : Entry.Sound Try.prog 26 (e_gauge_Sort) := runF_sound (X := c_gauge_Sort) (pre := (e_gauge_Sort).pre) (post := (e_gauge_Sort).post) (q := (e_gauge_Sort).fn) ⟨(dOk_cons (s_slices_Clone_float64_float64) (dOk_cons (s_sort_43) dOk_nil)), x_ext, x_mo⟩ Try.func26 (q_gauge_Sort)

/- dormouse/stat.Rank$1: function 25 -/
noncomputable def p_stat_Rank_c1 (x109 : Int) (x110 : Nat) : Option Int :=
  Option.bind (flMax Go.FloatKind.f64 x110 (0 : Nat)) fun t111 => Option.bind (flMin Go.FloatKind.f64 t111 (4607182418800017408 : Nat)) fun t112 => Option.bind (flOp (2 : Nat) Go.FloatKind.f64 t112 (flNear Go.FloatKind.f64 x109)) fun t113 => Option.bind (flInt Go.FloatKind.f64 t113 IntKind.i64) fun t114 => some t114
noncomputable def e_stat_Rank_c1 : Entry := ⟨Ds.mk [Vd.one (Ld.im (T.int IntKind.i64)), Vd.one (Ld.ptr (0) (0))] [Od.rdT (28) (T.flt Go.FloatKind.f64)], Ds.mk [Vd.one (Ld.im (T.int IntKind.i64))] [Od.gone], fun x => p_stat_Rank_c1 x.1 x.2⟩
noncomputable def c_stat_Rank_c1 : Cx := ⟨Try.prog, [], [], [], [], [], 1, 11, [(28, 2), (38, 3)], fun _ _ _ => none⟩
theorem q_stat_Rank_c1 (x : HL (e_stat_Rank_c1).pre.ts) : runF (c_stat_Rank_c1) 0 Try.f25 (e_stat_Rank_c1).pre (e_stat_Rank_c1).post x = (e_stat_Rank_c1).fn x := by kernel_rfl
theorem s_stat_Rank_c1 : Entry.Sound Try.prog 25 (e_stat_Rank_c1) := runF_sound (X := c_stat_Rank_c1) (pre := (e_stat_Rank_c1).pre) (post := (e_stat_Rank_c1).post) (q := (e_stat_Rank_c1).fn) ⟨dOk_nil, x_ext, x_mo⟩ Try.func25 (q_stat_Rank_c1)

/- dormouse/stat.Rank: function 11 -/
noncomputable def p_stat_Rank.j0 (x118 : List Nat) (x119 : Bool) (x120 : Nat) : Option Nat :=
  bif x119 then Option.bind p_math_NaN fun t123 => some t123 else Option.bind (p_gauge_Sort x118) fun t124 => Option.bind (p_stat_Rank_c1 (IntKind.wrap IntKind.i64 ((↑(List.length x118) : Int) - (1 : Int))) x120) fun t125 => need ((0 : Int) ≤ t125 ∧ t125 < (↑(List.length t124) : Int)) (some (at_ (dflt (T.flt Go.FloatKind.f64)) t124 t125))
noncomputable def p_stat_Rank (x116 : List Nat) (x117 : Nat) : Option Nat :=
  joinC (fun (y : List Nat × Bool × Nat) => p_stat_Rank.j0 y.1 y.2.1 y.2.2) fun (j121 : List Nat × Bool × Nat → Option Nat) => bif ((↑(List.length x116) : Int) == (0 : Int)) then j121 (x116, Bool.true, x117) else j121 (x116, !flEq Go.FloatKind.f64 x117 x117, x117)
noncomputable def e_stat_Rank : Entry := ⟨Ds.mk [Vd.one (Ld.im (T.sl (T.flt Go.FloatKind.f64))), Vd.one (Ld.im (T.flt Go.FloatKind.f64))] [], Ds.mk [Vd.one (Ld.im (T.flt Go.FloatKind.f64))] [], fun x => p_stat_Rank x.1 x.2⟩
noncomputable def c_stat_Rank : Cx := ⟨Try.prog, [(24, e_math_NaN), (26, e_gauge_Sort), (25, e_stat_Rank_c1)], [], [(1, Sd.mk [0, 3, 13] (Ds.mk [Vd.one (Ld.im (T.sl (T.flt Go.FloatKind.f64))), Vd.one (Ld.ptr (0) (0)), Vd.one (Ld.im T.bool)] [Od.blkT (28) (T.flt Go.FloatKind.f64)]))], [], [], 0, 25, [(28, 2), (38, 3)], fun _ _ _ => none⟩
theorem q_stat_Rank (x : HL (e_stat_Rank).pre.ts) : runF (c_stat_Rank) 0 Try.f11 (e_stat_Rank).pre (e_stat_Rank).post x = (e_stat_Rank).fn x := by kernel_rfl
theorem s_stat_Rank : Entry.Sound Try.prog 11 (e_stat_Rank) := runF_sound (X := c_stat_Rank) (pre := (e_stat_Rank).pre) (post := (e_stat_Rank).post) (q := (e_stat_Rank).fn) ⟨(dOk_cons (s_math_NaN) (dOk_cons (s_gauge_Sort) (dOk_cons (s_stat_Rank_c1) dOk_nil))), x_ext, x_mo⟩ Try.func11 (q_stat_Rank)

/- dormouse/stat.Middle: function 12 -/
noncomputable def p_stat_Middle (x128 : List Nat) : Option Nat :=
  Option.bind (p_stat_Rank x128 (4602678819172646912 : Nat)) fun t129 => some t129
noncomputable def e_stat_Middle : Entry := ⟨Ds.mk [Vd.one (Ld.im (T.sl (T.flt Go.FloatKind.f64)))] [], Ds.mk [Vd.one (Ld.im (T.flt Go.FloatKind.f64))] [], fun x => p_stat_Middle x⟩
noncomputable def c_stat_Middle : Cx := ⟨Try.prog, [(11, e_stat_Rank)], [], [], [], [], 0, 5, [(28, 2), (38, 3)], fun _ _ _ => none⟩
theorem q_stat_Middle (x : HL (e_stat_Middle).pre.ts) : runF (c_stat_Middle) 0 Try.f12 (e_stat_Middle).pre (e_stat_Middle).post x = (e_stat_Middle).fn x := by kernel_rfl
theorem s_stat_Middle : Entry.Sound Try.prog 12 (e_stat_Middle) := runF_sound (X := c_stat_Middle) (pre := (e_stat_Middle).pre) (post := (e_stat_Middle).post) (q := (e_stat_Middle).fn) ⟨(dOk_cons (s_stat_Rank) dOk_nil), x_ext, x_mo⟩ Try.func12 (q_stat_Middle)

/- math.Abs: function 50 -/
noncomputable def p_math_Abs (x162 : Nat) : Option Nat :=
  some (Int.toNat (iandn IntKind.u64 (↑x162 : Int) (9223372036854775808 : Int)))
noncomputable def e_math_Abs : Entry := ⟨Ds.mk [Vd.one (Ld.im (T.flt Go.FloatKind.f64))] [], Ds.mk [Vd.one (Ld.im (T.flt Go.FloatKind.f64))] [], fun x => p_math_Abs x⟩
noncomputable def c_math_Abs : Cx := ⟨Try.prog, [], [], [], [], [], 0, 7, [(28, 2), (38, 3)], fun _ _ _ => none⟩
theorem q_math_Abs (x : HL (e_math_Abs).pre.ts) : runF (c_math_Abs) 0 Try.f50 (e_math_Abs).pre (e_math_Abs).post x = (e_math_Abs).fn x := by kernel_rfl
theorem s_math_Abs : Entry.Sound Try.prog 50 (e_math_Abs) := runF_sound (X := c_math_Abs) (pre := (e_math_Abs).pre) (post := (e_math_Abs).post) (q := (e_math_Abs).fn) ⟨dOk_nil, x_ext, x_mo⟩ Try.func50 (q_math_Abs)

/- math.IsInf: function 39 -/
noncomputable def p_math_IsInf.j0 (x167 : Nat) : Option Bool :=
  some (flGt Go.FloatKind.f64 x167 (9218868437227405311 : Nat))
noncomputable def p_math_IsInf (x164 : Nat) (x165 : Int) : Option Bool :=
  joinC (p_math_IsInf.j0) fun (j168 : Nat → Option Bool) => bif (x165 == (0 : Int)) then Option.bind (p_math_Abs x164) fun t166 => j168 t166 else bif (decide (x165 < (0 : Int))) then j168 (flNeg Go.FloatKind.f64 x164) else j168 x164
noncomputable def e_math_IsInf : Entry := ⟨Ds.mk [Vd.one (Ld.im (T.flt Go.FloatKind.f64)), Vd.one (Ld.im (T.int IntKind.i64))] [], Ds.mk [Vd.one (Ld.im T.bool)] [], fun x => p_math_IsInf x.1 x.2⟩
noncomputable def c_math_IsInf : Cx := ⟨Try.prog, [(50, e_math_Abs)], [(5, Sd.mk [0] (Ds.mk [Vd.one (Ld.im (T.flt Go.FloatKind.f64))] []))], [], [], [], 0, 15, [(28, 2), (38, 3)], fun _ _ _ => none⟩
theorem q_math_IsInf (x : HL (e_math_IsInf).pre.ts) : runF (c_math_IsInf) 0 Try.f39 (e_math_IsInf).pre (e_math_IsInf).post x = (e_math_IsInf).fn x := by kernel_rfl
theorem s_math_IsInf : Entry.Sound Try.prog 39 (e_math_IsInf) := runF_sound (X := c_math_IsInf) (pre := (e_math_IsInf).pre) (post := (e_math_IsInf).post) (q := (e_math_IsInf).fn) ⟨(dOk_cons (s_math_Abs) dOk_nil), x_ext, x_mo⟩ Try.func39 (q_math_IsInf)

/- dormouse/gauge.none: function 40 -/
noncomputable def p_gauge_none : Option Nat :=
  Option.bind p_math_NaN fun t180 => some t180
noncomputable def e_gauge_none : Entry := ⟨Ds.mk [] [], Ds.mk [Vd.one (Ld.im (T.flt Go.FloatKind.f64))] [], fun x => p_gauge_none⟩
noncomputable def c_gauge_none : Cx := ⟨Try.prog, [(24, e_math_NaN)], [], [], [], [], 0, 2, [(28, 2), (38, 3)], fun _ _ _ => none⟩
theorem q_gauge_none (x : HL (e_gauge_none).pre.ts) : runF (c_gauge_none) 0 Try.f40 (e_gauge_none).pre (e_gauge_none).post x = (e_gauge_none).fn x := by kernel_rfl
theorem s_gauge_none : Entry.Sound Try.prog 40 (e_gauge_none) := runF_sound (X := c_gauge_none) (pre := (e_gauge_none).pre) (post := (e_gauge_none).post) (q := (e_gauge_none).fn) ⟨(dOk_cons (s_math_NaN) dOk_nil), x_ext, x_mo⟩ Try.func40 (q_gauge_none)

/- dormouse/gauge.plus: function 41 -/
noncomputable def p_gauge_plus (x197 : Nat) : Option Nat :=
  bif (flEq Go.FloatKind.f64 x197 (0 : Nat)) then some (0 : Nat) else some x197
noncomputable def e_gauge_plus : Entry := ⟨Ds.mk [Vd.one (Ld.im (T.flt Go.FloatKind.f64))] [], Ds.mk [Vd.one (Ld.im (T.flt Go.FloatKind.f64))] [], fun x => p_gauge_plus x⟩
noncomputable def c_gauge_plus : Cx := ⟨Try.prog, [], [], [], [], [], 0, 6, [(28, 2), (38, 3)], fun _ _ _ => none⟩
theorem q_gauge_plus (x : HL (e_gauge_plus).pre.ts) : runF (c_gauge_plus) 0 Try.f41 (e_gauge_plus).pre (e_gauge_plus).post x = (e_gauge_plus).fn x := by kernel_rfl
theorem s_gauge_plus : Entry.Sound Try.prog 41 (e_gauge_plus) := runF_sound (X := c_gauge_plus) (pre := (e_gauge_plus).pre) (post := (e_gauge_plus).post) (q := (e_gauge_plus).fn) ⟨dOk_nil, x_ext, x_mo⟩ Try.func41 (q_gauge_plus)

/- dormouse/gauge.Share: function 23 -/
noncomputable def p_gauge_Share.j1 (x208 : Nat) (x209 : Nat) (x210 : Bool) : Option Nat :=
  bif x210 then some (0 : Nat) else Option.bind (p_gauge_plus x208) fun t213 => Option.bind (p_gauge_plus x209) fun t214 => Option.bind (flOp (3 : Nat) Go.FloatKind.f64 t213 t214) fun t215 => some t215
noncomputable def p_gauge_Share.j0 (x202 : Nat) (x203 : Nat) (x204 : Bool) : Option Nat :=
  bif x204 then Option.bind p_gauge_none fun t207 => some t207 else joinC (fun (y : Nat × Nat × Bool) => p_gauge_Share.j1 y.1 y.2.1 y.2.2) fun (j211 : Nat × Nat × Bool → Option Nat) => bif (flEq Go.FloatKind.f64 x202 (0 : Nat)) then j211 (x202, x203, flEq Go.FloatKind.f64 x203 (0 : Nat)) else j211 (x202, x203, Bool.false)
noncomputable def p_gauge_Share (x199 : Nat) (x200 : Nat) : Option Nat :=
  joinC (fun (y : Nat × Nat × Bool) => p_gauge_Share.j0 y.1 y.2.1 y.2.2) fun (j205 : Nat × Nat × Bool → Option Nat) => bif (!(flGt Go.FloatKind.f64 x199 (0 : Nat) || flEq Go.FloatKind.f64 x199 (0 : Nat))) then j205 (x199, x200, Bool.true) else bif (!(flGt Go.FloatKind.f64 x200 (0 : Nat) || flEq Go.FloatKind.f64 x200 (0 : Nat))) then j205 (x199, x200, Bool.true) else Option.bind (p_math_IsInf x200 (1 : Int)) fun t201 => j205 (x199, x200, t201)
noncomputable def e_gauge_Share : Entry := ⟨Ds.mk [Vd.one (Ld.im (T.flt Go.FloatKind.f64)), Vd.one (Ld.im (T.flt Go.FloatKind.f64))] [], Ds.mk [Vd.one (Ld.im (T.flt Go.FloatKind.f64))] [], fun x => p_gauge_Share x.1 x.2⟩
noncomputable def c_gauge_Share : Cx := ⟨Try.prog, [(39, e_math_IsInf), (40, e_gauge_none), (41, e_gauge_plus)], [], [(1, Sd.mk [0, 1, 5] (Ds.mk [Vd.one (Ld.im (T.flt Go.FloatKind.f64)), Vd.one (Ld.im (T.flt Go.FloatKind.f64)), Vd.one (Ld.im T.bool)] [])), (3, Sd.mk [0, 1, 19] (Ds.mk [Vd.one (Ld.im (T.flt Go.FloatKind.f64)), Vd.one (Ld.im (T.flt Go.FloatKind.f64)), Vd.one (Ld.im T.bool)] []))], [], [], 0, 31, [(28, 2), (38, 3)], fun _ _ _ => none⟩
theorem q_gauge_Share (x : HL (e_gauge_Share).pre.ts) : runF (c_gauge_Share) 0 Try.f23 (e_gauge_Share).pre (e_gauge_Share).post x = (e_gauge_Share).fn x := by kernel_rfl
theorem s_gauge_Share : Entry.Sound Try.prog 23 (e_gauge_Share) := runF_sound (X := c_gauge_Share) (pre := (e_gauge_Share).pre) (post := (e_gauge_Share).post) (q := (e_gauge_Share).fn) ⟨(dOk_cons (s_math_IsInf) (dOk_cons (s_gauge_none) (dOk_cons (s_gauge_plus) dOk_nil))), x_ext, x_mo⟩ Try.func23 (q_gauge_Share)

/- dormouse/stat.Share: function 9 -/
noncomputable def p_stat_Share.j0 (k : Nat) (x236 : List (Int × List UInt8)) (x237 : Int) : Option Nat :=
  Option.bind (p_gauge_Share (flNear Go.FloatKind.f64 x237) (flNear Go.FloatKind.f64 (↑(List.length x236) : Int))) fun t238 => some t238
noncomputable def p_stat_Share.j2 (k : Nat) (rec234 : List (Int × List UInt8) × Int × Int × List (Int × List UInt8) × Int × Int → Option Nat) (x226 : List (Int × List UInt8)) (x227 : Int) (x228 : Int) (x229 : List (Int × List UInt8)) (x230 : Int) (x231 : Int) : Option Nat :=
  rec234 (x226, x227, x228, x229, x230, IntKind.wrap IntKind.i64 (x231 + (1 : Int)))
noncomputable def p_stat_Share.b1 (k : Nat) (j239 : List (Int × List UInt8) × Int → Option Nat) (rec234 : List (Int × List UInt8) × Int × Int × List (Int × List UInt8) × Int × Int → Option Nat) (x219 : List (Int × List UInt8)) (x220 : Int) (x221 : Int) (x222 : List (Int × List UInt8)) (x223 : Int) (x224 : Int) : Option Nat :=
  bif (decide (x224 < x223)) then joinC (fun (y : List (Int × List UInt8) × Int × Int × List (Int × List UInt8) × Int × Int) => p_stat_Share.j2 k rec234 y.1 y.2.1 y.2.2.1 y.2.2.2.1 y.2.2.2.2.1 y.2.2.2.2.2) fun (j232 : List (Int × List UInt8) × Int × Int × List (Int × List UInt8) × Int × Int → Option Nat) => need ((0 : Int) ≤ x224 ∧ x224 < (↑(List.length x222) : Int)) (bif (Prod.fst (at_ (dflt (T.pair (T.int IntKind.i64) T.str)) x222 x224) == x220) then j232 (x219, x220, IntKind.wrap IntKind.i64 (x221 + (1 : Int)), x222, x223, x224) else j232 (x219, x220, x221, x222, x223, x224)) else j239 (x219, x221)
noncomputable def p_stat_Share (k : Nat) (x217 : List (Int × List UInt8)) (x218 : Int) : Option Nat :=
  joinC (fun (y : List (Int × List UInt8) × Int) => p_stat_Share.j0 k y.1 y.2) fun (j239 : List (Int × List UInt8) × Int → Option Nat) => loopC (fun (r : List (Int × List UInt8) × Int × Int × List (Int × List UInt8) × Int × Int → Option Nat) y => p_stat_Share.b1 k j239 r y.1 y.2.1 y.2.2.1 y.2.2.2.1 y.2.2.2.2.1 y.2.2.2.2.2) k (x217, x218, (0 : Int), x217, (↑(List.length x217) : Int), (0 : Int))
noncomputable def e_stat_Share (k : Nat) : Entry := ⟨Ds.mk [Vd.one (Ld.im (T.sl (T.pair (T.int IntKind.i64) T.str))), Vd.one (Ld.im (T.int IntKind.i64))] [], Ds.mk [Vd.one (Ld.im (T.flt Go.FloatKind.f64))] [], fun x => p_stat_Share k x.1 x.2⟩
noncomputable def c_stat_Share (k : Nat) : Cx := ⟨Try.prog, [(23, e_gauge_Share)], [(7, Sd.mk [0, 1, 5, 8, 9, 10] (Ds.mk [Vd.one (Ld.im (T.sl (T.pair (T.int IntKind.i64) T.str))), Vd.one (Ld.im (T.int IntKind.i64)), Vd.one (Ld.im (T.int IntKind.i64)), Vd.one (Ld.im (T.sl (T.pair (T.int IntKind.i64) T.str))), Vd.one (Ld.im (T.int IntKind.i64)), Vd.one (Ld.im (T.int IntKind.i64))] [])), (8, Sd.mk [0, 5] (Ds.mk [Vd.one (Ld.im (T.sl (T.pair (T.int IntKind.i64) T.str))), Vd.one (Ld.im (T.int IntKind.i64))] []))], [], [(3, Sd.mk [0, 1, 5, 8, 9, 10] (Ds.mk [Vd.one (Ld.im (T.sl (T.pair (T.int IntKind.i64) T.str))), Vd.one (Ld.im (T.int IntKind.i64)), Vd.one (Ld.im (T.int IntKind.i64)), Vd.one (Ld.im (T.sl (T.pair (T.int IntKind.i64) T.str))), Vd.one (Ld.im (T.int IntKind.i64)), Vd.one (Ld.im (T.int IntKind.i64))] []))], [], 0, 27, [(28, 2), (38, 3)], fun _ _ _ => none⟩
theorem q_stat_Share (k : Nat) (x : HL (e_stat_Share k).pre.ts) : runF (c_stat_Share k) k Try.f9 (e_stat_Share k).pre (e_stat_Share k).post x = (e_stat_Share k).fn x := by kernel_rfl
theorem s_stat_Share (k : Nat) : Entry.Sound Try.prog 9 (e_stat_Share k) := runF_sound (X := c_stat_Share k) (pre := (e_stat_Share k).pre) (post := (e_stat_Share k).post) (q := (e_stat_Share k).fn) ⟨(dOk_cons (s_gauge_Share) dOk_nil), x_ext, x_mo⟩ Try.func9 (q_stat_Share k)

/- math.Inf: function 21 -/
noncomputable def p_math_Inf.j0 (x247 : Int) : Option Nat :=
  some (Int.toNat x247)
noncomputable def p_math_Inf (x246 : Int) : Option Nat :=
  joinC (p_math_Inf.j0) fun (j248 : Int → Option Nat) => bif (decide (x246 ≥ (0 : Int))) then j248 (9218868437227405312 : Int) else j248 (18442240474082181120 : Int)
noncomputable def e_math_Inf : Entry := ⟨Ds.mk [Vd.one (Ld.im (T.int IntKind.i64))] [], Ds.mk [Vd.one (Ld.im (T.flt Go.FloatKind.f64))] [], fun x => p_math_Inf x⟩
noncomputable def c_math_Inf : Cx := ⟨Try.prog, [], [(5, Sd.mk [3] (Ds.mk [Vd.one (Ld.im (T.int IntKind.u64))] []))], [], [], [], 0, 8, [(28, 2), (38, 3)], fun _ _ _ => none⟩
theorem q_math_Inf (x : HL (e_math_Inf).pre.ts) : runF (c_math_Inf) 0 Try.f21 (e_math_Inf).pre (e_math_Inf).post x = (e_math_Inf).fn x := by kernel_rfl
theorem s_math_Inf : Entry.Sound Try.prog 21 (e_math_Inf) := runF_sound (X := c_math_Inf) (pre := (e_math_Inf).pre) (post := (e_math_Inf).post) (q := (e_math_Inf).fn) ⟨dOk_nil, x_ext, x_mo⟩ Try.func21 (q_math_Inf)

/- math.Signbit: function 48 -/
noncomputable def p_math_Signbit (x274 : Nat) : Option Bool :=
  some (decide (IntKind.wrap IntKind.i64 (↑x274 : Int) < (0 : Int)))
noncomputable def e_math_Signbit : Entry := ⟨Ds.mk [Vd.one (Ld.im (T.flt Go.FloatKind.f64))] [], Ds.mk [Vd.one (Ld.im T.bool)] [], fun x => p_math_Signbit x⟩
noncomputable def c_math_Signbit : Cx := ⟨Try.prog, [], [], [], [], [], 0, 7, [(28, 2), (38, 3)], fun _ _ _ => none⟩
theorem q_math_Signbit (x : HL (e_math_Signbit).pre.ts) : runF (c_math_Signbit) 0 Try.f48 (e_math_Signbit).pre (e_math_Signbit).post x = (e_math_Signbit).fn x := by kernel_rfl
theorem s_math_Signbit : Entry.Sound Try.prog 48 (e_math_Signbit) := runF_sound (X := c_math_Signbit) (pre := (e_math_Signbit).pre) (post := (e_math_Signbit).post) (q := (e_math_Signbit).fn) ⟨dOk_nil, x_ext, x_mo⟩ Try.func48 (q_math_Signbit)

/- dormouse/gauge.Class: function 33 -/
noncomputable def p_gauge_Class.j0 (x279 : Nat) (x280 : Bool) : Option Int :=
  bif x280 then some (3 : Int) else bif (flEq Go.FloatKind.f64 x279 (0 : Nat)) then some (4 : Int) else Option.bind (p_math_IsInf x279 (1 : Int)) fun t283 => bif t283 then some (6 : Int) else some (5 : Int)
noncomputable def p_gauge_Class (x276 : Nat) : Option Int :=
  bif (!flEq Go.FloatKind.f64 x276 x276) then some (0 : Int) else Option.bind (p_math_IsInf x276 (-1 : Int)) fun t277 => bif t277 then some (1 : Int) else bif (flLt Go.FloatKind.f64 x276 (0 : Nat)) then some (2 : Int) else joinC (fun (y : Nat × Bool) => p_gauge_Class.j0 y.1 y.2) fun (j281 : Nat × Bool → Option Int) => bif (flEq Go.FloatKind.f64 x276 (0 : Nat)) then Option.bind (p_math_Signbit x276) fun t278 => j281 (x276, t278) else j281 (x276, Bool.false)
noncomputable def e_gauge_Class : Entry := ⟨Ds.mk [Vd.one (Ld.im (T.flt Go.FloatKind.f64))] [], Ds.mk [Vd.one (Ld.im (T.int IntKind.i64))] [], fun x => p_gauge_Class x⟩
noncomputable def c_gauge_Class : Cx := ⟨Try.prog, [(39, e_math_IsInf), (48, e_math_Signbit)], [], [(7, Sd.mk [0, 13] (Ds.mk [Vd.one (Ld.im (T.flt Go.FloatKind.f64)), Vd.one (Ld.im T.bool)] []))], [], [], 0, 26, [(28, 2), (38, 3)], fun _ _ _ => none⟩
theorem q_gauge_Class (x : HL (e_gauge_Class).pre.ts) : runF (c_gauge_Class) 0 Try.f33 (e_gauge_Class).pre (e_gauge_Class).post x = (e_gauge_Class).fn x := by kernel_rfl
theorem s_gauge_Class : Entry.Sound Try.prog 33 (e_gauge_Class) := runF_sound (X := c_gauge_Class) (pre := (e_gauge_Class).pre) (post := (e_gauge_Class).post) (q := (e_gauge_Class).fn) ⟨(dOk_cons (s_math_IsInf) (dOk_cons (s_math_Signbit) dOk_nil)), x_ext, x_mo⟩ Try.func33 (q_gauge_Class)

/- dormouse/stat.Finite$1: function 32 -/
noncomputable def p_stat_Finite_c1.j0 (x287 : Bool) : Option Bool :=
  some x287
noncomputable def p_stat_Finite_c1 (x285 : Nat) : Option Bool :=
  Option.bind (p_gauge_Class x285) fun t286 => joinC (p_stat_Finite_c1.j0) fun (j288 : Bool → Option Bool) => bif (decide (t286 < (2 : Int))) then j288 Bool.true else j288 (decide (t286 > (5 : Int)))
noncomputable def e_stat_Finite_c1 : Entry := ⟨Ds.mk [Vd.one (Ld.im (T.flt Go.FloatKind.f64))] [], Ds.mk [Vd.one (Ld.im T.bool)] [], fun x => p_stat_Finite_c1 x⟩
noncomputable def c_stat_Finite_c1 : Cx := ⟨Try.prog, [(33, e_gauge_Class)], [], [(2, Sd.mk [2] (Ds.mk [Vd.one (Ld.im T.bool)] []))], [], [], 0, 12, [(28, 2), (38, 3)], fun _ _ _ => none⟩
theorem q_stat_Finite_c1 (x : HL (e_stat_Finite_c1).pre.ts) : runF (c_stat_Finite_c1) 0 Try.f32 (e_stat_Finite_c1).pre (e_stat_Finite_c1).post x = (e_stat_Finite_c1).fn x := by kernel_rfl
theorem s_stat_Finite_c1 : Entry.Sound Try.prog 32 (e_stat_Finite_c1) := runF_sound (X := c_stat_Finite_c1) (pre := (e_stat_Finite_c1).pre) (post := (e_stat_Finite_c1).post) (q := (e_stat_Finite_c1).fn) ⟨(dOk_cons (s_gauge_Class) dOk_nil), x_ext, x_mo⟩ Try.func32 (q_stat_Finite_c1)

/- slices.IndexFunc[[]float64,float64]: function 47 -/
noncomputable def p_slices_IndexFunc_float64_float64.j0 (k : Nat) : Option Int :=
  some (-1 : Int)
noncomputable def p_slices_IndexFunc_float64_float64.b1 (k : Nat) (j299 : Unit → Option Int) (rec297 : List Nat × Int × Int → Option Int) (x292 : List Nat) (x293 : Int) (x294 : Int) : Option Int :=
  bif (decide (x294 < x293)) then need ((0 : Int) ≤ x294 ∧ x294 < (↑(List.length x292) : Int)) (Option.bind (p_stat_Finite_c1 (at_ (dflt (T.flt Go.FloatKind.f64)) x292 x294)) fun t296 => bif t296 then some x294 else rec297 (x292, x293, IntKind.wrap IntKind.i64 (x294 + (1 : Int)))) else j299 ()
noncomputable def p_slices_IndexFunc_float64_float64 (k : Nat) (x291 : List Nat) : Option Int :=
  joinC (fun (y : Unit) => p_slices_IndexFunc_float64_float64.j0 k) fun (j299 : Unit → Option Int) => loopC (fun (r : List Nat × Int × Int → Option Int) y => p_slices_IndexFunc_float64_float64.b1 k j299 r y.1 y.2.1 y.2.2) k (x291, (↑(List.length x291) : Int), (0 : Int))
noncomputable def e_slices_IndexFunc_float64_float64 (k : Nat) : Entry := ⟨Ds.mk [Vd.one (Ld.im (T.sl (T.flt Go.FloatKind.f64))), Vd.one (Ld.fn (32) [])] [], Ds.mk [Vd.one (Ld.im (T.int IntKind.i64))] [], fun x => p_slices_IndexFunc_float64_float64 k x⟩
noncomputable def c_slices_IndexFunc_float64_float64 (k : Nat) : Cx := ⟨Try.prog, [(32, e_stat_Finite_c1)], [(7, Sd.mk [] (Ds.mk [] []))], [], [(2, Sd.mk [0, 1, 7, 8] (Ds.mk [Vd.one (Ld.im (T.sl (T.flt Go.FloatKind.f64))), Vd.one (Ld.fn (32) []), Vd.one (Ld.im (T.int IntKind.i64)), Vd.one (Ld.im (T.int IntKind.i64))] []))], [], 0, 19, [(28, 2), (38, 3)], fun _ _ _ => none⟩
theorem q_slices_IndexFunc_float64_float64 (k : Nat) (x : HL (e_slices_IndexFunc_float64_float64 k).pre.ts) : runF (c_slices_IndexFunc_float64_float64 k) k Try.f47 (e_slices_IndexFunc_float64_float64 k).pre (e_slices_IndexFunc_float64_float64 k).post x = (e_slices_IndexFunc_float64_float64 k).fn x := by kernel_rfl
theorem s_slices_IndexFunc_float64_float64 (k : Nat) : Entry.Sound Try.prog 47 (e_slices_IndexFunc_float64_float64 k) := runF_sound (X := c_slices_IndexFunc_float64_float64 k) (pre := (e_slices_IndexFunc_float64_float64 k).pre) (post := (e_slices_IndexFunc_float64_float64 k).post) (q := (e_slices_IndexFunc_float64_float64 k).fn) ⟨(dOk_cons (s_stat_Finite_c1) dOk_nil), x_ext, x_mo⟩ Try.func47 (q_slices_IndexFunc_float64_float64 k)

/- slices.DeleteFunc[[]float64,float64]: function 30 -/
noncomputable def p_slices_DeleteFunc_float64_float64.j0 (k : Nat) (x317 : Int) (x318 : List Nat) : Option (List Nat) :=
  need ((0 : Int) ≤ x317 ∧ x317 ≤ (↑(List.length x318) : Int)) (need ((0 : Int) ≤ (0 : Int) ∧ (0 : Int) ≤ x317 ∧ x317 ≤ (↑(List.length (List.take (Int.toNat x317) x318 ++ List.replicate (List.length x318 - Int.toNat x317) (dflt (T.flt Go.FloatKind.f64)))) : Int)) (some (List.take (Int.toNat x317) (List.take (Int.toNat x317) x318 ++ List.replicate (List.length x318 - Int.toNat x317) (dflt (T.flt Go.FloatKind.f64))))))
noncomputable def p_slices_DeleteFunc_float64_float64.j2 (k : Nat) (rec315 : Int × Int × List Nat → Option (List Nat)) (x310 : Int) (x311 : Int) (x312 : List Nat) : Option (List Nat) :=
  rec315 (x310, IntKind.wrap IntKind.i64 (x311 + (1 : Int)), x312)
noncomputable def p_slices_DeleteFunc_float64_float64.b1 (k : Nat) (j321 : Int × List Nat → Option (List Nat)) (rec315 : Int × Int × List Nat → Option (List Nat)) (x304 : Int) (x305 : Int) (x306 : List Nat) : Option (List Nat) :=
  bif (decide (x305 < (↑(List.length x306) : Int))) then joinC (fun (y : Int × Int × List Nat) => p_slices_DeleteFunc_float64_float64.j2 k rec315 y.1 y.2.1 y.2.2) fun (j313 : Int × Int × List Nat → Option (List Nat)) => need ((0 : Int) ≤ x305 ∧ x305 < (↑(List.length x306) : Int)) (Option.bind (p_stat_Finite_c1 (at_ (dflt (T.flt Go.FloatKind.f64)) x306 x305)) fun t308 => bif !t308 then need ((0 : Int) ≤ x304 ∧ x304 < (↑(List.length x306) : Int)) (j313 (IntKind.wrap IntKind.i64 (x304 + (1 : Int)), x305, lset x306 x304 (at_ (dflt (T.flt Go.FloatKind.f64)) x306 x305))) else j313 (x304, x305, x306)) else j321 (x304, x306)
noncomputable def p_slices_DeleteFunc_float64_float64 (k : Nat) (x302 : List Nat) : Option (List Nat) :=
  Option.bind (p_slices_IndexFunc_float64_float64 k x302) fun t303 => bif (t303 == (-1 : Int)) then some x302 else joinC (fun (y : Int × List Nat) => p_slices_DeleteFunc_float64_float64.j0 k y.1 y.2) fun (j321 : Int × List Nat → Option (List Nat)) => loopC (fun (r : Int × Int × List Nat → Option (List Nat)) y => p_slices_DeleteFunc_float64_float64.b1 k j321 r y.1 y.2.1 y.2.2) k (t303, IntKind.wrap IntKind.i64 (t303 + (1 : Int)), x302)
noncomputable def e_slices_DeleteFunc_float64_float64 (k : Nat) : Entry := ⟨Ds.mk [Vd.one (Ld.own (0)), Vd.one (Ld.fn (32) [])] [Od.arr (28) (T.flt Go.FloatKind.f64)], Ds.mk [Vd.one (Ld.own (1))] [Od.gone, Od.arr (28) (T.flt Go.FloatKind.f64)], fun x => p_slices_DeleteFunc_float64_float64 k x⟩
noncomputable def c_slices_DeleteFunc_float64_float64 (k : Nat) : Cx := ⟨Try.prog, [(32, e_stat_Finite_c1), (47, e_slices_IndexFunc_float64_float64 k)], [(6, Sd.mk [0, 1, 5, 6] (Ds.mk [Vd.one (Ld.own (0)), Vd.one (Ld.fn (32) []), Vd.one (Ld.im (T.int IntKind.i64)), Vd.one (Ld.im (T.int IntKind.i64))] [Od.arr (28) (T.flt Go.FloatKind.f64)])), (11, Sd.mk [0, 5] (Ds.mk [Vd.one (Ld.own (0)), Vd.one (Ld.im (T.int IntKind.i64))] [Od.arr (28) (T.flt Go.FloatKind.f64)]))], [], [(999997, Sd.mk [] (Ds.mk [] [])), (5, Sd.mk [0, 1, 5, 6] (Ds.mk [Vd.one (Ld.own (0)), Vd.one (Ld.fn (32) []), Vd.one (Ld.im (T.int IntKind.i64)), Vd.one (Ld.im (T.int IntKind.i64))] [Od.arr (28) (T.flt Go.FloatKind.f64)]))], [], 1, 42, [(28, 2), (38, 3)], fun _ _ _ => none⟩
theorem q_slices_DeleteFunc_float64_float64 (k : Nat) (x : HL (e_slices_DeleteFunc_float64_float64 k).pre.ts) : runF (c_slices_DeleteFunc_float64_float64 k) k Try.f30 (e_slices_DeleteFunc_float64_float64 k).pre (e_slices_DeleteFunc_float64_float64 k).post x = (e_slices_DeleteFunc_float64_float64 k).fn x := by kernel_rfl
theorem s_slices_DeleteFunc_float64_float64 (k : Nat) : Entry.Sound Try.prog 30 (e_slices_DeleteFunc_float64_float64 k) := runF_sound (X := c_slices_DeleteFunc_float64_float64 k) (pre := (e_slices_DeleteFunc_float64_float64 k).pre) (post := (e_slices_DeleteFunc_float64_float64 k).post) (q := (e_slices_DeleteFunc_float64_float64 k).fn) ⟨(dOk_cons (s_stat_Finite_c1) (dOk_cons (s_slices_IndexFunc_float64_float64 k) dOk_nil)), x_ext, x_mo⟩ Try.func30 (q_slices_DeleteFunc_float64_float64 k)

/- dormouse/stat.Finite: function 17 -/
noncomputable def p_stat_Finite (k : Nat) (x324 : List Nat) : Option (List Nat) :=
  Option.bind (p_slices_Clone_float64_float64 x324) fun t325 => Option.bind (p_slices_DeleteFunc_float64_float64 k t325) fun t326 => some t326
noncomputable def e_stat_Finite (k : Nat) : Entry := ⟨Ds.mk [Vd.one (Ld.im (T.sl (T.flt Go.FloatKind.f64)))] [], Ds.mk [Vd.one (Ld.own (0))] [Od.arr (28) (T.flt Go.FloatKind.f64)], fun x => p_stat_Finite k x⟩
noncomputable def c_stat_Finite (k : Nat) : Cx := ⟨Try.prog, [(31, e_slices_Clone_float64_float64), (30, e_slices_DeleteFunc_float64_float64 k)], [], [], [], [], 0, 6, [(28, 2), (38, 3)], fun _ _ _ => none⟩
theorem q_stat_Finite (k : Nat) (x : HL (e_stat_Finite k).pre.ts) : runF (c_stat_Finite k) k Try.f17 (e_stat_Finite k).pre (e_stat_Finite k).post x = (e_stat_Finite k).fn x := by kernel_rfl
theorem s_stat_Finite (k : Nat) : Entry.Sound Try.prog 17 (e_stat_Finite k) := runF_sound (X := c_stat_Finite k) (pre := (e_stat_Finite k).pre) (post := (e_stat_Finite k).post) (q := (e_stat_Finite k).fn) ⟨(dOk_cons (s_slices_Clone_float64_float64) (dOk_cons (s_slices_DeleteFunc_float64_float64 k) dOk_nil)), x_ext, x_mo⟩ Try.func17 (q_stat_Finite k)

/- dormouse/gauge.Most: function 36 -/
noncomputable def p_gauge_Most (x331 : List Nat) : Option Nat :=
  bif ((↑(List.length x331) : Int) == (0 : Int)) then some (0 : Nat) else Option.bind (p_gauge_Sort x331) fun t332 => need ((0 : Int) ≤ IntKind.wrap IntKind.i64 ((↑(List.length x331) : Int) - (1 : Int)) ∧ IntKind.wrap IntKind.i64 ((↑(List.length x331) : Int) - (1 : Int)) < (↑(List.length t332) : Int)) (some (at_ (dflt (T.flt Go.FloatKind.f64)) t332 (IntKind.wrap IntKind.i64 ((↑(List.length x331) : Int) - (1 : Int)))))
noncomputable def e_gauge_Most : Entry := ⟨Ds.mk [Vd.one (Ld.im (T.sl (T.flt Go.FloatKind.f64)))] [], Ds.mk [Vd.one (Ld.im (T.flt Go.FloatKind.f64))] [], fun x => p_gauge_Most x⟩
noncomputable def c_gauge_Most : Cx := ⟨Try.prog, [(26, e_gauge_Sort)], [], [], [], [], 0, 13, [(28, 2), (38, 3)], fun _ _ _ => none⟩
theorem q_gauge_Most (x : HL (e_gauge_Most).pre.ts) : runF (c_gauge_Most) 0 Try.f36 (e_gauge_Most).pre (e_gauge_Most).post x = (e_gauge_Most).fn x := by kernel_rfl
theorem s_gauge_Most : Entry.Sound Try.prog 36 (e_gauge_Most) := runF_sound (X := c_gauge_Most) (pre := (e_gauge_Most).pre) (post := (e_gauge_Most).post) (q := (e_gauge_Most).fn) ⟨(dOk_cons (s_gauge_Sort) dOk_nil), x_ext, x_mo⟩ Try.func36 (q_gauge_Most)

/- dormouse/gauge.Least: function 37 -/
noncomputable def p_gauge_Least (x339 : List Nat) : Option Nat :=
  bif ((↑(List.length x339) : Int) == (0 : Int)) then some (0 : Nat) else Option.bind (p_gauge_Sort x339) fun t340 => need ((0 : Int) ≤ (0 : Int) ∧ (0 : Int) < (↑(List.length t340) : Int)) (some (at_ (dflt (T.flt Go.FloatKind.f64)) t340 (0 : Int)))
noncomputable def e_gauge_Least : Entry := ⟨Ds.mk [Vd.one (Ld.im (T.sl (T.flt Go.FloatKind.f64)))] [], Ds.mk [Vd.one (Ld.im (T.flt Go.FloatKind.f64))] [], fun x => p_gauge_Least x⟩
noncomputable def c_gauge_Least : Cx := ⟨Try.prog, [(26, e_gauge_Sort)], [], [], [], [], 0, 10, [(28, 2), (38, 3)], fun _ _ _ => none⟩
theorem q_gauge_Least (x : HL (e_gauge_Least).pre.ts) : runF (c_gauge_Least) 0 Try.f37 (e_gauge_Least).pre (e_gauge_Least).post x = (e_gauge_Least).fn x := by kernel_rfl
theorem s_gauge_Least : Entry.Sound Try.prog 37 (e_gauge_Least) := runF_sound (X := c_gauge_Least) (pre := (e_gauge_Least).pre) (post := (e_gauge_Least).post) (q := (e_gauge_Least).fn) ⟨(dOk_cons (s_gauge_Sort) dOk_nil), x_ext, x_mo⟩ Try.func37 (q_gauge_Least)

/- dormouse/stat.Spread: function 19 -/
noncomputable def p_stat_Spread (k : Nat) (x343 : List Nat) : Option Nat :=
  Option.bind (p_stat_Finite k x343) fun t344 => bif ((↑(List.length t344) : Int) == (0 : Int)) then some (0 : Nat) else Option.bind (p_gauge_Most t344) fun t345 => Option.bind (p_gauge_Least t344) fun t346 => Option.bind (flOp (1 : Nat) Go.FloatKind.f64 t345 t346) fun t347 => some t347
noncomputable def e_stat_Spread (k : Nat) : Entry := ⟨Ds.mk [Vd.one (Ld.im (T.sl (T.flt Go.FloatKind.f64)))] [], Ds.mk [Vd.one (Ld.im (T.flt Go.FloatKind.f64))] [], fun x => p_stat_Spread k x⟩
noncomputable def c_stat_Spread (k : Nat) : Cx := ⟨Try.prog, [(17, e_stat_Finite k), (36, e_gauge_Most), (37, e_gauge_Least)], [], [], [], [], 0, 14, [(28, 2), (38, 3)], fun _ _ _ => none⟩
theorem q_stat_Spread (k : Nat) (x : HL (e_stat_Spread k).pre.ts) : runF (c_stat_Spread k) k Try.f19 (e_stat_Spread k).pre (e_stat_Spread k).post x = (e_stat_Spread k).fn x := by kernel_rfl
theorem s_stat_Spread (k : Nat) : Entry.Sound Try.prog 19 (e_stat_Spread k) := runF_sound (X := c_stat_Spread k) (pre := (e_stat_Spread k).pre) (post := (e_stat_Spread k).post) (q := (e_stat_Spread k).fn) ⟨(dOk_cons (s_stat_Finite k) (dOk_cons (s_gauge_Most) (dOk_cons (s_gauge_Least) dOk_nil))), x_ext, x_mo⟩ Try.func19 (q_stat_Spread k)

/- dormouse/gauge.Same: function 35 -/
noncomputable def p_gauge_Same (x373 : Nat) (x374 : Nat) : Option Bool :=
  Option.bind (p_gauge_Bits x373) fun t375 => Option.bind (p_gauge_Bits x374) fun t376 => some (t375 == t376)
noncomputable def e_gauge_Same : Entry := ⟨Ds.mk [Vd.one (Ld.im (T.flt Go.FloatKind.f64)), Vd.one (Ld.im (T.flt Go.FloatKind.f64))] [], Ds.mk [Vd.one (Ld.im T.bool)] [], fun x => p_gauge_Same x.1 x.2⟩
noncomputable def c_gauge_Same : Cx := ⟨Try.prog, [(49, e_gauge_Bits)], [], [], [], [], 0, 10, [(28, 2), (38, 3)], fun _ _ _ => none⟩
theorem q_gauge_Same (x : HL (e_gauge_Same).pre.ts) : runF (c_gauge_Same) 0 Try.f35 (e_gauge_Same).pre (e_gauge_Same).post x = (e_gauge_Same).fn x := by kernel_rfl
theorem s_gauge_Same : Entry.Sound Try.prog 35 (e_gauge_Same) := runF_sound (X := c_gauge_Same) (pre := (e_gauge_Same).pre) (post := (e_gauge_Same).post) (q := (e_gauge_Same).fn) ⟨(dOk_cons (s_gauge_Bits) dOk_nil), x_ext, x_mo⟩ Try.func35 (q_gauge_Same)

/- slices.EqualFunc[[]float64,[]float64,float64,float64]: function 34 -/
noncomputable def p_slices_EqualFunc_float64_float64_float64_float64.j0 (k : Nat) : Option Bool :=
  some Bool.true
noncomputable def p_slices_EqualFunc_float64_float64_float64_float64.b1 (k : Nat) (j389 : Unit → Option Bool) (rec387 : List Nat × List Nat × Int × Int → Option Bool) (x380 : List Nat) (x381 : List Nat) (x382 : Int) (x383 : Int) : Option Bool :=
  bif (decide (x383 < x382)) then need ((0 : Int) ≤ x383 ∧ x383 < (↑(List.length x381) : Int)) (need ((0 : Int) ≤ x383 ∧ x383 < (↑(List.length x380) : Int)) (Option.bind (p_gauge_Same (at_ (dflt (T.flt Go.FloatKind.f64)) x381 x383) (at_ (dflt (T.flt Go.FloatKind.f64)) x380 x383)) fun t386 => bif !t386 then some Bool.false else rec387 (x380, x381, x382, IntKind.wrap IntKind.i64 (x383 + (1 : Int))))) else j389 ()
noncomputable def p_slices_EqualFunc_float64_float64_float64_float64 (k : Nat) (x378 : List Nat) (x379 : List Nat) : Option Bool :=
  bif ((↑(List.length x378) : Int) != (↑(List.length x379) : Int)) then some Bool.false else joinC (fun (y : Unit) => p_slices_EqualFunc_float64_float64_float64_float64.j0 k) fun (j389 : Unit → Option Bool) => loopC (fun (r : List Nat × List Nat × Int × Int → Option Bool) y => p_slices_EqualFunc_float64_float64_float64_float64.b1 k j389 r y.1 y.2.1 y.2.2.1 y.2.2.2) k (x379, x378, (↑(List.length x378) : Int), (0 : Int))
noncomputable def e_slices_EqualFunc_float64_float64_float64_float64 (k : Nat) : Entry := ⟨Ds.mk [Vd.one (Ld.im (T.sl (T.flt Go.FloatKind.f64))), Vd.one (Ld.im (T.sl (T.flt Go.FloatKind.f64))), Vd.one (Ld.fn (35) [])] [], Ds.mk [Vd.one (Ld.im T.bool)] [], fun x => p_slices_EqualFunc_float64_float64_float64_float64 k x.1 x.2⟩
noncomputable def c_slices_EqualFunc_float64_float64_float64_float64 (k : Nat) : Cx := ⟨Try.prog, [(35, e_gauge_Same)], [(10, Sd.mk [] (Ds.mk [] []))], [], [(4, Sd.mk [1, 2, 15, 16, 17] (Ds.mk [Vd.one (Ld.im (T.sl (T.flt Go.FloatKind.f64))), Vd.one (Ld.fn (35) []), Vd.one (Ld.im (T.sl (T.flt Go.FloatKind.f64))), Vd.one (Ld.im (T.int IntKind.i64)), Vd.one (Ld.im (T.int IntKind.i64))] []))], [], 0, 32, [(28, 2), (38, 3)], fun _ _ _ => none⟩
theorem q_slices_EqualFunc_float64_float64_float64_float64 (k : Nat) (x : HL (e_slices_EqualFunc_float64_float64_float64_float64 k).pre.ts) : runF (c_slices_EqualFunc_float64_float64_float64_float64 k) k Try.f34 (e_slices_EqualFunc_float64_float64_float64_float64 k).pre (e_slices_EqualFunc_float64_float64_float64_float64 k).post x = (e_slices_EqualFunc_float64_float64_float64_float64 k).fn x := by kernel_rfl
theorem s_slices_EqualFunc_float64_float64_float64_float64 (k : Nat) : Entry.Sound Try.prog 34 (e_slices_EqualFunc_float64_float64_float64_float64 k) := runF_sound (X := c_slices_EqualFunc_float64_float64_float64_float64 k) (pre := (e_slices_EqualFunc_float64_float64_float64_float64 k).pre) (post := (e_slices_EqualFunc_float64_float64_float64_float64 k).post) (q := (e_slices_EqualFunc_float64_float64_float64_float64 k).fn) ⟨(dOk_cons (s_gauge_Same) dOk_nil), x_ext, x_mo⟩ Try.func34 (q_slices_EqualFunc_float64_float64_float64_float64 k)

/- dormouse/stat.Same: function 18 -/
noncomputable def p_stat_Same (k : Nat) (x392 : List Nat) (x393 : List Nat) : Option Bool :=
  Option.bind (p_slices_EqualFunc_float64_float64_float64_float64 k x392 x393) fun t394 => some t394
noncomputable def e_stat_Same (k : Nat) : Entry := ⟨Ds.mk [Vd.one (Ld.im (T.sl (T.flt Go.FloatKind.f64))), Vd.one (Ld.im (T.sl (T.flt Go.FloatKind.f64)))] [], Ds.mk [Vd.one (Ld.im T.bool)] [], fun x => p_stat_Same k x.1 x.2⟩
noncomputable def c_stat_Same (k : Nat) : Cx := ⟨Try.prog, [(34, e_slices_EqualFunc_float64_float64_float64_float64 k)], [], [], [], [], 0, 8, [(28, 2), (38, 3)], fun _ _ _ => none⟩
theorem q_stat_Same (k : Nat) (x : HL (e_stat_Same k).pre.ts) : runF (c_stat_Same k) k Try.f18 (e_stat_Same k).pre (e_stat_Same k).post x = (e_stat_Same k).fn x := by kernel_rfl
theorem s_stat_Same (k : Nat) : Entry.Sound Try.prog 18 (e_stat_Same k) := runF_sound (X := c_stat_Same k) (pre := (e_stat_Same k).pre) (post := (e_stat_Same k).post) (q := (e_stat_Same k).fn) ⟨(dOk_cons (s_slices_EqualFunc_float64_float64_float64_float64 k) dOk_nil), x_ext, x_mo⟩ Try.func18 (q_stat_Same k)

/- dormouse/dormouselaw43.awake: function 7 -/
noncomputable def p_dormouselaw43_awake.j0 (k : Nat) (x403 : Bool) : Option Bool :=
  some x403
noncomputable def p_dormouselaw43_awake (k : Nat) : Option Bool :=
  joinC (p_dormouselaw43_awake.j0 k) fun (j404 : Bool → Option Bool) => Option.bind (p_stat_Middle [(4613937818241073152 : Nat), (4607182418800017408 : Nat), (4611686018427387904 : Nat)]) fun t396 => bif (flEq Go.FloatKind.f64 t396 (4611686018427387904 : Nat)) then Option.bind (p_stat_Rank [(4617315517961601024 : Nat), (4619567317775286272 : Nat)] (4607182418800017408)) fun t397 => bif (flEq Go.FloatKind.f64 t397 (4619567317775286272 : Nat)) then Option.bind (p_stat_Share k [((7 : Int), []), ((0 : Int), [])] (7 : Int)) fun t398 => bif (flEq Go.FloatKind.f64 t398 (4602678819172646912 : Nat)) then Option.bind (p_math_Inf (1 : Int)) fun t399 => Option.bind (p_stat_Spread k [(4607182418800017408 : Nat), t399, (4616189618054758400 : Nat)]) fun t400 => bif (flEq Go.FloatKind.f64 t400 (4613937818241073152 : Nat)) then Option.bind (p_stat_Lengths k [((0 : Int), [(97 : UInt8), (98 : UInt8)]), ((3 : Int), [])]) fun t401 => bif ((↑(List.length t401) : Int) == (1 : Int)) then Option.bind (p_stat_Same k [(4607182418800017408 : Nat)] [(4607182418800017408 : Nat)]) fun t402 => j404 t402 else j404 Bool.false else j404 Bool.false else j404 Bool.false else j404 Bool.false else j404 Bool.false
noncomputable def e_dormouselaw43_awake (k : Nat) : Entry := ⟨Ds.mk [] [], Ds.mk [Vd.one (Ld.im T.bool)] [], fun x => p_dormouselaw43_awake k⟩
noncomputable def c_dormouselaw43_awake (k : Nat) : Cx := ⟨Try.prog, [(6, e_stat_Lengths k), (11, e_stat_Rank), (12, e_stat_Middle), (9, e_stat_Share k), (21, e_math_Inf), (19, e_stat_Spread k), (18, e_stat_Same k)], [], [(1, Sd.mk [0] (Ds.mk [Vd.one (Ld.im T.bool)] []))], [], [], 0, 35, [(28, 2), (38, 3)], fun _ _ _ => none⟩
theorem q_dormouselaw43_awake (k : Nat) (x : HL (e_dormouselaw43_awake k).pre.ts) : runF (c_dormouselaw43_awake k) k Try.f7 (e_dormouselaw43_awake k).pre (e_dormouselaw43_awake k).post x = (e_dormouselaw43_awake k).fn x := by kernel_rfl
theorem s_dormouselaw43_awake (k : Nat) : Entry.Sound Try.prog 7 (e_dormouselaw43_awake k) := runF_sound (X := c_dormouselaw43_awake k) (pre := (e_dormouselaw43_awake k).pre) (post := (e_dormouselaw43_awake k).post) (q := (e_dormouselaw43_awake k).fn) ⟨(dOk_cons (s_stat_Lengths k) (dOk_cons (s_stat_Rank) (dOk_cons (s_stat_Middle) (dOk_cons (s_stat_Share k) (dOk_cons (s_math_Inf) (dOk_cons (s_stat_Spread k) (dOk_cons (s_stat_Same k) dOk_nil))))))), x_ext, x_mo⟩ Try.func7 (q_dormouselaw43_awake k)

/- dormouse/dormouseref43.Count: function 10 -/
noncomputable def p_dormouseref43_Count.j0 (k : Nat) (x460 : Int) : Option Int :=
  some x460
noncomputable def p_dormouseref43_Count.j2 (k : Nat) (rec458 : List (Int × List UInt8) × Int × Int × Int → Option Int) (x452 : List (Int × List UInt8)) (x453 : Int) (x454 : Int) (x455 : Int) : Option Int :=
  rec458 (x452, x453, x454, IntKind.wrap IntKind.i64 (x455 + (1 : Int)))
noncomputable def p_dormouseref43_Count.b1 (k : Nat) (j461 : Int → Option Int) (rec458 : List (Int × List UInt8) × Int × Int × Int → Option Int) (x447 : List (Int × List UInt8)) (x448 : Int) (x449 : Int) (x450 : Int) : Option Int :=
  bif (decide (x450 < (↑(List.length x447) : Int))) then joinC (fun (y : List (Int × List UInt8) × Int × Int × Int) => p_dormouseref43_Count.j2 k rec458 y.1 y.2.1 y.2.2.1 y.2.2.2) fun (j456 : List (Int × List UInt8) × Int × Int × Int → Option Int) => need ((0 : Int) ≤ x450 ∧ x450 < (↑(List.length x447) : Int)) (bif (Prod.fst (at_ (dflt (T.pair (T.int IntKind.i64) T.str)) x447 x450) == x448) then j456 (x447, x448, IntKind.wrap IntKind.i64 (x449 + (1 : Int)), x450) else j456 (x447, x448, x449, x450)) else j461 x449
noncomputable def p_dormouseref43_Count (k : Nat) (x445 : List (Int × List UInt8)) (x446 : Int) : Option Int :=
  joinC (p_dormouseref43_Count.j0 k) fun (j461 : Int → Option Int) => loopC (fun (r : List (Int × List UInt8) × Int × Int × Int → Option Int) y => p_dormouseref43_Count.b1 k j461 r y.1 y.2.1 y.2.2.1 y.2.2.2) k (x445, x446, (0 : Int), (0 : Int))
noncomputable def e_dormouseref43_Count (k : Nat) : Entry := ⟨Ds.mk [Vd.one (Ld.im (T.sl (T.pair (T.int IntKind.i64) T.str))), Vd.one (Ld.im (T.int IntKind.i64))] [], Ds.mk [Vd.one (Ld.im (T.int IntKind.i64))] [], fun x => p_dormouseref43_Count k x.1 x.2⟩
noncomputable def c_dormouseref43_Count (k : Nat) : Cx := ⟨Try.prog, [], [(4, Sd.mk [0, 1, 5, 6] (Ds.mk [Vd.one (Ld.im (T.sl (T.pair (T.int IntKind.i64) T.str))), Vd.one (Ld.im (T.int IntKind.i64)), Vd.one (Ld.im (T.int IntKind.i64)), Vd.one (Ld.im (T.int IntKind.i64))] [])), (7, Sd.mk [5] (Ds.mk [Vd.one (Ld.im (T.int IntKind.i64))] []))], [], [(3, Sd.mk [0, 1, 5, 6] (Ds.mk [Vd.one (Ld.im (T.sl (T.pair (T.int IntKind.i64) T.str))), Vd.one (Ld.im (T.int IntKind.i64)), Vd.one (Ld.im (T.int IntKind.i64)), Vd.one (Ld.im (T.int IntKind.i64))] []))], [], 0, 23, [(28, 2), (38, 3)], fun _ _ _ => none⟩
theorem q_dormouseref43_Count (k : Nat) (x : HL (e_dormouseref43_Count k).pre.ts) : runF (c_dormouseref43_Count k) k Try.f10 (e_dormouseref43_Count k).pre (e_dormouseref43_Count k).post x = (e_dormouseref43_Count k).fn x := by kernel_rfl
theorem s_dormouseref43_Count (k : Nat) : Entry.Sound Try.prog 10 (e_dormouseref43_Count k) := runF_sound (X := c_dormouseref43_Count k) (pre := (e_dormouseref43_Count k).pre) (post := (e_dormouseref43_Count k).post) (q := (e_dormouseref43_Count k).fn) ⟨dOk_nil, x_ext, x_mo⟩ Try.func10 (q_dormouseref43_Count k)

/- dormouse/dormouseref29.Share: function 22 -/
noncomputable def p_dormouseref29_Share.j1 (x514 : Int) (x515 : Int) (x516 : Bool) : Option (Nat × Bool) :=
  bif x516 then some ((0 : Nat), Bool.true) else Option.bind (flOp (3 : Nat) Go.FloatKind.f64 (flNear Go.FloatKind.f64 x514) (flNear Go.FloatKind.f64 x515)) fun t519 => some (t519, Bool.true)
noncomputable def p_dormouseref29_Share.j0 (x509 : Int) (x510 : Int) (x511 : Bool) : Option (Nat × Bool) :=
  bif x511 then some ((0 : Nat), Bool.false) else joinC (fun (y : Int × Int × Bool) => p_dormouseref29_Share.j1 y.1 y.2.1 y.2.2) fun (j517 : Int × Int × Bool → Option (Nat × Bool)) => bif (x509 == (0 : Int)) then j517 (x509, x510, x510 == (0 : Int)) else j517 (x509, x510, Bool.false)
noncomputable def p_dormouseref29_Share (x507 : Int) (x508 : Int) : Option (Nat × Bool) :=
  joinC (fun (y : Int × Int × Bool) => p_dormouseref29_Share.j0 y.1 y.2.1 y.2.2) fun (j512 : Int × Int × Bool → Option (Nat × Bool)) => bif (decide (x507 < (0 : Int))) then j512 (x507, x508, Bool.true) else j512 (x507, x508, decide (x508 < (0 : Int)))
noncomputable def e_dormouseref29_Share : Entry := ⟨Ds.mk [Vd.one (Ld.im (T.int IntKind.i64)), Vd.one (Ld.im (T.int IntKind.i64))] [], Ds.mk [Vd.one (Ld.im (T.flt Go.FloatKind.f64)), Vd.one (Ld.im T.bool)] [], fun x => p_dormouseref29_Share x.1 x.2⟩
noncomputable def c_dormouseref29_Share : Cx := ⟨Try.prog, [], [], [(1, Sd.mk [0, 1, 11] (Ds.mk [Vd.one (Ld.im (T.int IntKind.i64)), Vd.one (Ld.im (T.int IntKind.i64)), Vd.one (Ld.im T.bool)] [])), (3, Sd.mk [0, 1, 17] (Ds.mk [Vd.one (Ld.im (T.int IntKind.i64)), Vd.one (Ld.im (T.int IntKind.i64)), Vd.one (Ld.im T.bool)] []))], [], [], 0, 23, [(28, 2), (38, 3)], fun _ _ _ => none⟩
theorem q_dormouseref29_Share (x : HL (e_dormouseref29_Share).pre.ts) : runF (c_dormouseref29_Share) 0 Try.f22 (e_dormouseref29_Share).pre (e_dormouseref29_Share).post x = (e_dormouseref29_Share).fn x := by kernel_rfl
theorem s_dormouseref29_Share : Entry.Sound Try.prog 22 (e_dormouseref29_Share) := runF_sound (X := c_dormouseref29_Share) (pre := (e_dormouseref29_Share).pre) (post := (e_dormouseref29_Share).post) (q := (e_dormouseref29_Share).fn) ⟨dOk_nil, x_ext, x_mo⟩ Try.func22 (q_dormouseref29_Share)

/- dormouse/dormouseref04.Same: function 14 -/
noncomputable def p_dormouseref04_Same (x526 : Nat) (x527 : Nat) : Option Bool :=
  some ((↑x526 : Int) == (↑x527 : Int))
noncomputable def e_dormouseref04_Same : Entry := ⟨Ds.mk [Vd.one (Ld.im (T.flt Go.FloatKind.f64)), Vd.one (Ld.im (T.flt Go.FloatKind.f64))] [], Ds.mk [Vd.one (Ld.im T.bool)] [], fun x => p_dormouseref04_Same x.1 x.2⟩
noncomputable def c_dormouseref04_Same : Cx := ⟨Try.prog, [], [], [], [], [], 0, 10, [(28, 2), (38, 3)], fun _ _ _ => none⟩
theorem q_dormouseref04_Same (x : HL (e_dormouseref04_Same).pre.ts) : runF (c_dormouseref04_Same) 0 Try.f14 (e_dormouseref04_Same).pre (e_dormouseref04_Same).post x = (e_dormouseref04_Same).fn x := by kernel_rfl
theorem s_dormouseref04_Same : Entry.Sound Try.prog 14 (e_dormouseref04_Same) := runF_sound (X := c_dormouseref04_Same) (pre := (e_dormouseref04_Same).pre) (post := (e_dormouseref04_Same).post) (q := (e_dormouseref04_Same).fn) ⟨dOk_nil, x_ext, x_mo⟩ Try.func14 (q_dormouseref04_Same)

/- dormouse/dormouseref29.Is: function 8 -/
noncomputable def p_dormouseref29_Is.j0 (x534 : Bool) : Option Bool :=
  some x534
noncomputable def p_dormouseref29_Is (x529 : Nat) (x530 : Int) (x531 : Int) : Option Bool :=
  Option.bind (p_dormouseref29_Share x530 x531) fun t532 => joinC (p_dormouseref29_Is.j0) fun (j535 : Bool → Option Bool) => bif (Prod.snd t532) then Option.bind (p_dormouseref04_Same x529 (Prod.fst t532)) fun t533 => bif t533 then j535 Bool.true else bif (!Prod.snd t532) then j535 (!flEq Go.FloatKind.f64 x529 x529) else j535 Bool.false else bif (!Prod.snd t532) then j535 (!flEq Go.FloatKind.f64 x529 x529) else j535 Bool.false
noncomputable def e_dormouseref29_Is : Entry := ⟨Ds.mk [Vd.one (Ld.im (T.flt Go.FloatKind.f64)), Vd.one (Ld.im (T.int IntKind.i64)), Vd.one (Ld.im (T.int IntKind.i64))] [], Ds.mk [Vd.one (Ld.im T.bool)] [], fun x => p_dormouseref29_Is x.1 x.2.1 x.2.2⟩
noncomputable def c_dormouseref29_Is : Cx := ⟨Try.prog, [(22, e_dormouseref29_Share), (14, e_dormouseref04_Same)], [], [(2, Sd.mk [6] (Ds.mk [Vd.one (Ld.im T.bool)] []))], [], [], 0, 30, [(28, 2), (38, 3)], fun _ _ _ => none⟩
theorem q_dormouseref29_Is (x : HL (e_dormouseref29_Is).pre.ts) : runF (c_dormouseref29_Is) 0 Try.f8 (e_dormouseref29_Is).pre (e_dormouseref29_Is).post x = (e_dormouseref29_Is).fn x := by kernel_rfl
theorem s_dormouseref29_Is : Entry.Sound Try.prog 8 (e_dormouseref29_Is) := runF_sound (X := c_dormouseref29_Is) (pre := (e_dormouseref29_Is).pre) (post := (e_dormouseref29_Is).post) (q := (e_dormouseref29_Is).fn) ⟨(dOk_cons (s_dormouseref29_Share) (dOk_cons (s_dormouseref04_Same) dOk_nil)), x_ext, x_mo⟩ Try.func8 (q_dormouseref29_Is)

/- dormouse/dormouselaw43.StatReplies: function 3 -/
noncomputable def p_dormouselaw43_StatReplies.j2 (k : Nat) (x624 : Bool) : Option Bool :=
  some x624
noncomputable def p_dormouselaw43_StatReplies.j1 (k : Nat) (x616 : List (Int × List UInt8)) (x617 : Int) (x618 : Int) (x619 : List Nat) : Option Bool :=
  joinC (p_dormouselaw43_StatReplies.j2 k) fun (j625 : Bool → Option Bool) => Option.bind (p_dormouselaw43_awake k) fun t620 => bif t620 then bif (x618 == (↑(List.length x619) : Int)) then Option.bind (p_stat_Share k x616 x617) fun t621 => Option.bind (p_dormouseref43_Count k x616 x617) fun t622 => Option.bind (p_dormouseref29_Is t621 t622 (↑(List.length x616) : Int)) fun t623 => j625 t623 else j625 Bool.false else j625 Bool.false
noncomputable def p_dormouselaw43_StatReplies.j4 (k : Nat) (rec614 : List (Int × List UInt8) × Int × Int × Int × List Nat → Option Bool) (x607 : List (Int × List UInt8)) (x608 : Int) (x609 : Int) (x610 : Int) (x611 : List Nat) : Option Bool :=
  rec614 (x607, x608, x609, IntKind.wrap IntKind.i64 (x610 + (1 : Int)), x611)
noncomputable def p_dormouselaw43_StatReplies.j5 (k : Nat) (j612 : List (Int × List UInt8) × Int × Int × Int × List Nat → Option Bool) (x599 : List (Int × List UInt8)) (x600 : Int) (x601 : Int) (x602 : Int) (x603 : Bool) (x604 : List Nat) : Option Bool :=
  bif x603 then some Bool.false else j612 (x599, x600, IntKind.wrap IntKind.i64 (x601 + (1 : Int)), x602, x604)
noncomputable def p_dormouselaw43_StatReplies.b3 (k : Nat) (j627 : List (Int × List UInt8) × Int × Int × List Nat → Option Bool) (rec614 : List (Int × List UInt8) × Int × Int × Int × List Nat → Option Bool) (x591 : List (Int × List UInt8)) (x592 : Int) (x593 : Int) (x594 : Int) (x595 : List Nat) : Option Bool :=
  bif (decide (x594 < (↑(List.length x591) : Int))) then joinC (fun (y : List (Int × List UInt8) × Int × Int × Int × List Nat) => p_dormouselaw43_StatReplies.j4 k rec614 y.1 y.2.1 y.2.2.1 y.2.2.2.1 y.2.2.2.2) fun (j612 : List (Int × List UInt8) × Int × Int × Int × List Nat → Option Bool) => need ((0 : Int) ≤ x594 ∧ x594 < (↑(List.length x591) : Int)) (bif (Prod.fst (at_ (dflt (T.pair (T.int IntKind.i64) T.str)) x591 x594) != (0 : Int)) then j612 (x591, x592, x593, x594, x595) else joinC (fun (y : List (Int × List UInt8) × Int × Int × Int × Bool × List Nat) => p_dormouselaw43_StatReplies.j5 k j612 y.1 y.2.1 y.2.2.1 y.2.2.2.1 y.2.2.2.2.1 y.2.2.2.2.2) fun (j605 : List (Int × List UInt8) × Int × Int × Int × Bool × List Nat → Option Bool) => bif (decide (x593 ≥ (↑(List.length x595) : Int))) then j605 (x591, x592, x593, x594, Bool.true, x595) else need ((0 : Int) ≤ x593 ∧ x593 < (↑(List.length x595) : Int)) (need ((0 : Int) ≤ x594 ∧ x594 < (↑(List.length x591) : Int)) (j605 (x591, x592, x593, x594, !flEq Go.FloatKind.f64 (at_ (dflt (T.flt Go.FloatKind.f64)) x595 x593) (flNear Go.FloatKind.f64 (↑(List.length (Prod.snd (at_ (dflt (T.pair (T.int IntKind.i64) T.str)) x591 x594))) : Int)), x595)))) else j627 (x591, x592, x593, x595)
noncomputable def p_dormouselaw43_StatReplies.j0 (k : Nat) (x588 : List (Int × List UInt8)) (x589 : Int) : Option Bool :=
  Option.bind (p_stat_Lengths k x588) fun t590 => joinC (fun (y : List (Int × List UInt8) × Int × Int × List Nat) => p_dormouselaw43_StatReplies.j1 k y.1 y.2.1 y.2.2.1 y.2.2.2) fun (j627 : List (Int × List UInt8) × Int × Int × List Nat → Option Bool) => loopC (fun (r : List (Int × List UInt8) × Int × Int × Int × List Nat → Option Bool) y => p_dormouselaw43_StatReplies.b3 k j627 r y.1 y.2.1 y.2.2.1 y.2.2.2.1 y.2.2.2.2) k (x588, x589, (0 : Int), (0 : Int), t590)
noncomputable def p_dormouselaw43_StatReplies (k : Nat) (x585 : List (Int × List UInt8)) (x586 : Int) : Option Bool :=
  joinC (fun (y : List (Int × List UInt8) × Int) => p_dormouselaw43_StatReplies.j0 k y.1 y.2) fun (j629 : List (Int × List UInt8) × Int → Option Bool) => bif (decide ((↑(List.length x585) : Int) > (60 : Int))) then need ((0 : Int) ≤ (0 : Int) ∧ (0 : Int) ≤ (60 : Int) ∧ (60 : Int) ≤ (↑(List.length x585) : Int)) (j629 (sub_ x585 (0 : Int) (60 : Int), x586)) else j629 (x585, x586)
noncomputable def e_dormouselaw43_StatReplies (k : Nat) : Entry := ⟨Ds.mk [Vd.one (Ld.im (T.sl (T.pair (T.int IntKind.i64) T.str))), Vd.one (Ld.im (T.int IntKind.i64))] [], Ds.mk [Vd.one (Ld.im T.bool)] [], fun x => p_dormouselaw43_StatReplies k x.1 x.2⟩
noncomputable def c_dormouselaw43_StatReplies (k : Nat) : Cx := ⟨Try.prog, [(6, e_stat_Lengths k), (9, e_stat_Share k), (7, e_dormouselaw43_awake k), (10, e_dormouseref43_Count k), (8, e_dormouseref29_Is)], [(3, Sd.mk [0, 1] (Ds.mk [Vd.one (Ld.im (T.sl (T.pair (T.int IntKind.i64) T.str))), Vd.one (Ld.im (T.int IntKind.i64))] [])), (7, Sd.mk [0, 1, 5, 6, 7] (Ds.mk [Vd.one (Ld.im (T.sl (T.pair (T.int IntKind.i64) T.str))), Vd.one (Ld.im (T.int IntKind.i64)), Vd.one (Ld.own (0)), Vd.one (Ld.im (T.int IntKind.i64)), Vd.one (Ld.im (T.int IntKind.i64))] [Od.arr (28) (T.flt Go.FloatKind.f64)])), (12, Sd.mk [0, 1, 5, 6] (Ds.mk [Vd.one (Ld.im (T.sl (T.pair (T.int IntKind.i64) T.str))), Vd.one (Ld.im (T.int IntKind.i64)), Vd.one (Ld.own (0)), Vd.one (Ld.im (T.int IntKind.i64))] [Od.arr (28) (T.flt Go.FloatKind.f64)]))], [(9, Sd.mk [0, 1, 5, 6, 7, 44] (Ds.mk [Vd.one (Ld.im (T.sl (T.pair (T.int IntKind.i64) T.str))), Vd.one (Ld.im (T.int IntKind.i64)), Vd.one (Ld.own (0)), Vd.one (Ld.im (T.int IntKind.i64)), Vd.one (Ld.im (T.int IntKind.i64)), Vd.one (Ld.im T.bool)] [Od.arr (28) (T.flt Go.FloatKind.f64)])), (12, Sd.mk [4] (Ds.mk [Vd.one (Ld.im T.bool)] []))], [(6, Sd.mk [0, 1, 5, 6, 7] (Ds.mk [Vd.one (Ld.im (T.sl (T.pair (T.int IntKind.i64) T.str))), Vd.one (Ld.im (T.int IntKind.i64)), Vd.one (Ld.own (0)), Vd.one (Ld.im (T.int IntKind.i64)), Vd.one (Ld.im (T.int IntKind.i64))] [Od.arr (28) (T.flt Go.FloatKind.f64)]))], [(9, ([(0, 2), (1, 2), (2, 2), (3, 2), (4, 2), (5, 2), (6, 2), (7, 2), (8, 1), (9, 2), (10, 2), (11, 2), (12, 2), (13, 1), (14, 2), (15, 2), (16, 2), (17, 2)], [], []))], 0, 65, [(28, 2), (38, 3)], fun _ _ _ => none⟩
theorem q_dormouselaw43_StatReplies (k : Nat) (x : HL (e_dormouselaw43_StatReplies k).pre.ts) : runF (c_dormouselaw43_StatReplies k) k Try.f3 (e_dormouselaw43_StatReplies k).pre (e_dormouselaw43_StatReplies k).post x = (e_dormouselaw43_StatReplies k).fn x := by kernel_rfl
theorem s_dormouselaw43_StatReplies (k : Nat) : Entry.Sound Try.prog 3 (e_dormouselaw43_StatReplies k) := runF_sound (X := c_dormouselaw43_StatReplies k) (pre := (e_dormouselaw43_StatReplies k).pre) (post := (e_dormouselaw43_StatReplies k).post) (q := (e_dormouselaw43_StatReplies k).fn) ⟨(dOk_cons (s_stat_Lengths k) (dOk_cons (s_stat_Share k) (dOk_cons (s_dormouselaw43_awake k) (dOk_cons (s_dormouseref43_Count k) (dOk_cons (s_dormouseref29_Is) dOk_nil))))), x_ext, x_mo⟩ Try.func3 (q_dormouselaw43_StatReplies k)

/- dormouse/dormouseref04.minus: function 46 -/
noncomputable def p_dormouseref04_minus (x658 : Nat) : Option Bool :=
  some (decide ((↑x658 : Int) ≥ (9223372036854775808 : Int)))
noncomputable def e_dormouseref04_minus : Entry := ⟨Ds.mk [Vd.one (Ld.im (T.flt Go.FloatKind.f64))] [], Ds.mk [Vd.one (Ld.im T.bool)] [], fun x => p_dormouseref04_minus x⟩
noncomputable def c_dormouseref04_minus : Cx := ⟨Try.prog, [], [], [], [], [], 0, 6, [(28, 2), (38, 3)], fun _ _ _ => none⟩
theorem q_dormouseref04_minus (x : HL (e_dormouseref04_minus).pre.ts) : runF (c_dormouseref04_minus) 0 Try.f46 (e_dormouseref04_minus).pre (e_dormouseref04_minus).post x = (e_dormouseref04_minus).fn x := by kernel_rfl
theorem s_dormouseref04_minus : Entry.Sound Try.prog 46 (e_dormouseref04_minus) := runF_sound (X := c_dormouseref04_minus) (pre := (e_dormouseref04_minus).pre) (post := (e_dormouseref04_minus).post) (q := (e_dormouseref04_minus).fn) ⟨dOk_nil, x_ext, x_mo⟩ Try.func46 (q_dormouseref04_minus)

/- dormouse/dormouseref04.Less: function 27 -/
noncomputable def p_dormouseref04_Less (x660 : Nat) (x661 : Nat) : Option Bool :=
  Option.bind (p_dormouseref04_minus x660) fun t662 => Option.bind (p_dormouseref04_minus x661) fun t663 => bif (!t662 == t663) then Option.bind (p_dormouseref04_minus x660) fun t664 => some t664 else Option.bind (p_dormouseref04_minus x660) fun t665 => bif t665 then some (decide ((↑x660 : Int) > (↑x661 : Int))) else some (decide ((↑x660 : Int) < (↑x661 : Int)))
noncomputable def e_dormouseref04_Less : Entry := ⟨Ds.mk [Vd.one (Ld.im (T.flt Go.FloatKind.f64)), Vd.one (Ld.im (T.flt Go.FloatKind.f64))] [], Ds.mk [Vd.one (Ld.im T.bool)] [], fun x => p_dormouseref04_Less x.1 x.2⟩
noncomputable def c_dormouseref04_Less : Cx := ⟨Try.prog, [(46, e_dormouseref04_minus)], [], [], [], [], 0, 26, [(28, 2), (38, 3)], fun _ _ _ => none⟩
theorem q_dormouseref04_Less (x : HL (e_dormouseref04_Less).pre.ts) : runF (c_dormouseref04_Less) 0 Try.f27 (e_dormouseref04_Less).pre (e_dormouseref04_Less).post x = (e_dormouseref04_Less).fn x := by kernel_rfl
theorem s_dormouseref04_Less : Entry.Sound Try.prog 27 (e_dormouseref04_Less) := runF_sound (X := c_dormouseref04_Less) (pre := (e_dormouseref04_Less).pre) (post := (e_dormouseref04_Less).post) (q := (e_dormouseref04_Less).fn) ⟨(dOk_cons (s_dormouseref04_minus) dOk_nil), x_ext, x_mo⟩ Try.func27 (q_dormouseref04_Less)

/- dormouse/dormouseref04.Sort: function 13 -/
noncomputable def p_dormouseref04_Sort.j0 (k : Nat) (x749 : List Nat) : Option (List Nat) :=
  some x749
noncomputable def p_dormouseref04_Sort.j2 (k : Nat) (rec747 : List Nat × List Nat × Int → Option (List Nat)) (x742 : List Nat) (x743 : Int) (x744 : List Nat) : Option (List Nat) :=
  rec747 (x742, x744, IntKind.wrap IntKind.i64 (x743 + (1 : Int)))
noncomputable def p_dormouseref04_Sort.j3 (k : Nat) (j745 : List Nat × Int × List Nat → Option (List Nat)) (x730 : List Nat) (x731 : List Nat) (x732 : Int) (x733 : Int) : Option (List Nat) :=
  need ((0 : Int) ≤ (0 : Int) ∧ (0 : Int) ≤ x733 ∧ x733 ≤ (↑(List.length x731) : Int)) (need ((0 + List.length (sub_ x731 (0 : Int) x733)) * 8 ≤ (140737488355328 : Nat)) (need ((0 : Int) ≤ x732 ∧ x732 < (↑(List.length x730) : Int)) (need ((List.length ([] ++ sub_ x731 (0 : Int) x733) + List.length [at_ (dflt (T.flt Go.FloatKind.f64)) x730 x732]) * 8 ≤ (140737488355328 : Nat)) (need ((0 : Int) ≤ x733 ∧ x733 ≤ (↑(List.length x731) : Int) ∧ (↑(List.length x731) : Int) ≤ (↑(List.length x731) : Int)) (need ((List.length ([] ++ sub_ x731 (0 : Int) x733 ++ [at_ (dflt (T.flt Go.FloatKind.f64)) x730 x732]) + List.length (sub_ x731 x733 (↑(List.length x731) : Int))) * 8 ≤ (140737488355328 : Nat)) (j745 (x730, x732, [] ++ sub_ x731 (0 : Int) x733 ++ [at_ (dflt (T.flt Go.FloatKind.f64)) x730 x732] ++ sub_ x731 x733 (↑(List.length x731) : Int))))))))
noncomputable def p_dormouseref04_Sort.j5 (k : Nat) (rec728 : List Nat × List Nat × Int × Int → Option (List Nat)) (j740 : List Nat × List Nat × Int × Int → Option (List Nat)) (x721 : List Nat) (x722 : List Nat) (x723 : Int) (x724 : Int) (x725 : Bool) : Option (List Nat) :=
  bif x725 then rec728 (x721, x722, x723, IntKind.wrap IntKind.i64 (x724 + (1 : Int))) else j740 (x721, x722, x723, x724)
noncomputable def p_dormouseref04_Sort.b4 (k : Nat) (j740 : List Nat × List Nat × Int × Int → Option (List Nat)) (rec728 : List Nat × List Nat × Int × Int → Option (List Nat)) (x714 : List Nat) (x715 : List Nat) (x716 : Int) (x717 : Int) : Option (List Nat) :=
  joinC (fun (y : List Nat × List Nat × Int × Int × Bool) => p_dormouseref04_Sort.j5 k rec728 j740 y.1 y.2.1 y.2.2.1 y.2.2.2.1 y.2.2.2.2) fun (j726 : List Nat × List Nat × Int × Int × Bool → Option (List Nat)) => bif (decide (x717 < (↑(List.length x715) : Int))) then need ((0 : Int) ≤ x716 ∧ x716 < (↑(List.length x714) : Int)) (need ((0 : Int) ≤ x717 ∧ x717 < (↑(List.length x715) : Int)) (Option.bind (p_dormouseref04_Less (at_ (dflt (T.flt Go.FloatKind.f64)) x714 x716) (at_ (dflt (T.flt Go.FloatKind.f64)) x715 x717)) fun t720 => j726 (x714, x715, x716, x717, !t720))) else j726 (x714, x715, x716, x717, Bool.false)
noncomputable def p_dormouseref04_Sort.b1 (k : Nat) (j750 : List Nat → Option (List Nat)) (rec747 : List Nat × List Nat × Int → Option (List Nat)) (x711 : List Nat) (x712 : List Nat) (x713 : Int) : Option (List Nat) :=
  bif (decide (x713 < (↑(List.length x711) : Int))) then joinC (fun (y : List Nat × Int × List Nat) => p_dormouseref04_Sort.j2 k rec747 y.1 y.2.1 y.2.2) fun (j745 : List Nat × Int × List Nat → Option (List Nat)) => joinC (fun (y : List Nat × List Nat × Int × Int) => p_dormouseref04_Sort.j3 k j745 y.1 y.2.1 y.2.2.1 y.2.2.2) fun (j740 : List Nat × List Nat × Int × Int → Option (List Nat)) => loopC (fun (r : List Nat × List Nat × Int × Int → Option (List Nat)) y => p_dormouseref04_Sort.b4 k j740 r y.1 y.2.1 y.2.2.1 y.2.2.2) k (x711, x712, x713, (0 : Int)) else j750 x712
noncomputable def p_dormouseref04_Sort (k : Nat) (x710 : List Nat) : Option (List Nat) :=
  joinC (p_dormouseref04_Sort.j0 k) fun (j750 : List Nat → Option (List Nat)) => loopC (fun (r : List Nat × List Nat × Int → Option (List Nat)) y => p_dormouseref04_Sort.b1 k j750 r y.1 y.2.1 y.2.2) k (x710, [], (0 : Int))
noncomputable def e_dormouseref04_Sort (k : Nat) : Entry := ⟨Ds.mk [Vd.one (Ld.im (T.sl (T.flt Go.FloatKind.f64)))] [], Ds.mk [Vd.one (Ld.im (T.sl (T.flt Go.FloatKind.f64)))] [], fun x => p_dormouseref04_Sort k x⟩
noncomputable def c_dormouseref04_Sort (k : Nat) : Cx := ⟨Try.prog, [(27, e_dormouseref04_Less)], [(8, Sd.mk [0, 3, 4, 5] (Ds.mk [Vd.one (Ld.im (T.sl (T.flt Go.FloatKind.f64))), Vd.one (Ld.im (T.sl (T.flt Go.FloatKind.f64))), Vd.one (Ld.im (T.int IntKind.i64)), Vd.one (Ld.im (T.int IntKind.i64))] [])), (4, Sd.mk [0, 3, 4] (Ds.mk [Vd.one (Ld.im (T.sl (T.flt Go.FloatKind.f64))), Vd.one (Ld.own (0)), Vd.one (Ld.im (T.int IntKind.i64))] [Od.arr (28) (T.flt Go.FloatKind.f64)])), (11, Sd.mk [3] (Ds.mk [Vd.one (Ld.im (T.sl (T.flt Go.FloatKind.f64)))] []))], [(6, Sd.mk [0, 3, 4, 5, 28] (Ds.mk [Vd.one (Ld.im (T.sl (T.flt Go.FloatKind.f64))), Vd.one (Ld.im (T.sl (T.flt Go.FloatKind.f64))), Vd.one (Ld.im (T.int IntKind.i64)), Vd.one (Ld.im (T.int IntKind.i64)), Vd.one (Ld.im T.bool)] []))], [(3, Sd.mk [0, 3, 4] (Ds.mk [Vd.one (Ld.im (T.sl (T.flt Go.FloatKind.f64))), Vd.one (Ld.im (T.sl (T.flt Go.FloatKind.f64))), Vd.one (Ld.im (T.int IntKind.i64))] [])), (6, Sd.mk [0, 3, 4, 5] (Ds.mk [Vd.one (Ld.im (T.sl (T.flt Go.FloatKind.f64))), Vd.one (Ld.im (T.sl (T.flt Go.FloatKind.f64))), Vd.one (Ld.im (T.int IntKind.i64)), Vd.one (Ld.im (T.int IntKind.i64))] []))], [(6, ([(0, 2), (1, 2), (2, 2), (3, 2), (4, 2), (5, 2), (6, 2), (7, 2), (8, 1), (9, 2), (10, 2), (11, 2), (12, 1), (13, 0), (14, 2), (15, 2)], [], []))], 0, 49, [(28, 2), (38, 3)], fun _ _ _ => none⟩
theorem q_dormouseref04_Sort (k : Nat) (x : HL (e_dormouseref04_Sort k).pre.ts) : runF (c_dormouseref04_Sort k) k Try.f13 (e_dormouseref04_Sort k).pre (e_dormouseref04_Sort k).post x = (e_dormouseref04_Sort k).fn x := by kernel_rfl
theorem s_dormouseref04_Sort (k : Nat) : Entry.Sound Try.prog 13 (e_dormouseref04_Sort k) := runF_sound (X := c_dormouseref04_Sort k) (pre := (e_dormouseref04_Sort k).pre) (post := (e_dormouseref04_Sort k).post) (q := (e_dormouseref04_Sort k).fn) ⟨(dOk_cons (s_dormouseref04_Less) dOk_nil), x_ext, x_mo⟩ Try.func13 (q_dormouseref04_Sort k)

/- dormouse/dormouseref43.Place: function 15 -/
noncomputable def p_dormouseref43_Place.j1 (x770 : Int) (x771 : Nat) : Option Int :=
  Option.bind (flOp (2 : Nat) Go.FloatKind.f64 x771 (flNear Go.FloatKind.f64 x770)) fun t772 => Option.bind (flInt Go.FloatKind.f64 t772 IntKind.i64) fun t773 => some t773
noncomputable def p_dormouseref43_Place.j0 (x768 : Int) (x769 : Nat) : Option Int :=
  joinC (fun (y : Int × Nat) => p_dormouseref43_Place.j1 y.1 y.2) fun (j774 : Int × Nat → Option Int) => bif (flGt Go.FloatKind.f64 x769 (4607182418800017408 : Nat)) then j774 (x768, (4607182418800017408 : Nat)) else j774 (x768, x769)
noncomputable def p_dormouseref43_Place (x766 : Int) (x767 : Nat) : Option Int :=
  joinC (fun (y : Int × Nat) => p_dormouseref43_Place.j0 y.1 y.2) fun (j776 : Int × Nat → Option Int) => bif (flLt Go.FloatKind.f64 x767 (0 : Nat)) then j776 (x766, (0 : Nat)) else j776 (x766, x767)
noncomputable def e_dormouseref43_Place : Entry := ⟨Ds.mk [Vd.one (Ld.im (T.int IntKind.i64)), Vd.one (Ld.im (T.flt Go.FloatKind.f64))] [], Ds.mk [Vd.one (Ld.im (T.int IntKind.i64))] [], fun x => p_dormouseref43_Place x.1 x.2⟩
noncomputable def c_dormouseref43_Place : Cx := ⟨Try.prog, [], [(3, Sd.mk [0, 1] (Ds.mk [Vd.one (Ld.im (T.int IntKind.i64)), Vd.one (Ld.im (T.flt Go.FloatKind.f64))] [])), (5, Sd.mk [0, 1] (Ds.mk [Vd.one (Ld.im (T.int IntKind.i64)), Vd.one (Ld.im (T.flt Go.FloatKind.f64))] []))], [], [], [], 0, 14, [(28, 2), (38, 3)], fun _ _ _ => none⟩
theorem q_dormouseref43_Place (x : HL (e_dormouseref43_Place).pre.ts) : runF (c_dormouseref43_Place) 0 Try.f15 (e_dormouseref43_Place).pre (e_dormouseref43_Place).post x = (e_dormouseref43_Place).fn x := by kernel_rfl
theorem s_dormouseref43_Place : Entry.Sound Try.prog 15 (e_dormouseref43_Place) := runF_sound (X := c_dormouseref43_Place) (pre := (e_dormouseref43_Place).pre) (post := (e_dormouseref43_Place).post) (q := (e_dormouseref43_Place).fn) ⟨dOk_nil, x_ext, x_mo⟩ Try.func15 (q_dormouseref43_Place)

/- dormouse/dormouselaw43.StatRanks: function 4 -/
noncomputable def p_dormouselaw43_StatRanks.j1 (k : Nat) (x787 : Bool) : Option Bool :=
  some x787
noncomputable def p_dormouselaw43_StatRanks.j2 (k : Nat) (x795 : Bool) : Option Bool :=
  some x795
noncomputable def p_dormouselaw43_StatRanks.j3 (k : Nat) (x802 : Bool) : Option Bool :=
  some x802
noncomputable def p_dormouselaw43_StatRanks.j0 (k : Nat) (x782 : List Nat) (x783 : Nat) : Option Bool :=
  Option.bind (p_stat_Rank x782 x783) fun t784 => Option.bind (p_stat_Middle x782) fun t785 => bif ((↑(List.length x782) : Int) == (0 : Int)) then joinC (p_dormouselaw43_StatRanks.j1 k) fun (j788 : Bool → Option Bool) => Option.bind (p_dormouselaw43_awake k) fun t786 => bif t786 then bif (!flEq Go.FloatKind.f64 t784 t784) then j788 (!flEq Go.FloatKind.f64 t785 t785) else j788 Bool.false else j788 Bool.false else Option.bind (p_dormouseref04_Sort k x782) fun t790 => Option.bind (p_dormouseref43_Place (IntKind.wrap IntKind.i64 ((↑(List.length x782) : Int) - (1 : Int))) (4602678819172646912 : Nat)) fun t791 => need ((0 : Int) ≤ t791 ∧ t791 < (↑(List.length t790) : Int)) (Option.bind (p_dormouseref04_Same t785 (at_ (dflt (T.flt Go.FloatKind.f64)) t790 t791)) fun t793 => bif !t793 then some Bool.false else bif (!flEq Go.FloatKind.f64 x783 x783) then joinC (p_dormouselaw43_StatRanks.j2 k) fun (j796 : Bool → Option Bool) => Option.bind (p_dormouselaw43_awake k) fun t794 => bif t794 then j796 (!flEq Go.FloatKind.f64 t784 t784) else j796 Bool.false else joinC (p_dormouselaw43_StatRanks.j3 k) fun (j803 : Bool → Option Bool) => Option.bind (p_dormouselaw43_awake k) fun t798 => bif t798 then Option.bind (p_dormouseref43_Place (IntKind.wrap IntKind.i64 ((↑(List.length x782) : Int) - (1 : Int))) x783) fun t799 => need ((0 : Int) ≤ t799 ∧ t799 < (↑(List.length t790) : Int)) (Option.bind (p_dormouseref04_Same t784 (at_ (dflt (T.flt Go.FloatKind.f64)) t790 t799)) fun t801 => j803 t801) else j803 Bool.false)
noncomputable def p_dormouselaw43_StatRanks (k : Nat) (x779 : List Nat) (x780 : Nat) : Option Bool :=
  joinC (fun (y : List Nat × Nat) => p_dormouselaw43_StatRanks.j0 k y.1 y.2) fun (j805 : List Nat × Nat → Option Bool) => bif (decide ((↑(List.length x779) : Int) > (60 : Int))) then need ((0 : Int) ≤ (0 : Int) ∧ (0 : Int) ≤ (60 : Int) ∧ (60 : Int) ≤ (↑(List.length x779) : Int)) (j805 (sub_ x779 (0 : Int) (60 : Int), x780)) else j805 (x779, x780)
noncomputable def e_dormouselaw43_StatRanks (k : Nat) : Entry := ⟨Ds.mk [Vd.one (Ld.im (T.sl (T.flt Go.FloatKind.f64))), Vd.one (Ld.im (T.flt Go.FloatKind.f64))] [], Ds.mk [Vd.one (Ld.im T.bool)] [], fun x => p_dormouselaw43_StatRanks k x.1 x.2⟩
noncomputable def c_dormouselaw43_StatRanks (k : Nat) : Cx := ⟨Try.prog, [(11, e_stat_Rank), (12, e_stat_Middle), (7, e_dormouselaw43_awake k), (14, e_dormouseref04_Same), (13, e_dormouseref04_Sort k), (15, e_dormouseref43_Place)], [(3, Sd.mk [0, 1] (Ds.mk [Vd.one (Ld.im (T.sl (T.flt Go.FloatKind.f64))), Vd.one (Ld.im (T.flt Go.FloatKind.f64))] []))], [(5, Sd.mk [4] (Ds.mk [Vd.one (Ld.im T.bool)] [])), (10, Sd.mk [4] (Ds.mk [Vd.one (Ld.im T.bool)] [])), (11, Sd.mk [4] (Ds.mk [Vd.one (Ld.im T.bool)] []))], [], [], 0, 66, [(28, 2), (38, 3)], fun _ _ _ => none⟩
theorem q_dormouselaw43_StatRanks (k : Nat) (x : HL (e_dormouselaw43_StatRanks k).pre.ts) : runF (c_dormouselaw43_StatRanks k) k Try.f4 (e_dormouselaw43_StatRanks k).pre (e_dormouselaw43_StatRanks k).post x = (e_dormouselaw43_StatRanks k).fn x := by kernel_rfl
theorem s_dormouselaw43_StatRanks (k : Nat) : Entry.Sound Try.prog 4 (e_dormouselaw43_StatRanks k) := runF_sound (X := c_dormouselaw43_StatRanks k) (pre := (e_dormouselaw43_StatRanks k).pre) (post := (e_dormouselaw43_StatRanks k).post) (q := (e_dormouselaw43_StatRanks k).fn) ⟨(dOk_cons (s_stat_Rank) (dOk_cons (s_stat_Middle) (dOk_cons (s_dormouselaw43_awake k) (dOk_cons (s_dormouseref04_Same) (dOk_cons (s_dormouseref04_Sort k) (dOk_cons (s_dormouseref43_Place) dOk_nil)))))), x_ext, x_mo⟩ Try.func4 (q_dormouselaw43_StatRanks k)

/- dormouse/dormouseref04.Infinite: function 29 -/
noncomputable def p_dormouseref04_Infinite.j0 (x826 : Bool) : Option Bool :=
  some x826
noncomputable def p_dormouseref04_Infinite (x825 : Nat) : Option Bool :=
  joinC (p_dormouseref04_Infinite.j0) fun (j827 : Bool → Option Bool) => bif (flEq Go.FloatKind.f64 x825 x825) then j827 (!flEq Go.FloatKind.f64 (flOpX (1 : Nat) Go.FloatKind.f64 x825 x825) (0 : Nat)) else j827 Bool.false
noncomputable def e_dormouseref04_Infinite : Entry := ⟨Ds.mk [Vd.one (Ld.im (T.flt Go.FloatKind.f64))] [], Ds.mk [Vd.one (Ld.im T.bool)] [], fun x => p_dormouseref04_Infinite x⟩
noncomputable def c_dormouseref04_Infinite : Cx := ⟨Try.prog, [], [], [(1, Sd.mk [2] (Ds.mk [Vd.one (Ld.im T.bool)] []))], [(999998, Sd.mk [] (Ds.mk [] []))], [], 0, 12, [(28, 2), (38, 3)], fun _ _ _ => none⟩
theorem q_dormouseref04_Infinite (x : HL (e_dormouseref04_Infinite).pre.ts) : runF (c_dormouseref04_Infinite) 0 Try.f29 (e_dormouseref04_Infinite).pre (e_dormouseref04_Infinite).post x = (e_dormouseref04_Infinite).fn x := by kernel_rfl
theorem s_dormouseref04_Infinite : Entry.Sound Try.prog 29 (e_dormouseref04_Infinite) := runF_sound (X := c_dormouseref04_Infinite) (pre := (e_dormouseref04_Infinite).pre) (post := (e_dormouseref04_Infinite).post) (q := (e_dormouseref04_Infinite).fn) ⟨dOk_nil, x_ext, x_mo⟩ Try.func29 (q_dormouseref04_Infinite)

/- dormouse/dormouseref43.Finite: function 16 -/
noncomputable def p_dormouseref43_Finite.j0 (k : Nat) (x880 : List Nat) : Option (List Nat) :=
  some x880
noncomputable def p_dormouseref43_Finite.j2 (k : Nat) (rec878 : List Nat × Int × List Nat → Option (List Nat)) (x873 : List Nat) (x874 : Int) (x875 : List Nat) : Option (List Nat) :=
  rec878 (x873, IntKind.wrap IntKind.i64 (x874 + (1 : Int)), x875)
noncomputable def p_dormouseref43_Finite.j3 (k : Nat) (j876 : List Nat × Int × List Nat → Option (List Nat)) (x865 : List Nat) (x866 : Int) (x867 : Bool) (x868 : List Nat) : Option (List Nat) :=
  bif x867 then need ((0 : Int) ≤ x866 ∧ x866 < (↑(List.length x865) : Int)) (need ((List.length x868 + List.length [at_ (dflt (T.flt Go.FloatKind.f64)) x865 x866]) * 8 ≤ (140737488355328 : Nat)) (j876 (x865, x866, x868 ++ [at_ (dflt (T.flt Go.FloatKind.f64)) x865 x866]))) else j876 (x865, x866, x868)
noncomputable def p_dormouseref43_Finite.b1 (k : Nat) (j881 : List Nat → Option (List Nat)) (rec878 : List Nat × Int × List Nat → Option (List Nat)) (x858 : List Nat) (x859 : Int) (x860 : List Nat) : Option (List Nat) :=
  bif (decide (x859 < (↑(List.length x858) : Int))) then joinC (fun (y : List Nat × Int × List Nat) => p_dormouseref43_Finite.j2 k rec878 y.1 y.2.1 y.2.2) fun (j876 : List Nat × Int × List Nat → Option (List Nat)) => joinC (fun (y : List Nat × Int × Bool × List Nat) => p_dormouseref43_Finite.j3 k j876 y.1 y.2.1 y.2.2.1 y.2.2.2) fun (j869 : List Nat × Int × Bool × List Nat → Option (List Nat)) => need ((0 : Int) ≤ x859 ∧ x859 < (↑(List.length x858) : Int)) (need ((0 : Int) ≤ x859 ∧ x859 < (↑(List.length x858) : Int)) (bif (flEq Go.FloatKind.f64 (at_ (dflt (T.flt Go.FloatKind.f64)) x858 x859) (at_ (dflt (T.flt Go.FloatKind.f64)) x858 x859)) then need ((0 : Int) ≤ x859 ∧ x859 < (↑(List.length x858) : Int)) (Option.bind (p_dormouseref04_Infinite (at_ (dflt (T.flt Go.FloatKind.f64)) x858 x859)) fun t864 => j869 (x858, x859, !t864, x860)) else j869 (x858, x859, Bool.false, x860))) else j881 x860
noncomputable def p_dormouseref43_Finite (k : Nat) (x857 : List Nat) : Option (List Nat) :=
  joinC (p_dormouseref43_Finite.j0 k) fun (j881 : List Nat → Option (List Nat)) => loopC (fun (r : List Nat × Int × List Nat → Option (List Nat)) y => p_dormouseref43_Finite.b1 k j881 r y.1 y.2.1 y.2.2) k (x857, (0 : Int), [])
noncomputable def e_dormouseref43_Finite (k : Nat) : Entry := ⟨Ds.mk [Vd.one (Ld.im (T.sl (T.flt Go.FloatKind.f64)))] [], Ds.mk [Vd.one (Ld.own (0))] [Od.arr (28) (T.flt Go.FloatKind.f64)], fun x => p_dormouseref43_Finite k x⟩
noncomputable def c_dormouseref43_Finite (k : Nat) : Cx := ⟨Try.prog, [(29, e_dormouseref04_Infinite)], [(4, Sd.mk [0, 3, 4] (Ds.mk [Vd.one (Ld.im (T.sl (T.flt Go.FloatKind.f64))), Vd.one (Ld.own (0)), Vd.one (Ld.im (T.int IntKind.i64))] [Od.arr (28) (T.flt Go.FloatKind.f64)])), (7, Sd.mk [3] (Ds.mk [Vd.one (Ld.own (0))] [Od.arr (28) (T.flt Go.FloatKind.f64)]))], [(5, Sd.mk [0, 3, 4, 27] (Ds.mk [Vd.one (Ld.im (T.sl (T.flt Go.FloatKind.f64))), Vd.one (Ld.own (0)), Vd.one (Ld.im (T.int IntKind.i64)), Vd.one (Ld.im T.bool)] [Od.arr (28) (T.flt Go.FloatKind.f64)]))], [(3, Sd.mk [0, 3, 4] (Ds.mk [Vd.one (Ld.im (T.sl (T.flt Go.FloatKind.f64))), Vd.one (Ld.own (0)), Vd.one (Ld.im (T.int IntKind.i64))] [Od.arr (28) (T.flt Go.FloatKind.f64)]))], [(5, ([(0, 2), (1, 2), (2, 2), (3, 1), (4, 2), (5, 2), (6, 2), (7, 1), (8, 2), (9, 2), (10, 2), (11, 2), (12, 2), (13, 1), (14, 0), (15, 2), (16, 2)], [], []))], 0, 36, [(28, 2), (38, 3)], fun _ _ _ => none⟩
theorem q_dormouseref43_Finite (k : Nat) (x : HL (e_dormouseref43_Finite k).pre.ts) : runF (c_dormouseref43_Finite k) k Try.f16 (e_dormouseref43_Finite k).pre (e_dormouseref43_Finite k).post x = (e_dormouseref43_Finite k).fn x := by kernel_rfl
theorem s_dormouseref43_Finite (k : Nat) : Entry.Sound Try.prog 16 (e_dormouseref43_Finite k) := runF_sound (X := c_dormouseref43_Finite k) (pre := (e_dormouseref43_Finite k).pre) (post := (e_dormouseref43_Finite k).post) (q := (e_dormouseref43_Finite k).fn) ⟨(dOk_cons (s_dormouseref04_Infinite) dOk_nil), x_ext, x_mo⟩ Try.func16 (q_dormouseref43_Finite k)

/- dormouse/dormouseref04.Alike: function 20 -/
noncomputable def p_dormouseref04_Alike.j0 (x944 : Bool) : Option Bool :=
  some x944
noncomputable def p_dormouseref04_Alike (x942 : Nat) (x943 : Nat) : Option Bool :=
  joinC (p_dormouseref04_Alike.j0) fun (j945 : Bool → Option Bool) => bif (flEq Go.FloatKind.f64 x942 x943) then j945 Bool.true else bif (!flEq Go.FloatKind.f64 x942 x942) then j945 (!flEq Go.FloatKind.f64 x943 x943) else j945 Bool.false
noncomputable def e_dormouseref04_Alike : Entry := ⟨Ds.mk [Vd.one (Ld.im (T.flt Go.FloatKind.f64)), Vd.one (Ld.im (T.flt Go.FloatKind.f64))] [], Ds.mk [Vd.one (Ld.im T.bool)] [], fun x => p_dormouseref04_Alike x.1 x.2⟩
noncomputable def c_dormouseref04_Alike : Cx := ⟨Try.prog, [], [], [(1, Sd.mk [4] (Ds.mk [Vd.one (Ld.im T.bool)] []))], [], [], 0, 18, [(28, 2), (38, 3)], fun _ _ _ => none⟩
theorem q_dormouseref04_Alike (x : HL (e_dormouseref04_Alike).pre.ts) : runF (c_dormouseref04_Alike) 0 Try.f20 (e_dormouseref04_Alike).pre (e_dormouseref04_Alike).post x = (e_dormouseref04_Alike).fn x := by kernel_rfl
theorem s_dormouseref04_Alike : Entry.Sound Try.prog 20 (e_dormouseref04_Alike) := runF_sound (X := c_dormouseref04_Alike) (pre := (e_dormouseref04_Alike).pre) (post := (e_dormouseref04_Alike).post) (q := (e_dormouseref04_Alike).fn) ⟨dOk_nil, x_ext, x_mo⟩ Try.func20 (q_dormouseref04_Alike)

/- dormouse/dormouselaw43.StatSpreads: function 5 -/
noncomputable def p_dormouselaw43_StatSpreads.j3 (k : Nat) (x1063 : Bool) : Option Bool :=
  some x1063
noncomputable def p_dormouselaw43_StatSpreads.j4 (k : Nat) (x1072 : Bool) : Option Bool :=
  some x1072
noncomputable def p_dormouselaw43_StatSpreads.j2 (k : Nat) (x1055 : List Nat) (x1056 : List Nat) (x1057 : Bool) (x1058 : List Nat) : Option Bool :=
  Option.bind (p_stat_Same k x1055 x1056) fun t1059 => bif (!t1059 == x1057) then some Bool.false else Option.bind (p_stat_Spread k x1055) fun t1060 => bif ((↑(List.length x1058) : Int) == (0 : Int)) then joinC (p_dormouselaw43_StatSpreads.j3 k) fun (j1064 : Bool → Option Bool) => Option.bind (p_dormouselaw43_awake k) fun t1061 => bif t1061 then Option.bind (p_dormouseref04_Same t1060 (0 : Nat)) fun t1062 => j1064 t1062 else j1064 Bool.false else Option.bind (p_dormouseref04_Sort k x1058) fun t1066 => joinC (p_dormouselaw43_StatSpreads.j4 k) fun (j1073 : Bool → Option Bool) => Option.bind (p_dormouselaw43_awake k) fun t1067 => bif t1067 then need ((0 : Int) ≤ IntKind.wrap IntKind.i64 ((↑(List.length t1066) : Int) - (1 : Int)) ∧ IntKind.wrap IntKind.i64 ((↑(List.length t1066) : Int) - (1 : Int)) < (↑(List.length t1066) : Int)) (need ((0 : Int) ≤ (0 : Int) ∧ (0 : Int) < (↑(List.length t1066) : Int)) (Option.bind (flOp (1 : Nat) Go.FloatKind.f64 (at_ (dflt (T.flt Go.FloatKind.f64)) t1066 (IntKind.wrap IntKind.i64 ((↑(List.length t1066) : Int) - (1 : Int)))) (at_ (dflt (T.flt Go.FloatKind.f64)) t1066 (0 : Int))) fun t1070 => Option.bind (p_dormouseref04_Alike t1060 t1070) fun t1071 => bif t1071 then j1073 (flGt Go.FloatKind.f64 t1060 (0 : Nat) || flEq Go.FloatKind.f64 t1060 (0 : Nat)) else j1073 Bool.false)) else j1073 Bool.false
noncomputable def p_dormouselaw43_StatSpreads.j6 (k : Nat) (rec1053 : List Nat × List Nat × Bool × Int × List Nat → Option Bool) (j1075 : List Nat × List Nat × Bool × List Nat → Option Bool) (x1042 : List Nat) (x1043 : List Nat) (x1044 : Bool) (x1045 : Int) (x1046 : Bool) (x1047 : List Nat) : Option Bool :=
  bif x1046 then need ((0 : Int) ≤ x1045 ∧ x1045 < (↑(List.length x1042) : Int)) (need ((0 : Int) ≤ x1045 ∧ x1045 < (↑(List.length x1043) : Int)) (Option.bind (p_dormouseref04_Same (at_ (dflt (T.flt Go.FloatKind.f64)) x1042 x1045) (at_ (dflt (T.flt Go.FloatKind.f64)) x1043 x1045)) fun t1052 => rec1053 (x1042, x1043, t1052, IntKind.wrap IntKind.i64 (x1045 + (1 : Int)), x1047))) else j1075 (x1042, x1043, x1044, x1047)
noncomputable def p_dormouselaw43_StatSpreads.b5 (k : Nat) (j1075 : List Nat × List Nat × Bool × List Nat → Option Bool) (rec1053 : List Nat × List Nat × Bool × Int × List Nat → Option Bool) (x1037 : List Nat) (x1038 : List Nat) (x1039 : Bool) (x1040 : Int) (x1041 : List Nat) : Option Bool :=
  joinC (fun (y : List Nat × List Nat × Bool × Int × Bool × List Nat) => p_dormouselaw43_StatSpreads.j6 k rec1053 j1075 y.1 y.2.1 y.2.2.1 y.2.2.2.1 y.2.2.2.2.1 y.2.2.2.2.2) fun (j1048 : List Nat × List Nat × Bool × Int × Bool × List Nat → Option Bool) => bif (decide (x1040 < (↑(List.length x1037) : Int))) then j1048 (x1037, x1038, x1039, x1040, x1039, x1041) else j1048 (x1037, x1038, x1039, x1040, Bool.false, x1041)
noncomputable def p_dormouselaw43_StatSpreads.j1 (k : Nat) (x1034 : List Nat) (x1035 : List Nat) (x1036 : List Nat) : Option Bool :=
  joinC (fun (y : List Nat × List Nat × Bool × List Nat) => p_dormouselaw43_StatSpreads.j2 k y.1 y.2.1 y.2.2.1 y.2.2.2) fun (j1075 : List Nat × List Nat × Bool × List Nat → Option Bool) => loopC (fun (r : List Nat × List Nat × Bool × Int × List Nat → Option Bool) y => p_dormouselaw43_StatSpreads.b5 k j1075 r y.1 y.2.1 y.2.2.1 y.2.2.2.1 y.2.2.2.2) k (x1034, x1035, (↑(List.length x1034) : Int) == (↑(List.length x1035) : Int), (0 : Int), x1036)
noncomputable def p_dormouselaw43_StatSpreads.b7 (k : Nat) (j1077 : List Nat × List Nat × List Nat → Option Bool) (rec1032 : List Nat × List Nat × Int × List Nat × List Nat → Option Bool) (x1024 : List Nat) (x1025 : List Nat) (x1026 : Int) (x1027 : List Nat) (x1028 : List Nat) : Option Bool :=
  bif (decide (x1026 < (↑(List.length x1027) : Int))) then need ((0 : Int) ≤ x1026 ∧ x1026 < (↑(List.length x1027) : Int)) (need ((0 : Int) ≤ x1026 ∧ x1026 < (↑(List.length x1028) : Int)) (Option.bind (p_dormouseref04_Same (at_ (dflt (T.flt Go.FloatKind.f64)) x1027 x1026) (at_ (dflt (T.flt Go.FloatKind.f64)) x1028 x1026)) fun t1031 => bif !t1031 then some Bool.false else rec1032 (x1024, x1025, IntKind.wrap IntKind.i64 (x1026 + (1 : Int)), x1027, x1028))) else j1077 (x1024, x1025, x1027)
noncomputable def p_dormouselaw43_StatSpreads.j0 (k : Nat) (x1016 : List Nat) (x1017 : List Nat) (x1018 : Bool) : Option Bool :=
  bif x1018 then Option.bind (p_dormouselaw43_awake k) fun t1021 => some t1021 else Option.bind (p_dormouseref43_Finite k x1016) fun t1022 => Option.bind (p_stat_Finite k x1016) fun t1023 => bif ((↑(List.length t1023) : Int) != (↑(List.length t1022) : Int)) then some Bool.false else joinC (fun (y : List Nat × List Nat × List Nat) => p_dormouselaw43_StatSpreads.j1 k y.1 y.2.1 y.2.2) fun (j1077 : List Nat × List Nat × List Nat → Option Bool) => loopC (fun (r : List Nat × List Nat × Int × List Nat × List Nat → Option Bool) y => p_dormouselaw43_StatSpreads.b7 k j1077 r y.1 y.2.1 y.2.2.1 y.2.2.2.1 y.2.2.2.2) k (x1016, x1017, (0 : Int), t1022, t1023)
noncomputable def p_dormouselaw43_StatSpreads (k : Nat) (x1014 : List Nat) (x1015 : List Nat) : Option Bool :=
  joinC (fun (y : List Nat × List Nat × Bool) => p_dormouselaw43_StatSpreads.j0 k y.1 y.2.1 y.2.2) fun (j1019 : List Nat × List Nat × Bool → Option Bool) => bif (decide ((↑(List.length x1014) : Int) > (60 : Int))) then j1019 (x1014, x1015, Bool.true) else j1019 (x1014, x1015, decide ((↑(List.length x1015) : Int) > (60 : Int)))
noncomputable def e_dormouselaw43_StatSpreads (k : Nat) : Entry := ⟨Ds.mk [Vd.one (Ld.im (T.sl (T.flt Go.FloatKind.f64))), Vd.one (Ld.im (T.sl (T.flt Go.FloatKind.f64)))] [], Ds.mk [Vd.one (Ld.im T.bool)] [], fun x => p_dormouselaw43_StatSpreads k x.1 x.2⟩
noncomputable def c_dormouselaw43_StatSpreads (k : Nat) : Cx := ⟨Try.prog, [(17, e_stat_Finite k), (19, e_stat_Spread k), (18, e_stat_Same k), (7, e_dormouselaw43_awake k), (14, e_dormouseref04_Same), (13, e_dormouseref04_Sort k), (16, e_dormouseref43_Finite k), (20, e_dormouseref04_Alike)], [(12, Sd.mk [0, 1, 5] (Ds.mk [Vd.one (Ld.im (T.sl (T.flt Go.FloatKind.f64))), Vd.one (Ld.im (T.sl (T.flt Go.FloatKind.f64))), Vd.one (Ld.own (0))] [Od.arr (28) (T.flt Go.FloatKind.f64)])), (17, Sd.mk [0, 1, 5, 8] (Ds.mk [Vd.one (Ld.im (T.sl (T.flt Go.FloatKind.f64))), Vd.one (Ld.im (T.sl (T.flt Go.FloatKind.f64))), Vd.one (Ld.own (0)), Vd.one (Ld.im T.bool)] [Od.arr (28) (T.flt Go.FloatKind.f64)]))], [(1, Sd.mk [0, 1, 19] (Ds.mk [Vd.one (Ld.im (T.sl (T.flt Go.FloatKind.f64))), Vd.one (Ld.im (T.sl (T.flt Go.FloatKind.f64))), Vd.one (Ld.im T.bool)] [])), (14, Sd.mk [0, 1, 5, 8, 9, 57] (Ds.mk [Vd.one (Ld.im (T.sl (T.flt Go.FloatKind.f64))), Vd.one (Ld.im (T.sl (T.flt Go.FloatKind.f64))), Vd.one (Ld.own (0)), Vd.one (Ld.im T.bool), Vd.one (Ld.im (T.int IntKind.i64)), Vd.one (Ld.im T.bool)] [Od.arr (28) (T.flt Go.FloatKind.f64)])), (21, Sd.mk [4] (Ds.mk [Vd.one (Ld.im T.bool)] [])), (23, Sd.mk [4] (Ds.mk [Vd.one (Ld.im T.bool)] []))], [(8, Sd.mk [0, 1, 5, 6, 7] (Ds.mk [Vd.one (Ld.im (T.sl (T.flt Go.FloatKind.f64))), Vd.one (Ld.im (T.sl (T.flt Go.FloatKind.f64))), Vd.one (Ld.own (0)), Vd.one (Ld.own (1)), Vd.one (Ld.im (T.int IntKind.i64))] [Od.arr (28) (T.flt Go.FloatKind.f64), Od.arr (28) (T.flt Go.FloatKind.f64)])), (14, Sd.mk [0, 1, 5, 8, 9] (Ds.mk [Vd.one (Ld.im (T.sl (T.flt Go.FloatKind.f64))), Vd.one (Ld.im (T.sl (T.flt Go.FloatKind.f64))), Vd.one (Ld.own (0)), Vd.one (Ld.im T.bool), Vd.one (Ld.im (T.int IntKind.i64))] [Od.arr (28) (T.flt Go.FloatKind.f64)]))], [(10, ([(0, 2), (1, 2), (2, 2), (3, 1), (4, 2), (5, 2), (6, 2), (7, 1), (8, 0), (9, 2)], [], [])), (16, ([(0, 2), (1, 2), (2, 2), (3, 1), (4, 2), (5, 2), (6, 2), (7, 1), (8, 0), (9, 2)], [], [])), (23, ([(0, 0), (1, 2), (2, 2), (3, 2), (4, 2), (5, 2), (6, 2), (7, 2), (8, 1), (9, 2), (10, 2), (11, 1), (12, 2), (13, 0), (14, 2), (15, 2), (16, 2), (17, 2), (18, 2), (19, 2)], [], []))], 0, 105, [(28, 2), (38, 3)], fun _ _ _ => none⟩
theorem q_dormouselaw43_StatSpreads (k : Nat) (x : HL (e_dormouselaw43_StatSpreads k).pre.ts) : runF (c_dormouselaw43_StatSpreads k) k Try.f5 (e_dormouselaw43_StatSpreads k).pre (e_dormouselaw43_StatSpreads k).post x = (e_dormouselaw43_StatSpreads k).fn x := by kernel_rfl
theorem s_dormouselaw43_StatSpreads (k : Nat) : Entry.Sound Try.prog 5 (e_dormouselaw43_StatSpreads k) := runF_sound (X := c_dormouselaw43_StatSpreads k) (pre := (e_dormouselaw43_StatSpreads k).pre) (post := (e_dormouselaw43_StatSpreads k).post) (q := (e_dormouselaw43_StatSpreads k).fn) ⟨(dOk_cons (s_stat_Finite k) (dOk_cons (s_stat_Spread k) (dOk_cons (s_stat_Same k) (dOk_cons (s_dormouselaw43_awake k) (dOk_cons (s_dormouseref04_Same) (dOk_cons (s_dormouseref04_Sort k) (dOk_cons (s_dormouseref43_Finite k) (dOk_cons (s_dormouseref04_Alike) dOk_nil)))))))), x_ext, x_mo⟩ Try.func5 (q_dormouselaw43_StatSpreads k)
end
end Go.Dor
end

section
/- NUMBERS: what the bit operations of unsigned kinds come to, as natural numbers. Plain lemmas, no program. -/
namespace Go.Dor

theorem wrap_u8 (n : Int) : IntKind.wrap .u8 n = n % 256 := rfl
theorem wrap_u32 (n : Int) : IntKind.wrap .u32 n = n % 4294967296 := rfl
theorem wrap_u64 (n : Int) : IntKind.wrap .u64 n = n % 18446744073709551616 := rfl
theorem wrap_i64 {n : Int} (h : -9223372036854775808 ≤ n ∧ n < 9223372036854775808) : IntKind.wrap .i64 n = n := by
  unfold IntKind.wrap
  have e1 : (2 : Int) ^ IntKind.bits .i64 = 18446744073709551616 := rfl
  have e2 : (2 : Int) ^ (IntKind.bits .i64 - 1) = 9223372036854775808 := rfl
  have e3 : IntKind.signed .i64 = true := rfl
  simp only [e1, e2, e3, Bool.true_and, decide_eq_true_eq]
  split <;> omega

section
variable {k : IntKind} {a b : Nat}
theorem bits_nat (f : ∀ {n : Nat}, BitVec n → BitVec n → BitVec n) (hk : k.signed = false) : ibits f k (a : Int) (b : Int) = ((f (BitVec.ofNat k.bits a) (BitVec.ofNat k.bits b)).toNat : Int) := by
  unfold ibits IntKind.wrap
  simp only [hk, Bool.false_and, Bool.false_eq_true, if_false]
  have h := (f (BitVec.ofInt k.bits (a : Int)) (BitVec.ofInt k.bits (b : Int))).isLt
  rw [BitVec.ofInt_natCast, BitVec.ofInt_natCast] at h ⊢
  have e : ((2 : Int) ^ k.bits) = ((2 ^ k.bits : Nat) : Int) := by simp
  rw [e, ← Int.natCast_emod, Nat.mod_eq_of_lt h]
theorem and_nat (hk : k.signed = false) (ha : a < 2 ^ k.bits) (hb : b < 2 ^ k.bits) : iand k (a : Int) (b : Int) = ((a &&& b : Nat) : Int) := by
  unfold iand
  rw [bits_nat _ hk, BitVec.toNat_and, BitVec.toNat_ofNat, BitVec.toNat_ofNat, Nat.mod_eq_of_lt ha, Nat.mod_eq_of_lt hb]
theorem or_nat (hk : k.signed = false) (ha : a < 2 ^ k.bits) (hb : b < 2 ^ k.bits) : ior k (a : Int) (b : Int) = ((a ||| b : Nat) : Int) := by
  unfold ior
  rw [bits_nat _ hk, BitVec.toNat_or, BitVec.toNat_ofNat, BitVec.toNat_ofNat, Nat.mod_eq_of_lt ha, Nat.mod_eq_of_lt hb]
theorem xor_nat (hk : k.signed = false) (ha : a < 2 ^ k.bits) (hb : b < 2 ^ k.bits) : ixor k (a : Int) (b : Int) = ((a ^^^ b : Nat) : Int) := by
  unfold ixor
  rw [bits_nat _ hk, BitVec.toNat_xor, BitVec.toNat_ofNat, BitVec.toNat_ofNat, Nat.mod_eq_of_lt ha, Nat.mod_eq_of_lt hb]
end

theorem shr_nat {k : IntKind} {a n : Nat} (hn : n ≤ k.bits) : ishr k (a : Int) (n : Int) = ((a / 2 ^ n : Nat) : Int) := by
  unfold ishr
  rw [Int.toNat_natCast, Nat.min_eq_left hn]
  have e : ((2 : Int) ^ n) = ((2 ^ n : Nat) : Int) := by simp
  rw [e, Int.fdiv_eq_ediv_of_nonneg _ (Int.natCast_nonneg _)]
  rfl
theorem shl_nat {k : IntKind} {a n : Nat} (hk : k.signed = false) (hn : n ≤ k.bits) : ishl k (a : Int) (n : Int) = ((a * 2 ^ n % 2 ^ k.bits : Nat) : Int) := by
  unfold ishl IntKind.wrap
  rw [Int.toNat_natCast, Nat.min_eq_left hn]
  simp only [hk, Bool.false_and, Bool.false_eq_true, if_false]
  have e : ((2 : Int) ^ n) = ((2 ^ n : Nat) : Int) := by simp
  have e2 : ((2 : Int) ^ k.bits) = ((2 ^ k.bits : Nat) : Int) := by simp
  rw [e, e2, ← Int.natCast_mul, ← Int.natCast_emod]

/-- a word turned right -/
def rot (n x : Nat) : Nat := x / 2 ^ n + x % 2 ^ n * 2 ^ (32 - n)
theorem rot_lt {n x : Nat} (hn : n ≤ 32) (hx : x < 4294967296) : rot n x < 4294967296 := by
  unfold rot
  have h1 : 2 ^ n * 2 ^ (32 - n) = 4294967296 := by rw [← Nat.pow_add, Nat.add_sub_cancel' hn]
  have h2 : x / 2 ^ n < 2 ^ (32 - n) := Nat.div_lt_of_lt_mul (by rw [h1]; exact hx)
  have h3 : x % 2 ^ n < 2 ^ n := Nat.mod_lt _ (Nat.two_pow_pos n)
  have h4 : (x % 2 ^ n + 1) * 2 ^ (32 - n) ≤ 2 ^ n * 2 ^ (32 - n) := Nat.mul_le_mul_right _ h3
  rw [h1, Nat.add_mul] at h4
  omega
theorem or_add {a b n : Nat} (hb : b < 2 ^ n) : a * 2 ^ n ||| b = a * 2 ^ n + b := by
  have := Nat.two_pow_add_eq_or_of_lt hb a
  rw [Nat.mul_comm a, this]
/-- turned by shifts -/
theorem rot_or {n x : Nat} (hn : n ≤ 32) (hx : x < 4294967296) : (x * 2 ^ (32 - n) % 4294967296) ||| (x / 2 ^ n) = rot n x := by
  have h1 : 2 ^ n * 2 ^ (32 - n) = 4294967296 := by rw [← Nat.pow_add, Nat.add_sub_cancel' hn]
  have h2 : x / 2 ^ n < 2 ^ (32 - n) := Nat.div_lt_of_lt_mul (by rw [h1]; exact hx)
  have h3 : x * 2 ^ (32 - n) % 4294967296 = x % 2 ^ n * 2 ^ (32 - n) := by rw [← h1, Nat.mul_mod_mul_right]
  rw [h3, or_add h2, rot]; omega
/-- turned step by step -/
theorem rot_zero (x : Nat) : rot 0 x = x := by simp [rot]; omega
theorem rot_succ {n x : Nat} (hn : n < 32) : rot (n + 1) x = rot n x / 2 + rot n x % 2 * 2147483648 := by
  obtain ⟨m, hm⟩ : ∃ m, 32 - n = m + 1 := ⟨31 - n, by omega⟩
  have hm' : 32 - (n + 1) = m := by omega
  have h1 : 2 ^ n * 2 ^ m = 2147483648 := by rw [← Nat.pow_add]; have : n + m = 31 := by omega
                                             rw [this]
  unfold rot
  rw [hm, hm']
  have hA : x / 2 ^ (n + 1) = x / 2 ^ n / 2 := by rw [Nat.pow_succ, Nat.div_div_eq_div_mul]
  have hB : x % 2 ^ (n + 1) = x % 2 ^ n + 2 ^ n * (x / 2 ^ n % 2) := by rw [Nat.pow_succ, Nat.mod_mul]
  rw [hA, hB, Nat.pow_succ]
  generalize x / 2 ^ n = q
  generalize x % 2 ^ n = p
  have e1 : p * (2 ^ m * 2) = 2 * (p * 2 ^ m) := by rw [← Nat.mul_assoc, Nat.mul_comm]
  have e2 : (p + 2 ^ n * (q % 2)) * 2 ^ m = p * 2 ^ m + q % 2 * 2147483648 := by rw [Nat.add_mul, ← h1, Nat.mul_comm (2 ^ n) (q % 2), Nat.mul_assoc]
  rw [e1, e2]
  generalize p * 2 ^ m = s
  omega

/-- one of two, by a mask -/
theorem choose_nat {a b c : Nat} (ha : a < 4294967296) (hc : c < 4294967296) : (a &&& b) ^^^ ((4294967295 ^^^ a) &&& c) = (a &&& b) ||| ((4294967295 - a) &&& c) := by
  have h : 4294967295 ^^^ a = 4294967295 - a := by
    have h1 := BitVec.toNat_not (x := BitVec.ofNat 32 a)
    have h2 : (~~~ BitVec.ofNat 32 a) = BitVec.ofNat 32 4294967295 ^^^ BitVec.ofNat 32 a := by
      rw [show BitVec.ofNat 32 4294967295 = BitVec.allOnes 32 from rfl, BitVec.allOnes_xor]
    rw [h2, BitVec.toNat_xor, BitVec.toNat_ofNat, BitVec.toNat_ofNat, Nat.mod_eq_of_lt (by omega : a < 2 ^ 32)] at h1
    simpa using h1
  rw [← h]
  apply Nat.eq_of_testBit_eq
  intro i
  simp only [Nat.testBit_xor, Nat.testBit_and, Nat.testBit_or]
  by_cases hi : i < 32
  · have : Nat.testBit 4294967295 i = true := by
      have := Nat.testBit_two_pow_sub_one 32 i
      simp at this
      rw [this]; simpa using hi
    rw [this]
    cases a.testBit i <;> cases b.testBit i <;> cases c.testBit i <;> rfl
  · have hge : 2 ^ 32 ≤ 2 ^ i := Nat.pow_le_pow_right (by omega) (by omega)
    have h1 : a.testBit i = false := Nat.testBit_lt_two_pow (by omega)
    have h2 : c.testBit i = false := Nat.testBit_lt_two_pow (by omega)
    rw [h1, h2]; simp
theorem most_nat (a b c : Nat) : (a &&& b) ^^^ (a &&& c) ^^^ (b &&& c) = (a &&& b) ||| (a &&& c) ||| (b &&& c) := by
  apply Nat.eq_of_testBit_eq
  intro i
  simp only [Nat.testBit_xor, Nat.testBit_and, Nat.testBit_or]
  cases a.testBit i <;> cases b.testBit i <;> cases c.testBit i <;> rfl

end Go.Dor
namespace Go.Dor
/-- a loop that goes n rounds -/
theorem loop_count {α β : Type} {body : (α → Option β) → α → Option β} {res : Option β} : ∀ (n k : Nat) (s : Nat → α), n < k → (∀ i, i < n → ∀ rec, body rec (s i) = rec (s (i + 1))) → (∀ rec, body rec (s n) = res) → loopC body k (s 0) = res
  | 0, k + 1, s, _, _, hl => hl _
  | n + 1, k + 1, s, hk, hs, hl => by
    show body (loopC body k) (s 0) = res
    rw [hs 0 (by omega)]
    exact loop_count n k (fun i => s (i + 1)) (by omega) (fun i hi rec => hs (i + 1) (by omega) rec) hl
end Go.Dor
end

section
/- NUMBERS IN THE ORDER OF ALL: keys, the reference's Less, sorting on both sides. -/
set_option linter.unusedVariables false
set_option linter.unusedSimpArgs false
namespace Go.Dor
open Go.Proofs Go.Sort

theorem need_yesF {α : Type} {c : Prop} [Decidable c] {x : Option α} (h : c) : need c x = x := if_pos h
theorem bothC_same {R : Type} (a : Option R) : bothC a a = a := if_pos rfl
theorem not_u64 {x : Nat} (h : x < 18446744073709551616) : inot .u64 (x : Int) = ((18446744073709551615 - x : Nat) : Int) := by
  have e : inot .u64 (x : Int) = ixor .u64 ((18446744073709551615 : Nat) : Int) (x : Int) := rfl
  rw [e, xor_nat rfl (by decide) (by simpa [IntKind.bits] using h)]
  congr 1
  have e2 : (18446744073709551615 ^^^ x) = (BitVec.allOnes 64 ^^^ BitVec.ofNat 64 x).toNat := by
    rw [BitVec.toNat_xor, BitVec.toNat_allOnes, BitVec.toNat_ofNat, Nat.mod_eq_of_lt (by simpa using h)]
  rw [e2, BitVec.allOnes_xor, BitVec.toNat_not, BitVec.toNat_ofNat, Nat.mod_eq_of_lt (by simpa using h)]
theorem keyF_val {x : Nat} (h : x < 18446744073709551616) : keyF x = if 9223372036854775808 ≤ x then ((18446744073709551615 - x : Nat) : Int) else ((x + 9223372036854775808 : Nat) : Int) := by
  unfold keyF p_gauge_Key p_gauge_Bits
  simp only [Option.bind_some]
  have ea : iand .u64 (x : Int) (9223372036854775808 : Int) = ((x &&& 9223372036854775808 : Nat) : Int) := and_nat (b := 9223372036854775808) rfl (by simpa [IntKind.bits] using h) (by decide)
  have eb : ior .u64 (x : Int) (9223372036854775808 : Int) = ((x ||| 9223372036854775808 : Nat) : Int) := or_nat (b := 9223372036854775808) rfl (by simpa [IntKind.bits] using h) (by decide)
  have ec : x &&& 9223372036854775808 = (x.testBit 63).toNat * 9223372036854775808 := by
    have e63 : (9223372036854775808 : Nat) = 2 ^ 63 := rfl
    rw [e63]
    apply Nat.eq_of_testBit_eq
    intro i
    rw [Nat.testBit_and, Nat.testBit_two_pow]
    by_cases hi : 63 = i
    · subst hi
      cases hb : x.testBit 63
      · simp
      · simp only [decide_true, Bool.and_true, Bool.toNat_true, Nat.one_mul, Nat.testBit_two_pow]
    · cases hb : x.testBit 63
      · simp [hi]
      · simp only [hi, decide_false, Bool.and_false, Bool.toNat_true, Nat.one_mul, Nat.testBit_two_pow]
  have ed : x.testBit 63 = decide (9223372036854775808 ≤ x) := by
    rw [Nat.testBit_eq_decide_div_mod_eq]
    have : (2 : Nat) ^ 63 = 9223372036854775808 := rfl
    rw [this]
    congr 1
    apply propext
    omega
  rw [ea, eb, ec, ed, not_u64 h]
  by_cases hc : 9223372036854775808 ≤ x
  · simp [hc]
  · have hx : x < 2 ^ 63 := by omega
    have eo : x ||| 9223372036854775808 = x + 9223372036854775808 := by
      have := or_add (a := 1) (b := x) (n := 63) hx
      rw [Nat.one_mul] at this
      rw [Nat.or_comm, Nat.add_comm]
      exact this
    simp [hc, eo]
theorem keyF_inj {x y : Nat} (hx : x < 18446744073709551616) (hy : y < 18446744073709551616) (h : keyF x = keyF y) : x = y := by
  rw [keyF_val hx, keyF_val hy] at h
  split at h <;> split at h <;> omega
/-- the reference's order is that of the keys -/
theorem less04 {x y : Nat} (hx : x < 18446744073709551616) (hy : y < 18446744073709551616) : p_dormouseref04_Less x y = some (decide (keyF x < keyF y)) := by
  unfold p_dormouseref04_Less p_dormouseref04_minus
  simp only [Option.bind_some]
  rw [keyF_val hx, keyF_val hy]
  by_cases h1 : 9223372036854775808 ≤ x <;> by_cases h2 : 9223372036854775808 ≤ y
  · have e1 : decide ((x : Int) ≥ (9223372036854775808 : Int)) = true := by simp; omega
    have e2 : decide ((y : Int) ≥ (9223372036854775808 : Int)) = true := by simp; omega
    rw [e1, e2, if_pos h1, if_pos h2]
    refine congrArg some ?_
    have : (x : Int) > (y : Int) ↔ ((18446744073709551615 - x : Nat) : Int) < ((18446744073709551615 - y : Nat) : Int) := by omega
    exact decide_eq_decide.2 this
  · have e1 : decide ((x : Int) ≥ (9223372036854775808 : Int)) = true := by simp; omega
    have e2 : decide ((y : Int) ≥ (9223372036854775808 : Int)) = false := by simp; omega
    rw [e1, e2, if_pos h1, if_neg h2]
    have : ((18446744073709551615 - x : Nat) : Int) < ((y + 9223372036854775808 : Nat) : Int) := by omega
    exact congrArg some (decide_eq_true this).symm
  · have e1 : decide ((x : Int) ≥ (9223372036854775808 : Int)) = false := by simp; omega
    have e2 : decide ((y : Int) ≥ (9223372036854775808 : Int)) = true := by simp; omega
    rw [e1, e2, if_neg h1, if_pos h2]
    have : ¬ ((x + 9223372036854775808 : Nat) : Int) < ((18446744073709551615 - y : Nat) : Int) := by omega
    exact congrArg some (decide_eq_false this).symm
  · have e1 : decide ((x : Int) ≥ (9223372036854775808 : Int)) = false := by simp; omega
    have e2 : decide ((y : Int) ≥ (9223372036854775808 : Int)) = false := by simp; omega
    rw [e1, e2, if_neg h1, if_neg h2]
    have : ((x : Int) < (y : Int)) ↔ ((x + 9223372036854775808 : Nat) : Int) < ((y + 9223372036854775808 : Nat) : Int) := by omega
    exact congrArg some (decide_eq_decide.2 this)

/-! ### put in one by one -/
def insK (f : Nat → Int) (a : Nat) (out : List Nat) : List Nat := out.takeWhile (fun y => !decide (f a < f y)) ++ [a] ++ out.dropWhile (fun y => !decide (f a < f y))
def sortK (f : Nat → Int) (l : List Nat) : List Nat := l.foldl (fun o a => insK f a o) []
theorem insK_perm (f : Nat → Int) (a : Nat) (out : List Nat) : (insK f a out).Perm (a :: out) := by
  unfold insK
  have h : (out.takeWhile (fun y => !decide (f a < f y)) ++ [a] ++ out.dropWhile (fun y => !decide (f a < f y))).Perm (a :: (out.takeWhile (fun y => !decide (f a < f y)) ++ out.dropWhile (fun y => !decide (f a < f y)))) := by
    rw [List.append_assoc]
    exact List.perm_middle
  rw [List.takeWhile_append_dropWhile] at h
  exact h
theorem insK_sorted (f : Nat → Int) (a : Nat) : ∀ (out : List Nat), out.Pairwise (fun x y => f x ≤ f y) → (insK f a out).Pairwise (fun x y => f x ≤ f y)
  | [], _ => by simp [insK]
  | y :: out, h => by
    have h' := List.pairwise_cons.1 h
    by_cases hc : f a < f y
    · have e : insK f a (y :: out) = a :: y :: out := by simp [insK, hc]
      rw [e]
      refine List.pairwise_cons.2 ⟨fun z hz => ?_, h⟩
      rcases List.mem_cons.1 hz with rfl | hz
      · omega
      · have := h'.1 z hz
        omega
    · have e : insK f a (y :: out) = y :: insK f a out := by simp [insK, hc]
      rw [e]
      refine List.pairwise_cons.2 ⟨fun z hz => ?_, insK_sorted f a out h'.2⟩
      have hz := (insK_perm f a out).mem_iff.1 hz
      rcases List.mem_cons.1 hz with rfl | hz
      · omega
      · exact h'.1 z hz
theorem sortK_snoc (f : Nat → Int) (l : List Nat) (a : Nat) : sortK f (l ++ [a]) = insK f a (sortK f l) := by simp [sortK]
theorem foldK_perm (f : Nat → Int) : ∀ (l o : List Nat), (l.foldl (fun o a => insK f a o) o).Perm (l ++ o)
  | [], o => by simp
  | a :: l, o => by
    simp only [List.foldl_cons, List.cons_append]
    refine (foldK_perm f l _).trans ?_
    refine (List.Perm.append_left l (insK_perm f a o)).trans ?_
    exact List.perm_middle
theorem sortK_perm (f : Nat → Int) (l : List Nat) : (sortK f l).Perm l := by have := foldK_perm f l []; rw [List.append_nil] at this; exact this
theorem foldK_sorted (f : Nat → Int) : ∀ (l o : List Nat), o.Pairwise (fun x y => f x ≤ f y) → (l.foldl (fun o a => insK f a o) o).Pairwise (fun x y => f x ≤ f y)
  | [], o, h => h
  | a :: l, o, h => foldK_sorted f l _ (insK_sorted f a o h)
theorem sortK_sorted (f : Nat → Int) (l : List Nat) : (sortK f l).Pairwise (fun x y => f x ≤ f y) := foldK_sorted f l [] List.Pairwise.nil
theorem sortK_len (f : Nat → Int) (l : List Nat) : (sortK f l).length = l.length := (sortK_perm f l).length_eq

/-- all bits fit -/
def Fit (l : List Nat) : Prop := ∀ x ∈ l, x < 18446744073709551616
/-- both sorts come to the same -/
theorem sort_same {l : List Nat} (h : Fit l) : sortL (t := .flt .f64) cfF l = sortK keyF l := by
  have h1 := sortL_perm (t := .flt .f64) swoF l
  have h2 := sortL_sorted (t := .flt .f64) swoF l
  refine List.Perm.eq_of_pairwise (le := fun x y => keyF x ≤ keyF y) (fun a b ha hb h3 h4 => ?_) ?_ (sortK_sorted keyF l) (h1.trans (sortK_perm keyF l).symm)
  · exact keyF_inj (h _ (h1.mem_iff.1 ha)) (h _ ((sortK_perm keyF l).mem_iff.1 hb)) (Int.le_antisymm h3 h4)
  · refine h2.imp fun {a b} hab => ?_
    exact Int.not_lt.1 fun q => hab ((cmpN_lt (keyF b) (keyF a)).2 q)
end Go.Dor
end

section
/- SORTING, ON BOTH SIDES: the same; the first and the last. -/
set_option linter.unusedVariables false
set_option linter.unusedSimpArgs false
namespace Go.Dor
open Go.Proofs Go.Sort

theorem at_getF {α : Type} {d : α} {l : List α} {i : Nat} (h : i < l.length) : at_ d l (i : Int) = l[i] := by simp [at_, h]
theorem sub_takeF {α : Type} (l : List α) (n : Nat) : sub_ l (0 : Int) (n : Int) = l.take n := by simp [sub_]
theorem sub_dropF {α : Type} (l : List α) (n : Nat) : sub_ l (n : Int) (l.length : Int) = l.drop n := by simp [sub_]
theorem take_tw {α : Type} (p : α → Bool) (l : List α) : l.take (l.takeWhile p).length = l.takeWhile p := by
  conv => lhs; rw [← List.takeWhile_append_dropWhile (p := p) (l := l)]
  rw [List.takeWhile_append_dropWhile]
  exact (List.prefix_iff_eq_take.1 (List.takeWhile_prefix p)).symm
theorem drop_tw {α : Type} (p : α → Bool) (l : List α) : l.drop (l.takeWhile p).length = l.dropWhile p := by
  have h := List.takeWhile_append_dropWhile (p := p) (l := l)
  have h2 := List.take_append_drop (l.takeWhile p).length l
  rw [take_tw] at h2
  exact List.append_cancel_left (h2.trans h.symm)
theorem tw_len {α : Type} (p : α → Bool) (l : List α) : (l.takeWhile p).length ≤ l.length := (List.takeWhile_sublist p).length_le

theorem place_loop (k : Nat) (j : List Nat × List Nat × Int × Int → Option (List Nat)) {x out : List Nat} {i : Nat} (hi : i < x.length) (hx : Fit x) (ho : Fit out) (hb : out.length < 4611686018427387904) : ∀ (n fuel q : Nat), out.length - q = n → n < fuel → q ≤ out.length →
    loopC (fun (r : List Nat × List Nat × Int × Int → Option (List Nat)) y => p_dormouseref04_Sort.b4 k j r y.1 y.2.1 y.2.2.1 y.2.2.2) fuel (x, out, (i : Int), (q : Int)) =
      j (x, out, (i : Int), ((q + ((out.drop q).takeWhile fun y => !decide (keyF x[i] < keyF y)).length : Nat) : Int)) := by
  intro n
  induction n with
  | zero =>
    intro fuel q h1 h2 h3
    obtain ⟨fuel, rfl⟩ : ∃ f, fuel = f + 1 := ⟨fuel - 1, by omega⟩
    have e : q = out.length := by omega
    subst e
    simp only [loopC, p_dormouseref04_Sort.b4, p_dormouseref04_Sort.j5, joinC, Int.lt_irrefl, decide_false, cond_false, List.drop_length, List.takeWhile_nil, List.length_nil, Nat.add_zero]
  | succ n ih =>
    intro fuel q h1 h2 h3
    obtain ⟨fuel, rfl⟩ : ∃ f, fuel = f + 1 := ⟨fuel - 1, by omega⟩
    have hq : q < out.length := by omega
    have hd : out.drop q = out[q] :: out.drop (q + 1) := List.drop_eq_getElem_cons hq
    have hl : ((q : Int) < (out.length : Int)) := by omega
    have ih' := ih fuel (q + 1) (by omega) (by omega) (by omega)
    revert ih'
    show _ → p_dormouseref04_Sort.b4 k j (loopC _ fuel) x out (i : Int) (q : Int) = _
    generalize loopC (fun (r : List Nat × List Nat × Int × Int → Option (List Nat)) y => p_dormouseref04_Sort.b4 k j r y.1 y.2.1 y.2.2.1 y.2.2.2) fuel = rec
    intro ih'
    unfold p_dormouseref04_Sort.b4 joinC
    dsimp only
    rw [decide_eq_true hl, cond_true, need_yesF ⟨by omega, by omega⟩, need_yesF ⟨by omega, by omega⟩, at_getF hi, at_getF hq, less04 (hx _ (List.getElem_mem hi)) (ho _ (List.getElem_mem hq)), Option.bind_some]
    unfold p_dormouseref04_Sort.j5
    by_cases hc : keyF x[i] < keyF out[q]
    · rw [decide_eq_true hc, hd]
      simp only [Bool.not_true, cond_false, List.takeWhile_cons, decide_eq_true hc, Bool.false_eq_true, if_false, List.length_nil, Nat.add_zero]
    · rw [decide_eq_false hc, hd]
      simp only [Bool.not_false, cond_true, List.takeWhile_cons, decide_eq_false hc, if_true, List.length_cons]
      have ew : IntKind.wrap .i64 ((q : Int) + 1) = ((q + 1 : Nat) : Int) := by rw [wrap_i64 (by omega)]; omega
      rw [ew, ih']
      congr 4
      omega
theorem fit_perm {l l' : List Nat} (h : l'.Perm l) (hl : Fit l) : Fit l' := fun x hx => hl x (h.mem_iff.1 hx)
theorem refSort_eq {k : Nat} {x : List Nat} (hx : Fit x) (hk : x.length < k) (hb : x.length ≤ 60) : p_dormouseref04_Sort k x = some (sortK keyF x) := by
  unfold p_dormouseref04_Sort joinC
  refine loop_count (body := fun (r : List Nat × List Nat × Int → Option (List Nat)) y => p_dormouseref04_Sort.b1 k (p_dormouseref04_Sort.j0 k) r y.1 y.2.1 y.2.2) x.length k (fun i => (x, sortK keyF (x.take i), (i : Int))) hk (fun i hi rec => ?_) (fun rec => ?_)
  · dsimp only
    have hl : ((i : Int) < (x.length : Int)) := by omega
    have hlen : (sortK keyF (x.take i)).length = i := by rw [sortK_len, List.length_take]; omega
    have hfo : Fit (sortK keyF (x.take i)) := fit_perm (sortK_perm keyF _) fun y hy => hx y (List.mem_of_mem_take hy)
    unfold p_dormouseref04_Sort.b1 joinC
    rw [decide_eq_true hl, cond_true]
    have hp := place_loop k (fun y => p_dormouseref04_Sort.j3 k (fun y => p_dormouseref04_Sort.j2 k rec y.1 y.2.1 y.2.2) y.1 y.2.1 y.2.2.1 y.2.2.2) hi hx hfo (by omega) i k 0 (by omega) (by omega) (by omega)
    rw [List.drop_zero, Nat.zero_add] at hp
    refine hp.trans ?_
    dsimp only
    have htl := tw_len (fun y => !decide (keyF x[i] < keyF y)) (sortK keyF (x.take i))
    unfold p_dormouseref04_Sort.j3 p_dormouseref04_Sort.j2
    rw [sub_takeF, sub_dropF, take_tw, drop_tw, at_getF hi]
    have hdl : ((sortK keyF (x.take i)).dropWhile fun y => !decide (keyF x[i] < keyF y)).length ≤ i := Nat.le_trans (List.dropWhile_sublist _).length_le (Nat.le_of_eq hlen)
    rw [hlen] at htl
    rw [need_yesF ⟨by omega, by omega, by omega⟩, need_yesF (by omega), need_yesF ⟨by omega, by omega⟩, need_yesF (by simp only [List.nil_append, List.length_cons, List.length_nil]; omega), need_yesF ⟨by omega, by omega, by omega⟩,
      need_yesF (by simp only [List.nil_append, List.length_append, List.length_cons, List.length_nil]; omega)]
    have ew : IntKind.wrap .i64 ((i : Int) + 1) = ((i + 1 : Nat) : Int) := by rw [wrap_i64 (by omega)]; omega
    dsimp only
    rw [ew]
    have es : sortK keyF (x.take (i + 1)) = insK keyF x[i] (sortK keyF (x.take i)) := by
      rw [List.take_succ_eq_append_getElem hi, sortK_snoc]
    rw [es]
    rfl
  · dsimp only
    unfold p_dormouseref04_Sort.b1 p_dormouseref04_Sort.j0
    rw [decide_eq_false (Int.lt_irrefl _), cond_false, List.take_length]

theorem clone_eq {x : List Nat} (hb : x.length ≤ 17592186044416) : p_slices_Clone_float64_float64 x = some x := by
  unfold p_slices_Clone_float64_float64 joinC p_slices_Clone_float64_float64.j0
  cases x with
  | nil =>
    have : need ((0 + List.length ([] : List Nat)) * 8 ≤ (140737488355328 : Nat)) (some (([] : List Nat) ++ [])) = some [] := need_yesF (by simp)
    simp only [List.isEmpty_nil, cond_true, cond_false, this]
    exact bothC_same _
  | cons a l =>
    simp only [List.isEmpty_cons, cond_false]
    exact need_yesF (by omega)
theorem gaugeSort_eq {x : List Nat} (hx : Fit x) (hb : x.length ≤ 60) : p_gauge_Sort x = some (sortK keyF x) := by
  unfold p_gauge_Sort p_sort_43
  rw [clone_eq (by omega), Option.bind_some, need_yesF (by omega), Option.bind_some, sort_same hx]
theorem least_eq {x : List Nat} (hx : Fit x) (hb : x.length ≤ 60) (h0 : 0 < x.length) : p_gauge_Least x = some ((sortK keyF x)[0]'(by rw [sortK_len]; exact h0)) := by
  unfold p_gauge_Least
  have hl := sortK_len keyF x
  have : ((x.length : Int) == 0) = false := beq_eq_false_iff_ne.2 (by omega)
  rw [this, cond_false, gaugeSort_eq hx hb, Option.bind_some, need_yesF ⟨by omega, by omega⟩]
  exact congrArg some (at_getF (i := 0) (by rw [sortK_len]; exact h0))
theorem most_eq {x : List Nat} (hx : Fit x) (hb : x.length ≤ 60) (h0 : 0 < x.length) : p_gauge_Most x = some ((sortK keyF x)[x.length - 1]'(by rw [sortK_len]; omega)) := by
  unfold p_gauge_Most
  have hl := sortK_len keyF x
  have : ((x.length : Int) == 0) = false := beq_eq_false_iff_ne.2 (by omega)
  have ew : IntKind.wrap .i64 ((x.length : Int) - 1) = ((x.length - 1 : Nat) : Int) := by rw [wrap_i64 (by omega)]; omega
  rw [this, cond_false, gaugeSort_eq hx hb, Option.bind_some, ew, need_yesF ⟨by omega, by omega⟩]
  exact congrArg some (at_getF (by rw [sortK_len]; omega))
theorem same_eq (x y : Nat) : p_dormouseref04_Same x y = some (decide (x = y)) := by
  unfold p_dormouseref04_Same
  refine congrArg some ?_
  by_cases h : x = y
  · simp [h]
  · have : ¬ (x : Int) = (y : Int) := by omega
    simp [h, this]
end Go.Dor
end

section
/- FLOATS' ORDER: comparisons of words told by whole numbers. No program. -/
set_option linter.unusedVariables false
set_option linter.unusedSimpArgs false
namespace Go.Dor

/-- what a word's lower bits stand for, in the least units -/
def U (r : Nat) : Nat := if r < 4503599627370496 then r else (4503599627370496 + r % 4503599627370496) * 2 ^ (r / 4503599627370496 - 1)
theorem U_mono {r s : Nat} (h : r < s) : U r < U s := by
  unfold U
  have hr := Nat.div_add_mod r 4503599627370496
  have hs := Nat.div_add_mod s 4503599627370496
  have fr : r % 4503599627370496 < 4503599627370496 := Nat.mod_lt _ (by decide)
  have fs : s % 4503599627370496 < 4503599627370496 := Nat.mod_lt _ (by decide)
  generalize hq : r / 4503599627370496 = q at *
  generalize hq' : s / 4503599627370496 = q' at *
  generalize r % 4503599627370496 = f at *
  generalize s % 4503599627370496 = f' at *
  by_cases h1 : r < 4503599627370496
  · rw [if_pos h1]
    by_cases h2 : s < 4503599627370496
    · rw [if_pos h2]; exact h
    · rw [if_neg h2]
      have : 1 ≤ 2 ^ (q' - 1) := Nat.one_le_two_pow
      calc r < 4503599627370496 := h1
        _ ≤ (4503599627370496 + f') * 1 := by omega
        _ ≤ (4503599627370496 + f') * 2 ^ (q' - 1) := Nat.mul_le_mul_left _ this
  · have h2 : ¬ s < 4503599627370496 := by omega
    rw [if_neg h1, if_neg h2]
    have q1 : 1 ≤ q := by omega
    by_cases he : q = q'
    · subst he
      exact Nat.mul_lt_mul_of_pos_right (by omega) (Nat.two_pow_pos _)
    · have hlt : q < q' := by omega
      calc (4503599627370496 + f) * 2 ^ (q - 1) < (4503599627370496 * 2) * 2 ^ (q - 1) := Nat.mul_lt_mul_of_pos_right (by omega) (Nat.two_pow_pos _)
        _ = 4503599627370496 * 2 ^ (q - 1 + 1) := by rw [Nat.pow_succ]; rw [Nat.mul_assoc, Nat.mul_comm 2]
        _ ≤ 4503599627370496 * 2 ^ (q' - 1) := Nat.mul_le_mul_left _ (Nat.pow_le_pow_right (by decide) (by omega))
        _ ≤ (4503599627370496 + f') * 2 ^ (q' - 1) := Nat.mul_le_mul_right _ (by omega)
theorem U_lt {r s : Nat} : U r < U s ↔ r < s := by
  constructor
  · intro h
    rcases Nat.lt_trichotomy r s with q | q | q
    · exact q
    · subst q; omega
    · have := U_mono q; omega
  · exact U_mono
theorem U_eq {r s : Nat} : U r = U s ↔ r = s := by
  constructor
  · intro h
    rcases Nat.lt_trichotomy r s with q | q | q
    · have := U_mono q; omega
    · exact q
    · have := U_mono q; omega
  · rintro rfl; rfl
theorem U_zero : U 0 = 0 := rfl

/-- lower bits and sign -/
def rg (x : Nat) : Nat := x % 9223372036854775808
def ng (x : Nat) : Bool := x / 9223372036854775808 % 2 == 1
/-- a word as a whole number of its own order -/
def fv (x : Nat) : Int := if ng x then -(rg x : Int) else (rg x : Int)
def isN (x : Nat) : Prop := 9218868437227405312 < rg x
def isI (x : Nat) : Prop := rg x = 9218868437227405312
def isF (x : Nat) : Prop := rg x < 9218868437227405312

theorem read_F {x : Nat} (h : isF x) : ∃ (m a : Nat), Ieee.double.read x = .number (ng x) m (-1074 + (a : Int)) ∧ m * 2 ^ a = U (rg x) := by
  unfold isF at h
  have hb : Ieee.double.binade = 4503599627370496 := rfl
  have hi : Ieee.double.infRung = 9218868437227405312 := rfl
  have hs : Ieee.double.signWeight = 9223372036854775808 := rfl
  have hl : Ieee.double.leastPlace = -1074 := rfl
  unfold Ieee.Format.read
  rw [hb, hi, hs, hl]
  dsimp only
  have e1 : x % 9223372036854775808 = rg x := rfl
  have e2 : (x / 9223372036854775808 % 2 == 1) = ng x := rfl
  rw [e1, e2]
  by_cases h1 : rg x < 4503599627370496
  · rw [if_pos h1]
    refine ⟨rg x, 0, by simp, ?_⟩
    unfold U
    rw [if_pos h1]; omega
  · rw [if_neg h1, if_pos h]
    refine ⟨_, rg x / 4503599627370496 - 1, rfl, ?_⟩
    unfold U
    rw [if_neg h1]
theorem read_I {x : Nat} (h : isI x) : Ieee.double.read x = .infinity (ng x) := by
  unfold isI at h
  have hb : Ieee.double.binade = 4503599627370496 := rfl
  have hi : Ieee.double.infRung = 9218868437227405312 := rfl
  have hs : Ieee.double.signWeight = 9223372036854775808 := rfl
  unfold Ieee.Format.read
  rw [hb, hi, hs]
  dsimp only
  have e1 : x % 9223372036854775808 = rg x := rfl
  rw [e1, h]
  rfl
theorem read_N {x : Nat} (h : isN x) : (Ieee.double.read x).isNaN = true := by
  unfold isN at h
  have hb : Ieee.double.binade = 4503599627370496 := rfl
  have hi : Ieee.double.infRung = 9218868437227405312 := rfl
  have hs : Ieee.double.signWeight = 9223372036854775808 := rfl
  unfold Ieee.Format.read
  rw [hb, hi, hs]
  dsimp only
  have e1 : x % 9223372036854775808 = rg x := rfl
  rw [e1, if_neg (by omega), if_neg (by omega), if_neg (by omega)]
  rfl

theorem cmp_iff {a b c d : Int} (h1 : a < b ↔ c < d) (h2 : a = b ↔ c = d) : compare a b = compare c d := by
  show compareOfLessAndEq a b = compareOfLessAndEq c d
  unfold compareOfLessAndEq
  by_cases q : a < b
  · rw [if_pos q, if_pos (h1.1 q)]
  · rw [if_neg q, if_neg (fun k => q (h1.2 k))]
    by_cases q2 : a = b
    · rw [if_pos q2, if_pos (h2.1 q2)]
    · rw [if_neg q2, if_neg (fun k => q2 (h2.2 k))]
theorem cmp_fv {p q : Bool} {A B r s : Nat} (h1 : A < B ↔ r < s) (h2 : A = B ↔ r = s) (h3 : A = 0 ↔ r = 0) (h4 : B = 0 ↔ s = 0) :
    compare (if p then -(A : Int) else (A : Int)) (if q then -(B : Int) else (B : Int)) = compare (if p then -(r : Int) else (r : Int)) (if q then -(s : Int) else (s : Int)) := by
  apply cmp_iff
  · cases p <;> cases q <;> simp only [if_true, if_false, Bool.false_eq_true] <;> omega
  · cases p <;> cases q <;> simp only [if_true, if_false, Bool.false_eq_true] <;> omega

/-- two words that are no NaNs stand to each other as these whole numbers do -/
theorem order_fv {x y : Nat} (hx : ¬ isN x) (hy : ¬ isN y) : Ieee.double.order x y = some (compare (fv x) (fv y)) := by
  unfold Ieee.Format.order
  have ix : isI x ∨ isF x := by unfold isN isI isF at *; omega
  have iy : isI y ∨ isF y := by unfold isN isI isF at *; omega
  rcases ix with ix | ix <;> rcases iy with iy | iy
  · rw [read_I ix, read_I iy]
    unfold isI at ix iy
    show some (compare (ng y).toNat (ng x).toNat) = _
    unfold fv
    rw [ix, iy]
    cases ng x <;> cases ng y <;> rfl
  · obtain ⟨n, b, e, hb⟩ := read_F iy
    rw [read_I ix, e]
    unfold isI at ix
    unfold isF at iy
    show some (if (ng x) = true then Ordering.lt else Ordering.gt) = _
    congr 1
    show _ = compareOfLessAndEq _ _
    unfold compareOfLessAndEq fv
    rw [ix]
    cases ng x <;> cases ng y <;> simp only [if_true, if_false, Bool.false_eq_true]
    · rw [if_neg (by omega), if_neg (by omega)]
    · rw [if_neg (by omega), if_neg (by omega)]
    · rw [if_pos (by omega)]
    · rw [if_pos (by omega)]
  · obtain ⟨n, b, e, hb⟩ := read_F ix
    rw [read_I iy, e]
    unfold isI at iy
    unfold isF at ix
    show some (if (ng y) = true then Ordering.gt else Ordering.lt) = _
    congr 1
    show _ = compareOfLessAndEq _ _
    unfold compareOfLessAndEq fv
    rw [iy]
    cases ng x <;> cases ng y <;> simp only [if_true, if_false, Bool.false_eq_true]
    · rw [if_pos (by omega)]
    · rw [if_neg (by omega), if_neg (by omega)]
    · rw [if_pos (by omega)]
    · rw [if_neg (by omega), if_neg (by omega)]
  · obtain ⟨m, a, e1, ha⟩ := read_F ix
    obtain ⟨n, b, e2, hb⟩ := read_F iy
    rw [e1, e2]
    show some (compare (Ieee.signed (ng x) m ((-1074 + (a : Int)) - min (-1074 + (a : Int)) (-1074 + (b : Int))).toNat) (Ieee.signed (ng y) n ((-1074 + (b : Int)) - min (-1074 + (a : Int)) (-1074 + (b : Int))).toNat)) = _
    have ea : ((-1074 + (a : Int)) - min (-1074 + (a : Int)) (-1074 + (b : Int))).toNat = a - min a b := by omega
    have eb : ((-1074 + (b : Int)) - min (-1074 + (a : Int)) (-1074 + (b : Int))).toNat = b - min a b := by omega
    rw [ea, eb]
    unfold Ieee.signed fv
    rw [Nat.shiftLeft_eq, Nat.shiftLeft_eq]
    congr 1
    have pc : 0 < 2 ^ min a b := Nat.two_pow_pos _
    have ka : m * 2 ^ (a - min a b) * 2 ^ min a b = U (rg x) := by
      rw [Nat.mul_assoc, ← Nat.pow_add, Nat.sub_add_cancel (Nat.min_le_left a b)]; exact ha
    have kb : n * 2 ^ (b - min a b) * 2 ^ min a b = U (rg y) := by
      rw [Nat.mul_assoc, ← Nat.pow_add, Nat.sub_add_cancel (Nat.min_le_right a b)]; exact hb
    generalize m * 2 ^ (a - min a b) = A at ka ⊢
    generalize n * 2 ^ (b - min a b) = B at kb ⊢
    generalize 2 ^ min a b = C at ka kb pc
    refine cmp_fv ?_ ?_ ?_ ?_
    · rw [← U_lt (r := rg x), ← ka, ← kb]
      exact (Nat.mul_lt_mul_right pc).symm
    · rw [← U_eq (r := rg x), ← ka, ← kb]
      exact (Nat.mul_left_inj (by omega)).symm
    · rw [← U_eq (r := rg x), ← ka, U_zero]
      rw [Nat.mul_eq_zero]
      omega
    · rw [← U_eq (r := rg y), ← kb, U_zero]
      rw [Nat.mul_eq_zero]
      omega
theorem order_N {x y : Nat} (h : isN x ∨ isN y) : Ieee.double.order x y = none := by
  rcases h with h | h
  · exact order_nan_l (k := .f64) (read_N h)
  · exact order_nan_r (k := .f64) (read_N h)

instance (x : Nat) : Decidable (isN x) := inferInstanceAs (Decidable (_ < _))
theorem eq_fv (x y : Nat) : flEq .f64 x y = (!decide (isN x) && !decide (isN y) && decide (fv x = fv y)) := by
  unfold flEq
  show (Ieee.double.order x y == some .eq) = _
  by_cases hx : isN x
  · rw [order_N (.inl hx)]; simp [hx]
  · by_cases hy : isN y
    · rw [order_N (.inr hy)]; simp [hy]
    · rw [order_fv hx hy]
      simp only [hx, hy, decide_false, Bool.not_false, Bool.true_and]
      show (some (compareOfLessAndEq (fv x) (fv y)) == some Ordering.eq) = _
      unfold compareOfLessAndEq
      by_cases q : fv x < fv y
      · rw [if_pos q, decide_eq_false (by omega)]; rfl
      · rw [if_neg q]
        by_cases q2 : fv x = fv y
        · rw [if_pos q2, decide_eq_true q2]; rfl
        · rw [if_neg q2, decide_eq_false q2]; rfl
theorem lt_fv (x y : Nat) : flLt .f64 x y = (!decide (isN x) && !decide (isN y) && decide (fv x < fv y)) := by
  unfold flLt
  show (Ieee.double.order x y == some .lt) = _
  by_cases hx : isN x
  · rw [order_N (.inl hx)]; simp [hx]
  · by_cases hy : isN y
    · rw [order_N (.inr hy)]; simp [hy]
    · rw [order_fv hx hy]
      simp only [hx, hy, decide_false, Bool.not_false, Bool.true_and]
      show (some (compareOfLessAndEq (fv x) (fv y)) == some Ordering.lt) = _
      unfold compareOfLessAndEq
      by_cases q : fv x < fv y
      · rw [if_pos q, decide_eq_true q]; rfl
      · rw [if_neg q, decide_eq_false q]
        by_cases q2 : fv x = fv y
        · rw [if_pos q2]; rfl
        · rw [if_neg q2]; rfl
theorem gt_fv (x y : Nat) : flGt .f64 x y = (!decide (isN x) && !decide (isN y) && decide (fv y < fv x)) := by
  unfold flGt
  show (Ieee.double.order x y == some .gt) = _
  by_cases hx : isN x
  · rw [order_N (.inl hx)]; simp [hx]
  · by_cases hy : isN y
    · rw [order_N (.inr hy)]; simp [hy]
    · rw [order_fv hx hy]
      simp only [hx, hy, decide_false, Bool.not_false, Bool.true_and]
      show (some (compareOfLessAndEq (fv x) (fv y)) == some Ordering.gt) = _
      unfold compareOfLessAndEq
      by_cases q : fv x < fv y
      · rw [if_pos q, decide_eq_false (by omega)]; rfl
      · rw [if_neg q]
        by_cases q2 : fv x = fv y
        · rw [if_pos q2, decide_eq_false (by omega)]; rfl
        · rw [if_neg q2, decide_eq_true (by omega)]; rfl
end Go.Dor
end

section
/- CLASSES: which numbers are finite. -/
set_option linter.unusedVariables false
set_option linter.unusedSimpArgs false
namespace Go.Dor
open Go.Proofs

theorem fv_lo {x : Nat} (h : x < 9223372036854775808) : fv x = (x : Int) ∧ rg x = x := by
  have e1 : rg x = x := Nat.mod_eq_of_lt h
  have e2 : ng x = false := by
    unfold ng
    rw [Nat.div_eq_of_lt h]; rfl
  unfold fv
  rw [e1, e2]
  exact ⟨if_neg (by decide), rfl⟩
theorem fv_hi {x : Nat} (h : 9223372036854775808 ≤ x) (h2 : x < 18446744073709551616) : fv x = -((x - 9223372036854775808 : Nat) : Int) ∧ rg x = x - 9223372036854775808 := by
  have e1 : rg x = x - 9223372036854775808 := by unfold rg; omega
  have e2 : ng x = true := by
    unfold ng
    have : x / 9223372036854775808 = 1 := by omega
    rw [this]; rfl
  unfold fv
  rw [e1, e2]
  exact ⟨if_pos rfl, rfl⟩
theorem xor_top {x : Nat} (h : x < 9223372036854775808) : x ^^^ 9223372036854775808 = x + 9223372036854775808 := by
  have hx : x < 2 ^ 63 := h
  have e1 : x ^^^ 9223372036854775808 = x ||| 9223372036854775808 := by
    have e63 : (9223372036854775808 : Nat) = 2 ^ 63 := rfl
    rw [e63]
    apply Nat.eq_of_testBit_eq
    intro i
    rw [Nat.testBit_xor, Nat.testBit_or, Nat.testBit_two_pow]
    by_cases hi : 63 = i
    · subst hi
      rw [Nat.testBit_lt_two_pow hx]; simp
    · simp [hi]
  have := or_add (a := 1) (b := x) (n := 63) hx
  rw [Nat.one_mul] at this
  rw [e1, Nat.or_comm, Nat.add_comm]
  exact this
theorem neg_lo {x : Nat} (h : x < 9223372036854775808) : flNeg .f64 x = x + 9223372036854775808 := xor_top h
theorem neg_hi {x : Nat} (h : 9223372036854775808 ≤ x) (h2 : x < 18446744073709551616) : flNeg .f64 x = x - 9223372036854775808 := by
  show x ^^^ 9223372036854775808 = _
  have e : x = (x - 9223372036854775808) ^^^ 9223372036854775808 := by
    rw [xor_top (by omega)]; omega
  conv => lhs; rw [e]
  rw [Nat.xor_assoc, Nat.xor_self, Nat.xor_zero]
theorem neg_fv {x : Nat} (h : x < 18446744073709551616) : fv (flNeg .f64 x) = - fv x ∧ (isN (flNeg .f64 x) ↔ isN x) := by
  by_cases h1 : x < 9223372036854775808
  · rw [neg_lo h1]
    obtain ⟨e1, e2⟩ := fv_lo h1
    obtain ⟨e3, e4⟩ := fv_hi (x := x + 9223372036854775808) (by omega) (by omega)
    rw [e1, e3]
    unfold isN
    rw [e2, e4]
    exact ⟨by omega, by omega⟩
  · rw [neg_hi (by omega) h]
    obtain ⟨e1, e2⟩ := fv_hi (by omega) h
    obtain ⟨e3, e4⟩ := fv_lo (x := x - 9223372036854775808) (by omega)
    rw [e1, e3]
    unfold isN
    rw [e2, e4]
    exact ⟨by omega, by omega⟩
theorem subself_F {x : Nat} (h : isF x) : flOpX 1 .f64 x x = 0 := by
  obtain ⟨m, a, e, _⟩ := read_F h
  have : flOp 1 .f64 x x = some 0 := by
    show ((Ieee.double.read x).sum (Ieee.double.read x).opposite).map Ieee.double.write = some 0
    rw [e]
    show some (Ieee.double.write (.number (if Ieee.signed (ng x) m _ + Ieee.signed (!ng x) m _ = 0 then ng x && !ng x else _) _ _)) = some 0
    have et : ∀ q : Nat, Ieee.signed (ng x) m q + Ieee.signed (!ng x) m q = 0 := fun q => by
      unfold Ieee.signed
      cases ng x <;> simp <;> omega
    rw [et]
    simp only [if_true, Bool.and_not_self, Int.natAbs_zero]
    rfl
  unfold flOpX
  rw [this]; rfl
theorem subself_I {x : Nat} (h : isI x) : flOpX 1 .f64 x x = nanC := by
  have : flOp 1 .f64 x x = none := by
    show ((Ieee.double.read x).sum (Ieee.double.read x).opposite).map Ieee.double.write = none
    rw [read_I h]
    show (if ng x = !ng x then some _ else none : Option Ieee.Datum).map _ = none
    rw [if_neg (by cases ng x <;> decide)]
    rfl
  unfold flOpX
  rw [this]; rfl
theorem nanC_isN : isN nanC := by decide
theorem self_eq (x : Nat) : flEq .f64 x x = !decide (isN x) := by rw [eq_fv]; simp
instance (x : Nat) : Decidable (isI x) := inferInstanceAs (Decidable (_ = _))
theorem infinite_eq (x : Nat) : p_dormouseref04_Infinite x = some (decide (isI x)) := by
  unfold p_dormouseref04_Infinite p_dormouseref04_Infinite.j0 joinC
  rw [self_eq]
  by_cases hn : isN x
  · have : ¬ isI x := by unfold isN isI at *; omega
    rw [decide_eq_true hn, decide_eq_false this]; rfl
  · rw [decide_eq_false hn]
    by_cases hi : isI x
    · rw [subself_I hi, decide_eq_true hi, eq_fv, decide_eq_true nanC_isN]; rfl
    · have hf : isF x := by unfold isN isI isF at *; omega
      rw [subself_F hf, decide_eq_false hi]
      have : flEq .f64 0 0 = true := by rw [self_eq]; rfl
      rw [this]; rfl
theorem n0 : ¬ isN 0 := by decide
theorem fv0 : fv 0 = 0 := rfl
theorem lt0 {x : Nat} (h : ¬ isN x) : flLt .f64 x 0 = decide (fv x < 0) := by rw [lt_fv]; simp [h, n0, fv0]; rfl
theorem eq0 {x : Nat} (h : ¬ isN x) : flEq .f64 x 0 = decide (fv x = 0) := by rw [eq_fv]; simp [h, n0, fv0]; rfl
theorem gt0 {x : Nat} (h : ¬ isN x) : flGt .f64 x 0 = decide (0 < fv x) := by rw [gt_fv]; simp [h, n0, fv0]; rfl
theorem gtMax {x : Nat} (h : ¬ isN x) : flGt .f64 x 9218868437227405311 = decide (9218868437227405311 < fv x) := by
  rw [gt_fv]
  have h1 : ¬ isN 9218868437227405311 := by decide
  have h2 : fv 9218868437227405311 = 9218868437227405311 := rfl
  simp [h, h1, h2]
theorem isInf_p {x : Nat} (h : ¬ isN x) : p_math_IsInf x 1 = some (decide (9218868437227405311 < fv x)) := by
  unfold p_math_IsInf p_math_IsInf.j0 joinC
  show some (flGt .f64 x 9218868437227405311) = _
  rw [gtMax h]
theorem isInf_m {x : Nat} (hx : x < 18446744073709551616) (h : ¬ isN x) : p_math_IsInf x (-1) = some (decide (9218868437227405311 < - fv x)) := by
  unfold p_math_IsInf p_math_IsInf.j0 joinC
  have h1 := neg_fv hx
  have h2 : ¬ isN (flNeg .f64 x) := fun q => h (h1.2.1 q)
  show some (flGt .f64 (flNeg .f64 x) 9218868437227405311) = _
  rw [gtMax h2, h1.1]
theorem signbit_eq {x : Nat} (hx : x < 18446744073709551616) : p_math_Signbit x = some (decide (9223372036854775808 ≤ x)) := by
  unfold p_math_Signbit
  refine congrArg some (decide_eq_decide.2 ?_)
  by_cases h : 9223372036854775808 ≤ x
  · have : IntKind.wrap .i64 (x : Int) = (x : Int) - 18446744073709551616 := by
      unfold IntKind.wrap
      have e1 : (2 : Int) ^ IntKind.bits .i64 = 18446744073709551616 := rfl
      have e2 : (2 : Int) ^ (IntKind.bits .i64 - 1) = 9223372036854775808 := rfl
      have e3 : IntKind.signed .i64 = true := rfl
      simp only [e1, e2, e3]
      have : (x : Int) % 18446744073709551616 = x := by omega
      rw [this]
      have : ((x : Int) ≥ 9223372036854775808) := by omega
      simp [this]
    rw [this]; omega
  · rw [wrap_i64 (by omega)]; omega
instance (x : Nat) : Decidable (isF x) := inferInstanceAs (Decidable (_ < _))
/-- what is struck from a row of numbers: what is not finite -/
theorem struck_eq {x : Nat} (hx : x < 18446744073709551616) : p_stat_Finite_c1 x = some (!decide (isF x)) := by
  unfold p_stat_Finite_c1 p_gauge_Class p_gauge_Class.j0 p_stat_Finite_c1.j0 joinC
  dsimp only
  rw [self_eq]
  by_cases hn : isN x
  · have hf : ¬ isF x := by unfold isN isF at *; omega
    rw [decide_eq_true hn, decide_eq_false hf]
    rfl
  · rw [decide_eq_false hn, isInf_m hx hn, lt0 hn, eq0 hn, isInf_p hn, signbit_eq hx]
    have hc : (x < 9223372036854775808 ∧ fv x = (x : Int) ∧ rg x = x) ∨ (9223372036854775808 ≤ x ∧ fv x = -((x - 9223372036854775808 : Nat) : Int) ∧ rg x = x - 9223372036854775808) := by
      by_cases h1 : x < 9223372036854775808
      · exact .inl ⟨h1, fv_lo h1⟩
      · exact .inr ⟨by omega, fv_hi (by omega) hx⟩
    simp only [Bool.not_true, Bool.not_false, cond_false, cond_true, Option.bind_some]
    have hF : decide (isF x) = decide (¬ (9218868437227405311 < fv x ∨ 9218868437227405311 < - fv x)) := by
      apply decide_eq_decide.2
      unfold isF isN at *
      omega
    rw [hF]
    by_cases a1 : 9218868437227405311 < - fv x
    · simp [a1]
    · by_cases a2 : 9218868437227405311 < fv x
      · have b1 : ¬ fv x < 0 := by omega
        have b2 : ¬ fv x = 0 := by omega
        simp [a1, a2, b1, b2]
      · by_cases a3 : fv x < 0
        · simp [a1, a2, a3]
        · by_cases a4 : fv x = 0
          · by_cases a5 : 9223372036854775808 ≤ x
            · simp [a4, a5]
            · simp [a4, a5]
          · simp [a1, a2, a3, a4]
end Go.Dor
end

section
/- ROUNDING: what is no more than a word's number is rounded to no more than that word. No program. -/
set_option linter.unusedVariables false
set_option linter.unusedSimpArgs false
namespace Go.Dor

theorem cut_le {n d : Nat} : Ieee.Toward.even.cut false n d ≤ n / 2 ^ (min d (n.log2 + 2)) + 1 ∧ (d ≤ n.log2 + 2 → (2 * Ieee.Toward.even.cut false n d - 1) * 2 ^ d ≤ 2 * n ∧ n / 2 ^ d ≤ Ieee.Toward.even.cut false n d) ∧ (n.log2 + 2 < d → Ieee.Toward.even.cut false n d = 0) := by
  unfold Ieee.Toward.cut
  dsimp only
  rw [Nat.one_shiftLeft]
  have hn : n < 2 ^ (n.log2 + 1) := Nat.lt_log2_self
  generalize hg : 2 ^ (min d (n.log2 + 2)) = gap
  have hpos : 0 < gap := by rw [← hg]; exact Nat.two_pow_pos _
  have hdm := Nat.div_add_mod n gap
  have hml := Nat.mod_lt n hpos
  generalize hlow : n / gap = low at *
  generalize hrest : n % gap = rest at *
  have hmore : ∀ b : Bool, b.toNat ≤ 1 := fun b => by cases b <;> decide
  refine ⟨Nat.add_le_add_left (hmore _) _, fun hd => ?_, fun hd => ?_⟩
  · rw [Nat.min_eq_left hd] at hg
    rw [hg]
    refine ⟨?_, by rw [hlow]; exact Nat.le_add_right _ _⟩
    cases hb : (decide (gap < 2 * rest) || (gap == 2 * rest && low % 2 == 1))
    · simp only [Bool.toNat_false, Nat.add_zero]
      have : 2 * low * gap ≤ 2 * n := by
        rw [Nat.mul_assoc, Nat.mul_comm low]; omega
      exact Nat.le_trans (Nat.mul_le_mul_right _ (Nat.sub_le _ _)) this
    · simp only [Bool.toNat_true]
      have h2 : gap ≤ 2 * rest := by
        rw [Bool.or_eq_true] at hb
        rcases hb with hb | hb
        · exact Nat.le_of_lt (of_decide_eq_true hb)
        · rw [Bool.and_eq_true] at hb
          exact Nat.le_of_eq (eq_of_beq hb.1)
      have e : (2 * (low + 1) - 1) * gap = 2 * (gap * low) + gap := by
        have : 2 * (low + 1) - 1 = 2 * low + 1 := by omega
        rw [this, Nat.add_mul, Nat.one_mul, Nat.mul_assoc, Nat.mul_comm low]
      rw [e]
      omega
  · rw [Nat.min_eq_right (Nat.le_of_lt hd)] at hg
    have h4 : gap = 2 * 2 ^ (n.log2 + 1) := by rw [← hg, Nat.pow_succ, Nat.mul_comm]
    have hlt : 2 * n < gap := by omega
    have h0 : low = 0 := by rw [← hlow]; exact Nat.div_eq_of_lt (by omega)
    have hr : rest = n := by rw [← hrest]; exact Nat.mod_eq_of_lt (by omega)
    rw [h0, hr]
    have b1 : decide (gap < 2 * n) = false := decide_eq_false (by omega)
    have b2 : (gap == 2 * n) = false := beq_eq_false_iff_ne.2 (by omega)
    rw [b1, b2]; rfl

theorem U_top {q k : Nat} (h1 : 4503599627370496 ≤ k) (h2 : k < 9007199254740992) : U (q * 4503599627370496 + k) = k * 2 ^ q := by
  unfold U
  rw [if_neg (by omega)]
  have e1 : (q * 4503599627370496 + k) / 4503599627370496 = q + 1 := by omega
  have e2 : (q * 4503599627370496 + k) % 4503599627370496 = k - 4503599627370496 := by omega
  have e3 : 4503599627370496 + (k - 4503599627370496) = k := by omega
  rw [e1, e2, e3, Nat.add_sub_cancel]
theorem U_low {k : Nat} (h2 : k < 9007199254740992) : U k = k := by
  by_cases h : k < 4503599627370496
  · unfold U; rw [if_pos h]
  · have := U_top (q := 0) (k := k) (by omega) h2
    simpa using this
theorem U_edge {q : Nat} : U (q * 4503599627370496 + 9007199254740991) = 9007199254740991 * 2 ^ q := U_top (by decide) (by decide)
theorem pow53 (b : Nat) : 2 ^ (53 + b) = 9007199254740992 * 2 ^ b := Nat.pow_add 2 53 b
theorem pow52 (b : Nat) : 2 ^ (52 + b) = 4503599627370496 * 2 ^ b := Nat.pow_add 2 52 b
theorem word_le (r : Nat) : Ieee.double.word false (min r Ieee.double.infRung) ≤ r := by
  have : Ieee.double.word false (min r Ieee.double.infRung) = min r Ieee.double.infRung := rfl
  rw [this]
  exact Nat.min_le_left _ _
theorem near_le {mag : Nat} {place : Int} {w K : Nat} (hK : 1074 ≤ K) (hp : 0 ≤ (K : Int) + place) (h : mag * 2 ^ ((K : Int) + place).toNat ≤ U w * 2 ^ (K - 1074)) : Ieee.double.nearest false mag place ≤ w := by
  unfold Ieee.Format.nearest
  by_cases h0 : mag = 0
  · rw [if_pos h0]
    exact Nat.zero_le _
  rw [if_neg h0]
  have hl : Ieee.double.leastPlace = -1074 := rfl
  have hf : (Ieee.double.fractionBits : Int) = 52 := rfl
  have hb : Ieee.double.binade = 4503599627370496 := rfl
  dsimp only
  rw [hl, hf, hb]
  obtain ⟨Q, hQ⟩ : ∃ Q : Nat, max (place + (mag.log2 : Int) - 52) (-1074) = (Q : Int) - 1074 := ⟨(max (place + (mag.log2 : Int) - 52) (-1074) + 1074).toNat, by omega⟩
  rw [hQ]
  have eQ : ((Q : Int) - 1074 - -1074).toNat = Q := by omega
  rw [eQ]
  generalize hA : (place - ((Q : Int) - 1074)).toNat = A
  generalize hB : ((Q : Int) - 1074 - place).toNat = B
  have hAB : (A : Int) - B = place - ((Q : Int) - 1074) := by omega
  have hAB0 : A = 0 ∨ B = 0 := by omega
  rw [Nat.shiftLeft_eq]
  have hm1 : 2 ^ mag.log2 ≤ mag := Nat.log2_self_le h0
  have hm2 : mag < 2 ^ (mag.log2 + 1) := Nat.lt_log2_self
  have hn0 : mag * 2 ^ A ≠ 0 := Nat.mul_ne_zero h0 (Nat.ne_of_gt (Nat.two_pow_pos _))
  have hcut := cut_le (n := mag * 2 ^ A) (d := B)
  have hnl : mag * 2 ^ A < 2 ^ ((mag * 2 ^ A).log2 + 1) := Nat.lt_log2_self
  have hn2 : mag * 2 ^ A < 2 ^ (mag.log2 + 1 + A) := by rw [Nat.pow_add]; exact Nat.mul_lt_mul_of_pos_right hm2 (Nat.two_pow_pos _)
  have hn1 : 2 ^ (mag.log2 + A) ≤ mag * 2 ^ A := by rw [Nat.pow_add]; exact Nat.mul_le_mul_right _ hm1
  obtain ⟨c1, c2, c3⟩ := hcut
  generalize hk : Ieee.Toward.even.cut false (mag * 2 ^ A) B = kept at *
  refine Nat.le_trans (word_le _) ?_
  by_cases hd : B ≤ (mag * 2 ^ A).log2 + 2
  · obtain ⟨c2, c4⟩ := c2 hd
    rw [Nat.min_eq_left hd] at c1
    have hlow : mag * 2 ^ A / 2 ^ B < 9007199254740992 := by
      rw [Nat.div_lt_iff_lt_mul (Nat.two_pow_pos _)]
      exact Nat.lt_of_lt_of_le hn2 (Nat.le_trans (Nat.pow_le_pow_right (by decide) (by omega)) (Nat.le_of_eq (pow53 B)))
    have hkm : kept ≤ 9007199254740992 := by omega
    -- the number in the least units
    have hu : ∀ z : Nat, 2 * z + 1 ≤ 2 * kept → 2 * (mag * 2 ^ ((K : Int) + place).toNat) > 2 * (z * 2 ^ Q * 2 ^ (K - 1074)) := by
      intro z hz
      have e1 : mag * 2 ^ ((K : Int) + place).toNat * 2 ^ B = mag * 2 ^ A * (2 ^ Q * 2 ^ (K - 1074)) := by
        have e0 : ((K : Int) + place).toNat + B = A + (Q + (K - 1074)) := by omega
        rw [Nat.mul_assoc, Nat.mul_assoc, ← Nat.pow_add, ← Nat.pow_add, ← Nat.pow_add, e0]
      have pb : 0 < 2 ^ B := Nat.two_pow_pos _
      have pq : 0 < 2 ^ Q * 2 ^ (K - 1074) := Nat.mul_pos (Nat.two_pow_pos _) (Nat.two_pow_pos _)
      have e2 : (2 * z + 1) * 2 ^ B ≤ 2 * (mag * 2 ^ A) := by
        refine Nat.le_trans (Nat.mul_le_mul_right _ ?_) c2
        omega
      have e3 : (2 * z + 1) * 2 ^ B * (2 ^ Q * 2 ^ (K - 1074)) ≤ 2 * (mag * 2 ^ ((K : Int) + place).toNat) * 2 ^ B := by
        rw [Nat.mul_assoc 2, e1, ← Nat.mul_assoc 2]
        exact Nat.mul_le_mul_right _ e2
      have e4 : (2 * z + 1) * (2 ^ Q * 2 ^ (K - 1074)) ≤ 2 * (mag * 2 ^ ((K : Int) + place).toNat) := by
        refine Nat.le_of_mul_le_mul_right ?_ pb
        calc (2 * z + 1) * (2 ^ Q * 2 ^ (K - 1074)) * 2 ^ B = (2 * z + 1) * 2 ^ B * (2 ^ Q * 2 ^ (K - 1074)) := by rw [Nat.mul_assoc, Nat.mul_comm (2 ^ Q * 2 ^ (K - 1074)), ← Nat.mul_assoc]
          _ ≤ _ := e3
      have e5 : 2 * (z * 2 ^ Q * 2 ^ (K - 1074)) = 2 * z * (2 ^ Q * 2 ^ (K - 1074)) := by rw [Nat.mul_assoc z, ← Nat.mul_assoc 2]
      rw [e5]
      refine Nat.lt_of_lt_of_le (Nat.mul_lt_mul_of_pos_right (Nat.lt_succ_self _) pq) e4
    refine Nat.le_of_not_lt fun hw => ?_
    have fin : ∀ z : Nat, 2 * z + 1 ≤ 2 * kept → U (Q * 4503599627370496 + kept - 1) = z * 2 ^ Q → False := by
      intro z hz hU
      have h1 : U w ≤ U (Q * 4503599627370496 + kept - 1) := by
        rcases Nat.lt_or_ge w (Q * 4503599627370496 + kept - 1) with q | q
        · exact Nat.le_of_lt (U_mono q)
        · have : w = Q * 4503599627370496 + kept - 1 := by omega
          rw [this]; exact Nat.le_refl _
      have h2 := hu z hz
      have h3 : U w * 2 ^ (K - 1074) ≤ z * 2 ^ Q * 2 ^ (K - 1074) := by
        rw [← hU]; exact Nat.mul_le_mul_right _ h1
      omega
    by_cases hQ0 : Q = 0
    · subst hQ0
      have hk1 : 1 ≤ kept := by omega
      refine fin (kept - 1) (by omega) ?_
      rw [Nat.zero_mul, Nat.zero_add, U_low (by omega), Nat.pow_zero, Nat.mul_one]
    · -- the number is a full one
      have hfull : 4503599627370496 ≤ mag * 2 ^ A / 2 ^ B := by
        rw [Nat.le_div_iff_mul_le (Nat.two_pow_pos _)]
        exact Nat.le_trans (Nat.le_of_eq (pow52 B).symm) (Nat.le_trans (Nat.pow_le_pow_right (by decide) (by omega)) hn1)
      by_cases hk52 : kept = 4503599627370496
      · -- below it stands the last word of the binade below
        have eU : U (Q * 4503599627370496 + kept - 1) = 9007199254740991 * 2 ^ (Q - 1) := by
          have e : Q * 4503599627370496 + kept - 1 = (Q - 1) * 4503599627370496 + 9007199254740991 := by omega
          rw [e]
          exact U_edge
        have h1 : U w ≤ U (Q * 4503599627370496 + kept - 1) := by
          rcases Nat.lt_or_ge w (Q * 4503599627370496 + kept - 1) with q | q
          · exact Nat.le_of_lt (U_mono q)
          · have : w = Q * 4503599627370496 + kept - 1 := by omega
            rw [this]; exact Nat.le_refl _
        rw [eU] at h1
        have e1 : mag * 2 ^ ((K : Int) + place).toNat * 2 ^ B = mag * 2 ^ A * (2 ^ Q * 2 ^ (K - 1074)) := by
          have e0 : ((K : Int) + place).toNat + B = A + (Q + (K - 1074)) := by omega
          rw [Nat.mul_assoc, Nat.mul_assoc, ← Nat.pow_add, ← Nat.pow_add, ← Nat.pow_add, e0]
        have e2 : 4503599627370496 * 2 ^ B ≤ mag * 2 ^ A := (Nat.le_div_iff_mul_le (Nat.two_pow_pos _)).1 hfull
        have e3 : 4503599627370496 * (2 ^ Q * 2 ^ (K - 1074)) ≤ mag * 2 ^ ((K : Int) + place).toNat := by
          refine Nat.le_of_mul_le_mul_right ?_ (Nat.two_pow_pos B)
          rw [e1]
          calc 4503599627370496 * (2 ^ Q * 2 ^ (K - 1074)) * 2 ^ B = 4503599627370496 * 2 ^ B * (2 ^ Q * 2 ^ (K - 1074)) := by rw [Nat.mul_assoc, Nat.mul_comm (2 ^ Q * 2 ^ (K - 1074)), ← Nat.mul_assoc]
            _ ≤ _ := Nat.mul_le_mul_right _ e2
        have e4 : 2 ^ Q = 2 * 2 ^ (Q - 1) := by
          have : Q = (Q - 1) + 1 := by omega
          conv => lhs; rw [this, Nat.pow_succ, Nat.mul_comm]
        have e5 : U w * 2 ^ (K - 1074) ≤ 9007199254740991 * 2 ^ (Q - 1) * 2 ^ (K - 1074) := Nat.mul_le_mul_right _ h1
        have e6 : 4503599627370496 * (2 ^ Q * 2 ^ (K - 1074)) = 9007199254740992 * (2 ^ (Q - 1) * 2 ^ (K - 1074)) := by
          rw [e4, Nat.mul_assoc 2, ← Nat.mul_assoc 4503599627370496]
        have e7 : 9007199254740991 * 2 ^ (Q - 1) * 2 ^ (K - 1074) = 9007199254740991 * (2 ^ (Q - 1) * 2 ^ (K - 1074)) := Nat.mul_assoc _ _ _
        have pq : 0 < 2 ^ (Q - 1) * 2 ^ (K - 1074) := Nat.mul_pos (Nat.two_pow_pos _) (Nat.two_pow_pos _)
        rw [e6] at e3
        rw [e7] at e5
        generalize 2 ^ (Q - 1) * 2 ^ (K - 1074) = Z at *
        omega
      · refine fin (kept - 1) (by omega) ?_
        have : Q * 4503599627370496 + kept - 1 = Q * 4503599627370496 + (kept - 1) := by omega
        rw [this, U_top (by omega) (by omega)]
  · -- far below the least word
    have hk0 := c3 (by omega)
    have hA0 : A = 0 := by omega
    have hQ0 : Q = 0 := by
      have hlg : mag.log2 ≤ (mag * 2 ^ A).log2 := by rw [hA0, Nat.pow_zero, Nat.mul_one]; exact Nat.le_refl _
      omega
    simp only [hk0, hQ0, Nat.zero_mul, Nat.add_zero, Nat.zero_le]
end Go.Dor
end

section
/- SHARES OF THE WAY: held between 0 and 1, on both sides. -/
set_option linter.unusedVariables false
set_option linter.unusedSimpArgs false
namespace Go.Dor
open Go.Proofs

/-- alike: the same number, or both none -/
def alike (x y : Nat) : Bool := flEq .f64 x y || (!flEq .f64 x x && !flEq .f64 y y)
theorem alike_self (x : Nat) : alike x x = true := by
  unfold alike
  cases flEq .f64 x x <;> rfl
theorem alike_N {x y : Nat} (hx : isN x) (hy : isN y) : alike x y = true := by
  unfold alike
  rw [self_eq, self_eq, decide_eq_true hx, decide_eq_true hy]
  simp

/-! ### sums with a zero -/
theorem opX_nan_l {n x y : Nat} (h : isN x) : flOpX n .f64 x y = nanC := by
  unfold flOpX
  rw [flOp_nan_l (k := .f64) (read_N h)]; rfl
theorem opX_nan_r {n x y : Nat} (h : isN y) : flOpX n .f64 x y = nanC := by
  unfold flOpX
  rw [flOp_nan_r (k := .f64) (read_N h)]; rfl
theorem read_zero (z : Nat) (h : z = 0 ∨ z = 9223372036854775808) : Ieee.double.read z = .number (ng z) 0 (-1074) := by
  rcases h with rfl | rfl <;> rfl
theorem near_zero (s : Bool) (p : Int) : Ieee.double.nearest s 0 p = 0 ∨ Ieee.double.nearest s 0 p = 9223372036854775808 := by
  cases s
  · left; rfl
  · right; rfl
/-- a product with a zero: a zero, or a NaN's mark -/
theorem mul_zero {x z : Nat} (h : z = 0 ∨ z = 9223372036854775808) : (isF x ∧ (flOpX 2 .f64 x z = 0 ∨ flOpX 2 .f64 x z = 9223372036854775808)) ∨ (¬ isF x ∧ flOpX 2 .f64 x z = nanC) := by
  by_cases hn : isN x
  · right
    exact ⟨by unfold isN isF at *; omega, opX_nan_l hn⟩
  · by_cases hi : isI x
    · right
      refine ⟨by unfold isI isF at *; omega, ?_⟩
      unfold flOpX
      show (((Ieee.double.read x).product (Ieee.double.read z)).map Ieee.double.write).getD nanC = nanC
      rw [read_I hi, read_zero z h]
      rfl
    · have hf : isF x := by unfold isN isI isF at *; omega
      left
      refine ⟨hf, ?_⟩
      obtain ⟨m, a, e, _⟩ := read_F hf
      have : flOpX 2 .f64 x z = Ieee.double.nearest (ng x ^^ ng z) (m * 0) (-1074 + (a : Int) + -1074) := by
        unfold flOpX
        show (((Ieee.double.read x).product (Ieee.double.read z)).map Ieee.double.write).getD nanC = _
        rw [e, read_zero z h]
        rfl
      rw [this, Nat.mul_zero]
      exact near_zero _ _
theorem near_fin {s : Bool} {m : Nat} {p : Int} : ¬ isN (Ieee.double.nearest s m p) := by
  have key : ∀ r : Nat, r ≤ 9218868437227405312 → ¬ isN (Ieee.double.word s r) := by
    intro r hr
    have hs : Ieee.double.signWeight = 9223372036854775808 := rfl
    unfold isN rg Ieee.Format.word
    rw [hs]
    cases s
    · simp only [Bool.false_eq_true, if_false]; omega
    · simp only [if_true]; omega
  unfold Ieee.Format.nearest
  split
  · exact key 0 (by omega)
  · dsimp only
    exact key _ (Nat.min_le_right _ _)
theorem order_at {x y : Nat} (hx : ¬ isN x) (hy : ¬ isN y) : FloatKind.f64.format.order x y = some (compare (fv x) (fv y)) := order_fv hx hy
theorem cmp_lt {a b : Int} (h : a < b) : compare a b = .lt := by show compareOfLessAndEq a b = _; unfold compareOfLessAndEq; rw [if_pos h]
theorem cmp_eq {a b : Int} (h : a = b) : compare a b = .eq := by show compareOfLessAndEq a b = _; unfold compareOfLessAndEq; rw [if_neg (by omega), if_pos h]
theorem cmp_gt {a b : Int} (h : b < a) : compare a b = .gt := by show compareOfLessAndEq a b = _; unfold compareOfLessAndEq; rw [if_neg (by omega), if_neg (by omega)]
theorem n1 : ¬ isN 4607182418800017408 := by decide
theorem fv1 : fv 4607182418800017408 = 4607182418800017408 := rfl
theorem fv_zero {x : Nat} (hx : x < 18446744073709551616) (h : fv x = 0) : x = 0 ∨ x = 9223372036854775808 := by
  by_cases h1 : x < 9223372036854775808
  · rw [(fv_lo h1).1] at h; omega
  · rw [(fv_hi (by omega) hx).1] at h; omega
theorem fv_one {x : Nat} (hx : x < 18446744073709551616) (h : fv x = 4607182418800017408) : x = 4607182418800017408 := by
  by_cases h1 : x < 9223372036854775808
  · rw [(fv_lo h1).1] at h; omega
  · rw [(fv_hi (by omega) hx).1] at h; omega
def cl1 (s : Nat) : Nat := if flLt .f64 s 0 then 0 else s
def cl2 (s : Nat) : Nat := if flGt .f64 s 4607182418800017408 then 4607182418800017408 else s
theorem min_one {s : Nat} (hs : s < 18446744073709551616) (hn : ¬ isN s) : flMin .f64 s 4607182418800017408 = some (cl2 s) := by
  unfold flMin cl2
  rw [order_at hn n1, fv1, gt_fv, decide_eq_false hn, decide_eq_false n1, fv1]
  rcases Int.lt_trichotomy (fv s) 4607182418800017408 with h | h | h
  · rw [cmp_lt h, decide_eq_false (by omega)]; rfl
  · rw [cmp_eq h, decide_eq_false (by omega)]
    have := fv_one hs h
    subst this
    rfl
  · rw [cmp_gt h, decide_eq_true (by omega)]; rfl
/-- a share held between 0 and 1: the same on both sides, but for a zero's sign -/
theorem clamp_eq {s : Nat} (hs : s < 18446744073709551616) (hn : ¬ isN s) : ∃ m, flMax .f64 s 0 = some m ∧ ∃ t, flMin .f64 m 4607182418800017408 = some t ∧ (t = cl2 (cl1 s) ∨ ((t = 0 ∨ t = 9223372036854775808) ∧ (cl2 (cl1 s) = 0 ∨ cl2 (cl1 s) = 9223372036854775808))) := by
  have hl : flLt .f64 s 0 = decide (fv s < 0) := lt0 hn
  rcases Int.lt_trichotomy (fv s) 0 with h | h | h
  · refine ⟨0, ?_, _, min_one (by decide) n0, .inl ?_⟩
    · unfold flMax
      rw [order_at hn n0, fv0, cmp_lt h]
    · unfold cl1
      rw [hl, decide_eq_true h]; rfl
  · have hz := fv_zero hs h
    have hc : cl1 s = s := by unfold cl1; rw [hl, decide_eq_false (by omega)]; rfl
    have hc2 : ∀ z, z = 0 ∨ z = 9223372036854775808 → cl2 z = z := by
      rintro z (rfl | rfl) <;> decide +kernel
    have hm : flMax .f64 s 0 = some 0 ∨ flMax .f64 s 0 = some s := by
      unfold flMax
      rw [order_at hn n0, fv0, cmp_eq h]
      dsimp only
      split
      · exact .inl rfl
      · exact .inr rfl
    rcases hm with hm | hm
    · exact ⟨0, hm, _, min_one (by decide) n0, .inr ⟨by rw [hc2 0 (.inl rfl)]; exact .inl rfl, by rw [hc, hc2 s hz]; exact hz⟩⟩
    · exact ⟨s, hm, _, min_one hs hn, .inl (by rw [hc])⟩
  · refine ⟨s, ?_, _, min_one hs hn, .inl ?_⟩
    · unfold flMax
      rw [order_at hn n0, fv0, cmp_gt h]
    · unfold cl1
      rw [hl, decide_eq_false (by omega)]; rfl
end Go.Dor
end
