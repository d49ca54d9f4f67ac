/- THE ROW, AND WHAT IT STANDS ON: the texts Zk Zl Zm Zs Zu Zt Wa Zv Zy Wc Na Ha Hb R3, one behind the other. -/
import Derived.Scope
import Derived.Test.YtkffblmobccedaaX33
import Derived.ProofKit
import Derived.OpenShut
import Derived.WideShapes
import Derived.Shelf.SlSortCmp.NoneTotal
import Derived.Test.YtkffblmobccedaaProg
import Derived.Shelf.SlLaysF
import Derived.Shelf.SlLaysF0
import Derived.KernelRfl
import Derived.Test.YtkffblmobccedaaX32
import Derived.Test.YtkffblmobccedaaRows
import Derived.SizedLaws
section
/- CODE: what the machine says of a function holds. Plain lemmas over any program. -/
namespace Go.Dor
open Go.RowKit (Below)

section
variable {M S : Nat → Prop} {w0 w w' : World} {h : Hm} {g : Nat → Value} {R : Type} {res : R} {e : Ev} {r : Env} {m m' : Mem}

theorem St.arrive {X : Cx} {d : Sd} {G0 : Nat → Value} {J : HL d.ds.ts → Option R} (s : St M S w0 X.keep G0 (arrive X d J) res r w) :
    ∃ x, J x = some res ∧ ∀ {R' : Type} {res' : R'} (KE : Ev → Hm → Option R'), resume d KE x = some res' → St M S w0 X.keep G0 KE res' r w := by
  obtain ⟨e, h, g, H, E, hg, hk⟩ := s
  obtain ⟨x, g', h1, H', E', hg'⟩ := arrive_sound H E hk
  refine ⟨x, h1, fun KE hk' => ⟨_, _, g', H', E', fun i hi => ?_, hk'⟩⟩
  obtain ⟨h2, h3⟩ := hg' i hi
  exact ⟨by rw [givenO_len]; exact h2, h3.trans (hg i hi).2⟩

theorem Wc.scope {P : Program} {n : Nat} {c : Code} {Q : Post} {r : Env} {w : World} (h : Wc P n c Q r w) : Wc P n (.scope c) Q r w :=
  ⟨fun a ha => wp_scope_straight (wp_mono (h.out a ha) fun e a w q => by cases e <;> exact q)⟩
theorem Wc.label {P : Program} {n l : Nat} {Q : Post} {r : Env} {w : World} (h : Q.normal r w) : Wc P n (.label l) Q r w := ⟨fun _ ha => wp_label ⟨r, ha, h⟩⟩
theorem exec_sound {X : Cx} (hX : CxOk X) {k : Nat} {G0 : Nat → Value} : ∀ (c : Code) {KQ : KK R} {Q : Post} {r : Env} {w : World}, St M S w0 X.keep G0 (exec X k c KQ) res r w →
    (∀ r w, St M S w0 X.keep G0 KQ.normal res r w → Q.normal r w) → (∀ i r w, St M S w0 X.keep G0 (KQ.exit i) res r w → Q.exit i r w) → (∀ r w, St M S w0 X.keep G0 KQ.ret res r w → Q.ret r w) → Wc X.P X.nt c Q r w
  | .skip, KQ, Q, r, w, s, hn, hx, hr => by
    simp only [exec] at s
    exact .skip (hn _ _ s)
  | .ret, KQ, Q, r, w, s, hn, hx, hr => by
    simp only [exec] at s
    exact .ret (hr _ _ s)
  | .exit i, KQ, Q, r, w, s, hn, hx, hr => by
    simp only [exec] at s
    exact .exit (hx _ _ _ s)
  | .seq a b, KQ, Q, r, w, s, hn, hx, hr => by
    simp only [exec] at s
    refine .seq ?_
    split at s
    · rename_i d hd
      simp only [joinC] at s
      refine exec_sound hX a s (fun r w s => ?_) hx hr
      obtain ⟨x, h1, h2⟩ := s.arrive
      exact exec_sound hX b (h2 _ h1) hn hx hr
    · exact exec_sound hX a s (fun r w s => exec_sound hX b s hn hx hr) hx hr
  | .cond c a b, KQ, Q, r, w, s, hn, hx, hr => by
    obtain ⟨e, h, g, H, E, hg, hk⟩ := s
    simp only [exec] at hk
    have hc := opnd_sound E c
    split at hk
    · rename_i x hxe
      rw [hxe] at hc
      refine .iff (rv_bool hc) (fun ht => ?_) fun hf => ?_
      · subst ht; exact exec_sound hX a ⟨e, h, g, H, E, hg, hk⟩ hn hx hr
      · subst hf; exact exec_sound hX b ⟨e, h, g, H, E, hg, hk⟩ hn hx hr
    · cases hk
  | .block i c, KQ, Q, r, w, s, hn, hx, hr => by
    simp only [exec] at s
    refine .block (exec_sound hX c s hn (fun j r w s => ?_) hr)
    dsimp only at s ⊢
    by_cases hj : j = i
    · subst hj
      simp only [show Nat.beq j j = true from Nat.beq_refl j, cond_true, if_true] at s ⊢
      exact hn _ _ s
    · have : Nat.beq j i = false := Bool.eq_false_iff.2 fun q => hj (Nat.eq_of_beq_eq_true q)
      simp only [this, cond_false] at s
      rw [if_neg hj]
      exact hx _ _ _ s
  | .region id ops draw, KQ, Q, r, w, s, hn, hx, hr => by
    obtain ⟨e, h, g, H, E, hg, hk⟩ := s
    simp only [exec] at hk
    split at hk
    · rename_i d hd
      simp only [joinC] at hk
      refine runRg_sound hX H E hg hk fun r w s => ?_
      obtain ⟨x, h1, h2⟩ := s.arrive
      exact hn _ _ (h2 _ h1)
    · exact runRg_sound hX H E hg hk hn
  | .loop c, KQ, Q, r, w, s, hn, hx, hr => by
    simp only [exec] at s
    split at s
    · rename_i d hd
      refine .loop (fun j r w => St M S w0 X.keep G0 (arrive X d (loopC (fun rec => resume d (exec X k c { KQ with normal := arrive X d rec })) j)) res r w) k s fun j r w s => ?_
      obtain ⟨x, h1, h2⟩ := s.arrive
      cases j with
      | zero => cases h1
      | succ j => exact exec_sound hX c (h2 _ h1) (fun r w s => ⟨j, Nat.lt_succ_self j, s⟩) hx hr
    · obtain ⟨e, h, g, H, E, hg, hk⟩ := s
      cases hk
  | .rangeFunc .., KQ, Q, r, w, s, hn, hx, hr => by
    obtain ⟨e, h, g, H, E, hg, hk⟩ := s
    simp only [exec] at hk; cases hk
  | .scope c, KQ, Q, r, w, s, hn, hx, hr => by
    simp only [exec] at s
    exact .scope (exec_sound hX c s hn hx hr)
  | .label _, KQ, Q, r, w, s, hn, hx, hr => by
    simp only [exec] at s
    exact .label (hn _ _ s)

/-! ### lent slices under numbers of their own -/
theorem renew_sound (H : Rel M S w0 h g w) (i : Nat) {vs : List V} {vals : List Value} (hv : Al2 (Rv (memOf M S w0 h g w)) vs vals) :
    ∃ g', Rel M S w0 (renew i vs h).2 g' w ∧ Al2 (Rv (memOf M S w0 (renew i vs h).2 g' w)) (renew i vs h).1 vals ∧ (∀ j, j < h.length → g' j = g j) ∧ h.length ≤ (renew i vs h).2.length := by
  unfold renew
  split
  rotate_left
  · exact ⟨g, H, hv, fun _ _ => rfl, Nat.le_refl _⟩
  rename_i ty t xs hi
  have hil : i < h.length := (List.getElem?_eq_some_iff.1 hi).1
  have hli : lives h i := by unfold lives; rw [hi]; rfl
  generalize hf : (fun j => bif Nat.beq j i then h.length else j) = f
  have fi : f i = h.length := by rw [← hf]; simp [Nat.beq_refl]
  have fo : ∀ j, j ≠ i → f j = j := fun j hj => by
    rw [← hf]
    have : Nat.beq j i = false := Bool.eq_false_iff.2 fun q => hj (Nat.eq_of_beq_eq_true q)
    simp [this]
  have hg : ∀ j, j < h.length → gx g h.length (g i) (f j) = g j ∧ f j < h.length + 1 := fun j hj => by
    by_cases e : j = i
    · subst e; rw [fi, gx_same]; exact ⟨rfl, by omega⟩
    · rw [fo j e, gx_lt g _ hj]; exact ⟨rfl, by omega⟩
  have hlen : ((h.map (renO f)).set i Ob.gone).length = h.length := by simp
  have get : ∀ j, j < h.length → j ≠ i → ((h.map (renO f)).set i Ob.gone ++ [Ob.arr ty t xs])[j]? = (h[j]?).map (renO f) := fun j hj e => by
    rw [List.getElem?_append_left (by omega), List.getElem?_set, if_neg (fun q => e q.symm), List.getElem?_map]
  have lv : ∀ j, lives ((h.map (renO f)).set i Ob.gone ++ [Ob.arr ty t xs]) j → (j ≠ i ∧ lives h j) ∨ j = h.length := fun j hj => by
    have hjl := lives_lt hj
    simp only [List.length_append, hlen, List.length_cons, List.length_nil] at hjl
    by_cases e : j = h.length
    · exact .inr e
    · left
      by_cases e2 : j = i
      · subst e2
        unfold lives at hj
        rw [List.getElem?_append_left (by omega), List.getElem?_set, if_pos rfl, if_pos (by simpa using hil)] at hj
        cases hj
      · refine ⟨e2, ?_⟩
        unfold lives at hj ⊢
        rw [get j (by omega) e2] at hj
        cases ho : h[j]? with
        | none => rw [ho] at hj; cases hj
        | some o => rw [ho] at hj; cases o <;> first | rfl | exact hj
  have lf : ∀ j, lives ((h.map (renO f)).set i Ob.gone ++ [Ob.arr ty t xs]) j → ∃ j0, lives h j0 ∧ gx g h.length (g i) j = g j0 ∧ f j0 = j := fun j hj => by
    rcases lv j hj with ⟨e, h1⟩ | e
    · exact ⟨j, h1, gx_lt g _ (lives_lt h1), fo j e⟩
    · subst e; exact ⟨i, hli, gx_same g _ _, fi⟩
  have imm : ∀ b, (memOf M S w0 h g w).I b → (memOf M S w0 ((h.map (renO f)).set i Ob.gone ++ [Ob.arr ty t xs]) (gx g h.length (g i)) w).I b := fun b hb => by
    refine ⟨hb.1, hb.2.1, fun j hj hfj => ?_⟩
    obtain ⟨j0, h1, h2, _⟩ := lf j hj
    rw [h2] at hfj
    exact hb.2.2 j0 h1 hfj
  have hn : (memOf M S w0 ((h.map (renO f)).set i Ob.gone ++ [Ob.arr ty t xs]) (gx g h.length (g i)) w).n = h.length + 1 := by simp [memOf]
  have rl : ∀ (x : L) (c : List Value), Rl (memOf M S w0 h g w) x c → Rl (memOf M S w0 ((h.map (renO f)).set i Ob.gone ++ [Ob.arr ty t xs]) (gx g h.length (g i)) w) (renL f x) c := by
    intro x c hx
    have mono : ∀ (t' : T) (x : den t') (c : List Value), At w (memOf M S w0 h g w).I t' x c → At w (memOf M S w0 ((h.map (renO f)).set i Ob.gone ++ [Ob.arr ty t xs]) (gx g h.length (g i)) w).I t' x c := fun t' x c hx => At.mono (fun b hb => ⟨imm b hb, rfl⟩) t' x c hx
    cases x with
    | i | b | s | f | fx | nil | np | nf | ni => exact hx
    | arr t' n x => exact mono (.arr n t') _ _ hx
    | ro t' xs' => exact mono (.sl t') _ _ hx
    | own id =>
      obtain ⟨h1, v, h2, h3, h5, h4⟩ := hx
      have h1 : id < h.length := h1
      refine ⟨by rw [hn]; exact (hg id h1).2, v, h2, h3, h5, fun hl => ?_⟩
      show v = gx g h.length (g i) (f id)
      rw [(hg id h1).1]
      refine h4 ?_
      show lives h id
      by_cases e : id = i
      · subst e; exact hli
      · have hl : lives _ (f id) := hl
        rw [fo id e] at hl
        rcases lv id hl with ⟨_, q⟩ | q
        · exact q
        · omega
    | ptr id off =>
      obtain ⟨h1, b, h2, h3⟩ := hx
      have h1 : id < h.length := h1
      exact ⟨by rw [hn]; exact (hg id h1).2, b, (hg id h1).1.trans h2, h3⟩
    | fn q ids =>
      obtain ⟨h1, h2⟩ := hx
      refine ⟨fun j hj => ?_, ?_⟩
      · obtain ⟨j0, hj0, rfl⟩ := List.mem_map.1 hj
        have k1 : j0 < h.length := (h1 j0 hj0).1
        refine ⟨by rw [hn]; exact (hg j0 k1).2, ?_⟩
        show isPtr (gx g h.length (g i) (f j0))
        rw [(hg j0 k1).1]
        exact (h1 j0 hj0).2
      · rw [h2, List.map_map]
        congr 3
        exact List.map_congr_left fun j0 hj0 => ((hg j0 (h1 j0 hj0).1).1).symm
    | sub id off n lo hi =>
      obtain ⟨h1, h2, h3, h4, b, h5, h6⟩ := hx
      have h1 : id < h.length := h1
      exact ⟨by rw [hn]; exact (hg id h1).2, h2, h3, h4, b, (hg id h1).1.trans h5, h6⟩
    | mp id off =>
      rcases hx with hx | ⟨h1, b, h2, h3⟩
      · exact .inl hx
      · have h1 : id < h.length := h1
        exact .inr ⟨by rw [hn]; exact (hg id h1).2, b, (hg id h1).1.trans h2, h3⟩
    | vw id z lo =>
      obtain ⟨h1, h2⟩ := hx
      have h1 : id < h.length := h1
      refine ⟨by rw [hn]; exact (hg id h1).2, ?_⟩
      show VW (gx g h.length (g i) (f id)) z lo c
      rw [(hg id h1).1]
      exact h2
  have rls : ∀ (ls : List L) (s : List (List Value)), Al2 (Rl (memOf M S w0 h g w)) ls s → Al2 (Rl (memOf M S w0 ((h.map (renO f)).set i Ob.gone ++ [Ob.arr ty t xs]) (gx g h.length (g i)) w)) (ls.map (renL f)) s := by
    intro ls
    induction ls with
    | nil => intro s hs; rw [hs.nil_left]; trivial
    | cons x ls ih =>
      intro s hs
      obtain ⟨c, s, rfl, h1, h2⟩ := hs.cons_left
      exact ⟨rl x c h1, ih s h2⟩
  have ho : ∀ (o : Ob) (v : Value), Ho (memOf M S w0 h g w) v o → Ho (memOf M S w0 ((h.map (renO f)).set i Ob.gone ++ [Ob.arr ty t xs]) (gx g h.length (g i)) w) v (renO f o) := by
    intro o v hh
    cases o with
    | gone => trivial
    | blk ty ls => obtain ⟨b, s, h1, h2, h3⟩ := hh; exact ⟨b, s, h1, h2, rls _ _ h3⟩
    | rd ty ls => obtain ⟨b, s, h1, h2, h3, h4⟩ := hh; exact ⟨b, s, h1, h2, rls _ _ h3, imm b h4⟩
    | arr ty' t' xs' => obtain ⟨ys, h1, h2⟩ := hh; exact ⟨ys, h1, h2.mono fun x c => At.mono (fun b hb => ⟨imm b hb, rfl⟩) t' x c⟩
    | fix => exact hh.elim
  refine ⟨gx g h.length (g i), ⟨H.os, H.tape, H.drawn, H.output, H.size, H.old, H.dis, fun j o hj => ?_, fun j hj b hb => ?_, fun a b ha hb hne c hc hc' => ?_⟩, ?_, fun j hj => gx_lt g _ hj, by simp⟩
  · have hjl := (List.getElem?_eq_some_iff.1 hj).1
    simp only [List.length_append, hlen, List.length_cons, List.length_nil] at hjl
    by_cases e : j = h.length
    · subst e
      rw [List.getElem?_append_right (by omega), hlen, Nat.sub_self] at hj
      cases hj
      rw [gx_same]
      exact ho (.arr ty t xs) (g i) (H.obj i _ hi)
    · rw [gx_lt g _ (by omega)]
      by_cases e2 : j = i
      · subst e2
        rw [List.getElem?_append_left (by omega), List.getElem?_set, if_pos rfl, if_pos (by simpa using hil)] at hj
        cases hj
        trivial
      · rw [get j (by omega) e2] at hj
        cases hq : h[j]? with
        | none => rw [hq] at hj; cases hj
        | some o' =>
          rw [hq] at hj
          cases hj
          exact ho o' _ (H.obj j o' hq)
  · obtain ⟨j0, h1, h2, _⟩ := lf j hj
    rw [h2] at hb
    exact H.mine j0 h1 b hb
  · obtain ⟨a0, h1, h2, h3⟩ := lf a ha
    obtain ⟨b0, h4, h5, h6⟩ := lf b hb
    rw [h2] at hc
    rw [h5] at hc'
    have : a0 ≠ b0 := fun q => by subst q; exact hne (h3.symm.trans h6)
    exact H.inj a0 b0 h1 h4 this c hc hc'
  · have key : ∀ (vs : List V) (vals : List Value), Al2 (Rv (memOf M S w0 h g w)) vs vals → Al2 (Rv (memOf M S w0 ((h.map (renO f)).set i Ob.gone ++ [Ob.arr ty t xs]) (gx g h.length (g i)) w)) (vs.map (renW f)) vals := by
      intro vs
      induction vs with
      | nil => intro s hs; rw [hs.nil_left]; trivial
      | cons x vs ih =>
        intro s hs
        obtain ⟨c, s, rfl, h1, h2⟩ := hs.cons_left
        refine ⟨?_, ih s h2⟩
        cases x with
        | one x => exact rl x _ h1
        | ag ls => obtain ⟨s, h3, h4⟩ := h1; exact ⟨s, h3, rls _ _ h4⟩
        | _ => trivial
    exact key vs vals hv
theorem renewAll_sound : ∀ (is : List Nat) {h : Hm} {g : Nat → Value} {vs : List V} {vals : List Value} (_ : Rel M S w0 h g w) (_ : Al2 (Rv (memOf M S w0 h g w)) vs vals),
    ∃ g', Rel M S w0 (renewAll is vs h).2 g' w ∧ Al2 (Rv (memOf M S w0 (renewAll is vs h).2 g' w)) (renewAll is vs h).1 vals ∧ (∀ j, j < h.length → g' j = g j) ∧ h.length ≤ (renewAll is vs h).2.length
  | [], h, g, vs, vals, H, hv => ⟨g, H, hv, fun _ _ => rfl, Nat.le_refl _⟩
  | i :: is, h, g, vs, vals, H, hv => by
    obtain ⟨g1, H1, hv1, e1, l1⟩ := renew_sound H i hv
    obtain ⟨g2, H2, hv2, e2, l2⟩ := renewAll_sound is H1 hv1
    exact ⟨g2, H2, hv2, fun j hj => (e2 j (by omega)).trans (e1 j hj), Nat.le_trans l1 l2⟩

/-! ### how a function ends and begins -/
theorem load_inv {P : Program} {d : Option Tmp} {ty : TypeId} {pos : String} {aft : Array Edge} {gd : Option (Nat × Bool)} {x : Operand} {T : TypeId} {v : Value} (hl : (execOp (ev r) ⟨d, .load T x, ty, pos, aft, gd⟩).run P w = .ok (.value v) w') :
    ∃ a, ev r x = .pointer (some a) ∧ (loadVar T a).run P w = .ok v w' := by
  cases hx : ev r x with
  | pointer a =>
    cases a with
    | none => simp [execOp, hx, Instr.loadAt, Instr.sureAddr, stuck] at hl
    | some a =>
      refine ⟨a, rfl, ?_⟩
      simp [execOp, hx, Instr.loadAt, Instr.sureAddr] at hl
      cases hq : (loadVar T a).run P w with
      | ok v' w'' => rw [hq] at hl; simpa using hl
      | _ => rw [hq] at hl; simp at hl
  | _ => simp [execOp, hx, Instr.loadAt, Instr.sureAddr, stuck] at hl

theorem resAll_sound {P : Program} (H : Rel M S w0 h g w) (E : ER (memOf M S w0 h g w) e r) : ∀ {rs : List ResultVar} {KV : List V → Option R}, resAll P e h rs KV = some res →
    ∃ vs vals, ResV P r w rs vals ∧ Al2 (Rv (memOf M S w0 h g w)) vs vals ∧ KV vs = some res
  | [], KV, hk => ⟨[], [], .nil, trivial, hk⟩
  | .tmp t :: l, KV, hk => by
    simp only [resAll, resOne] at hk
    obtain ⟨vs, vals, h1, h2, h3⟩ := resAll_sound H E hk
    exact ⟨getE e t :: vs, _, .tmp rfl h1, ⟨E t, h2⟩, h3⟩
  | .cell t T :: l, KV, hk => by
    simp only [resAll, resOne] at hk
    obtain ⟨v, val, k1, k2, k3⟩ := load_sound (d := none) (ty := 0) (pos := "") (aft := #[]) (gd := none) (x := .tmp t) (K := fun v _ => resAll P e h l fun vs => KV (v :: vs)) H E hk
    obtain ⟨a, k4, k5⟩ := load_inv (k1 w fun _ _ => rfl)
    obtain ⟨vs, vals, h1, h2, h3⟩ := resAll_sound H E k3
    exact ⟨v :: vs, _, .cell k4 k5 h1, ⟨k2, h2⟩, h3⟩

theorem natsTo_map (l : List Value) : ∀ (pre suf : List Value), l = pre ++ suf → (natsTo pre.length suf.length).map (envL l) = suf
  | pre, [], _ => rfl
  | pre, v :: suf, h => by
    have ih := natsTo_map l (pre ++ [v]) suf (by rw [h]; simp)
    simp only [List.length_append, List.length_cons, List.length_nil, Nat.zero_add] at ih
    simp only [List.length_cons, natsTo, List.map_cons, ih, List.cons.injEq, and_true]
    simp [envL, h]
theorem giveVds_len (f : Nat → Nat) : ∀ (d : List Vd) (l : List Dt), (giveVds f d l).1.length = d.length
  | [], _ => rfl
  | x :: d, l => by
    simp only [giveVds]
    rw [List.length_cons, List.length_cons, giveVds_len f d]

/-- what a function comes to holds of the program -/
theorem runF_sound {X : Cx} (hX : CxOk X) {fid : FuncId} {fn : Func} {k : Nat} {pre post : Ds} {q : HL pre.ts → Option (HL post.ts)} (hf : X.P.funcs[fid]? = some fn) (hq : ∀ x, runF X k fn pre post x = q x) : Entry.Sound X.P fid ⟨pre, post, q⟩ := by
  refine ⟨fun x y hy S w g vals Hs => ?_⟩
  dsimp only at x y hy Hs ⊢
  rw [← hq] at hy
  unfold runF at hy
  split at hy
  rotate_left
  · cases hy
  rename_i c hc
  rw [cond_eq_ite] at hy
  split at hy
  rotate_left
  · cases hy
  rename_i hb
  simp only [Bool.and_eq_true] at hb
  obtain ⟨⟨⟨hb1, hb2⟩, hb3⟩, hb4⟩ := hb
  have hb1 := Nat.eq_of_beq_eq_true hb1
  have hb2 := Nat.le_of_ble_eq_true hb2
  have hb3 := Nat.eq_of_beq_eq_true hb3
  have hlen : vals.length = pre.vals.length := by
    rw [← Hs.vals.length]; exact giveVds_len _ _ _
  refine enter (n := X.nt) (R := fun v w' => ∃ vs g', v = one vs ∧ Rel (lentOf (givenO pre id x) g) S w (givenO post id y) g' w' ∧
      Al2 (Rv (memOf (lentOf (givenO pre id x) g) S w (givenO post id y) g' w')) (givenV post id y).1 vs ∧ ∀ i, i < pre.objs.length → g' i = g i) hf hc hb3.symm (by omega) ?_ |>.mono fun e w' ⟨v, he, vs, g', hv, h1⟩ => ⟨vs, g', by rw [he, hv], h1⟩
  have E0 : ER (memOf (lentOf (givenO pre id x) g) S w (givenO pre id x) g w) (zipE (natsTo 0 pre.vals.length) (givenV pre id x).1) (envL vals) := by
    refine zipE_er ?_
    rw [← hlen]
    have := natsTo_map vals [] vals rfl
    simp only [List.length_nil] at this
    rw [this]
    exact Hs.vals
  have s0 : St (lentOf (givenO pre id x) g) S w X.keep g (exec X k c ⟨leave X fn.results.toList post, fun _ _ _ => none, leave X fn.results.toList post⟩) y (envL vals) w :=
    ⟨_, _, g, Hs.rel, E0, fun i hi => ⟨by rw [givenO_len, ← hb1]; exact hi, rfl⟩, hy⟩
  have fin_ : ∀ r w', St (lentOf (givenO pre id x) g) S w X.keep g (leave X fn.results.toList post) y r w' → fin X.P fn (fun v w' => ∃ vs g', v = one vs ∧ Rel (lentOf (givenO pre id x) g) S w (givenO post id y) g' w' ∧
      Al2 (Rv (memOf (lentOf (givenO pre id x) g) S w (givenO post id y) g' w')) (givenV post id y).1 vs ∧ ∀ i, i < pre.objs.length → g' i = g i) r w' := by
    rintro r w' ⟨e, h, g1, H, E, hg, hk⟩
    unfold leave at hk
    obtain ⟨vs, vals', h1, h2, h3⟩ := resAll_sound H E hk
    split at h3
    rotate_left
    · cases h3
    rename_i l kk ht
    obtain ⟨g3, H3, hv3, eg3, _⟩ := renewAll_sound (goneN 0 X.keep post.objs) H h2
    obtain ⟨vs', os, t⟩ := takeDs_sound H3.objs ht hv3 (by simp) (keepN_inj _)
    obtain ⟨H', hv⟩ := t.rel H3
    obtain ⟨do', k1, k2⟩ := t.gv
    have e1 := ofL_toL _ _ _ h3
    have e2 : givenV post id y = (vs', do') := by unfold givenV; rw [e1]; exact k1
    have e3 : givenO post id y = os := by unfold givenO; rw [e2]; exact k2
    refine ⟨vals', h1, vals', ren kk g3, rfl, by rw [e3]; exact H', by rw [e3, e2]; exact hv, fun i hi => ?_⟩
    have hi' : i < X.keep := by omega
    rw [ren_eq (t.le.r i i (keepN_has hi')), eg3 i (hg i hi').1]
    exact (hg i hi').2
  exact exec_sound hX c s0 fin_ (fun i r w' s => (by obtain ⟨e, h, g1, H, E, hg, hk⟩ := s; cases hk)) fin_

theorem sound_none {P : Program} {f : Nat} {en : Entry} (h : ∀ x, en.fn x = none) : Entry.Sound P f en := ⟨fun x y hy => by rw [h x] at hy; cases hy⟩
theorem dOk_nil {P : Program} : ∀ f en, (f, en) ∈ ([] : List (Nat × Entry)) → Entry.Sound P f en := fun _ _ h => by cases h
theorem dOk_cons {P : Program} {f : Nat} {en : Entry} {D : List (Nat × Entry)} (h : Entry.Sound P f en) (k : ∀ f en, (f, en) ∈ D → Entry.Sound P f en) : ∀ f' en', (f', en') ∈ (f, en) :: D → Entry.Sound P f' en' := fun f' en' q => by
  rcases List.mem_cons.1 q with q | q
  · cases q; exact h
  · exact k _ _ q
theorem ext_nil {P : Program} : ∀ f kd, findA ([] : List (Nat × Nat)) f = some kd → ExternOf P f (externFn kd) := fun _ _ h => by cases h
theorem ext_cons {P : Program} {a kd : Nat} {l : List (Nat × Nat)} (h : ExternOf P a (externFn kd)) (k : ∀ f kd, findA l f = some kd → ExternOf P f (externFn kd)) : ∀ f kd', findA ((a, kd) :: l) f = some kd' → ExternOf P f (externFn kd') := fun f kd' q => by
  simp only [findA] at q
  cases hb : Nat.beq a f
  · rw [hb] at q; exact k f kd' q
  · have := Nat.eq_of_beq_eq_true hb
    rw [hb] at q
    simp only [cond_true, Option.some.injEq] at q
    subst this; subst q; exact h

end
end Go.Dor
end

section
/- WHAT A CALLER HANDS IN, AS DATA; a law of data, called. Plain lemmas over any program. -/
namespace Go.Dor
open Go.RowKit (Below)

def chainF (P : Program) : Nat → List Field → Option Nat
  | o, [] => some o
  | o, f :: l => bif Nat.beq f.offset o then chainF P (o + P.cellsOf f.type) l else none
/-- types of data whose parts lie one behind the other -/
def tiled (P : Program) : Nat → TypeId → Bool
  | 0, _ => false
  | n + 1, t =>
    match P.underlying t with
    | some (.int _) | some .bool | some .string | some (.float _) => true
    | some (.array m e) => Nat.beq (P.cellsOf t) (m * P.cellsOf e) && tiled P n e
    | some (.slice e) => Nat.blt 0 (P.cellsOf e) && tiled P n e
    | some (.struct fs) => (match chainF P 0 fs.toList with | some s => Nat.beq s (P.cellsOf t) | none => false) && fs.toList.all (fun f => tiled P n f.type)
    | _ => false

theorem pieces {α : Type} {Q : α → List Value → Prop} (k : Nat) : ∀ (m : Nat) (cs : List Value), cs.length = m * k → (∀ i, i < m → ∃ d, Q d ((cs.drop (i * k)).take k)) → ∃ (l : List α) (ys : List (List Value)), l.length = m ∧ cs = ys.flatten ∧ Al2 Q l ys
  | 0, cs, hl, _ => ⟨[], [], rfl, by simpa using hl, trivial⟩
  | m + 1, cs, hl, h => by
    obtain ⟨d, hd⟩ := h 0 (by omega)
    have hl' : (cs.drop k).length = m * k := by rw [List.length_drop, hl, Nat.add_mul]; omega
    obtain ⟨l, ys, h1, h2, h3⟩ := pieces k m (cs.drop k) hl' fun i hi => by
      obtain ⟨d, hd⟩ := h (i + 1) (by omega)
      refine ⟨d, ?_⟩
      rw [List.drop_drop]
      have : k + i * k = (i + 1) * k := by rw [Nat.add_mul]; omega
      rw [this]; exact hd
    refine ⟨d :: l, cs.take k :: ys, by simp [h1], ?_, ?_, h3⟩
    · rw [List.flatten_cons, ← h2, List.take_append_drop]
    · simpa using hd

/-- data that a program can hold: each number fits its kind -/
def okD : (t : T) → den t → Prop
  | .int k, n => (Lit.int k n).wf = true
  | .pair a b, x => okD a x.1 ∧ okD b x.2
  | .arr _ e, x => ∀ y ∈ x.toList, okD e y
  | .sl e, x => x.length ≤ 9223372036854775807 ∧ ∀ y ∈ x, okD e y
  | .str, _ => True
  | .bool, _ => True
  | .flt k, n => (Lit.float k n).wf = true
  | .fx _, _ => True
  | .unit, _ => True
theorem al2_split {α β : Type} {Q : α → β → Prop} {R : α → Prop} : ∀ {l : List α} {m : List β}, Al2 (fun a b => Q a b ∧ R a) l m → Al2 Q l m ∧ ∀ a ∈ l, R a
  | [], [], _ => ⟨trivial, by simp⟩
  | a :: l, b :: m, h => by
    obtain ⟨h1, h2⟩ := al2_split (l := l) (m := m) h.2
    exact ⟨⟨h.1.1, h1⟩, fun x hx => (List.mem_cons.1 hx).elim (fun e => e ▸ h.1.2) (h2 x)⟩

theorem list_of {α : Type} {Q : Nat → α → Prop} : ∀ (n : Nat), (∀ i, i < n → ∃ p, Q i p) → ∃ l : List α, l.length = n ∧ ∀ i p, l[i]? = some p → Q i p
  | 0, _ => ⟨[], rfl, by simp⟩
  | n + 1, h => by
    obtain ⟨l, h1, h2⟩ := list_of n fun i hi => h i (by omega)
    obtain ⟨p, hp⟩ := h n (by omega)
    refine ⟨l ++ [p], by simp [h1], fun i q hq => ?_⟩
    by_cases hlt : i < n
    · rw [List.getElem?_append_left (by omega)] at hq; exact h2 i q hq
    · have hi : i < (l ++ [p]).length := (List.getElem?_eq_some_iff.1 hq).1
      have : i = n := by simp [h1] at hi; omega
      subst this
      rw [List.getElem?_append_right (by omega), h1] at hq
      simp at hq; subst hq; exact hp

theorem al2_of {α β : Type} {Q : α → β → Prop} : ∀ (l : List (α × β)), (∀ (i : Nat) p, l[i]? = some p → Q p.1 p.2) → Al2 Q (l.map (·.1)) (l.map (·.2))
  | [], _ => trivial
  | p :: l, h => ⟨h 0 p rfl, al2_of l fun i q hq => h (i + 1) q hq⟩

section
variable {H : Type} {enc : TypeId × Value → H} {P : Program} {w : World} {spare : Nat → Bool} {held : Bool}

theorem fields_at {I : Nat → Prop} {cs : List Value} {n s : Nat} : ∀ (l : List Field) (o : Nat) (cl : List T), chainF P o l = some s → cs.length = s → (∀ c, codeT P n 0 = c → True) →
    l.foldr (fun f acc => match codeT P n f.type, acc with | some a, some l => some (a :: l) | _, _ => none) (some []) = some cl →
    (∀ f ∈ l, ∀ c, codeT P n f.type = some c → ∃ d : den c, At w I c d ((cs.drop f.offset).take (P.cellsOf f.type)) ∧ okD c d) → ∃ d : den (mkT cl), At w I (mkT cl) d (cs.drop o) ∧ okD (mkT cl) d
  | [], o, cl, hc, hl, _, hf, _ => by
    cases hf
    simp only [chainF, Option.some.injEq] at hc
    exact ⟨(), List.drop_eq_nil_of_le (by omega), trivial⟩
  | [f], o, cl, hc, hl, _, hf, h => by
    simp only [chainF, cond_eq_ite] at hc
    split at hc
    · rename_i ho
      have ho := Nat.eq_of_beq_eq_true ho
      simp only [Option.some.injEq] at hc
      simp only [List.foldr_cons, List.foldr_nil] at hf
      split at hf
      · rename_i a l' ha hl'
        cases hf; cases hl'
        obtain ⟨d, hd, hk⟩ := h f (by simp) a ha
        refine ⟨d, ?_, hk⟩
        rw [ho, List.take_of_length_le (by rw [List.length_drop]; omega)] at hd
        exact hd
      · cases hf
    · cases hc
  | f :: f2 :: l, o, cl, hc, hl, ht, hf, h => by
    rw [chainF, cond_eq_ite] at hc
    split at hc
    · rename_i ho
      have ho := Nat.eq_of_beq_eq_true ho
      rw [List.foldr_cons] at hf
      split at hf
      · rename_i a l' ha hl'
        cases hf
        obtain ⟨d, hd, hk⟩ := h f (by simp) a ha
        obtain ⟨d2, hd2, hk2⟩ := fields_at (f2 :: l) _ l' hc hl ht hl' fun g hg => h g (List.mem_cons_of_mem _ hg)
        have hne : ∃ b r, l' = b :: r := by
          rw [List.foldr_cons] at hl'
          split at hl'
          · cases hl'; exact ⟨_, _, rfl⟩
          · cases hl'
        obtain ⟨b, r, rfl⟩ := hne
        refine ⟨(d, d2), ⟨_, _, ?_, hd, hd2⟩, hk, hk2⟩
        rw [ho, ← List.drop_drop, List.take_append_drop]
      · cases hf
    · cases hc

theorem cell_heap {b o : Nat} {y : Value} (hc : w.cell? ⟨b, o, none⟩ = some y) : ∃ cur t fz, w.heap[b]? = some (.cells cur t fz) := by
  simp only [World.cell?] at hc
  split at hc
  · rename_i cur t fz hb
    exact ⟨_, _, _, hb⟩
  · cases hc

theorem mapM_get {α β : Type} {f : α → Option β} : ∀ {l0 : List α} {l : List β}, l0.mapM f = some l → l.length = l0.length ∧ ∀ (i : Nat) a, l0[i]? = some a → f a = l[i]?
  | [], l, h => by
    simp only [List.mapM_nil] at h
    cases h
    exact ⟨rfl, by simp⟩
  | a :: l0, l, h => by
    rw [List.mapM_cons] at h
    cases ha : f a with
    | none => rw [ha] at h; cases h
    | some b =>
      rw [ha] at h
      cases hl : l0.mapM f with
      | none => rw [hl] at h; cases h
      | some bs =>
        rw [hl] at h
        have h : some (b :: bs) = some l := h
        cases h
        obtain ⟨h1, h2⟩ := mapM_get hl
        refine ⟨by simp [h1], fun i x hx => ?_⟩
        cases i with
        | zero => simp at hx; subst hx; simpa using ha
        | succ i => simp at hx; simpa using h2 i x hx
theorem cells_get {base k : Nat} {a : Addr} {l : List Value} (h : w.cells? base a k = some l) : l.length = k ∧ ∀ i, i < k → w.cell? (a.add i) = l[i]? := by
  unfold World.cells? at h
  split at h
  · obtain ⟨h1, h2⟩ := mapM_get h
    exact ⟨by simpa using h1, fun i hi => h2 i i (by simp [hi])⟩
  · cases h

theorem trod_float {t : TypeId} {k : FloatKind} {fuel : Nat} {cs : List Value} {x : DataW H × List MemPlace} (ht : P.underlying t = some (.float k)) (h : DataW.trod enc P w 0 spare held fuel t cs = some x) : ∃ n, cs = [.float k n] ∧ (Lit.float k n).wf = true := by
  cases fuel with
  | zero => simp [DataW.trod] at h
  | succ n =>
    unfold DataW.trod at h
    rw [ht] at h
    split at h <;> simp_all
/-- what a caller hands in reads as data -/
theorem trod_at (hsp : ∀ b, spare b = true) : ∀ (n : Nat) (t : TypeId) (c : T) (fuel : Nat) (cs : List Value) (x : DataW H × List MemPlace), codeT P n t = some c → tiled P n t = true →
    DataW.trod enc P w 0 spare held fuel t cs = some x → ∃ d : den c, At w (fun b => b < w.heap.size) c d cs ∧ okD c d
  | 0, t, c, fuel, cs, x, hc, _, _ => by cases hc
  | n + 1, t, c, fuel, cs, x, hc, hd, h => by
    unfold codeT at hc
    unfold tiled at hd
    split at hc
    · rename_i k ht
      cases hc
      obtain ⟨y, rfl, _, hwf⟩ := DataW.trod_int ht h
      exact ⟨y, rfl, hwf⟩
    · rename_i ht
      cases hc
      obtain ⟨y, rfl, _⟩ := DataW.trod_bool ht h
      exact ⟨y, rfl, trivial⟩
    · rename_i ht
      cases hc
      obtain ⟨y, rfl, _⟩ := DataW.trod_string ht h
      exact ⟨y.data.toList, by simp [At, sv], trivial⟩
    · rename_i k ht
      cases hc
      obtain ⟨y, rfl, hwf⟩ := trod_float ht h
      exact ⟨y, rfl, hwf⟩
    · rename_i m e ht
      rw [ht] at hd
      simp only [Bool.and_eq_true] at hd
      obtain ⟨hd1, hd2⟩ := hd
      have hd1 := Nat.eq_of_beq_eq_true hd1
      split at hc
      · rename_i ce hce
        cases hc
        obtain ⟨xs, q, _, _, h1, h2, h3⟩ := DataW.trod_array ht h
        obtain ⟨l, ys, k1, k2, k3⟩ := pieces (Q := fun d y => At w (fun b => b < w.heap.size) ce d y ∧ okD ce d) (P.cellsOf e) m cs (by rw [h1, hd1]) fun i hi => by
          have := h3 i hi
          rw [List.getElem?_eq_getElem (by omega)] at this
          exact trod_at hsp n e ce _ _ _ hce hd2 this
        obtain ⟨k3, k4⟩ := al2_split k3
        refine ⟨⟨l.toArray, by simpa using k1⟩, ⟨ys, k2, ?_⟩, fun y hy => k4 y (by simpa using hy)⟩
        simpa using k3
      · cases hc
    · rename_i e ht
      rw [ht] at hd
      simp only [Bool.and_eq_true] at hd
      obtain ⟨hd1, hd2⟩ := hd
      have hd1 : 0 < P.cellsOf e := by simpa [Nat.blt_eq] using hd1
      split at hc
      · rename_i ce hce
        cases hc
        rcases DataW.trod_slice ht h with ⟨rfl, _⟩ | ⟨a, len, cap, elems, rest, q, _, rfl, _, _, hlc, hcm, hel, he, hrest, _⟩
        · exact ⟨[], ⟨_, rfl, [], ⟨by simp, .inl ⟨⟨none, rfl⟩, rfl⟩⟩, trivial, by simp [vfoot]⟩, Nat.zero_le _, fun y hy => by cases hy⟩
        · obtain ⟨hr1, hr2⟩ := hrest (hsp _)
          by_cases hcap : cap = 0
          · subst hcap
            have hl0 : len = 0 := by omega
            subst hl0
            exact ⟨[], ⟨_, rfl, [], ⟨by simp, .inl ⟨⟨_, rfl⟩, rfl⟩⟩, trivial, by simp [vfoot]⟩, Nat.zero_le _, fun y hy => by cases hy⟩
          · -- a cell is there
            have h0 : ∃ y, w.cell? (a.add 0) = some y := by
              have key : ∀ {o : Option (DataW H × List MemPlace)} {i : Nat}, i = 0 → (w.cells? 0 (a.add (i * P.cellsOf e)) (P.cellsOf e)).bind (DataW.trod enc P w 0 spare held q e) = o → o.isSome = true → ∃ y, w.cell? (a.add 0) = some y := by
                intro o i hi hb ho
                subst hi
                cases hcl : w.cells? 0 (a.add (0 * P.cellsOf e)) (P.cellsOf e) with
                | none => rw [hcl] at hb; subst hb; cases ho
                | some l =>
                  obtain ⟨k1, k2⟩ := cells_get hcl
                  have := k2 0 hd1
                  rw [List.getElem?_eq_getElem (by omega)] at this
                  exact ⟨l[0]'(by omega), by simpa [Addr.add] using this⟩
              by_cases hl0 : len = 0
              · exact key (i := len + 0) (by omega) (hr2 0 (by omega)) (by rw [List.getElem?_eq_getElem (by omega)]; rfl)
              · exact key (i := 0) rfl (he 0 (by omega)) (by rw [List.getElem?_eq_getElem (by omega)]; rfl)
            obtain ⟨y0, hy0⟩ := h0
            have hspot := World.cell?_spot hy0
            obtain ⟨b, off, spot⟩ := a
            have hspot : spot = none := by simpa [Addr.add] using hspot
            subst hspot
            have hadd : ∀ i, (⟨b, off, none⟩ : Addr).add i = ⟨b, off + i, none⟩ := fun i => by simp [Addr.add]
            have hadd2 : ∀ o i, (⟨b, o, none⟩ : Addr).add i = ⟨b, o + i, none⟩ := fun o i => by simp [Addr.add]
            rw [hadd] at hy0
            obtain ⟨cur, bt, fz, hb⟩ := cell_heap hy0
            obtain ⟨l, k1, k2⟩ := list_of (α := den ce × List Value) (Q := fun i p => (At w (fun b => b < w.heap.size) ce p.1 p.2 ∧ okD ce p.1) ∧ p.2.length = P.cellsOf e ∧ ∀ j, j < P.cellsOf e → cur[off + (i * P.cellsOf e + j)]? = p.2[j]?) len fun i hi => by
              have h1 := he i hi
              rw [List.getElem?_eq_getElem (by omega)] at h1
              cases hcl : w.cells? 0 ((⟨b, off, none⟩ : Addr).add (i * P.cellsOf e)) (P.cellsOf e) with
              | none => rw [hcl] at h1; cases h1
              | some cl =>
                rw [hcl] at h1
                obtain ⟨d, hdd⟩ := trod_at hsp n e ce _ _ _ hce hd2 h1
                obtain ⟨k1, k2⟩ := cells_get hcl
                refine ⟨(d, cl), hdd, k1, fun j hj => ?_⟩
                have := k2 j hj
                rw [← this, hadd2, hadd2, World.cell?, hb]
                simp [Nat.add_assoc]
            have hal := al2_of (Q := fun d y => At w (fun b => b < w.heap.size) ce d y ∧ okD ce d) l fun i p hp => (k2 i p hp).1
            obtain ⟨hal, hok⟩ := al2_split hal
            refine ⟨l.map (·.1), ⟨_, rfl, l.map (·.2), ⟨fun y hy => ?_, .inr ⟨b, off, cap, cur, bt, fz, by simp [k1], by simpa [k1] using hlc, hb, fun j y hj => ?_⟩⟩, hal, fun q hq => ?_⟩, by rw [List.length_map, k1]; unfold maxLen at hcm; omega, fun y hy => hok y hy⟩
            · obtain ⟨z, hz⟩ := List.getElem?_of_mem hy
              obtain ⟨d, _, hQ⟩ : ∃ d : den ce, True ∧ At w (fun b => b < w.heap.size) ce d y := by
                rw [List.getElem?_map] at hz
                cases hlz : l[z]? with
                | none => rw [hlz] at hz; cases hz
                | some p => rw [hlz] at hz; cases hz; exact ⟨p.1, trivial, (k2 z p hlz).1.1⟩
              exact At.len _ _ _ hQ
            · have hz : ∀ y ∈ l.map (·.2), y.length = P.cellsOf e := fun y hy => by
                obtain ⟨p, hp, rfl⟩ := List.mem_map.1 hy
                obtain ⟨z, hz⟩ := List.getElem?_of_mem hp
                exact (k2 z p hz).2.1
              have hjl := (List.getElem?_eq_some_iff.1 hj).1
              have hfl : (l.map (·.2)).flatten.length = l.length * P.cellsOf e := by
                have : ∀ (ys : List (List Value)), (∀ y ∈ ys, y.length = P.cellsOf e) → ys.flatten.length = ys.length * P.cellsOf e := by
                  intro ys
                  induction ys with
                  | nil => simp
                  | cons y ys ih =>
                    intro h
                    rw [List.flatten_cons, List.length_append, ih fun z hz => h z (List.mem_cons_of_mem _ hz), h y (by simp), List.length_cons, Nat.add_mul]; omega
                rw [this _ hz, List.length_map]
              have hdiv : j / P.cellsOf e < l.length := Nat.div_lt_of_lt_mul (by rw [Nat.mul_comm]; omega)
              have hmod : j % P.cellsOf e < P.cellsOf e := Nat.mod_lt _ hd1
              have hp : l[j / P.cellsOf e]? = some l[j / P.cellsOf e] := List.getElem?_eq_getElem hdiv
              obtain ⟨_, _, h5⟩ := k2 _ _ hp
              have h6 := flat_at hz (j := j / P.cellsOf e) (k := j % P.cellsOf e) (x := (l[j / P.cellsOf e]).2) (by rw [List.getElem?_map, hp]; rfl) hmod
              have hjj : j / P.cellsOf e * P.cellsOf e + j % P.cellsOf e = j := by rw [Nat.mul_comm]; exact Nat.div_add_mod _ _
              have h7 := h5 _ hmod
              rw [hjj] at h6 h7
              rw [h7, ← h6]; exact hj
            · simp only [vfoot, hcap, if_false, Option.some.injEq] at hq
              subst hq
              exact (Array.getElem?_eq_some_iff.1 hb).1
      · cases hc
    · rename_i fs ht
      rw [ht] at hd
      simp only [Bool.and_eq_true] at hd
      obtain ⟨hd1, hd2⟩ := hd
      split at hc
      · rename_i cl hcl
        cases hc
        split at hd1
        · rename_i s hs
          have hd1 := Nat.eq_of_beq_eq_true hd1
          obtain ⟨xs, q, _, _, h1, h2, h3⟩ := DataW.trod_struct ht h
          have := fields_at (w := w) (I := fun b => b < w.heap.size) (cs := cs) (n := n) fs.toList 0 cl hs (by rw [h1, hd1]) (fun _ _ => trivial) hcl fun f hf c hc => by
            obtain ⟨i, hi⟩ := List.getElem?_of_mem hf
            have hi' : fs[i]? = some f := by simpa using hi
            have h4 := h3 i f hi'
            have hlt : i < fs.size := (Array.getElem?_eq_some_iff.1 hi').1
            rw [List.getElem?_eq_getElem (by omega)] at h4
            exact trod_at hsp n f.type c _ _ _ hc (List.all_eq_true.1 hd2 f hf) h4
          simpa using this
        · cases hd1
      · cases hc
    · cases hc

end
end Go.Dor
namespace Go.Dor
open Go.RowKit (Below)
section
variable {H : Type} {enc : TypeId × Value → H} {P : Program} {w w' : World}

/-- all that stands at the beginning may be read -/
noncomputable def m0 (w : World) : Mem := memOf (lentOf [] fun _ => undef) (fun _ => True) w [] (fun _ => undef) w

theorem m0_imm {b : Nat} (h : b < w.heap.size) : (m0 w).I b := ⟨h, .inr (.inl trivial), fun id hid => by simp [lives, liveO] at hid⟩
theorem at_m0 {c : T} {d : den c} {cs : List Value} (h : At w (fun b => b < w.heap.size) c d cs) : At (m0 w).w (m0 w).I c d cs := At.mono (fun _ hb => ⟨m0_imm hb, rfl⟩) _ _ _ h

theorem arg_ok {t : TypeId} {v : Value} {d : DataW H} {p : List MemPlace} {c : T} (h : DataW.Trod enc P w 0 (fun _ => true) true t v d p) (hc : codeT P depth t = some c) (ht : tiled P depth t = true) : ∃ a : den c, At (m0 w).w (m0 w).I c a v.cells.toList ∧ okD c a := by
  obtain ⟨fuel, h⟩ := h
  obtain ⟨a, ha, hk⟩ := trod_at (fun _ => rfl) _ _ _ _ _ _ hc ht h
  exact ⟨a, at_m0 ha, hk⟩
theorem arg_at {t : TypeId} {v : Value} {d : DataW H} {p : List MemPlace} {c : T} (h : DataW.Trod enc P w 0 (fun _ => true) true t v d p) (hc : codeT P depth t = some c) (ht : tiled P depth t = true) : ∃ a : den c, At (m0 w).w (m0 w).I c a v.cells.toList := by
  obtain ⟨a, ha, _⟩ := arg_ok h hc ht
  exact ⟨a, ha⟩

theorem rv_ag {c : T} {a : den c} {v : Value} {cs : Array Value} (hv : v = .agg cs) (h : At (m0 w).w (m0 w).I c a v.cells.toList) : Rv (m0 w) (.ag (Dor.enc c a)) v := by
  obtain ⟨s, h1, h2⟩ := At.enc _ _ _ h
  refine ⟨s, ?_, h2⟩
  subst hv
  have h1 : cs.toList = s.flatten := h1
  simp [ag, cells, ← h1]

/-- a law of data, called -/
theorem law_calls {f : FuncId} {vd : List Vd} {q : HL (Ds.ts ⟨vd, []⟩) → Option (HL (Ds.ts ⟨[.one (.im .bool)], []⟩))} (hS : Entry.Sound P f ⟨⟨vd, []⟩, ⟨[.one (.im .bool)], []⟩, q⟩) {vals : List Value} {x : HL (Ds.ts ⟨vd, []⟩)}
    (hv : Al2 (Rv (m0 w)) (givenV ⟨vd, []⟩ id x).1 vals) (hq : q x = some true) : Calls P f vals.toArray w fun e w' => e = .returned (.bool true) ∧ Below w.heap.size w w' := by
  have hg : givenO ⟨vd, []⟩ id x = [] := rfl
  have hs : Start ⟨vd, []⟩ x (fun _ => True) w (fun _ => undef) vals := by
    refine ⟨?_, hv⟩
    refine ⟨rfl, rfl, .refl _, rfl, Nat.le_refl _, fun _ _ _ => rfl, fun b _ => ?_, fun id o hid => ?_, fun id hid => ?_, fun i j hi => ?_⟩
    · rintro ⟨i, hi, _⟩
      rw [hg] at hi
      simp [lives, liveO] at hi
    · rw [hg] at hid; simp at hid
    · rw [hg] at hid; simp [lives, liveO] at hid
    · rw [hg] at hi; simp [lives, liveO] at hi
  refine (hS.out x true hq (fun _ => True) w (fun _ => undef) vals hs).mono fun e w' ⟨vs, g', he, R', hv', _⟩ => ?_
  have hv' : Al2 (Rv (memOf (lentOf (givenO ⟨vd, []⟩ id x) fun _ => undef) (fun _ => True) w (givenO ⟨[.one (.im .bool)], []⟩ id true) g' w')) [.one (.b true)] vs := hv'
  obtain ⟨v, vs, rfl, h1, h2⟩ := hv'.cons_left
  have := h2.nil_left
  subst this
  have h1 := rv_bool h1
  subst h1
  refine ⟨he, R'.os, R'.tape, R'.output, R'.size, fun b hb => R'.old b hb ?_⟩
  rintro ⟨i, hi, _⟩
  have hg' : lives ([] : Hm) i := hi
  simp [lives, liveO] at hg'

theorem trodAll_stays (hl : laidOutB P = true) (hb : Below w.heap.size w w') : ∀ {ts : List TypeId} {vs : List Value} {ds : List (DataW H)} {ps : List MemPlace}, (∀ t ∈ ts, P.readableRec t = true ∧ t < P.types.size) →
    DataW.TrodAll enc P w 0 (fun _ => true) true ts vs ds ps → (∀ x ∈ ps, x.block < w.heap.size) → DataW.TrodAll enc P w' 0 (fun b => decide (b < w.heap.size)) true ts vs ds ps
  | [], [], [], _, _, h, _ => h
  | t :: ts, v :: vs, d :: ds, ps, hr, h, hlt => by
    obtain ⟨p, q, h1, h2, rfl⟩ := h
    exact ⟨p, q, Go.RowKit.Below.trod hl (hr t (by simp)).1 (hr t (by simp)).2 h1 hb (fun x hx => hlt x (List.mem_append_left _ hx)), trodAll_stays hl hb (fun u hu => hr u (List.mem_cons_of_mem _ hu)) h2 (fun x hx => hlt x (List.mem_append_right _ hx)), rfl⟩

end
end Go.Dor
end

section
/- AN ARGUMENT OF A LAW, as data of its type: numbers fit, the value reads as the data. -/
namespace Go.Dor
section
variable {H : Type} {enc' : TypeId × Value → H} {P : Program} {w : World}

def vOf : (c : T) → den c → V
  | .int k, n => .one (.i k n)
  | .bool, x => .one (.b x)
  | .str, l => .one (.s l)
  | .flt k, n => .one (.f k n)
  | .fx k, n => .one (.fx k n)
  | .sl e, xs => .one (.ro e xs)
  | .unit, x => .ag (enc .unit x)
  | .pair a b, x => .ag (enc (.pair a b) x)
  | .arr n e, x => .ag (enc (.arr n e) x)

def aggT : T → Bool
  | .unit | .pair .. | .arr .. => true
  | _ => false

theorem okWide_agg {t : TypeId} {r : Reach} {base : Nat} {v : Value} (hv : Value.okWide P w r base t v) (hg : (∃ fs, P.underlying t = some (.struct fs)) ∨ ∃ m e, P.underlying t = some (.array m e)) : ∃ cs, v = .agg cs := by
  rcases hg with ⟨fs, hg⟩ | ⟨m, e, hg⟩ <;>
  · simp only [Value.okWide, hg] at hv
    obtain ⟨cs, h1, _⟩ := hv
    exact ⟨cs, h1⟩

theorem one_cells {v : Value} (h : ∀ cs, v ≠ .agg cs) : v.cells.toList = [v] := by
  cases v <;> first | rfl | exact absurd rfl (h _)

theorem arg_rv {t : TypeId} {v : Value} {d : DataW H} {p : List MemPlace} {c : T} (hag : (match P.underlying t with | some (.struct _) | some (.array _ _) => true | _ => false) = aggT c)
    (h : DataW.Trod enc' P w 0 (fun _ => true) true t v d p) (hc : codeT P depth t = some c) (ht : tiled P depth t = true) {r : Reach} {base : Nat} (hv : Value.okWide P w r base t v) : ∃ a : den c, Rv (m0 w) (vOf c a) v ∧ okD c a := by
  obtain ⟨a, ha, hk⟩ := arg_ok h hc ht
  refine ⟨a, ?_, hk⟩
  cases hx : aggT c with
  | true =>
    rw [hx] at hag
    have hcs : ∃ cs, v = .agg cs := by
      split at hag
      · rename_i fs hu; exact okWide_agg hv (.inl ⟨_, hu⟩)
      · rename_i m e hu; exact okWide_agg hv (.inr ⟨_, _, hu⟩)
      · cases hag
    obtain ⟨cs, hcs⟩ := hcs
    cases c <;> first | exact rv_ag hcs ha | cases hx
  | false =>
    rw [hx] at hag
    have hne : ∀ cs, v ≠ .agg cs := by
      rintro cs rfl
      split at hag
      · cases hag
      · cases hag
      · rename_i h1 h2
        unfold Value.okWide at hv
        split at hv
        · rename_i hu; exact h1 _ hu
        · rename_i hu; exact h2 _ _ hu
        · unfold Cell.okWide at hv
          cases hu : P.underlying t with
          | none => rw [hu] at hv; simp [Cell.ok, hu] at hv
          | some u => cases u <;> simp_all [Cell.ok]
    rw [one_cells hne] at ha
    cases c <;> first | exact ha | cases hx
end
end Go.Dor
end

section
/- slices.SortFunc AS AN ENTRY: what the shelf proves of it, turned to the machine's words. Plain lemmas over any program that bears it. -/
set_option linter.unusedVariables false
set_option linter.unusedSimpArgs false
namespace Go.Dor
open Go.Proofs Go.Shelf Go.Sort

/-! ### cells of data without slices -/
def encC : (t : T) → den t → List Value
  | .int k, n => [.int k n]
  | .bool, x => [.bool x]
  | .str, l => [sv l]
  | .flt k, n => [.float k n]
  | .fx _, _ => []
  | .unit, _ => []
  | .pair a b, x => encC a x.1 ++ encC b x.2
  | .arr _ e, x => (x.toList.map (encC e)).flatten
  | .sl _, _ => []
theorem al2_map {α β : Type} {R : α → β → Prop} {f : α → β} (h : ∀ x y, R x y ↔ y = f x) : ∀ {xs : List α} {ys : List β}, Al2 R xs ys ↔ ys = xs.map f
  | [], [] => by simp [Al2]
  | [], _ :: _ => by simp [Al2]
  | _ :: _, [] => by simp [Al2]
  | x :: xs, y :: ys => by
    rw [List.map_cons, List.cons.injEq]
    show R x y ∧ Al2 R xs ys ↔ _
    rw [h, al2_map h]
theorem at_encC {w : World} {I : Nat → Prop} : ∀ (t : T) (x : den t) (c : List Value), flat t = true → (At w I t x c ↔ c = encC t x)
  | .int _, _, _, _ => Iff.rfl
  | .bool, _, _, _ => Iff.rfl
  | .str, _, _, _ => Iff.rfl
  | .flt _, _, _, _ => Iff.rfl
  | .fx _, _, _, hf => by cases hf
  | .unit, _, _, _ => Iff.rfl
  | .pair a b, x, c, hf => by
    have hf : (flat a && flat b) = true := hf
    rw [Bool.and_eq_true] at hf
    constructor
    · rintro ⟨c1, c2, rfl, h1, h2⟩
      rw [(at_encC a _ _ hf.1).1 h1, (at_encC b _ _ hf.2).1 h2]
      rfl
    · rintro rfl
      exact ⟨_, _, rfl, (at_encC a _ _ hf.1).2 rfl, (at_encC b _ _ hf.2).2 rfl⟩
  | .arr n e, x, c, hf => by
    have hf : flat e = true := hf
    constructor
    · rintro ⟨ys, rfl, h⟩
      rw [(al2_map fun x c => at_encC e x c hf).1 h]
      rfl
    · rintro rfl
      exact ⟨_, rfl, (al2_map fun x c => at_encC e x c hf).2 rfl⟩
theorem encC_len {t : T} (hf : flat t = true) (x : den t) : (encC t x).length = wid t := At.len (w := default) (I := fun _ => True) t x _ ((at_encC t x _ hf).2 rfl)
theorem encC_one {t : T} (hf : flat t = true) (x : den t) : ∀ v ∈ encC t x, v.oneCell' = true := At.one (w := default) (I := fun _ => True) t x _ ((at_encC t x _ hf).2 rfl)

/-! ### a row of them -/
theorem flat_atK {α : Type} [Inhabited α] {enc : α → List Value} {k : Nat} (hk : ∀ x, (enc x).length = k) : ∀ (l : List α) (j : Nat), j < l.length * k → (l.map enc).flatten[j]? = some ((enc (l.toArray[j / k]!))[j % k]!)
  | [], j, h => by simp at h
  | a :: l, j, h => by
    have hk0 : 0 < k := by
      rcases Nat.eq_zero_or_pos k with q | q
      · subst q; simp at h
      · exact q
    rw [List.map_cons, List.flatten_cons]
    by_cases hj : j < k
    · rw [List.getElem?_append_left (by rw [hk]; exact hj), Nat.div_eq_of_lt hj, Nat.mod_eq_of_lt hj]
      have e : (a :: l).toArray[0]! = a := by simp
      rw [e, getElem!_pos _ j (by rw [hk]; exact hj), List.getElem?_eq_getElem]
    · have e : (l.length + 1) * k = l.length * k + k := Nat.succ_mul _ _
      rw [List.length_cons, e] at h
      have ih := flat_atK hk l (j - k) (by omega)
      rw [List.getElem?_append_right (by rw [hk]; omega), hk, ih]
      have h1 : j / k = (j - k) / k + 1 := by rw [Nat.div_eq_sub_div hk0 (by omega)]
      have h2 : j % k = (j - k) % k := by rw [Nat.mod_eq_sub_mod (by omega)]
      have h3 : ∀ i, (a :: l).toArray[i + 1]! = l.toArray[i]! := fun i => by simp [Array.getElem!_eq_getD, Array.getD]
      rw [h1, h2, h3]
theorem flatK_list {α : Type} [Inhabited α] {enc : α → List Value} {k : Nat} (hk : ∀ x, (enc x).length = k) (l : List α) (j : Nat) (h : j < l.length * k) : (l.map enc).flatten[j]? = some (flatK enc k l.toArray)[j]! := by
  rw [flat_atK hk l j h, get_flatK enc k l.toArray j (by simpa using h)]
theorem flat_size {α : Type} {enc : α → List Value} {k : Nat} (hk : ∀ x, (enc x).length = k) : ∀ (l : List α), (l.map enc).flatten.length = l.length * k
  | [] => by simp
  | a :: l => by rw [List.map_cons, List.flatten_cons, List.length_append, hk, flat_size hk l, List.length_cons, Nat.succ_mul]; omega
theorem holds_row {α : Type} [Inhabited α] {enc : α → List Value} {k : Nat} (hk : ∀ x, (enc x).length = k) {w : World} {b : Nat} {cur : Array Value} {ty : TypeId} {fz : Nat × Nat} {l : List α} (hb : w.heap[b]? = some (.cells cur ty fz))
    (hfz : ∀ j, j < cur.size → ¬ (fz.1 ≤ j ∧ j < fz.2)) (hx : ∀ (j : Nat) x, (l.map enc).flatten[j]? = some x → cur[j]? = some x) : HoldsK enc k w b 0 l.toArray := by
  intro j hj
  rw [size_flatK] at hj
  have hj' : j < l.length * k := by simpa using hj
  have h1 := hx j _ (flatK_list hk l j hj')
  have h2 : j < cur.size := (Array.getElem?_eq_some_iff.1 h1).1
  refine ⟨?_, ?_⟩
  · simp only [World.cell?, hb, Nat.zero_add, Option.isSome_none, Bool.false_eq_true, if_false]
    exact h1
  · have h3 := hfz j h2
    simp only [World.frozen?, hb, Nat.zero_add]
    simpa using h3
section
variable {α : Type} [Inhabited α] {enc : α → List Value} {k : Nat}
theorem heap_sortedK {w : World} {b n : Nat} {os : Array Obj} {cur : Array Value} {ty : TypeId} {fz : Nat × Nat} (d : Array α) (hb : w.heap[b]? = some (.cells cur ty fz)) :
    (sortWorldK enc k w b 0 n d os).heap[b]? = some (.cells (putCells id 0 (flatK enc k d) cur) ty fz) := by
  have hg : b < w.heap.size := (Array.getElem?_eq_some_iff.1 hb).1
  unfold sortWorldK putRowK
  rw [heap_grow_old _ _ (by simpa using hg)]
  simp [putRow, mapBlock, Sort.ahead, Array.getElem?_modify, hb, onCells]
theorem grown_sortedK {w : World} {b n : Nat} {os : Array Obj} (d : Array α) : w.grownBy (sortWorldK enc k w b 0 n d os) (some b) := by
  refine ⟨rfl, rfl, rfl, by simp [sortWorldK, putRowK], fun q hq hne => ?_⟩
  unfold sortWorldK putRowK
  rw [heap_grow_old _ _ (by simpa using hq)]
  have : b ≠ q := fun e => hne (by rw [e])
  simp [putRow, mapBlock, Sort.ahead, Array.getElem?_modify, this]
theorem own_sortedK (hk : ∀ x, (enc x).length = k) {w : World} {b n cap : Nat} {os : Array Obj} {cur : Array Value} {ty : TypeId} {fz : Nat × Nat} {l l' : List α} (hl : l'.length = l.length) (hb : w.heap[b]? = some (.cells cur ty fz))
    (h1 : l.length ≤ cap) (h2 : cap ≤ maxLen) (h3 : cur.size = cap * k) (hfz : ∀ j, j < cur.size → ¬ (fz.1 ≤ j ∧ j < fz.2)) :
    Own (sortWorldK enc k w b 0 n l'.toArray os) (.slice (some ⟨b, 0, none⟩) l.length cap) ty k (l'.map enc) := by
  have hs : (putCells id 0 (flatK enc k l'.toArray) cur).size = cur.size := by simp [putCells]
  refine ⟨fun x hx => ?_, .inr ⟨b, cap, _, fz, by rw [List.length_map, hl], by rw [List.length_map, hl]; exact h1, h2, heap_sortedK _ hb, fun j hj => hfz j (by rw [← hs]; exact hj), by rw [hs, h3], fun j x hx => ?_⟩⟩
  · obtain ⟨a, _, rfl⟩ := List.mem_map.1 hx
    exact hk a
  · have hj : j < l'.length * k := by
      have := (List.getElem?_eq_some_iff.1 hx).1
      rw [flat_size hk] at this
      exact this
    rw [flatK_list hk l' j hj] at hx
    have hjc : j < cur.size := by
      rw [h3]
      exact Nat.lt_of_lt_of_le hj (Nat.mul_le_mul_right _ (by omega))
    have e : (putCells id 0 (flatK enc k l'.toArray) cur)[j]? = some (flatK enc k l'.toArray)[j]! := by
      have h5 : 0 ≤ j ∧ j < 0 + (flatK enc k l'.toArray).size := ⟨Nat.zero_le _, by rw [size_flatK]; simpa using hj⟩
      simp only [putCells, Array.getElem?_mapIdx, Array.getElem?_eq_getElem hjc, Option.map_some, if_pos h5, Nat.sub_zero, id]
    rw [e]
    exact hx
end

/-! ### the closure's contract -/
theorem world_grown {w w' : World} (h1 : w'.os = w.os) (h2 : w'.tape = w.tape) (h3 : w'.output = w.output) (h4 : w.heap.size ≤ w'.heap.size) (h5 : ∀ b, b < w.heap.size → w'.heap[b]? = w.heap[b]?) (h6 : w.drawn ≤ w'.drawn) : ∃ q os', w' = grow (w.drewN q) os' := by
  obtain ⟨hp, tp, dr, o, out⟩ := w
  obtain ⟨hp', tp', dr', o', out'⟩ := w'
  dsimp only at *
  subst h1 h2 h3
  refine ⟨dr' - dr, hp'.extract hp.size hp'.size, ?_⟩
  have e : (World.drewN ⟨hp, tp', dr, o', out'⟩ (dr' - dr)) = ⟨hp, tp', dr + (dr' - dr), o', out'⟩ := by
    rfl
  rw [e]
  unfold grow
  have e2 : hp ++ hp'.extract hp.size hp'.size = hp' := by
    apply Array.ext_getElem?
    intro i
    rw [Array.getElem?_append]
    by_cases hi : i < hp.size
    · rw [if_pos hi]; exact (h5 i hi).symm
    · rw [if_neg hi, Array.getElem?_extract]
      have : hp.size + (i - hp.size) = i := by omega
      by_cases hj : i < hp'.size
      · rw [if_pos (by omega), this]
      · rw [if_neg (by omega), Array.getElem?_eq_none (by omega)]
  dsimp only
  rw [e2]
  congr 1
  omega
abbrev cmpE (t : T) (fn : den t × den t → Option Int) : Entry := ⟨Ds.mk [Vd.st t, Vd.st t] [], Ds.mk [Vd.one (Ld.im (.int .i64))] [], fn⟩
theorem cmp_calls {P : Program} {c : Nat} {t : T} {fn : den t × den t → Option Int} (ft : flat t = true) (hc : Entry.Sound P c (cmpE t fn)) {x y : den t} {z : Int} (h : fn (x, y) = some z) (W : World) :
    Calls P c #[.agg (encC t x).toArray, .agg (encC t y).toArray] W fun e w' => e = .returned (.int .i64 z) ∧ ∃ q os', w' = grow (W.drewN q) os' := by
  have rv : ∀ a : den t, Rv (m0 W) (.ag (Dor.enc t a)) (.agg (encC t a).toArray) := fun a => by
    obtain ⟨s, h1, h2⟩ := At.enc (m := m0 W) t a _ ((at_encC t a _ ft).2 rfl)
    refine ⟨s, ?_, h2⟩
    rw [h1]
    simp [ag, cells]
  have hs : Start (cmpE t fn).pre (x, y) (fun _ => True) W (fun _ => undef) [.agg (encC t x).toArray, .agg (encC t y).toArray] := by
    have hg : givenO (cmpE t fn).pre id (x, y) = [] := rfl
    refine ⟨?_, rv x, rv y, trivial⟩
    refine ⟨rfl, rfl, .refl _, rfl, Nat.le_refl _, fun _ _ _ => rfl, fun b _ => ?_, fun id o hid => ?_, fun id hid => ?_, fun i j hi => ?_⟩
    · rintro ⟨i, hi, _⟩
      rw [hg] at hi
      simp [lives, liveO] at hi
    · rw [hg] at hid; simp at hid
    · rw [hg] at hid; simp [lives, liveO] at hid
    · rw [hg] at hi; simp [lives, liveO] at hi
  refine (hc.out (x, y) z h (fun _ => True) W (fun _ => undef) _ hs).mono fun e w' ⟨vs, g', he, R', hv', _⟩ => ?_
  obtain ⟨v, vs, rfl, h1, h2⟩ := hv'.cons_left
  obtain rfl := h2.nil_left
  have h1 : [v] = [Value.int .i64 z] := h1
  cases h1
  refine ⟨he, world_grown R'.os R'.tape R'.output R'.size (fun b hb => R'.old b hb ?_) R'.drawn.le⟩
  rintro ⟨i, hi, _⟩
  have hg' : lives ([] : Hm) i := hi
  simp [lives, liveO] at hg'

/-! ### the sort -/
noncomputable def sortL {t : T} (cf : den t → den t → Int) (l : List (den t)) : List (den t) :=
  letI : Inhabited (den t) := ⟨dflt t⟩
  (pdq (ltOf cf) l.toArray 0 l.length (Lib.bitLen l.length) true true).toList
theorem sortL_perm {t : T} {cf : den t → den t → Int} (hO : SWO (ltOf cf)) (l : List (den t)) : (sortL cf l).Perm l := by
  letI : Inhabited (den t) := ⟨dflt t⟩
  have h := pdq_sorts (ltOf cf) hO l.toArray 0 l.length (Lib.bitLen l.length) true true (Nat.zero_le _) (by simp) (Or.inl rfl)
  have h1 := h.1.2.2
  have h2 := h.1.1
  have e1 : (l.toArray.extract 0 l.length).toList = l := by simp
  have e2 : ((pdq (ltOf cf) l.toArray 0 l.length (Lib.bitLen l.length) true true).extract 0 l.length).toList = sortL cf l := by
    have h3 : (pdq (ltOf cf) l.toArray 0 l.length (Lib.bitLen l.length) true true).size = l.length := by rw [h2]; simp
    unfold sortL
    generalize pdq (ltOf cf) l.toArray 0 l.length (Lib.bitLen l.length) true true = A at h3 ⊢
    rw [← h3]
    simp
  rw [e1, e2] at h1
  exact h1
theorem sortL_len {t : T} {cf : den t → den t → Int} (hO : SWO (ltOf cf)) (l : List (den t)) : (sortL cf l).length = l.length := (sortL_perm hO l).length_eq
theorem sortL_sorted {t : T} {cf : den t → den t → Int} (hO : SWO (ltOf cf)) (l : List (den t)) : (sortL cf l).Pairwise fun a b => ¬ cf b a < 0 := by
  letI : Inhabited (den t) := ⟨dflt t⟩
  have h := pdq_sorts (ltOf cf) hO l.toArray 0 l.length (Lib.bitLen l.length) true true (Nat.zero_le _) (by simp) (Or.inl rfl)
  have hs : (pdq (ltOf cf) l.toArray 0 l.length (Lib.bitLen l.length) true true).size = l.length := by rw [h.1.1]; simp
  rw [List.pairwise_iff_getElem]
  intro i j hi hj hij
  have hj' : j < l.length := by rw [sortL_len hO] at hj; exact hj
  have h2 := h.2 i j (Nat.zero_le _) hij hj'
  unfold sortL
  rw [getElem!_pos _ j (by rw [hs]; exact hj'), getElem!_pos _ i (by rw [hs]; omega)] at h2
  simp only [ltOf, decide_eq_false_iff_not] at h2
  intro hlt
  refine h2 ?_
  rw [← Array.getElem_toList, ← Array.getElem_toList]
  exact hlt
noncomputable def sortE (t : T) (ty : TypeId) (c : Nat) (cf : den t → den t → Int) : Entry := ⟨Ds.mk [Vd.one (Ld.own 0), Vd.one (Ld.fn c [])] [Od.arr ty t], Ds.mk [] [Od.arr ty t], fun (l : List (den t)) => need (l.length < 4611686018427387904) (some (sortL cf l))⟩
theorem sortK_sound {P : Program} {ρ : Go.Shelf.Ren} (L : SlLaysF0.n6 P ρ) {t : T} {ty : TypeId} {c : Nat} {fn : den t × den t → Option Int} (ft : flat t = true) (hc : Entry.Sound P c (cmpE t fn))
    (cf : den t → den t → Int) (hcf : ∀ x y, fn (x, y) = some (cf x y)) (hO : SWO (ltOf cf)) (aE : ∀ w, (isAgg (ρ.t 24)).run P w = .ok true w) (zE : ∀ w, (Go.sizeOf (ρ.t 24)).run P w = .ok (wid t) w)
    (eg : ∀ args w, (callFunc c args).run P w = .ok (.enter c args) w) : Entry.Sound P (ρ.f 6) (sortE t ty c cf) := ⟨fun (l : List (den t)) y hy S w g vals hst => by
  letI : Inhabited (den t) := ⟨dflt t⟩
  obtain ⟨hsz, hy⟩ := need_some hy
  cases hy
  have hrel := hst.rel
  obtain ⟨v0, vs1, rfl, h0, hv1⟩ := hst.vals.cons_left
  obtain ⟨v1, vs2, rfl, hf, hv2⟩ := hv1.cons_left
  obtain rfl := hv2.nil_left
  obtain ⟨_, hf⟩ := hf
  cases hf
  obtain ⟨_, v, hv, hone, hcells, hlive⟩ := h0
  cases hv
  have live0 : lives (givenO (sortE t ty c cf).pre id l) 0 := rfl
  have hvg : v0 = g 0 := hlive live0
  subst hvg
  obtain ⟨ys, hown, hal⟩ := hrel.obj 0 (.arr ty t l) rfl
  have hys : ys = l.map (encC t) := (al2_map fun x c => at_encC t x c ft).1 hal
  have hk : ∀ x : den t, (encC t x).length = wid t := encC_len ft
  have none_ : ∀ (p : Option Addr) (cap : Nat), g 0 = .slice p 0 cap → l = [] → Calls P (ρ.f 6) [g 0, .func (.func c) #[] #[]].toArray w fun e w' => ∃ vs g', e = .returned (one vs) ∧ Rel (lentOf (givenO (sortE t ty c cf).pre id l) g) S w (givenO (sortE t ty c cf).post id (sortL cf l)) g' w' ∧
      Al2 (Rv (memOf (lentOf (givenO (sortE t ty c cf).pre id l) g) S w (givenO (sortE t ty c cf).post id (sortL cf l)) g' w')) (givenV (sortE t ty c cf).post id (sortL cf l)).1 vs ∧ ∀ i, i < (sortE t ty c cf).pre.objs.length → g' i = g i := by
    intro p cap hp hl
    have hn : sortL cf l = l := by
      have := sortL_len hO l
      rw [hl] at this ⊢
      exact List.eq_nil_of_length_eq_zero this
    rw [hn]
    rw [hp]
    refine (AnyF.slices_SortFunc_none L p cap (.func (.func c) #[] #[]) w).mono fun e w' ⟨he, hw⟩ => ?_
    subst hw
    exact ⟨[], g, he, hrel, trivial, fun _ _ => rfl⟩
  by_cases hl0 : l = []
  · rcases hown.2 with ⟨⟨a, hva, _⟩, _⟩ | ⟨b, cap, cur, fz, hv, _⟩
    · exact none_ a 0 hva hl0
    · rw [hys, hl0] at hv
      exact none_ _ cap hv hl0
  · rcases hown.2 with ⟨_, hn⟩ | ⟨b, cap, cur, fz, hv, hnc, hcm, hgc, hfz, hcs, hx⟩
    · rw [hys] at hn
      exact absurd (List.map_eq_nil_iff.1 hn) hl0
    · rw [hys, List.length_map] at hv hnc
      rw [hys] at hx
      have hpos : 0 < l.length := List.length_pos_iff.2 hl0
      have hc0 : cap ≠ 0 := by omega
      have hfoot : foot (g 0) = some b := by rw [hv]; simp [foot, vfoot, hc0]
      have hH : HoldsK (encC t) (wid t) w b 0 l.toArray := holds_row hk hgc hfz hx
      have hcmp : CmpLays P c #[] (encC t) (wid t) cf b 0 l.toArray.size w := fun m os dk _ x y => cmp_calls ft hc (hcf x y) _
      have key := AnyQ.slices_SortFunc_eq L (wid t) aE zE (encC t) hk (encC_one ft) cf hO c #[] b 0 cap l.toArray w eg hcmp hH (heap_lt hgc) (by simpa using hsz)
      have hsl : (pdq (ltOf cf) l.toArray 0 l.toArray.size (Lib.bitLen l.toArray.size) true true) = (sortL cf l).toArray := by
        have : l.toArray.size = l.length := by simp
        rw [this]
        unfold sortL
        simp
      rw [hsl] at key
      have key' : Calls P (ρ.f 6) [g 0, .func (.func c) #[] #[]].toArray w fun e w' => e = .returned (.tuple #[]) ∧ ∃ n os, w' = sortWorldK (encC t) (wid t) w b 0 n (sortL cf l).toArray os := by
        rw [hv]
        have : l.toArray.size = l.length := by simp
        rw [this] at key
        exact key
      refine key'.mono fun e w' ⟨he, n, os, hw⟩ => ?_
      have hO' : Own w' (g 0) ty (wid t) ((sortL cf l).map (encC t)) := by
        rw [hw, hv]
        exact own_sortedK hk (sortL_len hO l) hgc hnc hcm hcs hfz
      have hdr : Dr w w' := .of (by rw [hw]; exact Nat.le_add_right _ _)
      have hs := hrel.set (id := 0) live0 (.arr ty t (sortL cf l)) (w' := w') (by rw [hfoot, hw]; exact grown_sortedK _) fun le => ⟨_, hO', (al2_map fun x c => at_encC t x c ft).2 rfl⟩
      exact ⟨[], g, he, hs.1, trivial, fun _ _ => rfl⟩⟩
end Go.Dor
end

section
/- slices.SortFunc AS AN ENTRY, AT ELEMENTS OF ONE CELL. Plain lemmas over any program that bears it. -/
set_option linter.unusedVariables false
set_option linter.unusedSimpArgs false
namespace Go.Dor
open Go.Proofs Go.Shelf Go.Sort

def enc1 : (t : T) → den t → Value
  | .int k, n => .int k n
  | .bool, x => .bool x
  | .str, l => sv l
  | .flt k, n => .float k n
  | _, _ => .nilFunc
theorem at_enc1 {w : World} {I : Nat → Prop} {t : T} (ht : scalT t = true) (x : den t) (c : List Value) : At w I t x c ↔ c = [enc1 t x] := by
  cases t <;> simp only [scalT] at ht <;> first | exact Iff.rfl | cases ht
theorem enc1_one {t : T} (ht : scalT t = true) (x : den t) : (enc1 t x).oneCell' = true := by
  cases t <;> simp only [scalT] at ht <;> first | rfl | cases ht
theorem wid_scal {t : T} (ht : scalT t = true) : wid t = 1 := by
  cases t <;> simp only [scalT] at ht <;> first | rfl | cases ht
theorem enc_scal {m : Mem} {t : T} (ht : scalT t = true) (x : den t) : Rv m (.one (giveL ⟨t, x⟩)) (enc1 t x) := by
  cases t <;> simp only [scalT] at ht <;> first | rfl | cases ht

/-! ### a row of single cells is a row of cells -/
section
variable {α : Type} [Inhabited α] {f : α → Value}
theorem get_flat1 (d : Array α) (j : Nat) (h : j < d.size) : (flatK (fun x => [f x]) 1 d)[j]! = f d[j]! := by
  rw [get_flatK _ _ _ _ (by omega), Nat.div_one, Nat.mod_one]
  simp
theorem putRow_one (w : World) (b off : Nat) (d : Array α) : putRowK (fun x => [f x]) 1 w b off d = putRow f w b off d := by
  unfold putRowK putRow
  congr 1
  funext c
  unfold putCells
  apply Array.ext
  · simp
  · intro i h1 h2
    simp only [Array.getElem_mapIdx, size_flatK, Nat.mul_one]
    split
    · rename_i h
      rw [get_flat1 d (i - off) (by omega)]
      rfl
    · rfl
theorem sortWorld_one (w : World) (b off n : Nat) (d : Array α) (os : Array Obj) : sortWorldK (fun x => [f x]) 1 w b off n d os = sortWorld f w b off n d os := by
  unfold sortWorldK sortWorld
  rw [putRow_one]
theorem holds_one {w : World} {b off : Nat} {d : Array α} (h : HoldsK (fun x => [f x]) 1 w b off d) : Holds f w b off d := by
  intro j hj
  have h1 := h j (by simpa using hj)
  rw [get_flat1 d j hj] at h1
  exact h1
end

abbrev cmp1E (t : T) (fn : den t × den t → Option Int) : Entry := ⟨Ds.mk [Vd.one (Ld.im t), Vd.one (Ld.im t)] [], Ds.mk [Vd.one (Ld.im (.int .i64))] [], fn⟩
theorem cmp1_calls {P : Program} {c : Nat} {t : T} {fn : den t × den t → Option Int} (ht : scalT t = true) (hc : Entry.Sound P c (cmp1E t fn)) {x y : den t} {z : Int} (h : fn (x, y) = some z) (W : World) :
    Calls P c #[enc1 t x, enc1 t y] W fun e w' => e = .returned (.int .i64 z) ∧ ∃ q os', w' = grow (W.drewN q) os' := by
  have hs : Start (cmp1E t fn).pre (x, y) (fun _ => True) W (fun _ => undef) [enc1 t x, enc1 t y] := by
    have hg : givenO (cmp1E t fn).pre id (x, y) = [] := rfl
    refine ⟨?_, enc_scal ht x, enc_scal ht y, trivial⟩
    refine ⟨rfl, rfl, .refl _, rfl, Nat.le_refl _, fun _ _ _ => rfl, fun b _ => ?_, fun id o hid => ?_, fun id hid => ?_, fun i j hi => ?_⟩
    · rintro ⟨i, hi, _⟩
      rw [hg] at hi
      simp [lives, liveO] at hi
    · rw [hg] at hid; simp at hid
    · rw [hg] at hid; simp [lives, liveO] at hid
    · rw [hg] at hi; simp [lives, liveO] at hi
  refine (hc.out (x, y) z h (fun _ => True) W (fun _ => undef) _ hs).mono fun e w' ⟨vs, g', he, R', hv', _⟩ => ?_
  obtain ⟨v, vs, rfl, h1, h2⟩ := hv'.cons_left
  obtain rfl := h2.nil_left
  have h1 : [v] = [Value.int .i64 z] := h1
  cases h1
  refine ⟨he, world_grown R'.os R'.tape R'.output R'.size (fun b hb => R'.old b hb ?_) R'.drawn.le⟩
  rintro ⟨i, hi, _⟩
  have hg' : lives ([] : Hm) i := hi
  simp [lives, liveO] at hg'

theorem sort1_sound {P : Program} {ρ : Go.Shelf.Ren} (L : SlLaysF.n6 P ρ) {t : T} {ty : TypeId} {c : Nat} {fn : den t × den t → Option Int} (ht : scalT t = true) (hc : Entry.Sound P c (cmp1E t fn))
    (cf : den t → den t → Int) (hcf : ∀ x y, fn (x, y) = some (cf x y)) (hO : SWO (ltOf cf))
    (eg : ∀ args w, (callFunc c args).run P w = .ok (.enter c args) w) : Entry.Sound P (ρ.f 6) (sortE t ty c cf) := ⟨fun (l : List (den t)) y hy S w g vals hst => by
  letI : Inhabited (den t) := ⟨dflt t⟩
  obtain ⟨hsz, hy⟩ := need_some hy
  cases hy
  have hrel := hst.rel
  obtain ⟨v0, vs1, rfl, h0, hv1⟩ := hst.vals.cons_left
  obtain ⟨v1, vs2, rfl, hf, hv2⟩ := hv1.cons_left
  obtain rfl := hv2.nil_left
  obtain ⟨_, hf⟩ := hf
  cases hf
  obtain ⟨_, v, hv, hone, hcells, hlive⟩ := h0
  cases hv
  have live0 : lives (givenO (sortE t ty c cf).pre id l) 0 := rfl
  have hvg : v0 = g 0 := hlive live0
  subst hvg
  obtain ⟨ys, hown, hal⟩ := hrel.obj 0 (.arr ty t l) rfl
  have hys : ys = l.map (fun x => [enc1 t x]) := (al2_map fun x c => at_enc1 ht x c).1 hal
  have hk : ∀ x : den t, ((fun x => [enc1 t x]) x).length = 1 := fun _ => rfl
  have hw1 : wid t = 1 := wid_scal ht
  have L0 : SlLaysF0.n6 P ρ := { L with }
  have none_ : ∀ (p : Option Addr) (cap : Nat), g 0 = .slice p 0 cap → l = [] → Calls P (ρ.f 6) [g 0, .func (.func c) #[] #[]].toArray w fun e w' => ∃ vs g', e = .returned (one vs) ∧ Rel (lentOf (givenO (sortE t ty c cf).pre id l) g) S w (givenO (sortE t ty c cf).post id (sortL cf l)) g' w' ∧
      Al2 (Rv (memOf (lentOf (givenO (sortE t ty c cf).pre id l) g) S w (givenO (sortE t ty c cf).post id (sortL cf l)) g' w')) (givenV (sortE t ty c cf).post id (sortL cf l)).1 vs ∧ ∀ i, i < (sortE t ty c cf).pre.objs.length → g' i = g i := by
    intro p cap hp hl
    have hn : sortL cf l = l := by
      have := sortL_len hO l
      rw [hl] at this ⊢
      exact List.eq_nil_of_length_eq_zero this
    rw [hn]
    rw [hp]
    refine (AnyF.slices_SortFunc_none L0 p cap (.func (.func c) #[] #[]) w).mono fun e w' ⟨he, hw⟩ => ?_
    subst hw
    exact ⟨[], g, he, hrel, trivial, fun _ _ => rfl⟩
  by_cases hl0 : l = []
  · rcases hown.2 with ⟨⟨a, hva, _⟩, _⟩ | ⟨b, cap, cur, fz, hv, _⟩
    · exact none_ a 0 hva hl0
    · rw [hys, hl0] at hv
      exact none_ _ cap hv hl0
  · rcases hown.2 with ⟨_, hn⟩ | ⟨b, cap, cur, fz, hv, hnc, hcm, hgc, hfz, hcs, hx⟩
    · rw [hys] at hn
      exact absurd (List.map_eq_nil_iff.1 hn) hl0
    · rw [hys, List.length_map] at hv hnc
      rw [hys] at hx
      rw [hw1] at hcs
      have hpos : 0 < l.length := List.length_pos_iff.2 hl0
      have hc0 : cap ≠ 0 := by omega
      have hfoot : foot (g 0) = some b := by rw [hv]; simp [foot, vfoot, hc0]
      have hH : HoldsK (fun x => [enc1 t x]) 1 w b 0 l.toArray := holds_row hk hgc hfz hx
      have hcmp : CmpLays1 P c #[] (enc1 t) cf b 0 l.toArray.size w := fun m os dk _ x y => cmp1_calls ht hc (hcf x y) _
      have key := Any.slices_SortFunc_eq L (enc1 t) (enc1_one ht) cf hO c #[] b 0 cap l.toArray w eg hcmp (holds_one hH) (heap_lt hgc) (by simpa using hsz)
      have hsl : (pdq (ltOf cf) l.toArray 0 l.toArray.size (Lib.bitLen l.toArray.size) true true) = (sortL cf l).toArray := by
        have : l.toArray.size = l.length := by simp
        rw [this]
        unfold sortL
        simp
      rw [hsl] at key
      have key' : Calls P (ρ.f 6) [g 0, .func (.func c) #[] #[]].toArray w fun e w' => e = .returned (.tuple #[]) ∧ ∃ n os, w' = sortWorldK (fun x => [enc1 t x]) 1 w b 0 n (sortL cf l).toArray os := by
        rw [hv]
        have : l.toArray.size = l.length := by simp
        rw [this] at key
        refine key.mono fun e w' ⟨he, n, os, hw⟩ => ⟨he, n, os, ?_⟩
        rw [hw, sortWorld_one]
      refine key'.mono fun e w' ⟨he, n, os, hw⟩ => ?_
      have hO' : Own w' (g 0) ty (wid t) ((sortL cf l).map (fun x => [enc1 t x])) := by
        rw [hw, hv, hw1]
        exact own_sortedK hk (sortL_len hO l) hgc hnc hcm hcs hfz
      have hdr : Dr w w' := .of (by rw [hw]; exact Nat.le_add_right _ _)
      have hs := hrel.set (id := 0) live0 (.arr ty t (sortL cf l)) (w' := w') (by rw [hfoot, hw]; exact grown_sortedK _) fun le => ⟨_, hO', (al2_map fun x c => at_enc1 ht x c).2 rfl⟩
      exact ⟨[], g, he, hs.1, trivial, fun _ _ => rfl⟩⟩
end Go.Dor
end

section
/- THE SHELF's CONTRACTS FOR GENERIC FUNCTIONS, LAID AT THIS PROGRAM: the numbers of its functions and types, and that they are what the contracts speak of. -/
namespace Go.Proofs
open Go.Shelf

def Try.laysSort1_ren : Go.Shelf.Ren := ⟨fun | 6 => 70 | 15 => 92 | 14 => 102 | 28 => 123 | 29 => 124 | 20 => 128 | 21 => 129 | 22 => 130 | 23 => 131 | 24 => 132 | 25 => 133 | 26 => 134 | 27 => 135 | 46 => 145 | 47 => 139 | 48 => 140 | 49 => 146 | 50 => 147 | 57 => 154 | n => n, fun | 22 => 37 | 24 => 31 | 25 => 92 | 3 => 3 | 39 => 112 | 0 => 0 | 53 => 137 | 55 => 30 | 4 => 4 | 46 => 131 | 45 => 130 | 50 => 103 | 5 => 5 | 9 => 9 | 66 => 146 | 70 => 150 | 76 => 157 | 77 => 158 | n => n, fun | n => n⟩
theorem Try.laysSort1 : Go.Proofs.SlLaysF.n6 Try.prog Try.laysSort1_ren :=
  {
    mixed := by kernel_rfl,
    f6 := ⟨"slices.SortFunc[[]float64,float64]", by decide, Try.func70.trans (congrArg some (by kernel_rfl))⟩,
    f14 := ⟨"slices.pdqsortCmpFunc[float64]", by decide, Try.func102.trans (congrArg some (by kernel_rfl))⟩,
    f15 := Try.func92.trans (congrArg some (by kernel_rfl)),
    f20 := ⟨"slices.insertionSortCmpFunc[float64]", by decide, Try.func128.trans (congrArg some (by kernel_rfl))⟩,
    f21 := ⟨"slices.heapSortCmpFunc[float64]", by decide, Try.func129.trans (congrArg some (by kernel_rfl))⟩,
    f22 := ⟨"slices.breakPatternsCmpFunc[float64]", by decide, Try.func130.trans (congrArg some (by kernel_rfl))⟩,
    f23 := ⟨"slices.choosePivotCmpFunc[float64]", by decide, Try.func131.trans (congrArg some (by kernel_rfl))⟩,
    f24 := ⟨"slices.reverseRangeCmpFunc[float64]", by decide, Try.func132.trans (congrArg some (by kernel_rfl))⟩,
    f25 := ⟨"slices.partialInsertionSortCmpFunc[float64]", by decide, Try.func133.trans (congrArg some (by kernel_rfl))⟩,
    f26 := ⟨"slices.partitionEqualCmpFunc[float64]", by decide, Try.func134.trans (congrArg some (by kernel_rfl))⟩,
    f27 := ⟨"slices.partitionCmpFunc[float64]", by decide, Try.func135.trans (congrArg some (by kernel_rfl))⟩,
    f28 := Try.func123.trans (congrArg some (by kernel_rfl)),
    f29 := Try.func124.trans (congrArg some (by kernel_rfl)),
    f46 := ⟨"slices.siftDownCmpFunc[float64]", by decide, Try.func145.trans (congrArg some (by kernel_rfl))⟩,
    f47 := Try.func139.trans (congrArg some (by kernel_rfl)),
    f48 := Try.func140.trans (congrArg some (by kernel_rfl)),
    f49 := ⟨"slices.medianAdjacentCmpFunc[float64]", by decide, Try.func146.trans (congrArg some (by kernel_rfl))⟩,
    f50 := ⟨"slices.medianCmpFunc[float64]", by decide, Try.func147.trans (congrArg some (by kernel_rfl))⟩,
    f57 := ⟨"slices.order2CmpFunc[float64]", by decide, Try.func154.trans (congrArg some (by kernel_rfl))⟩,
    t0 := Try.underlying0,
    a0 := Try.isAgg0,
    z0 := Try.sizeOf0,
    v0 := Try.zeroValue0,
    t3 := Try.underlying3,
    a3 := Try.isAgg3,
    z3 := Try.sizeOf3,
    v3 := Try.zeroValue3,
    t4 := Try.underlying4,
    a4 := Try.isAgg4,
    z4 := Try.sizeOf4,
    v4 := Try.zeroValue4,
    t5 := Try.underlying5,
    a5 := Try.isAgg5,
    z5 := Try.sizeOf5,
    v5 := Try.zeroValue5,
    t9 := Try.underlying9,
    a9 := Try.isAgg9,
    z9 := Try.sizeOf9,
    v9 := Try.zeroValue9,
    t22 := Try.underlying37,
    a22 := Try.isAgg37,
    z22 := Try.sizeOf37,
    v22 := Try.zeroValue37,
    a24 := Try.isAgg31,
    z24 := Try.sizeOf31,
    t25 := Try.underlying92,
    a25 := Try.isAgg92,
    z25 := Try.sizeOf92,
    v25 := Try.zeroValue92,
    t39 := Try.underlying112,
    a39 := Try.isAgg112,
    z39 := Try.sizeOf112,
    v39 := Try.zeroValue112,
    t45 := Try.underlying130,
    a45 := Try.isAgg130,
    z45 := Try.sizeOf130,
    v45 := Try.zeroValue130,
    t46 := Try.underlying131,
    a46 := Try.isAgg131,
    z46 := Try.sizeOf131,
    v46 := Try.zeroValue131,
    t50 := Try.underlying103,
    a50 := Try.isAgg103,
    z50 := Try.sizeOf103,
    v50 := Try.zeroValue103,
    t53 := Try.underlying137,
    a53 := Try.isAgg137,
    z53 := Try.sizeOf137,
    v53 := Try.zeroValue137,
    t55 := Try.underlying30,
    a55 := Try.isAgg30,
    z55 := Try.sizeOf30,
    v55 := Try.zeroValue30,
    t66 := Try.underlying146,
    a66 := Try.isAgg146,
    z66 := Try.sizeOf146,
    v66 := Try.zeroValue146,
    t70 := Try.underlying150,
    a70 := Try.isAgg150,
    z70 := Try.sizeOf150,
    v70 := Try.zeroValue150,
    t76 := Try.underlying157,
    a76 := Try.isAgg157,
    z76 := Try.sizeOf157,
    v76 := Try.zeroValue157,
    t77 := Try.underlying158,
    a77 := Try.isAgg158,
    z77 := Try.sizeOf158,
    v77 := Try.zeroValue158 }

def Try.laysSortK_ren : Go.Shelf.Ren := ⟨fun | 6 => 57 | 15 => 92 | 14 => 91 | 28 => 123 | 29 => 124 | 20 => 115 | 21 => 116 | 22 => 117 | 23 => 118 | 24 => 119 | 25 => 120 | 26 => 121 | 27 => 122 | 46 => 138 | 47 => 139 | 48 => 140 | 49 => 141 | 50 => 142 | 57 => 150 | n => n, fun | 22 => 22 | 24 => 25 | 25 => 83 | 3 => 3 | 39 => 112 | 0 => 0 | 53 => 137 | 55 => 30 | 4 => 4 | 46 => 131 | 45 => 130 | 50 => 103 | 5 => 5 | 9 => 9 | 66 => 146 | 70 => 150 | 76 => 157 | 77 => 158 | n => n, fun | n => n⟩
theorem Try.laysSortK : Go.Proofs.SlLaysF0.n6 Try.prog Try.laysSortK_ren :=
  {
    mixed := by kernel_rfl,
    f6 := ⟨"slices.SortFunc[[]dormouse/api.Key,dormouse/api.Key]", by decide, Try.func57.trans (congrArg some (by kernel_rfl))⟩,
    f14 := ⟨"slices.pdqsortCmpFunc[dormouse/api.Key]", by decide, Try.func91.trans (congrArg some (by kernel_rfl))⟩,
    f15 := Try.func92.trans (congrArg some (by kernel_rfl)),
    f20 := ⟨"slices.insertionSortCmpFunc[dormouse/api.Key]", by decide, Try.func115.trans (congrArg some (by kernel_rfl))⟩,
    f21 := ⟨"slices.heapSortCmpFunc[dormouse/api.Key]", by decide, Try.func116.trans (congrArg some (by kernel_rfl))⟩,
    f22 := ⟨"slices.breakPatternsCmpFunc[dormouse/api.Key]", by decide, Try.func117.trans (congrArg some (by kernel_rfl))⟩,
    f23 := ⟨"slices.choosePivotCmpFunc[dormouse/api.Key]", by decide, Try.func118.trans (congrArg some (by kernel_rfl))⟩,
    f24 := ⟨"slices.reverseRangeCmpFunc[dormouse/api.Key]", by decide, Try.func119.trans (congrArg some (by kernel_rfl))⟩,
    f25 := ⟨"slices.partialInsertionSortCmpFunc[dormouse/api.Key]", by decide, Try.func120.trans (congrArg some (by kernel_rfl))⟩,
    f26 := ⟨"slices.partitionEqualCmpFunc[dormouse/api.Key]", by decide, Try.func121.trans (congrArg some (by kernel_rfl))⟩,
    f27 := ⟨"slices.partitionCmpFunc[dormouse/api.Key]", by decide, Try.func122.trans (congrArg some (by kernel_rfl))⟩,
    f28 := Try.func123.trans (congrArg some (by kernel_rfl)),
    f29 := Try.func124.trans (congrArg some (by kernel_rfl)),
    f46 := ⟨"slices.siftDownCmpFunc[dormouse/api.Key]", by decide, Try.func138.trans (congrArg some (by kernel_rfl))⟩,
    f47 := Try.func139.trans (congrArg some (by kernel_rfl)),
    f48 := Try.func140.trans (congrArg some (by kernel_rfl)),
    f49 := ⟨"slices.medianAdjacentCmpFunc[dormouse/api.Key]", by decide, Try.func141.trans (congrArg some (by kernel_rfl))⟩,
    f50 := ⟨"slices.medianCmpFunc[dormouse/api.Key]", by decide, Try.func142.trans (congrArg some (by kernel_rfl))⟩,
    f57 := ⟨"slices.order2CmpFunc[dormouse/api.Key]", by decide, Try.func150.trans (congrArg some (by kernel_rfl))⟩,
    t0 := Try.underlying0,
    a0 := Try.isAgg0,
    z0 := Try.sizeOf0,
    v0 := Try.zeroValue0,
    t3 := Try.underlying3,
    a3 := Try.isAgg3,
    z3 := Try.sizeOf3,
    v3 := Try.zeroValue3,
    t4 := Try.underlying4,
    a4 := Try.isAgg4,
    z4 := Try.sizeOf4,
    v4 := Try.zeroValue4,
    t5 := Try.underlying5,
    a5 := Try.isAgg5,
    z5 := Try.sizeOf5,
    v5 := Try.zeroValue5,
    t9 := Try.underlying9,
    a9 := Try.isAgg9,
    z9 := Try.sizeOf9,
    v9 := Try.zeroValue9,
    t22 := Try.underlying22,
    a22 := Try.isAgg22,
    z22 := Try.sizeOf22,
    v22 := Try.zeroValue22,
    t25 := Try.underlying83,
    a25 := Try.isAgg83,
    z25 := Try.sizeOf83,
    v25 := Try.zeroValue83,
    t39 := Try.underlying112,
    a39 := Try.isAgg112,
    z39 := Try.sizeOf112,
    v39 := Try.zeroValue112,
    t45 := Try.underlying130,
    a45 := Try.isAgg130,
    z45 := Try.sizeOf130,
    v45 := Try.zeroValue130,
    t46 := Try.underlying131,
    a46 := Try.isAgg131,
    z46 := Try.sizeOf131,
    v46 := Try.zeroValue131,
    t50 := Try.underlying103,
    a50 := Try.isAgg103,
    z50 := Try.sizeOf103,
    v50 := Try.zeroValue103,
    t53 := Try.underlying137,
    a53 := Try.isAgg137,
    z53 := Try.sizeOf137,
    v53 := Try.zeroValue137,
    t55 := Try.underlying30,
    a55 := Try.isAgg30,
    z55 := Try.sizeOf30,
    v55 := Try.zeroValue30,
    t66 := Try.underlying146,
    a66 := Try.isAgg146,
    z66 := Try.sizeOf146,
    v66 := Try.zeroValue146,
    t70 := Try.underlying150,
    a70 := Try.isAgg150,
    z70 := Try.sizeOf150,
    v70 := Try.zeroValue150,
    t76 := Try.underlying157,
    a76 := Try.isAgg157,
    z76 := Try.sizeOf157,
    v76 := Try.zeroValue157,
    t77 := Try.underlying158,
    a77 := Try.isAgg158,
    z77 := Try.sizeOf158,
    v77 := Try.zeroValue158 }
end Go.Proofs
end

section
/- The functions that the law calls, as the machine shows them. -/
namespace Go.Dor
open Go.Proofs
set_option maxRecDepth 100000
set_option linter.unusedVariables false
noncomputable section
theorem x_mo : Try.prog.follows .mixedOrders = true := by kernel_rfl
theorem x_ext15 : ExternOf Try.prog 15 (externFn 3) := ⟨⟨_, Try.func15, by kernel_rfl, by kernel_rfl, by kernel_rfl, by kernel_rfl⟩⟩
theorem x_ext65 : ExternOf Try.prog 65 (externFn 2) := ⟨⟨_, Try.func65, by kernel_rfl, by kernel_rfl, by kernel_rfl, by kernel_rfl⟩⟩
theorem x_ext144 : ExternOf Try.prog 144 (externFn 0) := ⟨⟨_, Try.func144, by kernel_rfl, by kernel_rfl, by kernel_rfl, by kernel_rfl⟩⟩
theorem x_ext : ∀ f kd, findA [(15, 3), (65, 2), (144, 0)] f = some kd → ExternOf Try.prog f (externFn kd) := (ext_cons (kd := 3) x_ext15 (ext_cons (kd := 2) x_ext65 (ext_cons (kd := 0) x_ext144 ext_nil)))

/- dormouse/gauge.Bits: function 20 -/
noncomputable def p_gauge_Bits (x6 : Nat) : Option Int :=
  some (↑x6 : Int)
noncomputable def e_gauge_Bits : Entry := ⟨Ds.mk [Vd.one (Ld.im (T.flt Go.FloatKind.f64))] [], Ds.mk [Vd.one (Ld.im (T.int IntKind.u64))] [], fun x => p_gauge_Bits x⟩
noncomputable def c_gauge_Bits : Cx := ⟨Try.prog, [], [], [], [], [], 0, 5, [(15, 3), (65, 2), (144, 0)], fun _ _ _ => none⟩
theorem q_gauge_Bits (x : HL (e_gauge_Bits).pre.ts) : runF (c_gauge_Bits) 0 Try.f20 (e_gauge_Bits).pre (e_gauge_Bits).post x = (e_gauge_Bits).fn x := by kernel_rfl
theorem s_gauge_Bits : Entry.Sound Try.prog 20 (e_gauge_Bits) := runF_sound (X := c_gauge_Bits) (pre := (e_gauge_Bits).pre) (post := (e_gauge_Bits).post) (q := (e_gauge_Bits).fn) ⟨dOk_nil, x_ext, x_mo⟩ Try.func20 (q_gauge_Bits)

/- dormouse/gauge.Key: function 19 -/
noncomputable def p_gauge_Key (x8 : Nat) : Option Int :=
  Option.bind (p_gauge_Bits x8) fun t9 => bif (iand IntKind.u64 t9 (9223372036854775808 : Int) != (0 : Int)) then some (inot IntKind.u64 t9) else some (ior IntKind.u64 t9 (9223372036854775808 : Int))
noncomputable def e_gauge_Key : Entry := ⟨Ds.mk [Vd.one (Ld.im (T.flt Go.FloatKind.f64))] [], Ds.mk [Vd.one (Ld.im (T.int IntKind.u64))] [], fun x => p_gauge_Key x⟩
noncomputable def c_gauge_Key : Cx := ⟨Try.prog, [(20, e_gauge_Bits)], [], [], [], [], 0, 13, [(15, 3), (65, 2), (144, 0)], fun _ _ _ => none⟩
theorem q_gauge_Key (x : HL (e_gauge_Key).pre.ts) : runF (c_gauge_Key) 0 Try.f19 (e_gauge_Key).pre (e_gauge_Key).post x = (e_gauge_Key).fn x := by kernel_rfl
theorem s_gauge_Key : Entry.Sound Try.prog 19 (e_gauge_Key) := runF_sound (X := c_gauge_Key) (pre := (e_gauge_Key).pre) (post := (e_gauge_Key).post) (q := (e_gauge_Key).fn) ⟨(dOk_cons (s_gauge_Bits) dOk_nil), x_ext, x_mo⟩ Try.func19 (q_gauge_Key)

/- cmp.isNaN[uint64]: function 103 -/
noncomputable def p_cmp_isNaN_uint64 (x19 : Int) : Option Bool :=
  some (x19 != x19)
noncomputable def e_cmp_isNaN_uint64 : Entry := ⟨Ds.mk [Vd.one (Ld.im (T.int IntKind.u64))] [], Ds.mk [Vd.one (Ld.im T.bool)] [], fun x => p_cmp_isNaN_uint64 x⟩
noncomputable def c_cmp_isNaN_uint64 : Cx := ⟨Try.prog, [], [], [], [], [], 0, 6, [(15, 3), (65, 2), (144, 0)], fun _ _ _ => none⟩
theorem q_cmp_isNaN_uint64 (x : HL (e_cmp_isNaN_uint64).pre.ts) : runF (c_cmp_isNaN_uint64) 0 Try.f103 (e_cmp_isNaN_uint64).pre (e_cmp_isNaN_uint64).post x = (e_cmp_isNaN_uint64).fn x := by kernel_rfl
theorem s_cmp_isNaN_uint64 : Entry.Sound Try.prog 103 (e_cmp_isNaN_uint64) := runF_sound (X := c_cmp_isNaN_uint64) (pre := (e_cmp_isNaN_uint64).pre) (post := (e_cmp_isNaN_uint64).post) (q := (e_cmp_isNaN_uint64).fn) ⟨dOk_nil, x_ext, x_mo⟩ Try.func103 (q_cmp_isNaN_uint64)

/- cmp.Compare[uint64]: function 72 -/
noncomputable def p_cmp_Compare_uint64 (x21 : Int) (x22 : Int) : Option Int :=
  Option.bind (p_cmp_isNaN_uint64 x21) fun t23 => Option.bind (p_cmp_isNaN_uint64 x22) fun t24 => bif t23 then bif t24 then some (0 : Int) else some (-1 : Int) else bif t24 then some (1 : Int) else bif (decide (x21 < x22)) then some (-1 : Int) else bif (decide (x21 > x22)) then some (1 : Int) else some (0 : Int)
noncomputable def e_cmp_Compare_uint64 : Entry := ⟨Ds.mk [Vd.one (Ld.im (T.int IntKind.u64)), Vd.one (Ld.im (T.int IntKind.u64))] [], Ds.mk [Vd.one (Ld.im (T.int IntKind.i64))] [], fun x => p_cmp_Compare_uint64 x.1 x.2⟩
noncomputable def c_cmp_Compare_uint64 : Cx := ⟨Try.prog, [(103, e_cmp_isNaN_uint64)], [], [], [], [], 0, 20, [(15, 3), (65, 2), (144, 0)], fun _ _ _ => none⟩
theorem q_cmp_Compare_uint64 (x : HL (e_cmp_Compare_uint64).pre.ts) : runF (c_cmp_Compare_uint64) 0 Try.f72 (e_cmp_Compare_uint64).pre (e_cmp_Compare_uint64).post x = (e_cmp_Compare_uint64).fn x := by kernel_rfl
theorem s_cmp_Compare_uint64 : Entry.Sound Try.prog 72 (e_cmp_Compare_uint64) := runF_sound (X := c_cmp_Compare_uint64) (pre := (e_cmp_Compare_uint64).pre) (post := (e_cmp_Compare_uint64).post) (q := (e_cmp_Compare_uint64).fn) ⟨(dOk_cons (s_cmp_isNaN_uint64) dOk_nil), x_ext, x_mo⟩ Try.func72 (q_cmp_Compare_uint64)

/- dormouse/gauge.Sort$1: function 71 -/
noncomputable def p_gauge_Sort_c1 (x26 : Nat) (x27 : Nat) : Option Int :=
  Option.bind (p_gauge_Key x26) fun t28 => Option.bind (p_gauge_Key x27) fun t29 => Option.bind (p_cmp_Compare_uint64 t28 t29) fun t30 => some t30
noncomputable def e_gauge_Sort_c1 : Entry := ⟨Ds.mk [Vd.one (Ld.im (T.flt Go.FloatKind.f64)), Vd.one (Ld.im (T.flt Go.FloatKind.f64))] [], Ds.mk [Vd.one (Ld.im (T.int IntKind.i64))] [], fun x => p_gauge_Sort_c1 x.1 x.2⟩
noncomputable def c_gauge_Sort_c1 : Cx := ⟨Try.prog, [(19, e_gauge_Key), (72, e_cmp_Compare_uint64)], [], [], [], [], 0, 10, [(15, 3), (65, 2), (144, 0)], fun _ _ _ => none⟩
theorem q_gauge_Sort_c1 (x : HL (e_gauge_Sort_c1).pre.ts) : runF (c_gauge_Sort_c1) 0 Try.f71 (e_gauge_Sort_c1).pre (e_gauge_Sort_c1).post x = (e_gauge_Sort_c1).fn x := by kernel_rfl
theorem s_gauge_Sort_c1 : Entry.Sound Try.prog 71 (e_gauge_Sort_c1) := runF_sound (X := c_gauge_Sort_c1) (pre := (e_gauge_Sort_c1).pre) (post := (e_gauge_Sort_c1).post) (q := (e_gauge_Sort_c1).fn) ⟨(dOk_cons (s_gauge_Key) (dOk_cons (s_cmp_Compare_uint64) dOk_nil)), x_ext, x_mo⟩ Try.func71 (q_gauge_Sort_c1)

/- cmp.isNaN[byte]: function 125 -/
noncomputable def p_cmp_isNaN_byte (x48 : Int) : Option Bool :=
  some (x48 != x48)
noncomputable def e_cmp_isNaN_byte : Entry := ⟨Ds.mk [Vd.one (Ld.im (T.int IntKind.u8))] [], Ds.mk [Vd.one (Ld.im T.bool)] [], fun x => p_cmp_isNaN_byte x⟩
noncomputable def c_cmp_isNaN_byte : Cx := ⟨Try.prog, [], [], [], [], [], 0, 6, [(15, 3), (65, 2), (144, 0)], fun _ _ _ => none⟩
theorem q_cmp_isNaN_byte (x : HL (e_cmp_isNaN_byte).pre.ts) : runF (c_cmp_isNaN_byte) 0 Try.f125 (e_cmp_isNaN_byte).pre (e_cmp_isNaN_byte).post x = (e_cmp_isNaN_byte).fn x := by kernel_rfl
theorem s_cmp_isNaN_byte : Entry.Sound Try.prog 125 (e_cmp_isNaN_byte) := runF_sound (X := c_cmp_isNaN_byte) (pre := (e_cmp_isNaN_byte).pre) (post := (e_cmp_isNaN_byte).post) (q := (e_cmp_isNaN_byte).fn) ⟨dOk_nil, x_ext, x_mo⟩ Try.func125 (q_cmp_isNaN_byte)

/- cmp.Compare[byte]: function 93 -/
noncomputable def p_cmp_Compare_byte (x50 : Int) (x51 : Int) : Option Int :=
  Option.bind (p_cmp_isNaN_byte x50) fun t52 => Option.bind (p_cmp_isNaN_byte x51) fun t53 => bif t52 then bif t53 then some (0 : Int) else some (-1 : Int) else bif t53 then some (1 : Int) else bif (decide (x50 < x51)) then some (-1 : Int) else bif (decide (x50 > x51)) then some (1 : Int) else some (0 : Int)
noncomputable def e_cmp_Compare_byte : Entry := ⟨Ds.mk [Vd.one (Ld.im (T.int IntKind.u8)), Vd.one (Ld.im (T.int IntKind.u8))] [], Ds.mk [Vd.one (Ld.im (T.int IntKind.i64))] [], fun x => p_cmp_Compare_byte x.1 x.2⟩
noncomputable def c_cmp_Compare_byte : Cx := ⟨Try.prog, [(125, e_cmp_isNaN_byte)], [], [], [], [], 0, 20, [(15, 3), (65, 2), (144, 0)], fun _ _ _ => none⟩
theorem q_cmp_Compare_byte (x : HL (e_cmp_Compare_byte).pre.ts) : runF (c_cmp_Compare_byte) 0 Try.f93 (e_cmp_Compare_byte).pre (e_cmp_Compare_byte).post x = (e_cmp_Compare_byte).fn x := by kernel_rfl
theorem s_cmp_Compare_byte : Entry.Sound Try.prog 93 (e_cmp_Compare_byte) := runF_sound (X := c_cmp_Compare_byte) (pre := (e_cmp_Compare_byte).pre) (post := (e_cmp_Compare_byte).post) (q := (e_cmp_Compare_byte).fn) ⟨(dOk_cons (s_cmp_isNaN_byte) dOk_nil), x_ext, x_mo⟩ Try.func93 (q_cmp_Compare_byte)

/- slices.Compare[[]byte,byte]: function 59 -/
noncomputable def p_slices_Compare_byte_byte.j0 (k : Nat) (x67 : List Int) (x68 : List Int) : Option Int :=
  bif (decide ((↑(List.length x67) : Int) < (↑(List.length x68) : Int))) then some (-1 : Int) else some (0 : Int)
noncomputable def p_slices_Compare_byte_byte.b1 (k : Nat) (j69 : List Int × List Int → Option Int) (rec65 : List Int × List Int × List Int × Int × Int → Option Int) (x57 : List Int) (x58 : List Int) (x59 : List Int) (x60 : Int) (x61 : Int) : Option Int :=
  bif (decide (x61 < x60)) then need ((0 : Int) ≤ x61 ∧ x61 < (↑(List.length x59) : Int)) (bif (decide (x61 ≥ (↑(List.length x58) : Int))) then some (1 : Int) else need ((0 : Int) ≤ x61 ∧ x61 < (↑(List.length x58) : Int)) (Option.bind (p_cmp_Compare_byte (at_ (dflt (T.int IntKind.u8)) x59 x61) (at_ (dflt (T.int IntKind.u8)) x58 x61)) fun t64 => bif (t64 != (0 : Int)) then some t64 else rec65 (x57, x58, x59, x60, IntKind.wrap IntKind.i64 (x61 + (1 : Int))))) else j69 (x57, x58)
noncomputable def p_slices_Compare_byte_byte (k : Nat) (x55 : List Int) (x56 : List Int) : Option Int :=
  joinC (fun (y : List Int × List Int) => p_slices_Compare_byte_byte.j0 k y.1 y.2) fun (j69 : List Int × List Int → Option Int) => loopC (fun (r : List Int × List Int × List Int × Int × Int → Option Int) y => p_slices_Compare_byte_byte.b1 k j69 r y.1 y.2.1 y.2.2.1 y.2.2.2.1 y.2.2.2.2) k (x55, x56, x55, (↑(List.length x55) : Int), (0 : Int))
noncomputable def e_slices_Compare_byte_byte (k : Nat) : Entry := ⟨Ds.mk [Vd.one (Ld.im (T.sl (T.int IntKind.u8))), Vd.one (Ld.im (T.sl (T.int IntKind.u8)))] [], Ds.mk [Vd.one (Ld.im (T.int IntKind.i64))] [], fun x => p_slices_Compare_byte_byte k x.1 x.2⟩
noncomputable def c_slices_Compare_byte_byte (k : Nat) : Cx := ⟨Try.prog, [(93, e_cmp_Compare_byte)], [(11, Sd.mk [0, 1] (Ds.mk [Vd.one (Ld.im (T.sl (T.int IntKind.u8))), Vd.one (Ld.im (T.sl (T.int IntKind.u8)))] []))], [], [(2, Sd.mk [0, 1, 9, 10, 11] (Ds.mk [Vd.one (Ld.im (T.sl (T.int IntKind.u8))), Vd.one (Ld.im (T.sl (T.int IntKind.u8))), Vd.one (Ld.im (T.sl (T.int IntKind.u8))), Vd.one (Ld.im (T.int IntKind.i64)), Vd.one (Ld.im (T.int IntKind.i64))] []))], [], 0, 36, [(15, 3), (65, 2), (144, 0)], fun _ _ _ => none⟩
theorem q_slices_Compare_byte_byte (k : Nat) (x : HL (e_slices_Compare_byte_byte k).pre.ts) : runF (c_slices_Compare_byte_byte k) k Try.f59 (e_slices_Compare_byte_byte k).pre (e_slices_Compare_byte_byte k).post x = (e_slices_Compare_byte_byte k).fn x := by kernel_rfl
theorem s_slices_Compare_byte_byte (k : Nat) : Entry.Sound Try.prog 59 (e_slices_Compare_byte_byte k) := runF_sound (X := c_slices_Compare_byte_byte k) (pre := (e_slices_Compare_byte_byte k).pre) (post := (e_slices_Compare_byte_byte k).post) (q := (e_slices_Compare_byte_byte k).fn) ⟨(dOk_cons (s_cmp_Compare_byte) dOk_nil), x_ext, x_mo⟩ Try.func59 (q_slices_Compare_byte_byte k)

/- dormouse/key.Sort$1: function 58 -/
noncomputable def p_key_Sort_c1 (k : Nat) (x76 : Vector Int (32)) (x77 : Vector Int (32)) : Option Int :=
  Option.bind (p_slices_Compare_byte_byte k (sub_ (Vector.toList x76) (0 : Int) (↑(32 : Nat) : Int)) (sub_ (Vector.toList x77) (0 : Int) (↑(32 : Nat) : Int))) fun t78 => some t78
noncomputable def e_key_Sort_c1 (k : Nat) : Entry := ⟨Ds.mk [Vd.st (T.arr (32) (T.int IntKind.u8)), Vd.st (T.arr (32) (T.int IntKind.u8))] [], Ds.mk [Vd.one (Ld.im (T.int IntKind.i64))] [], fun x => p_key_Sort_c1 k x.1 x.2⟩
noncomputable def c_key_Sort_c1 (k : Nat) : Cx := ⟨Try.prog, [(59, e_slices_Compare_byte_byte k)], [], [], [], [(1, ([(0, 2), (1, 2), (2, 0), (3, 2)], [], []))], 0, 8, [(15, 3), (65, 2), (144, 0)], fun _ _ _ => none⟩
theorem q_key_Sort_c1 (k : Nat) (x : HL (e_key_Sort_c1 k).pre.ts) : runF (c_key_Sort_c1 k) k Try.f58 (e_key_Sort_c1 k).pre (e_key_Sort_c1 k).post x = (e_key_Sort_c1 k).fn x := by kernel_rfl
theorem s_key_Sort_c1 (k : Nat) : Entry.Sound Try.prog 58 (e_key_Sort_c1 k) := runF_sound (X := c_key_Sort_c1 k) (pre := (e_key_Sort_c1 k).pre) (post := (e_key_Sort_c1 k).post) (q := (e_key_Sort_c1 k).fn) ⟨(dOk_cons (s_slices_Compare_byte_byte k) dOk_nil), x_ext, x_mo⟩ Try.func58 (q_key_Sort_c1 k)
end
end Go.Dor
end

section
/- slices.SortFunc AT THIS PROGRAM's NUMBERS, with its comparison. -/
set_option linter.unusedVariables false
set_option linter.unusedSimpArgs false
namespace Go.Dor
open Go.Proofs Go.Shelf Go.Sort

def cmpN (a b : Int) : Int := if a < b then -1 else if a > b then 1 else 0
theorem cmpN_lt (a b : Int) : (cmpN a b < 0) ↔ a < b := by
  unfold cmpN
  split
  · rename_i h; simp [h]
  · rename_i h
    split <;> simp [h]
theorem swo_key {α : Type} (f : α → Int) : SWO (ltOf fun x y => cmpN (f x) (f y)) := by
  have e : ∀ x y, ltOf (fun x y => cmpN (f x) (f y)) x y = decide (f x < f y) := fun x y => by
    simp only [ltOf, cmpN_lt]
  refine ⟨fun x => ?_, fun x y z h1 h2 => ?_, fun x y z h1 h2 => ?_⟩
  · rw [e]; simp
  · rw [e] at h1 h2 ⊢
    simp only [decide_eq_true_eq] at h1 h2 ⊢
    omega
  · rw [e] at h1 h2 ⊢
    simp only [decide_eq_false_iff_not] at h1 h2 ⊢
    omega
/-- the place of a number in the order of all -/
noncomputable def keyF (x : Nat) : Int := (p_gauge_Key x).getD 0
theorem key_eq (x : Nat) : p_gauge_Key x = some (keyF x) := by
  unfold keyF p_gauge_Key p_gauge_Bits
  simp only [Option.bind_some]
  cases (iand IntKind.u64 (↑x : Int) (9223372036854775808 : Int) != (0 : Int)) <;> rfl
noncomputable def cf71 (x y : Nat) : Int := cmpN (keyF x) (keyF y)
theorem compareU_eq (a b : Int) : p_cmp_Compare_uint64 a b = some (cmpN a b) := by
  unfold p_cmp_Compare_uint64 p_cmp_isNaN_uint64 cmpN
  simp only [bne_self_eq_false, Option.bind_some, cond_false]
  by_cases h : a < b
  · simp [h]
  · by_cases h2 : a > b
    · simp [h, h2]
    · simp [h, h2]
theorem c71_eq (x y : Nat) : p_gauge_Sort_c1 x y = some (cf71 x y) := by
  unfold p_gauge_Sort_c1
  simp only [key_eq, compareU_eq, Option.bind_some]
  rfl
theorem swo71 : SWO (ltOf cf71) := swo_key keyF
noncomputable def p_sort_71 (l : List Nat) : Option (List Nat) := need (l.length < 4611686018427387904) (some (sortL (t := .flt .f64) cf71 l))
noncomputable def e_sort_71 : Entry := ⟨Ds.mk [Vd.one (Ld.own 0), Vd.one (Ld.fn 71 [])] [Od.arr 31 (.flt .f64)], Ds.mk [] [Od.arr 31 (.flt .f64)], fun l => p_sort_71 l⟩
set_option maxRecDepth 100000 in
theorem s_sort_71 : Entry.Sound Try.prog 70 e_sort_71 :=
  sort1_sound (ty := 31) (c := 71) Try.laysSort1 (t := .flt .f64) rfl s_gauge_Sort_c1 cf71 (fun x y => c71_eq x y) swo71 (enters_of Try.func71 (by kernel_rfl) rfl)
end Go.Dor
end

section
/- slices.SortFunc OVER KEYS: the order of 32 numbers, one behind the other; the entry. -/
set_option linter.unusedVariables false
set_option linter.unusedSimpArgs false
namespace Go.Dor
open Go.Proofs Go.Shelf Go.Sort

def lexB : List Int → List Int → Bool
  | _, [] => false
  | [], _ :: _ => true
  | a :: x, b :: y => decide (a < b) || (decide (a = b) && lexB x y)
theorem lexB_irrefl : ∀ x, lexB x x = false
  | [] => rfl
  | a :: x => by simp [lexB, lexB_irrefl x]
theorem lexB_cons {a b : Int} {x y : List Int} : lexB (a :: x) (b :: y) = true ↔ a < b ∨ (a = b ∧ lexB x y = true) := by simp [lexB]
theorem lexB_trans : ∀ {x y z : List Int}, lexB x y = true → lexB y z = true → lexB x z = true
  | [], [], _, h, _ => by simp [lexB] at h
  | _ :: _, [], _, h, _ => by simp [lexB] at h
  | _, _ :: _, [], _, h => by simp [lexB] at h
  | [], _ :: _, _ :: _, _, _ => rfl
  | a :: x, b :: y, c :: z, h1, h2 => by
    rw [lexB_cons] at h1 h2 ⊢
    rcases h1 with h1 | ⟨rfl, h1⟩
    · rcases h2 with h2 | ⟨rfl, _⟩
      · exact .inl (by omega)
      · exact .inl h1
    · rcases h2 with h2 | ⟨rfl, h2⟩
      · exact .inl h2
      · exact .inr ⟨rfl, lexB_trans h1 h2⟩
theorem lexB_total : ∀ {x y : List Int}, lexB x y = false → lexB y x = false → x = y
  | [], [], _, _ => rfl
  | [], _ :: _, h, _ => by simp [lexB] at h
  | _ :: _, [], _, h => by simp [lexB] at h
  | a :: x, b :: y, h1, h2 => by
    simp only [lexB, Bool.or_eq_false_iff, Bool.and_eq_false_iff, decide_eq_false_iff_not] at h1 h2
    have e : a = b := by omega
    subst e
    have h3 : lexB x y = false := h1.2.resolve_left fun q => q rfl
    have h4 : lexB y x = false := h2.2.resolve_left fun q => q rfl
    rw [lexB_total h3 h4]
theorem lexB_ntrans {x y z : List Int} (h1 : lexB x y = false) (h2 : lexB y z = false) : lexB x z = false := by
  cases h : lexB x z
  · rfl
  · cases h3 : lexB z y
    · have := lexB_total h2 h3
      subst this
      rw [h] at h1; exact h1
    · rw [lexB_trans h h3] at h1; exact h1
def cmpL : List Int → List Int → Int
  | [], [] => 0
  | [], _ :: _ => -1
  | _ :: _, [] => 1
  | a :: x, b :: y => if a < b then -1 else if a > b then 1 else cmpL x y
theorem cmpL_lex : ∀ x y, decide (cmpL x y < 0) = lexB x y
  | [], [] => rfl
  | [], _ :: _ => rfl
  | _ :: _, [] => rfl
  | a :: x, b :: y => by
    unfold cmpL lexB
    by_cases h : a < b
    · simp [h]
    · by_cases h2 : a > b
      · have : ¬ a = b := by omega
        simp [h, h2, this]
      · have : a = b := by omega
        subst this
        simp [cmpL_lex x y]
theorem byte_cmp (a b : Int) : p_cmp_Compare_byte a b = some (cmpN a b) := by
  unfold p_cmp_Compare_byte p_cmp_isNaN_byte cmpN
  simp only [bne_self_eq_false, Option.bind_some, cond_false]
  by_cases h : a < b
  · simp [h]
  · by_cases h2 : a > b
    · simp [h, h2]
    · simp [h, h2]
theorem loopC_s {α R : Type} (F : (α → Option R) → α → Option R) (n : Nat) (y : α) : loopC F (n + 1) y = F (loopC F n) y := rfl
theorem compare_loop {x y : List Int} (hb : x.length < 4611686018427387904) (k : Nat) : ∀ (n fuel i : Nat), x.length - i = n → n < fuel → i ≤ x.length → i ≤ y.length →
    loopC (fun (r : List Int × List Int × List Int × Int × Int → Option Int) z => p_slices_Compare_byte_byte.b1 k (fun (y : List Int × List Int) => p_slices_Compare_byte_byte.j0 k y.1 y.2) r z.1 z.2.1 z.2.2.1 z.2.2.2.1 z.2.2.2.2) fuel (x, y, x, (x.length : Int), (i : Int)) = some (cmpL (x.drop i) (y.drop i)) := by
  intro n
  induction n with
  | zero =>
    intro fuel i h1 h2 h3 h4
    obtain ⟨fuel, rfl⟩ : ∃ f, fuel = f + 1 := ⟨fuel - 1, by omega⟩
    have e : i = x.length := by omega
    subst e
    rw [loopC_s]
    dsimp only
    unfold p_slices_Compare_byte_byte.b1 p_slices_Compare_byte_byte.j0
    rw [decide_eq_false (Int.lt_irrefl _), cond_false, List.drop_length]
    dsimp only
    by_cases h : x.length < y.length
    · rw [decide_eq_true (by omega), cond_true, List.drop_eq_getElem_cons h]; rfl
    · rw [decide_eq_false (by omega), cond_false, List.drop_of_length_le (by omega)]; rfl
  | succ n ih =>
    intro fuel i h1 h2 h3 h4
    obtain ⟨fuel, rfl⟩ : ∃ f, fuel = f + 1 := ⟨fuel - 1, by omega⟩
    have hi : i < x.length := by omega
    have ih' := ih fuel (i + 1) (by omega) (by omega) (by omega)
    rw [loopC_s]
    dsimp only
    generalize loopC (fun (r : List Int × List Int × List Int × Int × Int → Option Int) (z : List Int × List Int × List Int × Int × Int) => p_slices_Compare_byte_byte.b1 k (fun (y : List Int × List Int) => p_slices_Compare_byte_byte.j0 k y.1 y.2) r z.1 z.2.1 z.2.2.1 z.2.2.2.1 z.2.2.2.2) fuel = rec at ih' ⊢
    unfold p_slices_Compare_byte_byte.b1
    have hg : ∀ {l : List Int} {i : Nat} (h : i < l.length), at_ (dflt (T.int IntKind.u8)) l (i : Int) = l[i] := fun h => by simp [at_, h]
    have ew : IntKind.wrap .i64 ((i : Int) + 1) = ((i + 1 : Nat) : Int) := by
      unfold IntKind.wrap
      have e1 : (2 : Int) ^ IntKind.bits .i64 = 18446744073709551616 := rfl
      have e2 : (2 : Int) ^ (IntKind.bits .i64 - 1) = 9223372036854775808 := rfl
      have e3 : IntKind.signed .i64 = true := rfl
      simp only [e1, e2, e3]
      have e4 : ((i : Int) + 1) % 18446744073709551616 = (i : Int) + 1 := by omega
      rw [e4]
      have : ¬ ((i : Int) + 1 ≥ 9223372036854775808) := by omega
      simp [this]
    rw [decide_eq_true (show (i : Int) < (x.length : Int) by omega), cond_true, List.drop_eq_getElem_cons hi]
    have n1 : need ((0 : Int) ≤ (i : Int) ∧ (i : Int) < (x.length : Int)) = fun (o : Option Int) => o := by funext o; exact if_pos ⟨by omega, by omega⟩
    rw [n1]
    by_cases hy : i < y.length
    · have n2 : need ((0 : Int) ≤ (i : Int) ∧ (i : Int) < (y.length : Int)) = fun (o : Option Int) => o := by funext o; exact if_pos ⟨by omega, by omega⟩
      rw [decide_eq_false (show ¬ (i : Int) ≥ (y.length : Int) by omega), n2, hg hi, hg hy, byte_cmp, List.drop_eq_getElem_cons hy]
      simp only [cond_false, Option.bind_some]
      unfold cmpL cmpN
      by_cases h : x[i] < y[i]
      · simp [h]
      · by_cases h5 : x[i] > y[i]
        · simp [h, h5]
        · simp only [h, h5, if_false, bne_self_eq_false, cond_false, ew]
          exact ih' (by omega)
    · rw [decide_eq_true (show (i : Int) ≥ (y.length : Int) by omega), List.drop_of_length_le (l := y) (by omega)]
      rfl
theorem compare_eq {x y : List Int} (hx : x.length < 1000) : p_slices_Compare_byte_byte 1000 x y = some (cmpL x y) := by
  unfold p_slices_Compare_byte_byte joinC
  have := compare_loop (y := y) (x := x) (by omega) 1000 x.length 1000 0 (by omega) (by omega) (by omega) (by omega)
  exact this
abbrev Ky := Vector Int 32
def cfK (x y : Ky) : Int := cmpL x.toList y.toList
theorem sub_all (x : Ky) : sub_ x.toList (0 : Int) (↑(32 : Nat) : Int) = x.toList := by
  unfold sub_
  have : x.toList.length = 32 := by simp
  simp only [Int.toNat_natCast, Int.toNat_zero, List.drop_zero]
  exact List.take_of_length_le (by omega)
theorem cK_eq (x y : Ky) : p_key_Sort_c1 1000 x y = some (cfK x y) := by
  unfold p_key_Sort_c1
  rw [sub_all, sub_all, compare_eq (by simp)]
  rfl
theorem ltOf_K (x y : Ky) : ltOf cfK x y = lexB x.toList y.toList := cmpL_lex _ _
theorem swoK : SWO (ltOf cfK) := by
  refine ⟨fun x => ?_, fun x y z h1 h2 => ?_, fun x y z h1 h2 => ?_⟩
  · rw [ltOf_K]; exact lexB_irrefl _
  · rw [ltOf_K] at h1 h2 ⊢; exact lexB_trans h1 h2
  · rw [ltOf_K] at h1 h2 ⊢; exact lexB_ntrans h1 h2
noncomputable def p_sort_58 (l : List Ky) : Option (List Ky) := need (l.length < 4611686018427387904) (some (sortL (t := .arr 32 (.int .u8)) cfK l))
noncomputable def e_sort_58 : Entry := ⟨Ds.mk [Vd.one (Ld.own 0), Vd.one (Ld.fn 58 [])] [Od.arr 25 (.arr 32 (.int .u8))], Ds.mk [] [Od.arr 25 (.arr 32 (.int .u8))], fun l => p_sort_58 l⟩
set_option maxRecDepth 100000 in
theorem s_sort_58 : Entry.Sound Try.prog 57 e_sort_58 :=
  sortK_sound (ty := 25) (c := 58) Try.laysSortK (t := .arr 32 (.int .u8)) rfl (s_key_Sort_c1 1000) cfK (fun x y => cK_eq x y) swoK (fun w => by kernel_rfl) (fun w => by kernel_rfl) (enters_of Try.func58 (by kernel_rfl) rfl)
end Go.Dor
end

section
/- The functions that the law calls, as the machine shows them. -/
namespace Go.Dor
open Go.Proofs
set_option maxRecDepth 100000
set_option linter.unusedVariables false
noncomputable section

/- slices.Clone[[]dormouse/api.Key,dormouse/api.Key]: function 56 -/
noncomputable def p_slices_Clone_api_Key_api_Key.j0 (x8 : List (Vector Int (32))) (x9 : Bool) : Option (List (Vector Int (32))) :=
  bif x9 then some [] else need ((0 + List.length x8) * 32 ≤ (140737488355328 : Nat)) (some ([] ++ x8))
noncomputable def p_slices_Clone_api_Key_api_Key (x7 : List (Vector Int (32))) : Option (List (Vector Int (32))) :=
  joinC (fun (y : List (Vector Int (32)) × Bool) => p_slices_Clone_api_Key_api_Key.j0 y.1 y.2) fun (j10 : List (Vector Int (32)) × Bool → Option (List (Vector Int (32)))) => bif (List.isEmpty x7) then bothC (j10 (x7, Bool.true)) (j10 (x7, Bool.false)) else j10 (x7, Bool.false)
noncomputable def e_slices_Clone_api_Key_api_Key : Entry := ⟨Ds.mk [Vd.one (Ld.im (T.sl (T.arr (32) (T.int IntKind.u8))))] [], Ds.mk [Vd.one (Ld.own (0))] [Od.arr (25) (T.arr (32) (T.int IntKind.u8))], fun x => p_slices_Clone_api_Key_api_Key x⟩
noncomputable def c_slices_Clone_api_Key_api_Key : Cx := ⟨Try.prog, [], [], [(1, Sd.mk [0, 4] (Ds.mk [Vd.one (Ld.im (T.sl (T.arr (32) (T.int IntKind.u8)))), Vd.one (Ld.im T.bool)] []))], [], [], 0, 8, [(15, 3), (65, 2), (144, 0)], fun _ _ _ => none⟩
theorem q_slices_Clone_api_Key_api_Key (x : HL (e_slices_Clone_api_Key_api_Key).pre.ts) : runF (c_slices_Clone_api_Key_api_Key) 0 Try.f56 (e_slices_Clone_api_Key_api_Key).pre (e_slices_Clone_api_Key_api_Key).post x = (e_slices_Clone_api_Key_api_Key).fn x := by kernel_rfl
theorem s_slices_Clone_api_Key_api_Key : Entry.Sound Try.prog 56 (e_slices_Clone_api_Key_api_Key) := runF_sound (X := c_slices_Clone_api_Key_api_Key) (pre := (e_slices_Clone_api_Key_api_Key).pre) (post := (e_slices_Clone_api_Key_api_Key).post) (q := (e_slices_Clone_api_Key_api_Key).fn) ⟨dOk_nil, x_ext, x_mo⟩ Try.func56 (q_slices_Clone_api_Key_api_Key)

/- slices.Compact[[]dormouse/api.Key,dormouse/api.Key]: function 60 -/
noncomputable def p_slices_Compact_api_Key_api_Key.j0 (k : Nat) (x93 : List (Vector Int (32))) : Option (List (Vector Int (32))) :=
  some x93
noncomputable def p_slices_Compact_api_Key_api_Key.j2 (k : Nat) (rec91 : Int × List (Vector Int (32)) → Option (List (Vector Int (32)))) (x87 : Int) (x88 : List (Vector Int (32))) : Option (List (Vector Int (32))) :=
  rec91 (IntKind.wrap IntKind.i64 (x87 + (1 : Int)), x88)
noncomputable def p_slices_Compact_api_Key_api_Key.j3 (k : Nat) (x81 : Int) (x82 : List (Vector Int (32))) : Option (List (Vector Int (32))) :=
  need ((0 : Int) ≤ x81 ∧ x81 ≤ (↑(List.length x82) : Int)) (need ((0 : Int) ≤ (0 : Int) ∧ (0 : Int) ≤ x81 ∧ x81 ≤ (↑(List.length (List.take (Int.toNat x81) x82 ++ List.replicate (List.length x82 - Int.toNat x81) (dflt (T.arr (32) (T.int IntKind.u8))))) : Int)) (some (List.take (Int.toNat x81) (List.take (Int.toNat x81) x82 ++ List.replicate (List.length x82 - Int.toNat x81) (dflt (T.arr (32) (T.int IntKind.u8)))))))
noncomputable def p_slices_Compact_api_Key_api_Key.j5 (k : Nat) (rec79 : Int × Int × Int × List (Vector Int (32)) → Option (List (Vector Int (32)))) (x73 : Int) (x74 : Int) (x75 : Int) (x76 : List (Vector Int (32))) : Option (List (Vector Int (32))) :=
  rec79 (x73, x74, IntKind.wrap IntKind.i64 (x75 + (1 : Int)), x76)
noncomputable def p_slices_Compact_api_Key_api_Key.b4 (k : Nat) (j85 : Int × List (Vector Int (32)) → Option (List (Vector Int (32)))) (rec79 : Int × Int × Int × List (Vector Int (32)) → Option (List (Vector Int (32)))) (x65 : Int) (x66 : Int) (x67 : Int) (x68 : List (Vector Int (32))) : Option (List (Vector Int (32))) :=
  bif (decide (x67 < (↑(List.length x68) : Int) - x66)) then joinC (fun (y : Int × Int × Int × List (Vector Int (32))) => p_slices_Compact_api_Key_api_Key.j5 k rec79 y.1 y.2.1 y.2.2.1 y.2.2.2) fun (j77 : Int × Int × Int × List (Vector Int (32)) → Option (List (Vector Int (32)))) => need ((0 : Int) ≤ x67 ∧ x67 < (↑(List.length x68) : Int) - x66) (need ((0 : Int) ≤ IntKind.wrap IntKind.i64 (x67 - (1 : Int)) ∧ IntKind.wrap IntKind.i64 (x67 - (1 : Int)) < (↑(List.length x68) : Int) - x66) (bif (!decide (at_ (dflt (T.arr (32) (T.int IntKind.u8))) x68 (x66 + x67) = at_ (dflt (T.arr (32) (T.int IntKind.u8))) x68 (x66 + IntKind.wrap IntKind.i64 (x67 - (1 : Int))))) then need ((0 : Int) ≤ x67 ∧ x67 < (↑(List.length x68) : Int) - x66) (need ((0 : Int) ≤ x65 ∧ x65 < (↑(List.length x68) : Int)) (j77 (IntKind.wrap IntKind.i64 (x65 + (1 : Int)), x66, x67, lset x68 x65 (at_ (dflt (T.arr (32) (T.int IntKind.u8))) x68 (x66 + x67))))) else j77 (x65, x66, x67, x68))) else j85 (x65, x68)
noncomputable def p_slices_Compact_api_Key_api_Key.b1 (k : Nat) (j94 : List (Vector Int (32)) → Option (List (Vector Int (32)))) (rec91 : Int × List (Vector Int (32)) → Option (List (Vector Int (32)))) (x60 : Int) (x61 : List (Vector Int (32))) : Option (List (Vector Int (32))) :=
  bif (decide (x60 < (↑(List.length x61) : Int))) then joinC (fun (y : Int × List (Vector Int (32))) => p_slices_Compact_api_Key_api_Key.j2 k rec91 y.1 y.2) fun (j89 : Int × List (Vector Int (32)) → Option (List (Vector Int (32)))) => need ((0 : Int) ≤ x60 ∧ x60 < (↑(List.length x61) : Int)) (need ((0 : Int) ≤ IntKind.wrap IntKind.i64 (x60 - (1 : Int)) ∧ IntKind.wrap IntKind.i64 (x60 - (1 : Int)) < (↑(List.length x61) : Int)) (bif (decide (at_ (dflt (T.arr (32) (T.int IntKind.u8))) x61 x60 = at_ (dflt (T.arr (32) (T.int IntKind.u8))) x61 (IntKind.wrap IntKind.i64 (x60 - (1 : Int))))) then need ((0 : Int) ≤ x60 ∧ x60 ≤ (↑(List.length x61) : Int)) (joinC (fun (y : Int × List (Vector Int (32))) => p_slices_Compact_api_Key_api_Key.j3 k y.1 y.2) fun (j85 : Int × List (Vector Int (32)) → Option (List (Vector Int (32)))) => loopC (fun (r : Int × Int × Int × List (Vector Int (32)) → Option (List (Vector Int (32)))) y => p_slices_Compact_api_Key_api_Key.b4 k j85 r y.1 y.2.1 y.2.2.1 y.2.2.2) k (x60, x60, (1 : Int), x61)) else j89 (x60, x61))) else j94 x61
noncomputable def p_slices_Compact_api_Key_api_Key (k : Nat) (x59 : List (Vector Int (32))) : Option (List (Vector Int (32))) :=
  bif (decide ((↑(List.length x59) : Int) < (2 : Int))) then some x59 else joinC (p_slices_Compact_api_Key_api_Key.j0 k) fun (j94 : List (Vector Int (32)) → Option (List (Vector Int (32)))) => loopC (fun (r : Int × List (Vector Int (32)) → Option (List (Vector Int (32)))) y => p_slices_Compact_api_Key_api_Key.b1 k j94 r y.1 y.2) k ((1 : Int), x59)
noncomputable def e_slices_Compact_api_Key_api_Key (k : Nat) : Entry := ⟨Ds.mk [Vd.one (Ld.own (0))] [Od.arr (25) (T.arr (32) (T.int IntKind.u8))], Ds.mk [Vd.one (Ld.own (1))] [Od.gone, Od.arr (25) (T.arr (32) (T.int IntKind.u8))], fun x => p_slices_Compact_api_Key_api_Key k x⟩
noncomputable def c_slices_Compact_api_Key_api_Key (k : Nat) : Cx := ⟨Try.prog, [], [(10, Sd.mk [0, 3, 4, 5] (Ds.mk [Vd.one (Ld.own (0)), Vd.one (Ld.im (T.int IntKind.i64)), Vd.one (Ld.vw (0) (32)), Vd.one (Ld.im (T.int IntKind.i64))] [Od.arr (25) (T.arr (32) (T.int IntKind.u8))])), (14, Sd.mk [0, 3] (Ds.mk [Vd.one (Ld.own (0)), Vd.one (Ld.im (T.int IntKind.i64))] [Od.arr (25) (T.arr (32) (T.int IntKind.u8))])), (5, Sd.mk [0, 3] (Ds.mk [Vd.one (Ld.own (0)), Vd.one (Ld.im (T.int IntKind.i64))] [Od.arr (25) (T.arr (32) (T.int IntKind.u8))])), (16, Sd.mk [0] (Ds.mk [Vd.one (Ld.own (0))] [Od.arr (25) (T.arr (32) (T.int IntKind.u8))]))], [], [(999997, Sd.mk [] (Ds.mk [] [])), (4, Sd.mk [0, 3] (Ds.mk [Vd.one (Ld.own (0)), Vd.one (Ld.im (T.int IntKind.i64))] [Od.arr (25) (T.arr (32) (T.int IntKind.u8))])), (9, Sd.mk [0, 3, 4, 5] (Ds.mk [Vd.one (Ld.own (0)), Vd.one (Ld.im (T.int IntKind.i64)), Vd.one (Ld.vw (0) (32)), Vd.one (Ld.im (T.int IntKind.i64))] [Od.arr (25) (T.arr (32) (T.int IntKind.u8))]))], [(6, ([(0, 2), (1, 2), (2, 2), (3, 1), (4, 2), (5, 2), (6, 2), (7, 2), (8, 1), (9, 2)], [], [])), (11, ([(0, 2), (1, 2), (2, 2), (3, 1), (4, 2), (5, 2), (6, 2), (7, 2), (8, 1), (9, 2)], [], []))], 1, 61, [(15, 3), (65, 2), (144, 0)], fun _ _ _ => none⟩
theorem q_slices_Compact_api_Key_api_Key (k : Nat) (x : HL (e_slices_Compact_api_Key_api_Key k).pre.ts) : runF (c_slices_Compact_api_Key_api_Key k) k Try.f60 (e_slices_Compact_api_Key_api_Key k).pre (e_slices_Compact_api_Key_api_Key k).post x = (e_slices_Compact_api_Key_api_Key k).fn x := by kernel_rfl
theorem s_slices_Compact_api_Key_api_Key (k : Nat) : Entry.Sound Try.prog 60 (e_slices_Compact_api_Key_api_Key k) := runF_sound (X := c_slices_Compact_api_Key_api_Key k) (pre := (e_slices_Compact_api_Key_api_Key k).pre) (post := (e_slices_Compact_api_Key_api_Key k).post) (q := (e_slices_Compact_api_Key_api_Key k).fn) ⟨dOk_nil, x_ext, x_mo⟩ Try.func60 (q_slices_Compact_api_Key_api_Key k)

/- dormouse/key.Sort: function 11 -/
noncomputable def p_key_Sort (k : Nat) (x97 : List (Vector Int (32))) : Option (List (Vector Int (32))) :=
  Option.bind (p_slices_Clone_api_Key_api_Key x97) fun t98 => Option.bind (p_sort_58 t98) fun t99 => Option.bind (p_slices_Compact_api_Key_api_Key k t99) fun t100 => some t100
noncomputable def e_key_Sort (k : Nat) : Entry := ⟨Ds.mk [Vd.one (Ld.im (T.sl (T.arr (32) (T.int IntKind.u8))))] [], Ds.mk [Vd.one (Ld.own (0))] [Od.arr (25) (T.arr (32) (T.int IntKind.u8))], fun x => p_key_Sort k x⟩
noncomputable def c_key_Sort (k : Nat) : Cx := ⟨Try.prog, [(56, e_slices_Clone_api_Key_api_Key), (57, e_sort_58), (60, e_slices_Compact_api_Key_api_Key k)], [], [], [], [], 0, 10, [(15, 3), (65, 2), (144, 0)], fun _ _ _ => none⟩
theorem q_key_Sort (k : Nat) (x : HL (e_key_Sort k).pre.ts) : runF (c_key_Sort k) k Try.f11 (e_key_Sort k).pre (e_key_Sort k).post x = (e_key_Sort k).fn x := by kernel_rfl
theorem s_key_Sort (k : Nat) : Entry.Sound Try.prog 11 (e_key_Sort k) := runF_sound (X := c_key_Sort k) (pre := (e_key_Sort k).pre) (post := (e_key_Sort k).post) (q := (e_key_Sort k).fn) ⟨(dOk_cons (s_slices_Clone_api_Key_api_Key) (dOk_cons (s_sort_58) (dOk_cons (s_slices_Compact_api_Key_api_Key k) dOk_nil))), x_ext, x_mo⟩ Try.func11 (q_key_Sort k)

/- dormouse/dormouseref16.Bytes: function 12 -/
noncomputable def p_dormouseref16_Bytes.j0 (k : Nat) (x139 : List UInt8) : Option (List UInt8) :=
  some x139
noncomputable def p_dormouseref16_Bytes.b1 (k : Nat) (j140 : List UInt8 → Option (List UInt8)) (rec137 : List UInt8 × Int × Vector Int (32) → Option (List UInt8)) (x132 : List UInt8) (x133 : Int) (x134 : Vector Int (32)) : Option (List UInt8) :=
  bif (decide (x133 < (32 : Int))) then need ((0 : Int) ≤ x133 ∧ x133 < (↑(32 : Nat) : Int)) (need (List.length x132 + List.length (bytesOf [at_ (dflt (T.int IntKind.u8)) (Vector.toList x134) x133]) ≤ (9223372036854775807 : Nat)) (rec137 (x132 ++ bytesOf [at_ (dflt (T.int IntKind.u8)) (Vector.toList x134) x133], IntKind.wrap IntKind.i64 (x133 + (1 : Int)), x134))) else j140 x132
noncomputable def p_dormouseref16_Bytes (k : Nat) (x131 : Vector Int (32)) : Option (List UInt8) :=
  joinC (p_dormouseref16_Bytes.j0 k) fun (j140 : List UInt8 → Option (List UInt8)) => loopC (fun (r : List UInt8 × Int × Vector Int (32) → Option (List UInt8)) y => p_dormouseref16_Bytes.b1 k j140 r y.1 y.2.1 y.2.2) k ([], (0 : Int), x131)
noncomputable def e_dormouseref16_Bytes (k : Nat) : Entry := ⟨Ds.mk [Vd.st (T.arr (32) (T.int IntKind.u8))] [], Ds.mk [Vd.one (Ld.im T.str)] [], fun x => p_dormouseref16_Bytes k x⟩
noncomputable def c_dormouseref16_Bytes (k : Nat) : Cx := ⟨Try.prog, [], [(6, Sd.mk [3] (Ds.mk [Vd.one (Ld.im T.str)] []))], [], [(3, Sd.mk [1, 3, 4] (Ds.mk [Vd.one (Ld.ptr (0) (0)), Vd.one (Ld.im T.str), Vd.one (Ld.im (T.int IntKind.i64))] [Od.blkT (25) (T.arr (32) (T.int IntKind.u8))]))], [], 0, 17, [(15, 3), (65, 2), (144, 0)], fun _ _ _ => none⟩
theorem q_dormouseref16_Bytes (k : Nat) (x : HL (e_dormouseref16_Bytes k).pre.ts) : runF (c_dormouseref16_Bytes k) k Try.f12 (e_dormouseref16_Bytes k).pre (e_dormouseref16_Bytes k).post x = (e_dormouseref16_Bytes k).fn x := by kernel_rfl
theorem s_dormouseref16_Bytes (k : Nat) : Entry.Sound Try.prog 12 (e_dormouseref16_Bytes k) := runF_sound (X := c_dormouseref16_Bytes k) (pre := (e_dormouseref16_Bytes k).pre) (post := (e_dormouseref16_Bytes k).post) (q := (e_dormouseref16_Bytes k).fn) ⟨dOk_nil, x_ext, x_mo⟩ Try.func12 (q_dormouseref16_Bytes k)

/- dormouse/key.Less: function 13 -/
noncomputable def p_key_Less (k : Nat) (x221 : Vector Int (32)) (x222 : Vector Int (32)) : Option Bool :=
  Option.bind (p_slices_Compare_byte_byte k (sub_ (Vector.toList x221) (0 : Int) (↑(32 : Nat) : Int)) (sub_ (Vector.toList x222) (0 : Int) (↑(32 : Nat) : Int))) fun t223 => some (decide (t223 < (0 : Int)))
noncomputable def e_key_Less (k : Nat) : Entry := ⟨Ds.mk [Vd.st (T.arr (32) (T.int IntKind.u8)), Vd.st (T.arr (32) (T.int IntKind.u8))] [], Ds.mk [Vd.one (Ld.im T.bool)] [], fun x => p_key_Less k x.1 x.2⟩
noncomputable def c_key_Less (k : Nat) : Cx := ⟨Try.prog, [(59, e_slices_Compare_byte_byte k)], [], [], [], [(1, ([(0, 2), (1, 2), (2, 0), (3, 2), (4, 2)], [], []))], 0, 9, [(15, 3), (65, 2), (144, 0)], fun _ _ _ => none⟩
theorem q_key_Less (k : Nat) (x : HL (e_key_Less k).pre.ts) : runF (c_key_Less k) k Try.f13 (e_key_Less k).pre (e_key_Less k).post x = (e_key_Less k).fn x := by kernel_rfl
theorem s_key_Less (k : Nat) : Entry.Sound Try.prog 13 (e_key_Less k) := runF_sound (X := c_key_Less k) (pre := (e_key_Less k).pre) (post := (e_key_Less k).post) (q := (e_key_Less k).fn) ⟨(dOk_cons (s_slices_Compare_byte_byte k) dOk_nil), x_ext, x_mo⟩ Try.func13 (q_key_Less k)

/- dormouse/wide.Num: function 94 -/
noncomputable def p_wide_Num.j0 (k : Nat) (x335 : Int) (x336 : Vector Int (8)) : Option (List UInt8) :=
  need ((0 : Int) ≤ (0 : Int) ∧ (0 : Int) ≤ x335 ∧ x335 ≤ (↑(8 : Nat) : Int)) (some (bytesOf (sub_ (Vector.toList x336) (0 : Int) x335)))
noncomputable def p_wide_Num.b1 (k : Nat) (j338 : Int × Vector Int (8) → Option (List UInt8)) (rec333 : Int × Int × Int × Int × Vector Int (8) → Option (List UInt8)) (x327 : Int) (x328 : Int) (x329 : Int) (x330 : Int) (x331 : Vector Int (8)) : Option (List UInt8) :=
  bif (decide (x330 < x329)) then need ((0 : Int) ≤ x330 ∧ x330 < (↑(8 : Nat) : Int)) (rec333 (ishr IntKind.u64 x327 (8 : Int), x328, x329, IntKind.wrap IntKind.i64 (x330 + (1 : Int)), vset x331 x330 (IntKind.wrap IntKind.u8 x327))) else j338 (x328, x331)
noncomputable def p_wide_Num (k : Nat) (x325 : Int) (x326 : Int) : Option (List UInt8) :=
  joinC (fun (y : Int × Vector Int (8)) => p_wide_Num.j0 k y.1 y.2) fun (j338 : Int × Vector Int (8) → Option (List UInt8)) => loopC (fun (r : Int × Int × Int × Int × Vector Int (8) → Option (List UInt8)) y => p_wide_Num.b1 k j338 r y.1 y.2.1 y.2.2.1 y.2.2.2.1 y.2.2.2.2) k (x325, Min.min (Max.max x326 (0 : Int)) (8 : Int), Min.min (Max.max x326 (0 : Int)) (8 : Int), (0 : Int), Vector.replicate (8 : Nat) (dflt (T.int IntKind.u8)))
noncomputable def e_wide_Num (k : Nat) : Entry := ⟨Ds.mk [Vd.one (Ld.im (T.int IntKind.u64)), Vd.one (Ld.im (T.int IntKind.i64))] [], Ds.mk [Vd.one (Ld.im T.str)] [], fun x => p_wide_Num k x.1 x.2⟩
noncomputable def c_wide_Num (k : Nat) : Cx := ⟨Try.prog, [], [(9, Sd.mk [5, 6] (Ds.mk [Vd.one (Ld.ptr (0) (0)), Vd.one (Ld.im (T.int IntKind.i64))] [Od.blkT (140) (T.arr (8) (T.int IntKind.u8))]))], [], [(4, Sd.mk [0, 5, 6, 11, 12] (Ds.mk [Vd.one (Ld.im (T.int IntKind.u64)), Vd.one (Ld.ptr (0) (0)), Vd.one (Ld.im (T.int IntKind.i64)), Vd.one (Ld.im (T.int IntKind.i64)), Vd.one (Ld.im (T.int IntKind.i64))] [Od.blkT (140) (T.arr (8) (T.int IntKind.u8))]))], [], 0, 25, [(15, 3), (65, 2), (144, 0)], fun _ _ _ => none⟩
theorem q_wide_Num (k : Nat) (x : HL (e_wide_Num k).pre.ts) : runF (c_wide_Num k) k Try.f94 (e_wide_Num k).pre (e_wide_Num k).post x = (e_wide_Num k).fn x := by kernel_rfl
theorem s_wide_Num (k : Nat) : Entry.Sound Try.prog 94 (e_wide_Num k) := runF_sound (X := c_wide_Num k) (pre := (e_wide_Num k).pre) (post := (e_wide_Num k).post) (q := (e_wide_Num k).fn) ⟨dOk_nil, x_ext, x_mo⟩ Try.func94 (q_wide_Num k)

/- dormouse/key.Of: function 61 -/
noncomputable def p_key_Of (k : Nat) (x348 : Int) (x349 : Int) : Option (Vector Int (32)) :=
  Option.bind (p_wide_Num k x348 (8 : Int)) fun t350 => need ((↑(List.length (numsOf t350)) : Int) ≤ (8 : Int) - (0 : Int)) (Option.bind (p_wide_Num k x349 (8 : Int)) fun t352 => need ((↑(List.length (numsOf t352)) : Int) ≤ (↑(32 : Nat) : Int) - (24 : Int)) (some (vcopy (vcopy (Vector.replicate (32 : Nat) (dflt (T.int IntKind.u8))) (0 : Int) (numsOf t350)) (24 : Int) (numsOf t352))))
noncomputable def e_key_Of (k : Nat) : Entry := ⟨Ds.mk [Vd.one (Ld.im (T.int IntKind.u64)), Vd.one (Ld.im (T.int IntKind.u64))] [], Ds.mk [Vd.st (T.arr (32) (T.int IntKind.u8))] [], fun x => p_key_Of k x.1 x.2⟩
noncomputable def c_key_Of (k : Nat) : Cx := ⟨Try.prog, [(94, e_wide_Num k)], [], [], [], [(2, ([(0, 2), (1, 2), (2, 0)], [(3, Bool.false)], [])), (3, ([(0, 2), (1, 2), (2, 0)], [(3, Bool.false)], []))], 0, 15, [(15, 3), (65, 2), (144, 0)], fun _ _ _ => none⟩
theorem q_key_Of (k : Nat) (x : HL (e_key_Of k).pre.ts) : runF (c_key_Of k) k Try.f61 (e_key_Of k).pre (e_key_Of k).post x = (e_key_Of k).fn x := by kernel_rfl
theorem s_key_Of (k : Nat) : Entry.Sound Try.prog 61 (e_key_Of k) := runF_sound (X := c_key_Of k) (pre := (e_key_Of k).pre) (post := (e_key_Of k).post) (q := (e_key_Of k).fn) ⟨(dOk_cons (s_wide_Num k) dOk_nil), x_ext, x_mo⟩ Try.func61 (q_key_Of k)

/- dormouse/wide.Val: function 96 -/
noncomputable def p_wide_Val.j0 (k : Nat) (x370 : Int) : Option Int :=
  some x370
noncomputable def p_wide_Val.b1 (k : Nat) (j371 : Int → Option Int) (rec368 : List UInt8 × Int × Int → Option Int) (x364 : List UInt8) (x365 : Int) (x366 : Int) : Option Int :=
  bif (decide (x366 ≥ (0 : Int))) then need ((0 : Int) ≤ x366 ∧ x366 < (↑(List.length x364) : Int)) (rec368 (x364, ior IntKind.u64 (ishl IntKind.u64 x365 (8 : Int)) (IntKind.wrap IntKind.u64 (bat x364 x366)), IntKind.wrap IntKind.i64 (x366 - (1 : Int)))) else j371 x365
noncomputable def p_wide_Val (k : Nat) (x363 : List UInt8) : Option Int :=
  joinC (p_wide_Val.j0 k) fun (j371 : Int → Option Int) => loopC (fun (r : List UInt8 × Int × Int → Option Int) y => p_wide_Val.b1 k j371 r y.1 y.2.1 y.2.2) k (x363, (0 : Int), IntKind.wrap IntKind.i64 (Min.min (↑(List.length x363) : Int) (8 : Int) - (1 : Int)))
noncomputable def e_wide_Val (k : Nat) : Entry := ⟨Ds.mk [Vd.one (Ld.im T.str)] [], Ds.mk [Vd.one (Ld.im (T.int IntKind.u64))] [], fun x => p_wide_Val k x⟩
noncomputable def c_wide_Val (k : Nat) : Cx := ⟨Try.prog, [], [(6, Sd.mk [3] (Ds.mk [Vd.one (Ld.im (T.int IntKind.u64))] []))], [], [(3, Sd.mk [0, 3, 4] (Ds.mk [Vd.one (Ld.im T.str), Vd.one (Ld.im (T.int IntKind.u64)), Vd.one (Ld.im (T.int IntKind.i64))] []))], [], 0, 21, [(15, 3), (65, 2), (144, 0)], fun _ _ _ => none⟩
theorem q_wide_Val (k : Nat) (x : HL (e_wide_Val k).pre.ts) : runF (c_wide_Val k) k Try.f96 (e_wide_Val k).pre (e_wide_Val k).post x = (e_wide_Val k).fn x := by kernel_rfl
theorem s_wide_Val (k : Nat) : Entry.Sound Try.prog 96 (e_wide_Val k) := runF_sound (X := c_wide_Val k) (pre := (e_wide_Val k).pre) (post := (e_wide_Val k).post) (q := (e_wide_Val k).fn) ⟨dOk_nil, x_ext, x_mo⟩ Try.func96 (q_wide_Val k)

/- dormouse/key.Split$1: function 95 -/
noncomputable def p_key_Split_c1 (k : Nat) (x374 : Int) (x375 : Vector Int (32)) : Option Int :=
  need ((0 : Int) ≤ x374 ∧ x374 ≤ IntKind.wrap IntKind.i64 (x374 + (8 : Int)) ∧ IntKind.wrap IntKind.i64 (x374 + (8 : Int)) ≤ (↑(32 : Nat) : Int)) (Option.bind (p_wide_Val k (bytesOf (sub_ (Vector.toList x375) x374 (IntKind.wrap IntKind.i64 (x374 + (8 : Int)))))) fun t377 => some t377)
noncomputable def e_key_Split_c1 (k : Nat) : Entry := ⟨Ds.mk [Vd.one (Ld.im (T.int IntKind.i64)), Vd.one (Ld.ptr (0) (0))] [Od.rdT (25) (T.arr (32) (T.int IntKind.u8))], Ds.mk [Vd.one (Ld.im (T.int IntKind.u64))] [Od.gone], fun x => p_key_Split_c1 k x.1 x.2⟩
noncomputable def c_key_Split_c1 (k : Nat) : Cx := ⟨Try.prog, [(96, e_wide_Val k)], [], [], [], [], 1, 10, [(15, 3), (65, 2), (144, 0)], fun _ _ _ => none⟩
theorem q_key_Split_c1 (k : Nat) (x : HL (e_key_Split_c1 k).pre.ts) : runF (c_key_Split_c1 k) k Try.f95 (e_key_Split_c1 k).pre (e_key_Split_c1 k).post x = (e_key_Split_c1 k).fn x := by kernel_rfl
theorem s_key_Split_c1 (k : Nat) : Entry.Sound Try.prog 95 (e_key_Split_c1 k) := runF_sound (X := c_key_Split_c1 k) (pre := (e_key_Split_c1 k).pre) (post := (e_key_Split_c1 k).post) (q := (e_key_Split_c1 k).fn) ⟨(dOk_cons (s_wide_Val k) dOk_nil), x_ext, x_mo⟩ Try.func95 (q_key_Split_c1 k)

/- dormouse/key.Split: function 62 -/
noncomputable def p_key_Split (k : Nat) (x384 : Vector Int (32)) : Option (Int × Int × Bool) :=
  Option.bind (p_key_Split_c1 k (0 : Int) x384) fun t385 => Option.bind (p_key_Split_c1 k (24 : Int) x384) fun t386 => Option.bind (p_key_Of k t385 t386) fun t387 => bif (!decide (t387 = x384)) then some ((0 : Int), (0 : Int), Bool.false) else some (t385, t386, Bool.true)
noncomputable def e_key_Split (k : Nat) : Entry := ⟨Ds.mk [Vd.st (T.arr (32) (T.int IntKind.u8))] [], Ds.mk [Vd.one (Ld.im (T.int IntKind.u64)), Vd.one (Ld.im (T.int IntKind.u64)), Vd.one (Ld.im T.bool)] [], fun x => p_key_Split k x⟩
noncomputable def c_key_Split (k : Nat) : Cx := ⟨Try.prog, [(61, e_key_Of k), (95, e_key_Split_c1 k)], [], [], [], [(3, ([(0, 2), (1, 2), (2, 0), (3, 1), (4, 2)], [], []))], 0, 20, [(15, 3), (65, 2), (144, 0)], fun _ _ _ => none⟩
theorem q_key_Split (k : Nat) (x : HL (e_key_Split k).pre.ts) : runF (c_key_Split k) k Try.f62 (e_key_Split k).pre (e_key_Split k).post x = (e_key_Split k).fn x := by kernel_rfl
theorem s_key_Split (k : Nat) : Entry.Sound Try.prog 62 (e_key_Split k) := runF_sound (X := c_key_Split k) (pre := (e_key_Split k).pre) (post := (e_key_Split k).post) (q := (e_key_Split k).fn) ⟨(dOk_cons (s_key_Of k) (dOk_cons (s_key_Split_c1 k) dOk_nil)), x_ext, x_mo⟩ Try.func62 (q_key_Split k)

/- internal/stringslite.IndexByte: function 127 -/
noncomputable def p_stringslite_IndexByte (x410 : List UInt8) (x411 : Int) : Option Int :=
  some (indexByteOf x410 x411)
noncomputable def e_stringslite_IndexByte : Entry := ⟨Ds.mk [Vd.one (Ld.im T.str), Vd.one (Ld.im (T.int IntKind.u8))] [], Ds.mk [Vd.one (Ld.im (T.int IntKind.i64))] [], fun x => p_stringslite_IndexByte x.1 x.2⟩
noncomputable def c_stringslite_IndexByte : Cx := ⟨Try.prog, [], [], [], [], [], 0, 8, [(15, 3), (65, 2), (144, 0)], fun _ _ _ => none⟩
theorem q_stringslite_IndexByte (x : HL (e_stringslite_IndexByte).pre.ts) : runF (c_stringslite_IndexByte) 0 Try.f127 (e_stringslite_IndexByte).pre (e_stringslite_IndexByte).post x = (e_stringslite_IndexByte).fn x := by kernel_rfl
theorem s_stringslite_IndexByte : Entry.Sound Try.prog 127 (e_stringslite_IndexByte) := runF_sound (X := c_stringslite_IndexByte) (pre := (e_stringslite_IndexByte).pre) (post := (e_stringslite_IndexByte).post) (q := (e_stringslite_IndexByte).fn) ⟨dOk_nil, x_ext, x_mo⟩ Try.func127 (q_stringslite_IndexByte)

/- internal/stringslite.Index: function 143 -/
noncomputable def p_stringslite_Index.j0 (x415 : List UInt8) (x416 : List UInt8) (x417 : Int) (x418 : Bool) : Option Int :=
  bif x418 then some (0 : Int) else bif (x417 == (1 : Int)) then need ((0 : Int) ≤ (0 : Int) ∧ (0 : Int) < (↑(List.length x416) : Int)) (Option.bind (p_stringslite_IndexByte x415 (bat x416 (0 : Int))) fun t422 => some t422) else bif (decide (x417 ≥ (↑(List.length x415) : Int))) then some (-1 : Int) else none
noncomputable def p_stringslite_Index (x413 : List UInt8) (x414 : List UInt8) : Option Int :=
  joinC (fun (y : List UInt8 × List UInt8 × Int × Bool) => p_stringslite_Index.j0 y.1 y.2.1 y.2.2.1 y.2.2.2) fun (j419 : List UInt8 × List UInt8 × Int × Bool → Option Int) => bif ((↑(List.length x414) : Int) == (0 : Int)) then j419 (x413, x414, (↑(List.length x414) : Int), Bool.true) else j419 (x413, x414, (↑(List.length x414) : Int), x414 == x413)
noncomputable def e_stringslite_Index : Entry := ⟨Ds.mk [Vd.one (Ld.im T.str), Vd.one (Ld.im T.str)] [], Ds.mk [Vd.one (Ld.im (T.int IntKind.i64))] [], fun x => p_stringslite_Index x.1 x.2⟩
noncomputable def c_stringslite_Index : Cx := ⟨Try.prog, [(127, e_stringslite_IndexByte)], [], [(2, Sd.mk [0, 1, 5, 16] (Ds.mk [Vd.one (Ld.im T.str), Vd.one (Ld.im T.str), Vd.one (Ld.im (T.int IntKind.i64)), Vd.one (Ld.im T.bool)] []))], [], [], 0, 143, [(15, 3), (65, 2), (144, 0)], fun _ _ _ => none⟩
theorem q_stringslite_Index (x : HL (e_stringslite_Index).pre.ts) : runF (c_stringslite_Index) 0 Try.f143 (e_stringslite_Index).pre (e_stringslite_Index).post x = (e_stringslite_Index).fn x := by kernel_rfl
theorem s_stringslite_Index : Entry.Sound Try.prog 143 (e_stringslite_Index) := runF_sound (X := c_stringslite_Index) (pre := (e_stringslite_Index).pre) (post := (e_stringslite_Index).post) (q := (e_stringslite_Index).fn) ⟨(dOk_cons (s_stringslite_IndexByte) dOk_nil), x_ext, x_mo⟩ Try.func143 (q_stringslite_Index)

/- internal/stringslite.Cut: function 126 -/
noncomputable def p_stringslite_Cut (x430 : List UInt8) (x431 : List UInt8) : Option (List UInt8 × List UInt8 × Bool) :=
  Option.bind (p_stringslite_Index x430 x431) fun t432 => bif (decide (t432 ≥ (0 : Int))) then need ((0 : Int) ≤ (0 : Int) ∧ (0 : Int) ≤ t432 ∧ t432 ≤ (↑(List.length x430) : Int)) (need ((0 : Int) ≤ IntKind.wrap IntKind.i64 (t432 + (↑(List.length x431) : Int)) ∧ IntKind.wrap IntKind.i64 (t432 + (↑(List.length x431) : Int)) ≤ (↑(List.length x430) : Int) ∧ (↑(List.length x430) : Int) ≤ (↑(List.length x430) : Int)) (some (sub_ x430 (0 : Int) t432, sub_ x430 (IntKind.wrap IntKind.i64 (t432 + (↑(List.length x431) : Int))) (↑(List.length x430) : Int), Bool.true))) else some (x430, [], Bool.false)
noncomputable def e_stringslite_Cut : Entry := ⟨Ds.mk [Vd.one (Ld.im T.str), Vd.one (Ld.im T.str)] [], Ds.mk [Vd.one (Ld.im T.str), Vd.one (Ld.im T.str), Vd.one (Ld.im T.bool)] [], fun x => p_stringslite_Cut x.1 x.2⟩
noncomputable def c_stringslite_Cut : Cx := ⟨Try.prog, [(143, e_stringslite_Index)], [], [], [], [(3, ([(0, 2), (1, 2), (2, 2), (3, 2), (4, 2), (5, 2), (6, 2), (7, 2), (8, 2), (9, 2), (10, 2), (11, 2)], [], []))], 0, 23, [(15, 3), (65, 2), (144, 0)], fun _ _ _ => none⟩
theorem q_stringslite_Cut (x : HL (e_stringslite_Cut).pre.ts) : runF (c_stringslite_Cut) 0 Try.f126 (e_stringslite_Cut).pre (e_stringslite_Cut).post x = (e_stringslite_Cut).fn x := by kernel_rfl
theorem s_stringslite_Cut : Entry.Sound Try.prog 126 (e_stringslite_Cut) := runF_sound (X := c_stringslite_Cut) (pre := (e_stringslite_Cut).pre) (post := (e_stringslite_Cut).post) (q := (e_stringslite_Cut).fn) ⟨(dOk_cons (s_stringslite_Index) dOk_nil), x_ext, x_mo⟩ Try.func126 (q_stringslite_Cut)

/- strings.Cut: function 97 -/
noncomputable def p_strings_Cut (x436 : List UInt8) (x437 : List UInt8) : Option (List UInt8 × List UInt8 × Bool) :=
  Option.bind (p_stringslite_Cut x436 x437) fun t438 => some (Prod.fst t438, Prod.fst (Prod.snd t438), Prod.snd (Prod.snd t438))
noncomputable def e_strings_Cut : Entry := ⟨Ds.mk [Vd.one (Ld.im T.str), Vd.one (Ld.im T.str)] [], Ds.mk [Vd.one (Ld.im T.str), Vd.one (Ld.im T.str), Vd.one (Ld.im T.bool)] [], fun x => p_strings_Cut x.1 x.2⟩
noncomputable def c_strings_Cut : Cx := ⟨Try.prog, [(126, e_stringslite_Cut)], [], [], [], [], 0, 13, [(15, 3), (65, 2), (144, 0)], fun _ _ _ => none⟩
theorem q_strings_Cut (x : HL (e_strings_Cut).pre.ts) : runF (c_strings_Cut) 0 Try.f97 (e_strings_Cut).pre (e_strings_Cut).post x = (e_strings_Cut).fn x := by kernel_rfl
theorem s_strings_Cut : Entry.Sound Try.prog 97 (e_strings_Cut) := runF_sound (X := c_strings_Cut) (pre := (e_strings_Cut).pre) (post := (e_strings_Cut).post) (q := (e_strings_Cut).fn) ⟨(dOk_cons (s_stringslite_Cut) dOk_nil), x_ext, x_mo⟩ Try.func97 (q_strings_Cut)

/- dormouse/key.number: function 98 -/
noncomputable def p_key_number.j0 (k : Nat) (x451 : Int) : Option Int :=
  some x451
noncomputable def p_key_number.b1 (k : Nat) (j452 : Int → Option Int) (rec449 : List UInt8 × Int × Int × Int → Option Int) (x444 : List UInt8) (x445 : Int) (x446 : Int) (x447 : Int) : Option Int :=
  bif (decide (x447 < x446)) then need ((0 : Int) ≤ x447 ∧ x447 < (↑(List.length x444) : Int)) (rec449 (x444, IntKind.wrap IntKind.u64 (IntKind.wrap IntKind.u64 ((10 : Int) * x445) + Int.tmod (IntKind.wrap IntKind.u64 (IntKind.wrap IntKind.u8 (bat x444 x447 - (48 : Int)))) (10 : Int)), x446, IntKind.wrap IntKind.i64 (x447 + (1 : Int)))) else j452 x445
noncomputable def p_key_number (k : Nat) (x443 : List UInt8) : Option Int :=
  joinC (p_key_number.j0 k) fun (j452 : Int → Option Int) => loopC (fun (r : List UInt8 × Int × Int × Int → Option Int) y => p_key_number.b1 k j452 r y.1 y.2.1 y.2.2.1 y.2.2.2) k (x443, (0 : Int), (↑(List.length x443) : Int), (0 : Int))
noncomputable def e_key_number (k : Nat) : Entry := ⟨Ds.mk [Vd.one (Ld.im T.str)] [], Ds.mk [Vd.one (Ld.im (T.int IntKind.u64))] [], fun x => p_key_number k x⟩
noncomputable def c_key_number (k : Nat) : Cx := ⟨Try.prog, [], [(7, Sd.mk [3] (Ds.mk [Vd.one (Ld.im (T.int IntKind.u64))] []))], [], [(3, Sd.mk [0, 3, 6, 7] (Ds.mk [Vd.one (Ld.im T.str), Vd.one (Ld.im (T.int IntKind.u64)), Vd.one (Ld.im (T.int IntKind.i64)), Vd.one (Ld.im (T.int IntKind.i64))] []))], [], 0, 21, [(15, 3), (65, 2), (144, 0)], fun _ _ _ => none⟩
theorem q_key_number (k : Nat) (x : HL (e_key_number k).pre.ts) : runF (c_key_number k) k Try.f98 (e_key_number k).pre (e_key_number k).post x = (e_key_number k).fn x := by kernel_rfl
theorem s_key_number (k : Nat) : Entry.Sound Try.prog 98 (e_key_number k) := runF_sound (X := c_key_number k) (pre := (e_key_number k).pre) (post := (e_key_number k).post) (q := (e_key_number k).fn) ⟨dOk_nil, x_ext, x_mo⟩ Try.func98 (q_key_number k)

/- strings.IndexByte: function 99 -/
noncomputable def p_strings_IndexByte (x467 : List UInt8) (x468 : Int) : Option Int :=
  Option.bind (p_stringslite_IndexByte x467 x468) fun t469 => some t469
noncomputable def e_strings_IndexByte : Entry := ⟨Ds.mk [Vd.one (Ld.im T.str), Vd.one (Ld.im (T.int IntKind.u8))] [], Ds.mk [Vd.one (Ld.im (T.int IntKind.i64))] [], fun x => p_strings_IndexByte x.1 x.2⟩
noncomputable def c_strings_IndexByte : Cx := ⟨Try.prog, [(127, e_stringslite_IndexByte)], [], [], [], [], 0, 8, [(15, 3), (65, 2), (144, 0)], fun _ _ _ => none⟩
theorem q_strings_IndexByte (x : HL (e_strings_IndexByte).pre.ts) : runF (c_strings_IndexByte) 0 Try.f99 (e_strings_IndexByte).pre (e_strings_IndexByte).post x = (e_strings_IndexByte).fn x := by kernel_rfl
theorem s_strings_IndexByte : Entry.Sound Try.prog 99 (e_strings_IndexByte) := runF_sound (X := c_strings_IndexByte) (pre := (e_strings_IndexByte).pre) (post := (e_strings_IndexByte).post) (q := (e_strings_IndexByte).fn) ⟨(dOk_cons (s_stringslite_IndexByte) dOk_nil), x_ext, x_mo⟩ Try.func99 (q_strings_IndexByte)

/- dormouse/key.decimal: function 100 -/
noncomputable def p_key_decimal.j0 (k : Nat) (x501 : Int) (x502 : List UInt8) : Option (List UInt8) :=
  need ((0 : Int) ≤ x501 ∧ x501 ≤ IntKind.wrap IntKind.u64 (x501 + (1 : Int)) ∧ IntKind.wrap IntKind.u64 (x501 + (1 : Int)) ≤ (↑(16) : Int)) (need (List.length (sub_ [(48 : UInt8), (49 : UInt8), (50 : UInt8), (51 : UInt8), (52 : UInt8), (53 : UInt8), (54 : UInt8), (55 : UInt8), (56 : UInt8), (57 : UInt8), (97 : UInt8), (98 : UInt8), (99 : UInt8), (100 : UInt8), (101 : UInt8), (102 : UInt8)] x501 (IntKind.wrap IntKind.u64 (x501 + (1 : Int)))) + List.length x502 ≤ (9223372036854775807 : Nat)) (some (sub_ [(48 : UInt8), (49 : UInt8), (50 : UInt8), (51 : UInt8), (52 : UInt8), (53 : UInt8), (54 : UInt8), (55 : UInt8), (56 : UInt8), (57 : UInt8), (97 : UInt8), (98 : UInt8), (99 : UInt8), (100 : UInt8), (101 : UInt8), (102 : UInt8)] x501 (IntKind.wrap IntKind.u64 (x501 + (1 : Int))) ++ x502)))
noncomputable def p_key_decimal.b1 (k : Nat) (j505 : Int × List UInt8 → Option (List UInt8)) (rec499 : Int × List UInt8 → Option (List UInt8)) (x495 : Int) (x496 : List UInt8) : Option (List UInt8) :=
  bif (decide (x495 > (9 : Int))) then need ((0 : Int) ≤ Int.tmod x495 (10 : Int) ∧ Int.tmod x495 (10 : Int) ≤ IntKind.wrap IntKind.u64 (Int.tmod x495 (10 : Int) + (1 : Int)) ∧ IntKind.wrap IntKind.u64 (Int.tmod x495 (10 : Int) + (1 : Int)) ≤ (↑(16) : Int)) (need (List.length (sub_ [(48 : UInt8), (49 : UInt8), (50 : UInt8), (51 : UInt8), (52 : UInt8), (53 : UInt8), (54 : UInt8), (55 : UInt8), (56 : UInt8), (57 : UInt8), (97 : UInt8), (98 : UInt8), (99 : UInt8), (100 : UInt8), (101 : UInt8), (102 : UInt8)] (Int.tmod x495 (10 : Int)) (IntKind.wrap IntKind.u64 (Int.tmod x495 (10 : Int) + (1 : Int)))) + List.length x496 ≤ (9223372036854775807 : Nat)) (rec499 (IntKind.wrap IntKind.u64 (Int.tdiv x495 (10 : Int)), sub_ [(48 : UInt8), (49 : UInt8), (50 : UInt8), (51 : UInt8), (52 : UInt8), (53 : UInt8), (54 : UInt8), (55 : UInt8), (56 : UInt8), (57 : UInt8), (97 : UInt8), (98 : UInt8), (99 : UInt8), (100 : UInt8), (101 : UInt8), (102 : UInt8)] (Int.tmod x495 (10 : Int)) (IntKind.wrap IntKind.u64 (Int.tmod x495 (10 : Int) + (1 : Int))) ++ x496))) else j505 (x495, x496)
noncomputable def p_key_decimal (k : Nat) (x494 : Int) : Option (List UInt8) :=
  joinC (fun (y : Int × List UInt8) => p_key_decimal.j0 k y.1 y.2) fun (j505 : Int × List UInt8 → Option (List UInt8)) => loopC (fun (r : Int × List UInt8 → Option (List UInt8)) y => p_key_decimal.b1 k j505 r y.1 y.2) k (x494, [])
noncomputable def e_key_decimal (k : Nat) : Entry := ⟨Ds.mk [Vd.one (Ld.im (T.int IntKind.u64))] [], Ds.mk [Vd.one (Ld.im T.str)] [], fun x => p_key_decimal k x⟩
noncomputable def c_key_decimal (k : Nat) : Cx := ⟨Try.prog, [], [(5, Sd.mk [0, 3] (Ds.mk [Vd.one (Ld.im (T.int IntKind.u64)), Vd.one (Ld.im T.str)] []))], [], [(2, Sd.mk [0, 3] (Ds.mk [Vd.one (Ld.im (T.int IntKind.u64)), Vd.one (Ld.im T.str)] []))], [], 0, 22, [(15, 3), (65, 2), (144, 0)], fun _ _ _ => none⟩
theorem q_key_decimal (k : Nat) (x : HL (e_key_decimal k).pre.ts) : runF (c_key_decimal k) k Try.f100 (e_key_decimal k).pre (e_key_decimal k).post x = (e_key_decimal k).fn x := by kernel_rfl
theorem s_key_decimal (k : Nat) : Entry.Sound Try.prog 100 (e_key_decimal k) := runF_sound (X := c_key_decimal k) (pre := (e_key_decimal k).pre) (post := (e_key_decimal k).post) (q := (e_key_decimal k).fn) ⟨dOk_nil, x_ext, x_mo⟩ Try.func100 (q_key_decimal k)

/- dormouse/key.Text: function 64 -/
noncomputable def p_key_Text.j0 (k : Nat) (x542 : List Int) : Option (List UInt8) :=
  some (bytesOf x542)
noncomputable def p_key_Text.b1 (k : Nat) (j543 : List Int → Option (List UInt8)) (rec540 : Vector Int (32) × Int × List Int → Option (List UInt8)) (x533 : Vector Int (32)) (x534 : Int) (x535 : List Int) : Option (List UInt8) :=
  bif (decide (x534 < (32 : Int))) then need ((0 : Int) ≤ x534 ∧ x534 < (↑(32) : Int)) (need ((0 : Int) ≤ ishr IntKind.u8 (at_ (dflt (T.int IntKind.u8)) (Vector.toList x533) x534) (4 : Int) ∧ ishr IntKind.u8 (at_ (dflt (T.int IntKind.u8)) (Vector.toList x533) x534) (4 : Int) < (↑(16) : Int)) (need ((0 : Int) ≤ iand IntKind.u8 (at_ (dflt (T.int IntKind.u8)) (Vector.toList x533) x534) (15 : Int) ∧ iand IntKind.u8 (at_ (dflt (T.int IntKind.u8)) (Vector.toList x533) x534) (15 : Int) < (↑(16) : Int)) (need ((List.length x535 + List.length [bat [(48 : UInt8), (49 : UInt8), (50 : UInt8), (51 : UInt8), (52 : UInt8), (53 : UInt8), (54 : UInt8), (55 : UInt8), (56 : UInt8), (57 : UInt8), (97 : UInt8), (98 : UInt8), (99 : UInt8), (100 : UInt8), (101 : UInt8), (102 : UInt8)] (ishr IntKind.u8 (at_ (dflt (T.int IntKind.u8)) (Vector.toList x533) x534) (4 : Int)), bat [(48 : UInt8), (49 : UInt8), (50 : UInt8), (51 : UInt8), (52 : UInt8), (53 : UInt8), (54 : UInt8), (55 : UInt8), (56 : UInt8), (57 : UInt8), (97 : UInt8), (98 : UInt8), (99 : UInt8), (100 : UInt8), (101 : UInt8), (102 : UInt8)] (iand IntKind.u8 (at_ (dflt (T.int IntKind.u8)) (Vector.toList x533) x534) (15 : Int))]) * Go.TypeInfo.bytes (Go.Tables.types (Go.Program.toTables Go.Proofs.Try.prog))[(5 : Nat)] ≤ (140737488355328 : Nat)) (rec540 (x533, IntKind.wrap IntKind.i64 (x534 + (1 : Int)), x535 ++ [bat [(48 : UInt8), (49 : UInt8), (50 : UInt8), (51 : UInt8), (52 : UInt8), (53 : UInt8), (54 : UInt8), (55 : UInt8), (56 : UInt8), (57 : UInt8), (97 : UInt8), (98 : UInt8), (99 : UInt8), (100 : UInt8), (101 : UInt8), (102 : UInt8)] (ishr IntKind.u8 (at_ (dflt (T.int IntKind.u8)) (Vector.toList x533) x534) (4 : Int)), bat [(48 : UInt8), (49 : UInt8), (50 : UInt8), (51 : UInt8), (52 : UInt8), (53 : UInt8), (54 : UInt8), (55 : UInt8), (56 : UInt8), (57 : UInt8), (97 : UInt8), (98 : UInt8), (99 : UInt8), (100 : UInt8), (101 : UInt8), (102 : UInt8)] (iand IntKind.u8 (at_ (dflt (T.int IntKind.u8)) (Vector.toList x533) x534) (15 : Int))]))))) else j543 x535
noncomputable def p_key_Text (k : Nat) (x527 : Vector Int (32)) : Option (List UInt8) :=
  Option.bind (p_key_Split k x527) fun t528 => bif (Prod.snd (Prod.snd t528)) then Option.bind (p_key_decimal k (Prod.fst t528)) fun t529 => need (List.length t529 + 1 ≤ (9223372036854775807 : Nat)) (Option.bind (p_key_decimal k (Prod.fst (Prod.snd t528))) fun t531 => need (List.length (t529 ++ [(46 : UInt8)]) + List.length t531 ≤ (9223372036854775807 : Nat)) (some (t529 ++ [(46 : UInt8)] ++ t531))) else joinC (p_key_Text.j0 k) fun (j543 : List Int → Option (List UInt8)) => loopC (fun (r : Vector Int (32) × Int × List Int → Option (List UInt8)) y => p_key_Text.b1 k j543 r y.1 y.2.1 y.2.2) k (x527, (0 : Int), [])
noncomputable def e_key_Text (k : Nat) : Entry := ⟨Ds.mk [Vd.st (T.arr (32) (T.int IntKind.u8))] [], Ds.mk [Vd.one (Ld.im T.str)] [], fun x => p_key_Text k x⟩
noncomputable def c_key_Text (k : Nat) : Cx := ⟨Try.prog, [(62, e_key_Split k), (100, e_key_decimal k)], [(10, Sd.mk [6] (Ds.mk [Vd.one (Ld.own (0))] [Od.arr (5) (T.int IntKind.u8)]))], [], [(6, Sd.mk [6, 22, 23] (Ds.mk [Vd.one (Ld.own (0)), Vd.st (T.arr (32) (T.int IntKind.u8)), Vd.one (Ld.im (T.int IntKind.i64))] [Od.arr (5) (T.int IntKind.u8)]))], [(8, ([(0, 2), (1, 2), (2, 2), (3, 2), (4, 2), (5, 2), (6, 2)], [(7, Bool.false), (8, Bool.false), (9, Bool.false)], []))], 0, 38, [(15, 3), (65, 2), (144, 0)], fun _ _ _ => none⟩
theorem q_key_Text (k : Nat) (x : HL (e_key_Text k).pre.ts) : runF (c_key_Text k) k Try.f64 (e_key_Text k).pre (e_key_Text k).post x = (e_key_Text k).fn x := by kernel_rfl
theorem s_key_Text (k : Nat) : Entry.Sound Try.prog 64 (e_key_Text k) := runF_sound (X := c_key_Text k) (pre := (e_key_Text k).pre) (post := (e_key_Text k).post) (q := (e_key_Text k).fn) ⟨(dOk_cons (s_key_Split k) (dOk_cons (s_key_decimal k) dOk_nil)), x_ext, x_mo⟩ Try.func64 (q_key_Text k)

/- dormouse/key.Parse: function 63 -/
noncomputable def p_key_Parse.j0 (k : Nat) (x562 : List UInt8) (x563 : Vector Int (32)) (x564 : Vector Int (32)) : Option (Vector Int (32) × Int) :=
  Option.bind (p_key_Text k x564) fun t565 => bif (!t565 == x562) then some (bparts (32 : Nat) (dflt (T.int IntKind.u8)) [], (6 : Int)) else some (x564, (0 : Int))
noncomputable def p_key_Parse.b1 (k : Nat) (j566 : List UInt8 × Vector Int (32) × Vector Int (32) → Option (Vector Int (32) × Int)) (rec560 : List UInt8 × Int × Int × Vector Int (32) × Vector Int (32) → Option (Vector Int (32) × Int)) (x551 : List UInt8) (x552 : Int) (x553 : Int) (x554 : Vector Int (32)) (x555 : Vector Int (32)) : Option (Vector Int (32) × Int) :=
  bif (decide (x553 < x552)) then need ((0 : Int) ≤ x553 ∧ x553 < (↑(List.length x551) : Int)) (Option.bind (p_strings_IndexByte [(48 : UInt8), (49 : UInt8), (50 : UInt8), (51 : UInt8), (52 : UInt8), (53 : UInt8), (54 : UInt8), (55 : UInt8), (56 : UInt8), (57 : UInt8), (97 : UInt8), (98 : UInt8), (99 : UInt8), (100 : UInt8), (101 : UInt8), (102 : UInt8)] (bat x551 x553)) fun t557 => need ((0 : Int) ≤ IntKind.wrap IntKind.i64 (Int.tdiv x553 (2 : Int)) ∧ IntKind.wrap IntKind.i64 (Int.tdiv x553 (2 : Int)) < (↑(32 : Nat) : Int)) (need ((0 : Int) ≤ IntKind.wrap IntKind.i64 (Int.tdiv x553 (2 : Int)) ∧ IntKind.wrap IntKind.i64 (Int.tdiv x553 (2 : Int)) < (↑(32 : Nat) : Int)) (rec560 (x551, x552, IntKind.wrap IntKind.i64 (x553 + (1 : Int)), x554, vset x555 (IntKind.wrap IntKind.i64 (Int.tdiv x553 (2 : Int))) (ior IntKind.u8 (ishl IntKind.u8 (at_ (dflt (T.int IntKind.u8)) (Vector.toList x555) (IntKind.wrap IntKind.i64 (Int.tdiv x553 (2 : Int)))) (4 : Int)) (IntKind.wrap IntKind.u8 (Max.max t557 (0 : Int)))))))) else j566 (x551, x554, x555)
noncomputable def p_key_Parse (k : Nat) (x546 : List UInt8) : Option (Vector Int (32) × Int) :=
  joinC (fun (y : List UInt8 × Vector Int (32) × Vector Int (32)) => p_key_Parse.j0 k y.1 y.2.1 y.2.2) fun (j566 : List UInt8 × Vector Int (32) × Vector Int (32) → Option (Vector Int (32) × Int)) => Option.bind (p_strings_Cut x546 [(46 : UInt8)]) fun t547 => bif (Prod.snd (Prod.snd t547)) then Option.bind (p_key_number k (Prod.fst t547)) fun t548 => Option.bind (p_key_number k (Prod.fst (Prod.snd t547))) fun t549 => Option.bind (p_key_Of k t548 t549) fun t550 => j566 (x546, Vector.replicate (32 : Nat) (dflt (T.int IntKind.u8)), t550) else bif ((↑(List.length x546) : Int) == (64 : Int)) then loopC (fun (r : List UInt8 × Int × Int × Vector Int (32) × Vector Int (32) → Option (Vector Int (32) × Int)) y => p_key_Parse.b1 k j566 r y.1 y.2.1 y.2.2.1 y.2.2.2.1 y.2.2.2.2) k (x546, (↑(List.length x546) : Int), (0 : Int), Vector.replicate (32 : Nat) (dflt (T.int IntKind.u8)), Vector.replicate (32 : Nat) (dflt (T.int IntKind.u8))) else j566 (x546, Vector.replicate (32 : Nat) (dflt (T.int IntKind.u8)), Vector.replicate (32 : Nat) (dflt (T.int IntKind.u8)))
noncomputable def e_key_Parse (k : Nat) : Entry := ⟨Ds.mk [Vd.one (Ld.im T.str)] [], Ds.mk [Vd.st (T.arr (32) (T.int IntKind.u8)), Vd.one (Ld.im (T.int IntKind.i64))] [], fun x => p_key_Parse k x⟩
noncomputable def c_key_Parse (k : Nat) : Cx := ⟨Try.prog, [(61, e_key_Of k), (97, e_strings_Cut), (98, e_key_number k), (99, e_strings_IndexByte), (64, e_key_Text k)], [(12, Sd.mk [0, 2, 4] (Ds.mk [Vd.one (Ld.im T.str), Vd.one (Ld.ptr (0) (0)), Vd.one (Ld.ptr (1) (0))] [Od.blkT (25) (T.arr (32) (T.int IntKind.u8)), Od.blkT (25) (T.arr (32) (T.int IntKind.u8))]))], [], [(7, Sd.mk [0, 2, 4, 26, 27] (Ds.mk [Vd.one (Ld.im T.str), Vd.one (Ld.ptr (0) (0)), Vd.one (Ld.ptr (1) (0)), Vd.one (Ld.im (T.int IntKind.i64)), Vd.one (Ld.im (T.int IntKind.i64))] [Od.blkT (25) (T.arr (32) (T.int IntKind.u8)), Od.blkT (25) (T.arr (32) (T.int IntKind.u8))]))], [], 0, 53, [(15, 3), (65, 2), (144, 0)], fun _ _ _ => none⟩
theorem q_key_Parse (k : Nat) (x : HL (e_key_Parse k).pre.ts) : runF (c_key_Parse k) k Try.f63 (e_key_Parse k).pre (e_key_Parse k).post x = (e_key_Parse k).fn x := by kernel_rfl
theorem s_key_Parse (k : Nat) : Entry.Sound Try.prog 63 (e_key_Parse k) := runF_sound (X := c_key_Parse k) (pre := (e_key_Parse k).pre) (post := (e_key_Parse k).post) (q := (e_key_Parse k).fn) ⟨(dOk_cons (s_key_Of k) (dOk_cons (s_strings_Cut) (dOk_cons (s_key_number k) (dOk_cons (s_strings_IndexByte) (dOk_cons (s_key_Text k) dOk_nil))))), x_ext, x_mo⟩ Try.func63 (q_key_Parse k)

/- dormouse/dormouselaw16.awake: function 14 -/
noncomputable def p_dormouselaw16_awake.j0 (k : Nat) (x587 : Bool) : Option Bool :=
  some x587
noncomputable def p_dormouselaw16_awake (k : Nat) : Option Bool :=
  Option.bind (p_key_Of k (3 : Int) (10 : Int)) fun t580 => Option.bind (p_key_Split k t580) fun t581 => Option.bind (p_key_Parse k [(51 : UInt8), (46 : UInt8), (49 : UInt8), (48 : UInt8)]) fun t582 => Option.bind (p_key_Parse k [(51 : UInt8), (46 : UInt8), (48 : UInt8), (49 : UInt8), (48 : UInt8)]) fun t583 => joinC (p_dormouselaw16_awake.j0 k) fun (j588 : Bool → Option Bool) => bif (Prod.fst t581 == (3 : Int)) then bif (Prod.fst (Prod.snd t581) == (10 : Int)) then bif (Prod.snd (Prod.snd t581)) then Option.bind (p_key_Text k t580) fun t584 => bif (t584 == [(51 : UInt8), (46 : UInt8), (49 : UInt8), (48 : UInt8)]) then bif (decide (Prod.fst t582 = t580)) then bif (Prod.snd t582 == (0 : Int)) then bif (Prod.snd t583 == (6 : Int)) then Option.bind (p_key_Of k (1 : Int) (0 : Int)) fun t585 => Option.bind (p_key_Less k t585 t580) fun t586 => j588 t586 else j588 Bool.false else j588 Bool.false else j588 Bool.false else j588 Bool.false else j588 Bool.false else j588 Bool.false else j588 Bool.false
noncomputable def e_dormouselaw16_awake (k : Nat) : Entry := ⟨Ds.mk [] [], Ds.mk [Vd.one (Ld.im T.bool)] [], fun x => p_dormouselaw16_awake k⟩
noncomputable def c_dormouselaw16_awake (k : Nat) : Cx := ⟨Try.prog, [(13, e_key_Less k), (61, e_key_Of k), (62, e_key_Split k), (64, e_key_Text k), (63, e_key_Parse k)], [], [(5, Sd.mk [0] (Ds.mk [Vd.one (Ld.im T.bool)] []))], [], [(5, ([(0, 2), (1, 2), (2, 2), (3, 2), (4, 2), (5, 2), (6, 2), (7, 2), (8, 2), (9, 2), (10, 1), (11, 0), (12, 2), (13, 2), (14, 2), (15, 1), (16, 1), (17, 2), (18, 2), (19, 2), (20, 2), (21, 2), (22, 2), (23, 2), (24, 2), (25, 2), (26, 2), (27, 2), (28, 0), (29, 1), (30, 0), (31, 2), (32, 2)], [], []))], 0, 56, [(15, 3), (65, 2), (144, 0)], fun _ _ _ => none⟩
theorem q_dormouselaw16_awake (k : Nat) (x : HL (e_dormouselaw16_awake k).pre.ts) : runF (c_dormouselaw16_awake k) k Try.f14 (e_dormouselaw16_awake k).pre (e_dormouselaw16_awake k).post x = (e_dormouselaw16_awake k).fn x := by kernel_rfl
theorem s_dormouselaw16_awake (k : Nat) : Entry.Sound Try.prog 14 (e_dormouselaw16_awake k) := runF_sound (X := c_dormouselaw16_awake k) (pre := (e_dormouselaw16_awake k).pre) (post := (e_dormouselaw16_awake k).post) (q := (e_dormouselaw16_awake k).fn) ⟨(dOk_cons (s_key_Less k) (dOk_cons (s_key_Of k) (dOk_cons (s_key_Split k) (dOk_cons (s_key_Text k) (dOk_cons (s_key_Parse k) dOk_nil))))), x_ext, x_mo⟩ Try.func14 (q_dormouselaw16_awake k)

/- dormouse/dormouselaw16.KeySorts: function 3 -/
noncomputable def p_dormouselaw16_KeySorts.j2 (k : Nat) : Option Bool :=
  Option.bind (p_dormouselaw16_awake k) fun t789 => some t789
noncomputable def p_dormouselaw16_KeySorts.j4 (k : Nat) (rec787 : List (Vector Int (32)) × Int × List (Vector Int (32)) → Option Bool) (x782 : List (Vector Int (32))) (x783 : Int) (x784 : List (Vector Int (32))) : Option Bool :=
  rec787 (x782, IntKind.wrap IntKind.i64 (x783 + (1 : Int)), x784)
noncomputable def p_dormouselaw16_KeySorts.j6 (k : Nat) (j785 : List (Vector Int (32)) × Int × List (Vector Int (32)) → Option Bool) (x774 : List (Vector Int (32))) (x775 : Int) (x776 : Bool) (x777 : List (Vector Int (32))) : Option Bool :=
  bif x776 then some Bool.false else j785 (x774, x775, x777)
noncomputable def p_dormouselaw16_KeySorts.j5 (k : Nat) (j785 : List (Vector Int (32)) × Int × List (Vector Int (32)) → Option Bool) (x767 : List (Vector Int (32))) (x768 : Int) (x769 : Bool) (x770 : List (Vector Int (32))) : Option Bool :=
  joinC (fun (y : List (Vector Int (32)) × Int × Bool × List (Vector Int (32))) => p_dormouselaw16_KeySorts.j6 k j785 y.1 y.2.1 y.2.2.1 y.2.2.2) fun (j778 : List (Vector Int (32)) × Int × Bool × List (Vector Int (32)) → Option Bool) => bif !x769 then j778 (x767, x768, Bool.true, x770) else need ((0 : Int) ≤ x768 ∧ x768 < (↑(List.length x767) : Int)) (need ((0 : Int) ≤ x768 ∧ x768 < (↑(List.length x767) : Int)) (Option.bind (p_key_Less k (at_ (dflt (T.arr (32) (T.int IntKind.u8))) x767 x768) (at_ (dflt (T.arr (32) (T.int IntKind.u8))) x767 x768)) fun t773 => j778 (x767, x768, t773, x770)))
noncomputable def p_dormouselaw16_KeySorts.j8 (k : Nat) (rec765 : List (Vector Int (32)) × Int × Bool × Int × List (Vector Int (32)) → Option Bool) (x758 : List (Vector Int (32))) (x759 : Int) (x760 : Bool) (x761 : Int) (x762 : List (Vector Int (32))) : Option Bool :=
  rec765 (x758, x759, x760, IntKind.wrap IntKind.i64 (x761 + (1 : Int)), x762)
noncomputable def p_dormouselaw16_KeySorts.b7 (k : Nat) (j780 : List (Vector Int (32)) × Int × Bool × List (Vector Int (32)) → Option Bool) (rec765 : List (Vector Int (32)) × Int × Bool × Int × List (Vector Int (32)) → Option Bool) (x751 : List (Vector Int (32))) (x752 : Int) (x753 : Bool) (x754 : Int) (x755 : List (Vector Int (32))) : Option Bool :=
  bif (decide (x754 < (↑(List.length x755) : Int))) then joinC (fun (y : List (Vector Int (32)) × Int × Bool × Int × List (Vector Int (32))) => p_dormouselaw16_KeySorts.j8 k rec765 y.1 y.2.1 y.2.2.1 y.2.2.2.1 y.2.2.2.2) fun (j763 : List (Vector Int (32)) × Int × Bool × Int × List (Vector Int (32)) → Option Bool) => bif x753 then j763 (x751, x752, Bool.true, x754, x755) else need ((0 : Int) ≤ x752 ∧ x752 < (↑(List.length x751) : Int)) (need ((0 : Int) ≤ x754 ∧ x754 < (↑(List.length x755) : Int)) (j763 (x751, x752, decide (at_ (dflt (T.arr (32) (T.int IntKind.u8))) x751 x752 = at_ (dflt (T.arr (32) (T.int IntKind.u8))) x755 x754), x754, x755))) else j780 (x751, x752, x753, x755)
noncomputable def p_dormouselaw16_KeySorts.b3 (k : Nat) (j790 : Unit → Option Bool) (rec787 : List (Vector Int (32)) × Int × List (Vector Int (32)) → Option Bool) (x748 : List (Vector Int (32))) (x749 : Int) (x750 : List (Vector Int (32))) : Option Bool :=
  bif (decide (x749 < (↑(List.length x748) : Int))) then joinC (fun (y : List (Vector Int (32)) × Int × List (Vector Int (32))) => p_dormouselaw16_KeySorts.j4 k rec787 y.1 y.2.1 y.2.2) fun (j785 : List (Vector Int (32)) × Int × List (Vector Int (32)) → Option Bool) => joinC (fun (y : List (Vector Int (32)) × Int × Bool × List (Vector Int (32))) => p_dormouselaw16_KeySorts.j5 k j785 y.1 y.2.1 y.2.2.1 y.2.2.2) fun (j780 : List (Vector Int (32)) × Int × Bool × List (Vector Int (32)) → Option Bool) => loopC (fun (r : List (Vector Int (32)) × Int × Bool × Int × List (Vector Int (32)) → Option Bool) y => p_dormouselaw16_KeySorts.b7 k j780 r y.1 y.2.1 y.2.2.1 y.2.2.2.1 y.2.2.2.2) k (x748, x749, Bool.false, (0 : Int), x750) else j790 ()
noncomputable def p_dormouselaw16_KeySorts.j1 (k : Nat) (x746 : List (Vector Int (32))) (x747 : List (Vector Int (32))) : Option Bool :=
  joinC (fun (y : Unit) => p_dormouselaw16_KeySorts.j2 k) fun (j790 : Unit → Option Bool) => loopC (fun (r : List (Vector Int (32)) × Int × List (Vector Int (32)) → Option Bool) y => p_dormouselaw16_KeySorts.b3 k j790 r y.1 y.2.1 y.2.2) k (x746, (0 : Int), x747)
noncomputable def p_dormouselaw16_KeySorts.j10 (k : Nat) (rec744 : List (Vector Int (32)) × Int × List (Vector Int (32)) → Option Bool) (x739 : List (Vector Int (32))) (x740 : Int) (x741 : List (Vector Int (32))) : Option Bool :=
  rec744 (x739, IntKind.wrap IntKind.i64 (x740 + (1 : Int)), x741)
noncomputable def p_dormouselaw16_KeySorts.j12 (k : Nat) (j742 : List (Vector Int (32)) × Int × List (Vector Int (32)) → Option Bool) (x731 : List (Vector Int (32))) (x732 : Int) (x733 : Bool) (x734 : List (Vector Int (32))) : Option Bool :=
  bif x733 then some Bool.false else j742 (x731, x732, x734)
noncomputable def p_dormouselaw16_KeySorts.j11 (k : Nat) (j742 : List (Vector Int (32)) × Int × List (Vector Int (32)) → Option Bool) (x717 : List (Vector Int (32))) (x718 : Int) (x719 : Bool) (x720 : List (Vector Int (32))) : Option Bool :=
  joinC (fun (y : List (Vector Int (32)) × Int × Bool × List (Vector Int (32))) => p_dormouselaw16_KeySorts.j12 k j742 y.1 y.2.1 y.2.2.1 y.2.2.2) fun (j735 : List (Vector Int (32)) × Int × Bool × List (Vector Int (32)) → Option Bool) => bif !x719 then j735 (x717, x718, Bool.true, x720) else bif (decide (x718 > (0 : Int))) then need ((0 : Int) ≤ IntKind.wrap IntKind.i64 (x718 - (1 : Int)) ∧ IntKind.wrap IntKind.i64 (x718 - (1 : Int)) < (↑(List.length x720) : Int)) (Option.bind (p_dormouseref16_Bytes k (at_ (dflt (T.arr (32) (T.int IntKind.u8))) x720 (IntKind.wrap IntKind.i64 (x718 - (1 : Int))))) fun t722 => need ((0 : Int) ≤ x718 ∧ x718 < (↑(List.length x720) : Int)) (Option.bind (p_dormouseref16_Bytes k (at_ (dflt (T.arr (32) (T.int IntKind.u8))) x720 x718)) fun t724 => bif (!Go.Op.bytesLess t722 t724) then j735 (x717, x718, Bool.true, x720) else bif (decide (x718 > (0 : Int))) then need ((0 : Int) ≤ IntKind.wrap IntKind.i64 (x718 - (1 : Int)) ∧ IntKind.wrap IntKind.i64 (x718 - (1 : Int)) < (↑(List.length x720) : Int)) (need ((0 : Int) ≤ x718 ∧ x718 < (↑(List.length x720) : Int)) (Option.bind (p_key_Less k (at_ (dflt (T.arr (32) (T.int IntKind.u8))) x720 (IntKind.wrap IntKind.i64 (x718 - (1 : Int)))) (at_ (dflt (T.arr (32) (T.int IntKind.u8))) x720 x718)) fun t727 => j735 (x717, x718, !t727, x720))) else j735 (x717, x718, Bool.false, x720))) else bif (decide (x718 > (0 : Int))) then need ((0 : Int) ≤ IntKind.wrap IntKind.i64 (x718 - (1 : Int)) ∧ IntKind.wrap IntKind.i64 (x718 - (1 : Int)) < (↑(List.length x720) : Int)) (need ((0 : Int) ≤ x718 ∧ x718 < (↑(List.length x720) : Int)) (Option.bind (p_key_Less k (at_ (dflt (T.arr (32) (T.int IntKind.u8))) x720 (IntKind.wrap IntKind.i64 (x718 - (1 : Int)))) (at_ (dflt (T.arr (32) (T.int IntKind.u8))) x720 x718)) fun t730 => j735 (x717, x718, !t730, x720))) else j735 (x717, x718, Bool.false, x720)
noncomputable def p_dormouselaw16_KeySorts.j14 (k : Nat) (rec715 : List (Vector Int (32)) × Int × Bool × Int × List (Vector Int (32)) → Option Bool) (x708 : List (Vector Int (32))) (x709 : Int) (x710 : Bool) (x711 : Int) (x712 : List (Vector Int (32))) : Option Bool :=
  rec715 (x708, x709, x710, IntKind.wrap IntKind.i64 (x711 + (1 : Int)), x712)
noncomputable def p_dormouselaw16_KeySorts.b13 (k : Nat) (j737 : List (Vector Int (32)) × Int × Bool × List (Vector Int (32)) → Option Bool) (rec715 : List (Vector Int (32)) × Int × Bool × Int × List (Vector Int (32)) → Option Bool) (x701 : List (Vector Int (32))) (x702 : Int) (x703 : Bool) (x704 : Int) (x705 : List (Vector Int (32))) : Option Bool :=
  bif (decide (x704 < (↑(List.length x701) : Int))) then joinC (fun (y : List (Vector Int (32)) × Int × Bool × Int × List (Vector Int (32))) => p_dormouselaw16_KeySorts.j14 k rec715 y.1 y.2.1 y.2.2.1 y.2.2.2.1 y.2.2.2.2) fun (j713 : List (Vector Int (32)) × Int × Bool × Int × List (Vector Int (32)) → Option Bool) => bif x703 then j713 (x701, x702, Bool.true, x704, x705) else need ((0 : Int) ≤ x704 ∧ x704 < (↑(List.length x701) : Int)) (need ((0 : Int) ≤ x702 ∧ x702 < (↑(List.length x705) : Int)) (j713 (x701, x702, decide (at_ (dflt (T.arr (32) (T.int IntKind.u8))) x701 x704 = at_ (dflt (T.arr (32) (T.int IntKind.u8))) x705 x702), x704, x705))) else j737 (x701, x702, x703, x705)
noncomputable def p_dormouselaw16_KeySorts.b9 (k : Nat) (j792 : List (Vector Int (32)) × List (Vector Int (32)) → Option Bool) (rec744 : List (Vector Int (32)) × Int × List (Vector Int (32)) → Option Bool) (x698 : List (Vector Int (32))) (x699 : Int) (x700 : List (Vector Int (32))) : Option Bool :=
  bif (decide (x699 < (↑(List.length x700) : Int))) then joinC (fun (y : List (Vector Int (32)) × Int × List (Vector Int (32))) => p_dormouselaw16_KeySorts.j10 k rec744 y.1 y.2.1 y.2.2) fun (j742 : List (Vector Int (32)) × Int × List (Vector Int (32)) → Option Bool) => joinC (fun (y : List (Vector Int (32)) × Int × Bool × List (Vector Int (32))) => p_dormouselaw16_KeySorts.j11 k j742 y.1 y.2.1 y.2.2.1 y.2.2.2) fun (j737 : List (Vector Int (32)) × Int × Bool × List (Vector Int (32)) → Option Bool) => loopC (fun (r : List (Vector Int (32)) × Int × Bool × Int × List (Vector Int (32)) → Option Bool) y => p_dormouselaw16_KeySorts.b13 k j737 r y.1 y.2.1 y.2.2.1 y.2.2.2.1 y.2.2.2.2) k (x698, x699, Bool.false, (0 : Int), x700) else j792 (x698, x700)
noncomputable def p_dormouselaw16_KeySorts.j0 (k : Nat) (x696 : List (Vector Int (32))) : Option Bool :=
  Option.bind (p_key_Sort k x696) fun t697 => joinC (fun (y : List (Vector Int (32)) × List (Vector Int (32))) => p_dormouselaw16_KeySorts.j1 k y.1 y.2) fun (j792 : List (Vector Int (32)) × List (Vector Int (32)) → Option Bool) => loopC (fun (r : List (Vector Int (32)) × Int × List (Vector Int (32)) → Option Bool) y => p_dormouselaw16_KeySorts.b9 k j792 r y.1 y.2.1 y.2.2) k (x696, (0 : Int), t697)
noncomputable def p_dormouselaw16_KeySorts (k : Nat) (x694 : List (Vector Int (32))) : Option Bool :=
  joinC (p_dormouselaw16_KeySorts.j0 k) fun (j794 : List (Vector Int (32)) → Option Bool) => bif (decide ((↑(List.length x694) : Int) > (40 : Int))) then need ((0 : Int) ≤ (0 : Int) ∧ (0 : Int) ≤ (40 : Int) ∧ (40 : Int) ≤ (↑(List.length x694) : Int)) (j794 (sub_ x694 (0 : Int) (40 : Int))) else j794 x694
noncomputable def e_dormouselaw16_KeySorts (k : Nat) : Entry := ⟨Ds.mk [Vd.one (Ld.im (T.sl (T.arr (32) (T.int IntKind.u8))))] [], Ds.mk [Vd.one (Ld.im T.bool)] [], fun x => p_dormouselaw16_KeySorts k x⟩
noncomputable def c_dormouselaw16_KeySorts (k : Nat) : Cx := ⟨Try.prog, [(11, e_key_Sort k), (12, e_dormouseref16_Bytes k), (13, e_key_Less k), (14, e_dormouselaw16_awake k)], [(3, Sd.mk [0] (Ds.mk [Vd.one (Ld.im (T.sl (T.arr (32) (T.int IntKind.u8))))] [])), (12, Sd.mk [0, 3, 4, 5] (Ds.mk [Vd.one (Ld.im (T.sl (T.arr (32) (T.int IntKind.u8)))), Vd.one (Ld.own (0)), Vd.one (Ld.im (T.int IntKind.i64)), Vd.one (Ld.im T.bool)] [Od.arr (25) (T.arr (32) (T.int IntKind.u8))])), (6, Sd.mk [0, 3, 4] (Ds.mk [Vd.one (Ld.im (T.sl (T.arr (32) (T.int IntKind.u8)))), Vd.one (Ld.own (0)), Vd.one (Ld.im (T.int IntKind.i64))] [Od.arr (25) (T.arr (32) (T.int IntKind.u8))])), (14, Sd.mk [0, 3] (Ds.mk [Vd.one (Ld.im (T.sl (T.arr (32) (T.int IntKind.u8)))), Vd.one (Ld.own (0))] [Od.arr (25) (T.arr (32) (T.int IntKind.u8))])), (22, Sd.mk [0, 3, 7, 8] (Ds.mk [Vd.one (Ld.im (T.sl (T.arr (32) (T.int IntKind.u8)))), Vd.one (Ld.own (0)), Vd.one (Ld.im (T.int IntKind.i64)), Vd.one (Ld.im T.bool)] [Od.arr (25) (T.arr (32) (T.int IntKind.u8))])), (16, Sd.mk [0, 3, 7] (Ds.mk [Vd.one (Ld.im (T.sl (T.arr (32) (T.int IntKind.u8)))), Vd.one (Ld.own (0)), Vd.one (Ld.im (T.int IntKind.i64))] [Od.arr (25) (T.arr (32) (T.int IntKind.u8))])), (24, Sd.mk [] (Ds.mk [] []))], [(11, Sd.mk [0, 3, 4, 5, 6] (Ds.mk [Vd.one (Ld.im (T.sl (T.arr (32) (T.int IntKind.u8)))), Vd.one (Ld.own (0)), Vd.one (Ld.im (T.int IntKind.i64)), Vd.one (Ld.im T.bool), Vd.one (Ld.im (T.int IntKind.i64))] [Od.arr (25) (T.arr (32) (T.int IntKind.u8))])), (12, Sd.mk [0, 3, 4, 78] (Ds.mk [Vd.one (Ld.im (T.sl (T.arr (32) (T.int IntKind.u8)))), Vd.one (Ld.own (0)), Vd.one (Ld.im (T.int IntKind.i64)), Vd.one (Ld.im T.bool)] [Od.arr (25) (T.arr (32) (T.int IntKind.u8))])), (21, Sd.mk [0, 3, 7, 8, 9] (Ds.mk [Vd.one (Ld.im (T.sl (T.arr (32) (T.int IntKind.u8)))), Vd.one (Ld.own (0)), Vd.one (Ld.im (T.int IntKind.i64)), Vd.one (Ld.im T.bool), Vd.one (Ld.im (T.int IntKind.i64))] [Od.arr (25) (T.arr (32) (T.int IntKind.u8))])), (22, Sd.mk [0, 3, 7, 115] (Ds.mk [Vd.one (Ld.im (T.sl (T.arr (32) (T.int IntKind.u8)))), Vd.one (Ld.own (0)), Vd.one (Ld.im (T.int IntKind.i64)), Vd.one (Ld.im T.bool)] [Od.arr (25) (T.arr (32) (T.int IntKind.u8))]))], [(5, Sd.mk [0, 3, 4] (Ds.mk [Vd.one (Ld.im (T.sl (T.arr (32) (T.int IntKind.u8)))), Vd.one (Ld.own (0)), Vd.one (Ld.im (T.int IntKind.i64))] [Od.arr (25) (T.arr (32) (T.int IntKind.u8))])), (9, Sd.mk [0, 3, 4, 5, 6] (Ds.mk [Vd.one (Ld.im (T.sl (T.arr (32) (T.int IntKind.u8)))), Vd.one (Ld.own (0)), Vd.one (Ld.im (T.int IntKind.i64)), Vd.one (Ld.im T.bool), Vd.one (Ld.im (T.int IntKind.i64))] [Od.arr (25) (T.arr (32) (T.int IntKind.u8))])), (15, Sd.mk [0, 3, 7] (Ds.mk [Vd.one (Ld.im (T.sl (T.arr (32) (T.int IntKind.u8)))), Vd.one (Ld.own (0)), Vd.one (Ld.im (T.int IntKind.i64))] [Od.arr (25) (T.arr (32) (T.int IntKind.u8))])), (19, Sd.mk [0, 3, 7, 8, 9] (Ds.mk [Vd.one (Ld.im (T.sl (T.arr (32) (T.int IntKind.u8)))), Vd.one (Ld.own (0)), Vd.one (Ld.im (T.int IntKind.i64)), Vd.one (Ld.im T.bool), Vd.one (Ld.im (T.int IntKind.i64))] [Od.arr (25) (T.arr (32) (T.int IntKind.u8))]))], [(11, ([(0, 2), (1, 2), (2, 2), (3, 2), (4, 2), (5, 1), (6, 2), (7, 2), (8, 2), (9, 1), (10, 2), (11, 2)], [(12, Bool.false)], [])), (12, ([(0, 2), (1, 2), (2, 2), (3, 2), (4, 2), (5, 2), (6, 2), (7, 2), (8, 2), (9, 2), (10, 1), (11, 0), (12, 2), (13, 2), (14, 2), (15, 1), (16, 0), (17, 2), (18, 2), (19, 2), (20, 2), (21, 2), (22, 2), (23, 2), (24, 2), (25, 2), (26, 2), (27, 2), (28, 2), (29, 1), (30, 2), (31, 2), (32, 2), (33, 1), (34, 0), (35, 2), (36, 2), (37, 2)], [], [])), (21, ([(0, 2), (1, 2), (2, 2), (3, 2), (4, 2), (5, 1), (6, 2), (7, 2), (8, 2), (9, 1), (10, 2), (11, 2)], [(12, Bool.false)], [])), (22, ([(0, 2), (1, 2), (2, 2), (3, 2), (4, 2), (5, 2), (6, 1), (7, 2), (8, 2), (9, 2), (10, 1), (11, 0), (12, 2)], [], []))], 0, 117, [(15, 3), (65, 2), (144, 0)], fun _ _ _ => none⟩
theorem q_dormouselaw16_KeySorts (k : Nat) (x : HL (e_dormouselaw16_KeySorts k).pre.ts) : runF (c_dormouselaw16_KeySorts k) k Try.f3 (e_dormouselaw16_KeySorts k).pre (e_dormouselaw16_KeySorts k).post x = (e_dormouselaw16_KeySorts k).fn x := by kernel_rfl
theorem s_dormouselaw16_KeySorts (k : Nat) : Entry.Sound Try.prog 3 (e_dormouselaw16_KeySorts k) := runF_sound (X := c_dormouselaw16_KeySorts k) (pre := (e_dormouselaw16_KeySorts k).pre) (post := (e_dormouselaw16_KeySorts k).post) (q := (e_dormouselaw16_KeySorts k).fn) ⟨(dOk_cons (s_key_Sort k) (dOk_cons (s_dormouseref16_Bytes k) (dOk_cons (s_key_Less k) (dOk_cons (s_dormouselaw16_awake k) dOk_nil)))), x_ext, x_mo⟩ Try.func3 (q_dormouselaw16_KeySorts k)
end
end Go.Dor
end

section
/- NUMBERS: what the bit operations of unsigned kinds come to, as natural numbers. Plain lemmas, no program. -/
namespace Go.Dor

theorem wrap_u8 (n : Int) : IntKind.wrap .u8 n = n % 256 := rfl
theorem wrap_u32 (n : Int) : IntKind.wrap .u32 n = n % 4294967296 := rfl
theorem wrap_u64 (n : Int) : IntKind.wrap .u64 n = n % 18446744073709551616 := rfl
theorem wrap_i64 {n : Int} (h : -9223372036854775808 ≤ n ∧ n < 9223372036854775808) : IntKind.wrap .i64 n = n := by
  unfold IntKind.wrap
  have e1 : (2 : Int) ^ IntKind.bits .i64 = 18446744073709551616 := rfl
  have e2 : (2 : Int) ^ (IntKind.bits .i64 - 1) = 9223372036854775808 := rfl
  have e3 : IntKind.signed .i64 = true := rfl
  simp only [e1, e2, e3, Bool.true_and, decide_eq_true_eq]
  split <;> omega

section
variable {k : IntKind} {a b : Nat}
theorem bits_nat (f : ∀ {n : Nat}, BitVec n → BitVec n → BitVec n) (hk : k.signed = false) : ibits f k (a : Int) (b : Int) = ((f (BitVec.ofNat k.bits a) (BitVec.ofNat k.bits b)).toNat : Int) := by
  unfold ibits IntKind.wrap
  simp only [hk, Bool.false_and, Bool.false_eq_true, if_false]
  have h := (f (BitVec.ofInt k.bits (a : Int)) (BitVec.ofInt k.bits (b : Int))).isLt
  rw [BitVec.ofInt_natCast, BitVec.ofInt_natCast] at h ⊢
  have e : ((2 : Int) ^ k.bits) = ((2 ^ k.bits : Nat) : Int) := by simp
  rw [e, ← Int.natCast_emod, Nat.mod_eq_of_lt h]
theorem and_nat (hk : k.signed = false) (ha : a < 2 ^ k.bits) (hb : b < 2 ^ k.bits) : iand k (a : Int) (b : Int) = ((a &&& b : Nat) : Int) := by
  unfold iand
  rw [bits_nat _ hk, BitVec.toNat_and, BitVec.toNat_ofNat, BitVec.toNat_ofNat, Nat.mod_eq_of_lt ha, Nat.mod_eq_of_lt hb]
theorem or_nat (hk : k.signed = false) (ha : a < 2 ^ k.bits) (hb : b < 2 ^ k.bits) : ior k (a : Int) (b : Int) = ((a ||| b : Nat) : Int) := by
  unfold ior
  rw [bits_nat _ hk, BitVec.toNat_or, BitVec.toNat_ofNat, BitVec.toNat_ofNat, Nat.mod_eq_of_lt ha, Nat.mod_eq_of_lt hb]
theorem xor_nat (hk : k.signed = false) (ha : a < 2 ^ k.bits) (hb : b < 2 ^ k.bits) : ixor k (a : Int) (b : Int) = ((a ^^^ b : Nat) : Int) := by
  unfold ixor
  rw [bits_nat _ hk, BitVec.toNat_xor, BitVec.toNat_ofNat, BitVec.toNat_ofNat, Nat.mod_eq_of_lt ha, Nat.mod_eq_of_lt hb]
end

theorem shr_nat {k : IntKind} {a n : Nat} (hn : n ≤ k.bits) : ishr k (a : Int) (n : Int) = ((a / 2 ^ n : Nat) : Int) := by
  unfold ishr
  rw [Int.toNat_natCast, Nat.min_eq_left hn]
  have e : ((2 : Int) ^ n) = ((2 ^ n : Nat) : Int) := by simp
  rw [e, Int.fdiv_eq_ediv_of_nonneg _ (Int.natCast_nonneg _)]
  rfl
theorem shl_nat {k : IntKind} {a n : Nat} (hk : k.signed = false) (hn : n ≤ k.bits) : ishl k (a : Int) (n : Int) = ((a * 2 ^ n % 2 ^ k.bits : Nat) : Int) := by
  unfold ishl IntKind.wrap
  rw [Int.toNat_natCast, Nat.min_eq_left hn]
  simp only [hk, Bool.false_and, Bool.false_eq_true, if_false]
  have e : ((2 : Int) ^ n) = ((2 ^ n : Nat) : Int) := by simp
  have e2 : ((2 : Int) ^ k.bits) = ((2 ^ k.bits : Nat) : Int) := by simp
  rw [e, e2, ← Int.natCast_mul, ← Int.natCast_emod]

/-- a word turned right -/
def rot (n x : Nat) : Nat := x / 2 ^ n + x % 2 ^ n * 2 ^ (32 - n)
theorem rot_lt {n x : Nat} (hn : n ≤ 32) (hx : x < 4294967296) : rot n x < 4294967296 := by
  unfold rot
  have h1 : 2 ^ n * 2 ^ (32 - n) = 4294967296 := by rw [← Nat.pow_add, Nat.add_sub_cancel' hn]
  have h2 : x / 2 ^ n < 2 ^ (32 - n) := Nat.div_lt_of_lt_mul (by rw [h1]; exact hx)
  have h3 : x % 2 ^ n < 2 ^ n := Nat.mod_lt _ (Nat.two_pow_pos n)
  have h4 : (x % 2 ^ n + 1) * 2 ^ (32 - n) ≤ 2 ^ n * 2 ^ (32 - n) := Nat.mul_le_mul_right _ h3
  rw [h1, Nat.add_mul] at h4
  omega
theorem or_add {a b n : Nat} (hb : b < 2 ^ n) : a * 2 ^ n ||| b = a * 2 ^ n + b := by
  have := Nat.two_pow_add_eq_or_of_lt hb a
  rw [Nat.mul_comm a, this]
/-- turned by shifts -/
theorem rot_or {n x : Nat} (hn : n ≤ 32) (hx : x < 4294967296) : (x * 2 ^ (32 - n) % 4294967296) ||| (x / 2 ^ n) = rot n x := by
  have h1 : 2 ^ n * 2 ^ (32 - n) = 4294967296 := by rw [← Nat.pow_add, Nat.add_sub_cancel' hn]
  have h2 : x / 2 ^ n < 2 ^ (32 - n) := Nat.div_lt_of_lt_mul (by rw [h1]; exact hx)
  have h3 : x * 2 ^ (32 - n) % 4294967296 = x % 2 ^ n * 2 ^ (32 - n) := by rw [← h1, Nat.mul_mod_mul_right]
  rw [h3, or_add h2, rot]; omega
/-- turned step by step -/
theorem rot_zero (x : Nat) : rot 0 x = x := by simp [rot]; omega
theorem rot_succ {n x : Nat} (hn : n < 32) : rot (n + 1) x = rot n x / 2 + rot n x % 2 * 2147483648 := by
  obtain ⟨m, hm⟩ : ∃ m, 32 - n = m + 1 := ⟨31 - n, by omega⟩
  have hm' : 32 - (n + 1) = m := by omega
  have h1 : 2 ^ n * 2 ^ m = 2147483648 := by rw [← Nat.pow_add]; have : n + m = 31 := by omega
                                             rw [this]
  unfold rot
  rw [hm, hm']
  have hA : x / 2 ^ (n + 1) = x / 2 ^ n / 2 := by rw [Nat.pow_succ, Nat.div_div_eq_div_mul]
  have hB : x % 2 ^ (n + 1) = x % 2 ^ n + 2 ^ n * (x / 2 ^ n % 2) := by rw [Nat.pow_succ, Nat.mod_mul]
  rw [hA, hB, Nat.pow_succ]
  generalize x / 2 ^ n = q
  generalize x % 2 ^ n = p
  have e1 : p * (2 ^ m * 2) = 2 * (p * 2 ^ m) := by rw [← Nat.mul_assoc, Nat.mul_comm]
  have e2 : (p + 2 ^ n * (q % 2)) * 2 ^ m = p * 2 ^ m + q % 2 * 2147483648 := by rw [Nat.add_mul, ← h1, Nat.mul_comm (2 ^ n) (q % 2), Nat.mul_assoc]
  rw [e1, e2]
  generalize p * 2 ^ m = s
  omega

/-- one of two, by a mask -/
theorem choose_nat {a b c : Nat} (ha : a < 4294967296) (hc : c < 4294967296) : (a &&& b) ^^^ ((4294967295 ^^^ a) &&& c) = (a &&& b) ||| ((4294967295 - a) &&& c) := by
  have h : 4294967295 ^^^ a = 4294967295 - a := by
    have h1 := BitVec.toNat_not (x := BitVec.ofNat 32 a)
    have h2 : (~~~ BitVec.ofNat 32 a) = BitVec.ofNat 32 4294967295 ^^^ BitVec.ofNat 32 a := by
      rw [show BitVec.ofNat 32 4294967295 = BitVec.allOnes 32 from rfl, BitVec.allOnes_xor]
    rw [h2, BitVec.toNat_xor, BitVec.toNat_ofNat, BitVec.toNat_ofNat, Nat.mod_eq_of_lt (by omega : a < 2 ^ 32)] at h1
    simpa using h1
  rw [← h]
  apply Nat.eq_of_testBit_eq
  intro i
  simp only [Nat.testBit_xor, Nat.testBit_and, Nat.testBit_or]
  by_cases hi : i < 32
  · have : Nat.testBit 4294967295 i = true := by
      have := Nat.testBit_two_pow_sub_one 32 i
      simp at this
      rw [this]; simpa using hi
    rw [this]
    cases a.testBit i <;> cases b.testBit i <;> cases c.testBit i <;> rfl
  · have hge : 2 ^ 32 ≤ 2 ^ i := Nat.pow_le_pow_right (by omega) (by omega)
    have h1 : a.testBit i = false := Nat.testBit_lt_two_pow (by omega)
    have h2 : c.testBit i = false := Nat.testBit_lt_two_pow (by omega)
    rw [h1, h2]; simp
theorem most_nat (a b c : Nat) : (a &&& b) ^^^ (a &&& c) ^^^ (b &&& c) = (a &&& b) ||| (a &&& c) ||| (b &&& c) := by
  apply Nat.eq_of_testBit_eq
  intro i
  simp only [Nat.testBit_xor, Nat.testBit_and, Nat.testBit_or]
  cases a.testBit i <;> cases b.testBit i <;> cases c.testBit i <;> rfl

end Go.Dor
namespace Go.Dor
/-- a loop that goes n rounds -/
theorem loop_count {α β : Type} {body : (α → Option β) → α → Option β} {res : Option β} : ∀ (n k : Nat) (s : Nat → α), n < k → (∀ i, i < n → ∀ rec, body rec (s i) = rec (s (i + 1))) → (∀ rec, body rec (s n) = res) → loopC body k (s 0) = res
  | 0, k + 1, s, _, _, hl => hl _
  | n + 1, k + 1, s, hk, hs, hl => by
    show body (loopC body k) (s 0) = res
    rw [hs 0 (by omega)]
    exact loop_count n k (fun i => s (i + 1)) (by omega) (fun i hi rec => hs (i + 1) (by omega) rec) hl
end Go.Dor
end

section
/- KEYS, EACH ONCE: slices.Compact over a row of keys; the bytes of a key. -/
set_option linter.unusedVariables false
set_option linter.unusedSimpArgs false
namespace Go.Dor
open Go.Proofs Go.Sort

theorem need_yesF {α : Type} {c : Prop} [Decidable c] {x : Option α} (h : c) : need c x = x := if_pos h
theorem bothC_same {R : Type} (a : Option R) : bothC a a = a := if_pos rfl
theorem at_getF {α : Type} {d : α} {l : List α} {i : Nat} (h : i < l.length) : at_ d l (i : Int) = l[i] := by simp [at_, h]
theorem sub_takeF {α : Type} (l : List α) (n : Nat) : sub_ l (0 : Int) (n : Int) = l.take n := by simp [sub_]

/-- what stays of the first j: the first, and each that is not as the one ahead -/
def kp (x : List Ky) : Nat → List Ky
  | 0 => []
  | j + 1 => kp x j ++ (if j = 0 ∨ x[j]? ≠ x[j - 1]? then x[j]?.toList else [])
theorem kp_keep {x : List Ky} {j : Nat} (hj : j < x.length) (h : j = 0 ∨ x[j]? ≠ x[j - 1]?) : kp x (j + 1) = kp x j ++ [x[j]] := by
  show kp x j ++ (if j = 0 ∨ x[j]? ≠ x[j - 1]? then x[j]?.toList else []) = _
  rw [if_pos h, List.getElem?_eq_getElem hj]; rfl
theorem kp_drop {x : List Ky} {j : Nat} (h : ¬ (j = 0 ∨ x[j]? ≠ x[j - 1]?)) : kp x (j + 1) = kp x j := by
  show kp x j ++ (if j = 0 ∨ x[j]? ≠ x[j - 1]? then x[j]?.toList else []) = _
  rw [if_neg h, List.append_nil]
theorem kp_len (x : List Ky) : ∀ j, (kp x j).length ≤ j
  | 0 => Nat.le_refl _
  | j + 1 => by
    have := kp_len x j
    unfold kp
    rw [List.length_append]
    split
    · cases x[j]? <;> simp <;> omega
    · simp; omega
abbrev dK : Ky := dflt (T.arr (32) (T.int IntKind.u8))
theorem compact_in {x : List Ky} {k : Nat} (hb : x.length ≤ 40) (hk : 1 ≤ k) : ∀ (n fuel q kk : Nat) (s : List Ky), x.length - (k + q) = n → n < fuel → 1 ≤ q → k + q ≤ x.length → s.length = x.length → s.take kk = kp x (k + q) → kk = (kp x (k + q)).length → kk ≤ k + q - 1 → s.drop (k + q - 1) = x.drop (k + q - 1) →
    loopC (fun (r : Int × Int × Int × List (Vector Int (32)) → Option (List (Vector Int (32)))) y => p_slices_Compact_api_Key_api_Key.b4 1000 (fun (y : Int × List (Vector Int (32))) => p_slices_Compact_api_Key_api_Key.j3 1000 y.1 y.2) r y.1 y.2.1 y.2.2.1 y.2.2.2) fuel ((kk : Int), (k : Int), (q : Int), s) = some (kp x x.length) := by
  intro n
  induction n with
  | zero =>
    intro fuel q kk s h1 h2 h3 h4 h5 h6 h7 h8 h9
    obtain ⟨fuel, rfl⟩ : ∃ f, fuel = f + 1 := ⟨fuel - 1, by omega⟩
    have e : k + q = x.length := by omega
    rw [loopC_s]
    dsimp only
    unfold p_slices_Compact_api_Key_api_Key.b4 p_slices_Compact_api_Key_api_Key.j3
    have hl : (List.take kk s ++ List.replicate (s.length - kk) (dflt (T.arr (32) (T.int IntKind.u8)))).length = s.length := by rw [List.length_append, List.length_take, List.length_replicate]; omega
    rw [decide_eq_false (by omega), cond_false]
    dsimp only
    rw [Int.toNat_natCast, need_yesF ⟨by omega, by omega⟩, need_yesF ⟨by omega, by omega, by rw [hl]; omega⟩]
    have hl2 : (s.take kk).length = kk := by rw [List.length_take]; omega
    rw [List.take_append_of_le_length (by omega), List.take_of_length_le (by omega), h6, e]
  | succ n ih =>
    intro fuel q kk s h1 h2 h3 h4 h5 h6 h7 h8 h9
    obtain ⟨fuel, rfl⟩ : ∃ f, fuel = f + 1 := ⟨fuel - 1, by omega⟩
    have hj : k + q < x.length := by omega
    have hget : ∀ i, k + q - 1 ≤ i → (h : i < x.length) → s[i]? = x[i]? := fun i hi h => by
      have a1 := congrArg (fun l : List Ky => l[i - (k + q - 1)]?) h9
      simp only [List.getElem?_drop] at a1
      rw [show k + q - 1 + (i - (k + q - 1)) = i by omega] at a1
      exact a1
    have g1 : s[k + q]'(by omega) = x[k + q] := by
      have := hget (k + q) (by omega) hj
      rw [List.getElem?_eq_getElem (by omega), List.getElem?_eq_getElem hj] at this
      exact Option.some.inj this
    have g2 : s[k + q - 1]'(by omega) = x[k + q - 1]'(by omega) := by
      have := hget (k + q - 1) (by omega) (by omega)
      rw [List.getElem?_eq_getElem (by omega), List.getElem?_eq_getElem (by omega)] at this
      exact Option.some.inj this
    have h9' : s.drop (k + (q + 1) - 1) = x.drop (k + (q + 1) - 1) := by
      have a1 := congrArg (List.drop 1) h9
      rw [List.drop_drop, List.drop_drop] at a1
      have e : k + q - 1 + 1 = k + (q + 1) - 1 := by omega
      rw [e] at a1
      exact a1
    have ih0 := ih fuel (q + 1) kk s (by omega) (by omega) (by omega) (by omega) h5
    have ih1 := ih fuel (q + 1) (kk + 1) (s.set kk x[k + q]) (by omega) (by omega) (by omega) (by omega) (by rw [List.length_set]; exact h5)
    rw [loopC_s]
    dsimp only
    generalize loopC (fun (r : Int × Int × Int × List (Vector Int (32)) → Option (List (Vector Int (32)))) (y : Int × Int × Int × List (Vector Int (32))) => p_slices_Compact_api_Key_api_Key.b4 1000 (fun (y : Int × List (Vector Int (32))) => p_slices_Compact_api_Key_api_Key.j3 1000 y.1 y.2) r y.1 y.2.1 y.2.2.1 y.2.2.2) fuel = rec at ih0 ih1 ⊢
    unfold p_slices_Compact_api_Key_api_Key.b4 p_slices_Compact_api_Key_api_Key.j5 joinC
    dsimp only
    have ew : IntKind.wrap .i64 ((q : Int) + 1) = ((q + 1 : Nat) : Int) := by rw [wrap_i64 (by omega)]; omega
    have ew2 : IntKind.wrap .i64 ((kk : Int) + 1) = ((kk + 1 : Nat) : Int) := by rw [wrap_i64 (by omega)]; omega
    have ew3 : IntKind.wrap .i64 ((q : Int) - 1) = ((q - 1 : Nat) : Int) := by rw [wrap_i64 (by omega)]; omega
    have ea : (k : Int) + (q : Int) = ((k + q : Nat) : Int) := by omega
    have eb : (k : Int) + ((q - 1 : Nat) : Int) = ((k + q - 1 : Nat) : Int) := by omega
    rw [decide_eq_true (by omega), cond_true, ew, ew2, ew3, need_yesF ⟨by omega, by omega⟩, need_yesF ⟨by omega, by omega⟩, need_yesF ⟨by omega, by omega⟩, ea, eb, at_getF (by omega), at_getF (by omega), g1, g2]
    by_cases he : x[k + q] = x[k + q - 1]'(by omega)
    · have hnk : ¬ (k + q = 0 ∨ x[k + q]? ≠ x[k + q - 1]?) := by
        rintro (h | h)
        · omega
        · exact h (by rw [List.getElem?_eq_getElem hj, List.getElem?_eq_getElem (by omega), he])
      have hkp := kp_drop hnk
      rw [decide_eq_true he]
      simp only [Bool.not_true, cond_false]
      have e3 : k + (q + 1) = k + q + 1 := by omega
      exact ih0 (by rw [e3, hkp]; exact h6) (by rw [e3, hkp]; exact h7) (by omega) h9'
    · have hk2 : k + q = 0 ∨ x[k + q]? ≠ x[k + q - 1]? := .inr (by rw [List.getElem?_eq_getElem hj, List.getElem?_eq_getElem (by omega)]; exact fun h => he (Option.some.inj h))
      have hkp := kp_keep hj hk2
      rw [decide_eq_false he]
      simp only [Bool.not_false, cond_true]
      rw [need_yesF ⟨by omega, by omega⟩]
      have e3 : k + (q + 1) = k + q + 1 := by omega
      show rec (((kk + 1 : Nat) : Int), (k : Int), ((q + 1 : Nat) : Int), s.set (kk : Int).toNat x[k + q]) = _
      rw [Int.toNat_natCast]
      refine ih1 ?_ (by rw [e3, hkp, List.length_append, ← h7]; rfl) (by omega) ?_
      · rw [e3, hkp, ← h6, List.take_succ_eq_append_getElem (by rw [List.length_set]; omega), List.take_set_of_le (Nat.le_refl kk), List.getElem_set_self]
      · rw [List.drop_set_of_lt (by omega)]
        exact h9'
theorem compact_out {x : List Ky} (hb : x.length ≤ 40) : ∀ (n fuel k : Nat), x.length - k = n → n < fuel → 1 ≤ k → k ≤ x.length → kp x k = x.take k →
    loopC (fun (r : Int × List (Vector Int (32)) → Option (List (Vector Int (32)))) y => p_slices_Compact_api_Key_api_Key.b1 1000 (p_slices_Compact_api_Key_api_Key.j0 1000) r y.1 y.2) fuel ((k : Int), x) = some (kp x x.length) := by
  intro n
  induction n with
  | zero =>
    intro fuel k h1 h2 h3 h4 h5
    obtain ⟨fuel, rfl⟩ : ∃ f, fuel = f + 1 := ⟨fuel - 1, by omega⟩
    have e : k = x.length := by omega
    subst e
    rw [loopC_s]
    dsimp only
    unfold p_slices_Compact_api_Key_api_Key.b1 p_slices_Compact_api_Key_api_Key.j0
    rw [decide_eq_false (Int.lt_irrefl _), cond_false, h5, List.take_length]
  | succ n ih =>
    intro fuel k h1 h2 h3 h4 h5
    obtain ⟨fuel, rfl⟩ : ∃ f, fuel = f + 1 := ⟨fuel - 1, by omega⟩
    have hj : k < x.length := by omega
    have ih' := ih fuel (k + 1) (by omega) (by omega) (by omega) (by omega)
    rw [loopC_s]
    dsimp only
    generalize loopC (fun (r : Int × List (Vector Int (32)) → Option (List (Vector Int (32)))) (y : Int × List (Vector Int (32))) => p_slices_Compact_api_Key_api_Key.b1 1000 (p_slices_Compact_api_Key_api_Key.j0 1000) r y.1 y.2) fuel = rec at ih' ⊢
    unfold p_slices_Compact_api_Key_api_Key.b1 p_slices_Compact_api_Key_api_Key.j2 joinC
    dsimp only
    have ew : IntKind.wrap .i64 ((k : Int) + 1) = ((k + 1 : Nat) : Int) := by rw [wrap_i64 (by omega)]; omega
    have ew3 : IntKind.wrap .i64 ((k : Int) - 1) = ((k - 1 : Nat) : Int) := by rw [wrap_i64 (by omega)]; omega
    rw [decide_eq_true (by omega), cond_true, ew, ew3, need_yesF ⟨by omega, by omega⟩, need_yesF ⟨by omega, by omega⟩, at_getF hj, at_getF (by omega)]
    by_cases he : x[k] = x[k - 1]'(by omega)
    · have hnk : ¬ (k = 0 ∨ x[k]? ≠ x[k - 1]?) := by
        rintro (h | h)
        · omega
        · exact h (by rw [List.getElem?_eq_getElem hj, List.getElem?_eq_getElem (by omega), he])
      have hkp := kp_drop hnk
      rw [decide_eq_true he, cond_true, need_yesF ⟨by omega, by omega⟩]
      have hl : (kp x k).length = k := by rw [h5, List.length_take]; omega
      exact compact_in hb h3 (x.length - (k + 1)) 1000 1 k x rfl (by omega) (by omega) (by omega) rfl (by rw [hkp, h5]) (by rw [hkp, hl]) (by omega) rfl
    · have hk2 : k = 0 ∨ x[k]? ≠ x[k - 1]? := .inr (by rw [List.getElem?_eq_getElem hj, List.getElem?_eq_getElem (by omega)]; exact fun h => he (Option.some.inj h))
      rw [decide_eq_false he, cond_false]
      refine ih' ?_
      rw [kp_keep hj hk2, h5, List.take_succ_eq_append_getElem hj]
theorem compact_eq {x : List Ky} (hb : x.length ≤ 40) : p_slices_Compact_api_Key_api_Key 1000 x = some (kp x x.length) := by
  unfold p_slices_Compact_api_Key_api_Key joinC
  have h1 : 1 ≤ x.length → kp x 1 = x.take 1 := fun h => by
    rw [kp_keep (j := 0) (by omega) (.inl rfl), List.take_succ_eq_append_getElem (by omega)]; rfl
  by_cases h : x.length < 2
  · rw [decide_eq_true (by omega), cond_true]
    rcases Nat.eq_zero_or_pos x.length with h0 | h0
    · rw [h0, List.eq_nil_of_length_eq_zero h0]; rfl
    · have e : x.length = 1 := by omega
      have := h1 (by omega)
      rw [e, this, List.take_of_length_le (by omega)]
  · rw [decide_eq_false (by omega), cond_false]
    exact compact_out hb (x.length - 1) 1000 1 rfl (by omega) (Nat.le_refl _) (by omega) (h1 (by omega))
theorem cloneK_eq {x : List Ky} (hb : x.length ≤ 40) : p_slices_Clone_api_Key_api_Key x = some x := by
  unfold p_slices_Clone_api_Key_api_Key joinC p_slices_Clone_api_Key_api_Key.j0
  cases x with
  | nil =>
    have : need ((0 + List.length ([] : List Ky)) * 32 ≤ (140737488355328 : Nat)) (some (([] : List Ky) ++ [])) = some [] := need_yesF (by simp)
    simp only [List.isEmpty_nil, cond_true, cond_false, this]
    exact bothC_same _
  | cons a l =>
    simp only [List.isEmpty_cons, cond_false]
    exact need_yesF (by simp only [List.length_cons] at hb ⊢; omega)

/-! ### what is in it, and that it rises -/
theorem kp_mem {x : List Ky} {y : Ky} : ∀ j, j ≤ x.length → (y ∈ kp x j ↔ y ∈ x.take j)
  | 0, _ => by simp [kp]
  | j + 1, h => by
    have ih := kp_mem (x := x) (y := y) j (by omega)
    rw [List.take_succ_eq_append_getElem (by omega : j < x.length), List.mem_append]
    by_cases hk : j = 0 ∨ x[j]? ≠ x[j - 1]?
    · rw [kp_keep (by omega) hk, List.mem_append, ih]
    · rw [kp_drop hk, ih]
      have h0 : j ≠ 0 := fun q => hk (.inl q)
      have h1 : x[j]? = x[j - 1]? := Classical.byContradiction fun q => hk (.inr q)
      rw [List.getElem?_eq_getElem (by omega), List.getElem?_eq_getElem (by omega)] at h1
      have h1 := Option.some.inj h1
      constructor
      · exact .inl
      · rintro (q | q)
        · exact q
        · rw [List.mem_singleton.1 q, h1]
          exact List.mem_take_iff_getElem.2 ⟨j - 1, by omega, rfl⟩
theorem kp_rise {x : List Ky} (hs : x.Pairwise fun a b => lexB b.toList a.toList = false) : ∀ j, j ≤ x.length → (kp x j).Pairwise fun a b => lexB a.toList b.toList = true
  | 0, _ => List.Pairwise.nil
  | j + 1, h => by
    have ih := kp_rise hs j (by omega)
    by_cases hk : j = 0 ∨ x[j]? ≠ x[j - 1]?
    · rw [kp_keep (by omega) hk, List.pairwise_append]
      refine ⟨ih, List.pairwise_singleton _ _, fun a ha b hb => ?_⟩
      rw [List.mem_singleton.1 hb]
      have ha := (kp_mem j (by omega)).1 ha
      obtain ⟨i, hi, rfl⟩ := List.mem_take_iff_getElem.1 ha
      have h0 : j ≠ 0 := by omega
      have hne : x[j]? ≠ x[j - 1]? := hk.resolve_left h0
      rw [List.getElem?_eq_getElem (by omega), List.getElem?_eq_getElem (by omega)] at hne
      have hp := List.pairwise_iff_getElem.1 hs
      have h1 := hp (j - 1) j (by omega) (by omega) (by omega)
      have h2 : lexB (x[j - 1]'(by omega)).toList (x[j]'(by omega)).toList = true := by
        cases q : lexB (x[j - 1]'(by omega)).toList (x[j]'(by omega)).toList
        · have := lexB_total h1 q
          exact absurd (congrArg some (Vector.toArray_inj.1 (Array.toList_inj.1 this))) hne
        · rfl
      by_cases hij : i = j - 1
      · subst hij; exact h2
      · have h3 := hp i (j - 1) (by omega) (by omega) (by omega)
        cases q : lexB (x[i]'(by omega)).toList (x[j]'(by omega)).toList
        · cases q2 : lexB (x[i]'(by omega)).toList (x[j - 1]'(by omega)).toList
          · have := lexB_total h3 q2
            rw [← this] at q
            rw [h2] at q; cases q
          · rw [lexB_trans q2 h2] at q; cases q
        · rfl
    · rw [kp_drop hk]
      exact ih
/-- a row of keys sorted, each once -/
noncomputable def ks (x : List Ky) : List Ky := kp (sortL (t := .arr 32 (.int .u8)) cfK x) (sortL (t := .arr 32 (.int .u8)) cfK x).length
theorem keySort_eq {x : List Ky} (hb : x.length ≤ 40) : p_key_Sort 1000 x = some (ks x) := by
  unfold p_key_Sort p_sort_58 ks
  have hl := sortL_len (t := .arr 32 (.int .u8)) swoK x
  rw [cloneK_eq hb, Option.bind_some, need_yesF (by omega), Option.bind_some, compact_eq (by rw [hl]; exact hb)]
  rfl
theorem ks_mem {x : List Ky} {y : Ky} : y ∈ ks x ↔ y ∈ x := by
  unfold ks
  rw [kp_mem _ (Nat.le_refl _), List.take_length]
  exact (sortL_perm (t := .arr 32 (.int .u8)) swoK x).mem_iff
theorem ks_rise (x : List Ky) : (ks x).Pairwise fun a b => lexB a.toList b.toList = true := by
  unfold ks
  refine kp_rise ?_ _ (Nat.le_refl _)
  refine (sortL_sorted (t := .arr 32 (.int .u8)) swoK x).imp fun {a b} h => ?_
  have := ltOf_K b a
  unfold ltOf at this
  rw [← this]
  exact decide_eq_false h
theorem ks_len (x : List Ky) : (ks x).length ≤ x.length := by
  have h1 := kp_len (sortL (t := .arr 32 (.int .u8)) cfK x) (sortL (t := .arr 32 (.int .u8)) cfK x).length
  have h2 := sortL_len (t := .arr 32 (.int .u8)) swoK x
  unfold ks
  omega
end Go.Dor
end

section
/- KeySorts, BEHIND ITS WALK. -/
set_option linter.unusedVariables false
set_option linter.unusedSimpArgs false
namespace Go.Dor
open Go.Proofs

set_option maxRecDepth 100000 in
theorem awake16 : p_dormouselaw16_awake 1000 = some true := by kernel_rfl
theorem less_eq (x y : Ky) : p_key_Less 1000 x y = some (lexB x.toList y.toList) := by
  unfold p_key_Less
  rw [sub_all, sub_all, compare_eq (by simp), Option.bind_some, cmpL_lex]
theorem keyBytes_eq (x : Ky) : p_dormouseref16_Bytes 1000 x = some (bytesOf x.toList) := by
  unfold p_dormouseref16_Bytes joinC
  have hl : x.toList.length = 32 := by simp
  have hb : ∀ l : List Int, (bytesOf l).length = l.length := fun l => by simp [bytesOf]
  refine loop_count (body := fun (r : List UInt8 × Int × Vector Int (32) → Option (List UInt8)) y => p_dormouseref16_Bytes.b1 1000 (p_dormouseref16_Bytes.j0 1000) r y.1 y.2.1 y.2.2) 32 1000 (fun i => (bytesOf (x.toList.take i), (i : Int), x)) (by omega) (fun i hi rec => ?_) (fun rec => ?_)
  · dsimp only
    unfold p_dormouseref16_Bytes.b1
    have ew : IntKind.wrap .i64 ((i : Int) + 1) = ((i + 1 : Nat) : Int) := by rw [wrap_i64 (by omega)]; omega
    have hg : at_ (dflt (T.int IntKind.u8)) x.toList (i : Int) = x.toList[i]'(by omega) := at_getF (by omega)
    rw [decide_eq_true (by omega), cond_true, need_yesF ⟨by omega, by omega⟩, need_yesF (by rw [hb, hb, List.length_take]; simp; omega), hg, ew, List.take_succ_eq_append_getElem (by omega : i < x.toList.length)]
    simp [bytesOf]
  · dsimp only
    unfold p_dormouseref16_Bytes.b1 p_dormouseref16_Bytes.j0
    have : x.toList.take 32 = x.toList := List.take_of_length_le (by omega)
    rw [decide_eq_false (by decide), cond_false, this]
def Byt (l : List Int) : Prop := ∀ n ∈ l, 0 ≤ n ∧ n < 256
theorem bytes_less : ∀ {a b : List Int}, Byt a → Byt b → lexB a b = true → Op.bytesLess (bytesOf a) (bytesOf b) = true
  | _, [], _, _, h => by
    rename_i a _ _
    cases a <;> simp [lexB] at h
  | [], _ :: _, _, _, _ => rfl
  | m :: a, n :: b, ha, hb, h => by
    rw [lexB_cons] at h
    have hm := ha m (by simp)
    have hn := hb n (by simp)
    have ha' : Byt a := fun z hz => ha z (by simp [hz])
    have hb' : Byt b := fun z hz => hb z (by simp [hz])
    show (decide (UInt8.ofNat m.toNat < UInt8.ofNat n.toNat) || (UInt8.ofNat m.toNat == UInt8.ofNat n.toNat && Op.bytesLess (bytesOf a) (bytesOf b))) = true
    rcases h with h | ⟨rfl, h⟩
    · have : UInt8.ofNat m.toNat < UInt8.ofNat n.toNat := by
        rw [UInt8.lt_iff_toNat_lt, UInt8.toNat_ofNat', UInt8.toNat_ofNat']
        omega
      rw [decide_eq_true this]; rfl
    · rw [bytes_less ha' hb' h]
      simp
theorem any_take {l : List Ky} {p : Ky → Bool} {i : Nat} (hi : i < l.length) : (l.take (i + 1)).any p = ((l.take i).any p || p l[i]) := by
  rw [List.take_succ_eq_append_getElem hi, List.any_append]
  simp
theorem hold1 {l s : List Ky} {i : Nat} (hl : l.length ≤ 40) (hs : s.length ≤ 40) (hi : i < s.length) (j : List Ky × Int × Bool × List Ky → Option Bool) :
    loopC (fun (r : List (Vector Int (32)) × Int × Bool × Int × List (Vector Int (32)) → Option Bool) y => p_dormouselaw16_KeySorts.b13 1000 j r y.1 y.2.1 y.2.2.1 y.2.2.2.1 y.2.2.2.2) 1000 (l, (i : Int), false, (0 : Int), s) = j (l, (i : Int), l.any (fun y => decide (y = s[i])), s) := by
  refine loop_count (body := fun (r : List (Vector Int (32)) × Int × Bool × Int × List (Vector Int (32)) → Option Bool) y => p_dormouselaw16_KeySorts.b13 1000 j r y.1 y.2.1 y.2.2.1 y.2.2.2.1 y.2.2.2.2) l.length 1000 (fun k => (l, (i : Int), (l.take k).any (fun y => decide (y = s[i])), (k : Int), s)) (by omega) (fun k hk rec => ?_) (fun rec => ?_)
  · dsimp only
    unfold p_dormouselaw16_KeySorts.b13 p_dormouselaw16_KeySorts.j14 joinC
    dsimp only
    have ew : IntKind.wrap .i64 ((k : Int) + 1) = ((k + 1 : Nat) : Int) := by rw [wrap_i64 (by omega)]; omega
    rw [decide_eq_true (by omega), cond_true, ew, any_take hk, need_yesF ⟨by omega, by omega⟩, need_yesF ⟨by omega, by omega⟩, at_getF hk, at_getF hi]
    cases (l.take k).any (fun y => decide (y = s[i])) <;> rfl
  · dsimp only
    unfold p_dormouselaw16_KeySorts.b13
    rw [decide_eq_false (by omega), cond_false, List.take_length]
theorem hold2 {l s : List Ky} {i : Nat} (hl : l.length ≤ 40) (hs : s.length ≤ 40) (hi : i < l.length) (j : List Ky × Int × Bool × List Ky → Option Bool) :
    loopC (fun (r : List (Vector Int (32)) × Int × Bool × Int × List (Vector Int (32)) → Option Bool) y => p_dormouselaw16_KeySorts.b7 1000 j r y.1 y.2.1 y.2.2.1 y.2.2.2.1 y.2.2.2.2) 1000 (l, (i : Int), false, (0 : Int), s) = j (l, (i : Int), s.any (fun y => decide (l[i] = y)), s) := by
  refine loop_count (body := fun (r : List (Vector Int (32)) × Int × Bool × Int × List (Vector Int (32)) → Option Bool) y => p_dormouselaw16_KeySorts.b7 1000 j r y.1 y.2.1 y.2.2.1 y.2.2.2.1 y.2.2.2.2) s.length 1000 (fun k => (l, (i : Int), (s.take k).any (fun y => decide (l[i] = y)), (k : Int), s)) (by omega) (fun k hk rec => ?_) (fun rec => ?_)
  · dsimp only
    unfold p_dormouselaw16_KeySorts.b7 p_dormouselaw16_KeySorts.j8 joinC
    dsimp only
    have ew : IntKind.wrap .i64 ((k : Int) + 1) = ((k + 1 : Nat) : Int) := by rw [wrap_i64 (by omega)]; omega
    rw [decide_eq_true (by omega), cond_true, ew, any_take hk, need_yesF ⟨by omega, by omega⟩, need_yesF ⟨by omega, by omega⟩, at_getF hi, at_getF hk]
    cases (s.take k).any (fun y => decide (l[i] = y)) <;> rfl
  · dsimp only
    unfold p_dormouselaw16_KeySorts.b7
    rw [decide_eq_false (by omega), cond_false, List.take_length]
theorem keys_j1 {l s : List Ky} (hl : l.length ≤ 40) (hs : s.length ≤ 40) (hm : ∀ y ∈ l, y ∈ s) : p_dormouselaw16_KeySorts.j1 1000 l s = some true := by
  unfold p_dormouselaw16_KeySorts.j1 joinC
  refine loop_count (body := fun (r : List (Vector Int (32)) × Int × List (Vector Int (32)) → Option Bool) y => p_dormouselaw16_KeySorts.b3 1000 (fun (y : Unit) => p_dormouselaw16_KeySorts.j2 1000) r y.1 y.2.1 y.2.2) l.length 1000 (fun i => (l, (i : Int), s)) (by omega) (fun i hi rec => ?_) (fun rec => ?_)
  · dsimp only
    unfold p_dormouselaw16_KeySorts.b3 joinC
    have ew : IntKind.wrap .i64 ((i : Int) + 1) = ((i + 1 : Nat) : Int) := by rw [wrap_i64 (by omega)]; omega
    have ha : s.any (fun y => decide (l[i] = y)) = true := List.any_eq_true.2 ⟨l[i], hm _ (List.getElem_mem hi), decide_eq_true rfl⟩
    dsimp only
    rw [decide_eq_true (by omega), cond_true, hold2 hl hs hi, ha]
    unfold p_dormouselaw16_KeySorts.j5 p_dormouselaw16_KeySorts.j6 p_dormouselaw16_KeySorts.j4 joinC
    dsimp only
    rw [need_yesF ⟨by omega, by omega⟩, need_yesF ⟨by omega, by omega⟩, at_getF hi, less_eq, lexB_irrefl, ew]
    rfl
  · dsimp only
    unfold p_dormouselaw16_KeySorts.b3 p_dormouselaw16_KeySorts.j2
    rw [decide_eq_false (by omega), cond_false, awake16]
    rfl
theorem keys_j0 {l : List Ky} (hl : l.length ≤ 40) (hb : ∀ y ∈ l, Byt y.toList) : p_dormouselaw16_KeySorts.j0 1000 l = some true := by
  unfold p_dormouselaw16_KeySorts.j0 joinC
  rw [keySort_eq hl, Option.bind_some]
  have hm : ∀ y, y ∈ ks l ↔ y ∈ l := fun y => ks_mem
  have hr := ks_rise l
  have hsl : (ks l).length ≤ 40 := Nat.le_trans (ks_len l) hl
  generalize ks l = s at *
  refine loop_count (body := fun (r : List (Vector Int (32)) × Int × List (Vector Int (32)) → Option Bool) y => p_dormouselaw16_KeySorts.b9 1000 (fun (y : List (Vector Int (32)) × List (Vector Int (32))) => p_dormouselaw16_KeySorts.j1 1000 y.1 y.2) r y.1 y.2.1 y.2.2) s.length 1000 (fun i => (l, (i : Int), s)) (by omega) (fun i hi rec => ?_) (fun rec => ?_)
  · dsimp only
    unfold p_dormouselaw16_KeySorts.b9 joinC
    have ew : IntKind.wrap .i64 ((i : Int) + 1) = ((i + 1 : Nat) : Int) := by rw [wrap_i64 (by omega)]; omega
    have ha : l.any (fun y => decide (y = s[i])) = true := List.any_eq_true.2 ⟨s[i], (hm _).1 (List.getElem_mem hi), decide_eq_true rfl⟩
    dsimp only
    rw [decide_eq_true (by omega), cond_true, hold1 hl hsl hi, ha]
    unfold p_dormouselaw16_KeySorts.j11 p_dormouselaw16_KeySorts.j12 p_dormouselaw16_KeySorts.j10 joinC
    dsimp only
    rw [ew]
    by_cases h0 : i = 0
    · subst h0
      rw [decide_eq_false (show ¬ (((0 : Nat) : Int) > 0) by omega)]
      rfl
    · have ew3 : IntKind.wrap .i64 ((i : Int) - 1) = ((i - 1 : Nat) : Int) := by rw [wrap_i64 (by omega)]; omega
      have hlt := List.pairwise_iff_getElem.1 hr (i - 1) i (by omega) hi (by omega)
      have b1 : Byt (s[i - 1]'(by omega)).toList := hb _ ((hm _).1 (List.getElem_mem _))
      have b2 : Byt (s[i]'hi).toList := hb _ ((hm _).1 (List.getElem_mem _))
      have hbl := bytes_less b1 b2 hlt
      rw [decide_eq_true (show ((i : Int) > 0) by omega), ew3]
      simp only [Bool.not_true, cond_false, cond_true]
      rw [need_yesF ⟨by omega, by omega⟩, at_getF (by omega), keyBytes_eq, Option.bind_some, need_yesF ⟨by omega, by omega⟩, at_getF hi, keyBytes_eq, Option.bind_some, hbl]
      simp only [Bool.not_true, cond_false]
      rw [need_yesF ⟨by omega, by omega⟩, need_yesF ⟨by omega, by omega⟩, less_eq, hlt]
      rfl
  · dsimp only
    unfold p_dormouselaw16_KeySorts.b9
    rw [decide_eq_false (by omega), cond_false]
    exact keys_j1 hl hsl fun y hy => (hm y).2 hy
/-- the law, behind its walk -/
theorem law_KeySorts (l : List Ky) (ok : okD (.sl (.arr 32 (.int .u8))) l) : p_dormouselaw16_KeySorts 1000 l = some true := by
  have hb : ∀ y ∈ l, Byt y.toList := fun y hy n hn => by
    have h : (Lit.int .u8 n).wf = true := ok.2 y hy n hn
    have h' : 0 ≤ n ∧ n ≤ 255 := by simpa [Lit.wf, IntKind.min, IntKind.max, IntKind.signed, IntKind.bits] using h
    omega
  unfold p_dormouselaw16_KeySorts joinC
  dsimp only
  by_cases h : l.length ≤ 40
  · rw [decide_eq_false (by omega), cond_false]
    exact keys_j0 h hb
  · rw [decide_eq_true (by omega), cond_true, need_yesF ⟨by omega, by omega, by omega⟩]
    have e : sub_ l (0 : Int) (40 : Int) = l.take 40 := sub_takeF l 40
    rw [e]
    exact keys_j0 (by rw [List.length_take]; omega) fun y hy => hb y (List.mem_of_mem_take hy)
end Go.Dor
end

section
/- KeySorts AT EVERY INPUT: true; each argument reads behind the call as it read before. No condition but the row's own. -/
namespace Go.Proofs.Ytkffblmobccedaa
open Go.ChangeShapes Go.WideShapes Go.ChangeAt Go.RowKit

theorem keySorts_ownNone : ownKnob Try.prog.godebug = none := by kernel_rfl
theorem keySorts_laidOk : laidOutB Try.prog = true := by kernel_rfl
set_option maxRecDepth 100000 in
theorem keySorts_lifted (os : Os) (started : os.Started) (H : Type) (enc : TypeId × Value → H) :
    ReturnsInHanded {} Try.checked os 3 .any (Rows.keySortsSpec.pre6 enc Try.prog Try.f3 Rows.keySortsRow.domain false) (Rows.keySortsSpec.post enc Try.prog Try.f3 false true false false) := by
  refine returnsInHanded_of_change_sized (C := Try.checked) keySorts_ownNone started (by kernel_rfl) Try.func3
    (ChangeSpec.witness6 (enc := enc) (C := Try.checked) false ⟨#[], #[.slice none 0 0], []⟩ 8 (by kernel_rfl) (by kernel_rfl) (by kernel_rfl) (by kernel_rfl)) ?_
  intro W base args ds gs before hval0 hW _ _ _
  have hval : ∀ (j : Nat) t v, Try.f3.params[j]? = some t → args[j]? = some v → Value.okWide Try.prog W .any base t v := hval0
  have hW' := hW
  obtain ⟨p, q, hA0, hV, rfl, _, _⟩ := hW
  have hA : DataW.TrodAll enc Try.prog W 0 (fun _ => true) true Try.f3.params.toList args.toList ds p := hA0
  have hA2 := hA
  rw [Try.params3] at hA hval
  obtain ⟨rfl, rfl⟩ := trodVars_none hV
  simp only [List.append_nil] at hW'
  have hlt : ∀ x ∈ p, x.block < W.heap.size := fun x hx => by simpa using hW'.lt x hx
  obtain ⟨v0, d0, rfl, rfl, h0⟩ := trodAll_one hA
  obtain ⟨a0, r0, k0⟩ := Dor.arg_rv (c := .sl (.arr 32 (.int .u8))) (by kernel_rfl) h0 (by kernel_rfl) (by kernel_rfl) (hval 0 _ v0 rfl rfl)
  have hk := Dor.law_KeySorts a0 k0
  refine (Dor.law_calls (Dor.s_dormouselaw16_KeySorts 1000) (vals := [v0]) (x := a0) (w := W) ⟨r0, trivial⟩ hk).mono fun e W' ⟨he, hnx⟩ => ⟨_, he, ?_⟩
  refine ⟨_, _, _, [] ++ [], p, [], hW', trodAll_mk1 (shut_bool (by kernel_rfl) true), ?_, rfl, hnx.frame _, fun h => by cases h⟩
  exact Dor.trodAll_stays keySorts_laidOk hnx (by decide +kernel) hA2 hlt

theorem keySorts_holds : Rows.KeySortsSaid :=
  OpenClaim.holds_of_wide 3 Try.f3 rfl rfl rfl rfl rfl rfl rfl ⟨rfl, rfl, rfl, rfl, rfl⟩ rfl rfl rfl rfl rfl (by kernel_rfl) Try.func3 (by kernel_rfl)
    (of_decide_eq_true (by kernel_rfl)) (by unfold Func.isWrapper; first | (rw [if_pos (by decide +kernel)]; kernel_rfl) | (rw [if_neg (by decide +kernel)]; exact ⟨rfl, rfl⟩))
    (fun os started H enc _ => keySorts_lifted os started H enc)

end Go.Proofs.Ytkffblmobccedaa
end
