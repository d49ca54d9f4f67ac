/- ONE STATE FOR ANOTHER; calls. Plain lemmas over any program. -/
import Derived.Test.YtlejphdgfoejaaaDoorZd
namespace Go.Dor
open Go.RowKit (Below)

theorem castD_sound {t : T} {d : Dt} {y : den t} (h : castD t d = some y) : d = ⟨t, y⟩ := by
  unfold castD at h
  split at h
  · rename_i e
    obtain ⟨t', x⟩ := d
    dsimp only at e; subst e
    cases h; rfl
  · cases h
theorem ofL_toL : ∀ (ts : List T) (l : List Dt) (x : HL ts), ofL ts l = some x → toL ts x = l
  | [], [], x, h => rfl
  | [t], [d], x, h => by
    have := castD_sound h
    simp only [toL]; rw [this]
  | t :: u :: ts, d :: ds, x, h => by
    simp only [ofL] at h
    split at h
    · rename_i y hy
      split at h
      · rename_i z hz
        cases h
        have h1 := castD_sound hy
        have h2 := ofL_toL (u :: ts) ds z hz
        simp only [toL]
        rw [h2, h1]
      · cases h
    · cases h
  | [], _ :: _, _, h => by simp [ofL] at h
  | [t], [], _, h => by simp [ofL] at h
  | [t], _ :: _ :: _, _, h => by simp [ofL] at h
  | _ :: _ :: _, [], _, h => by simp [ofL] at h

section
variable {m m' : Mem} {h : Hm}

structure Taken (m : Mem) (h : Hm) (d : Ds) (k0 k : Tk) (l : List Dt) (vals : List Value) (vs' : List V) (os : Hm) : Prop where
  le : k0.Le k
  inj : k.Inj
  fz : ∀ id ∈ k.fz, lives h id
  free : ∀ id ∈ k.fz, ∀ i, findN k.r i ≠ some id
  bound : ∀ i id, findN k.r i = some id → i < d.objs.length
  gv : ∃ do', giveVds _root_.id d.vals l = (vs', do') ∧ (giveOds _root_.id d.objs do').1 = os
  len : os.length = d.objs.length
  live : ∀ i id, findN k.r i = some id → liveO os[i]? = true → lives h id
  all : ∀ j o, os[j]? = some o → ∃ id, findN k.r j = some id
  lt : ∀ j o id, os[j]? = some o → findN k.r j = some id → id < h.length
  rep : ∀ m', Goal m m' h k → (∀ j, m'.live j → liveO os[j]? = true) → Al2 (Rv m') vs' vals ∧ ∀ j o, os[j]? = some o → ∃ id, findN k.r j = some id ∧ Ho m' (m.g id) o

theorem takeDs_sound (H : Objs m h) {d : Ds} {k0 k : Tk} {vs : List V} {vals : List Value} {l : List Dt} (ht : takeDs h k0 d vs = some (l, k)) (hv : Al2 (Rv m) vs vals) (hk0 : ∀ id ∈ k0.fz, lives h id) (hi0 : k0.Inj) :
    ∃ vs' os, Taken m h d k0 k l vals vs' os := by
  unfold takeDs at ht
  split at ht
  · rename_i x k1 h1
    split at ht
    · rename_i y k2 h2
      rw [cond_eq_ite] at ht
      split at ht
      · cases ht
      · rename_i hb
        cases ht
        rw [Bool.or_eq_true, not_or] at hb
        obtain ⟨hb1, hb2⟩ := hb
        obtain ⟨a1, a2, a3, a4⟩ := takeVds_sound H h1 hv
        obtain ⟨b1, b2, b3, b4, b5, b6, b7⟩ := takeOds_sound H h2 (takeVds_fz h1 hk0)
        have hinj := b2 (a2 hi0)
        refine ⟨(giveVds _root_.id d.vals x).1, (giveOds _root_.id d.objs y).1, ⟨a1.trans b1, hinj, b3, fun id hid i hf => hb1 ?_, fun i id hf => ?_, ⟨y, giveVds_app a3 y, rfl⟩, b5, fun i id hf hl => ?_, fun j o hj => ?_, fun j o id hj hf => ?_, fun m' G hlv => ?_⟩⟩
        · exact List.any_eq_true.2 ⟨id, hid, usedN_of hf⟩
        · have hb2 : (k.r.all fun p => Nat.blt p.1 d.objs.length) = true := by simpa using hb2
          have key : ∀ {r : List (Nat × Nat)} {i id : Nat}, findN r i = some id → ∃ p ∈ r, p.1 = i := by
            intro r
            induction r with
            | nil => intro i id h; cases h
            | cons p r ih =>
              intro i id h
              obtain ⟨a, b⟩ := p
              simp only [findN] at h
              cases e : Nat.beq a i with
              | true => exact ⟨_, List.mem_cons_self, Nat.eq_of_beq_eq_true e⟩
              | false =>
                rw [e] at h
                obtain ⟨p, hp, h3⟩ := ih h
                exact ⟨p, List.mem_cons_of_mem _ hp, h3⟩
          obtain ⟨p, hp, rfl⟩ := key hf
          have := List.all_eq_true.1 hb2 p hp
          simpa using this
        · cases e : (giveOds _root_.id d.objs y).1[i]? with
          | none => rw [e] at hl; cases hl
          | some o =>
            obtain ⟨id', h3, h4, _⟩ := b6 i o e
            rw [Nat.zero_add] at h3
            have : id' = id := Option.some.inj (h3.symm.trans hf)
            subst this
            rw [e] at hl; exact h4 hl
        · obtain ⟨id, h3, _⟩ := b6 j o hj
          exact ⟨id, by rw [Nat.zero_add] at h3; exact h3⟩
        · obtain ⟨id', h3, _, h4⟩ := b6 j o hj
          rw [Nat.zero_add] at h3
          have : id' = id := Option.some.inj (h3.symm.trans hf)
          subst this; exact h4
        · obtain ⟨y', e1, r1⟩ := a4 m' (G.le b1) []
          rw [List.append_nil] at e1
          rw [e1]
          refine ⟨r1, fun j o hj => ?_⟩
          obtain ⟨id, h3, h4⟩ := b7 m' G (fun j hl => by rw [Nat.zero_add] at hl; exact hlv j hl) j o hj
          exact ⟨id, by rw [Nat.zero_add] at h3; exact h3, h4⟩
    · cases ht
  · cases ht
end

def ren (k : Tk) (g : Nat → Value) : Nat → Value := fun i => g ((findN k.r i).getD 0)
theorem ren_eq {k : Tk} {g : Nat → Value} {i id : Nat} (h : findN k.r i = some id) : ren k g i = g id := by simp [ren, h]

theorem keepN_find : ∀ {n i id : Nat}, findN (keepN n) i = some id → i = id ∧ i < n
  | 0, i, id, h => by cases h
  | n + 1, i, id, h => by
    simp only [keepN, findN] at h
    cases e : Nat.beq n i with
    | true => rw [e] at h; cases h; exact ⟨(Nat.eq_of_beq_eq_true e).symm, by have := Nat.eq_of_beq_eq_true e; omega⟩
    | false => rw [e] at h; have := keepN_find h; exact ⟨this.1, by omega⟩
theorem keepN_has : ∀ {n i : Nat}, i < n → findN (keepN n) i = some i
  | 0, i, h => absurd h (by omega)
  | n + 1, i, h => by
    simp only [keepN, findN]
    cases e : Nat.beq n i with
    | true => rw [Nat.eq_of_beq_eq_true e]; rfl
    | false => exact keepN_has (by have : n ≠ i := fun q => (by subst q; simp at e); omega)
theorem keepN_inj (n : Nat) : Tk.Inj ⟨keepN n, []⟩ := fun i j id hi hj => by rw [(keepN_find hi).1, (keepN_find hj).1]

section
variable {P : Program} {M S : Nat → Prop} {w0 w w' : World} {h : Hm} {g : Nat → Value} {R : Type} {res : R} {e : Ev} {r : Env}


/-- a state taken in another shape, in the same call -/
theorem Taken.rel (H : Rel M S w0 h g w) {d : Ds} {k0 k : Tk} {l : List Dt} {vals : List Value} {vs' : List V} {os : Hm} (t : Taken (memOf M S w0 h g w) h d k0 k l vals vs' os) :
    Rel M S w0 os (ren k g) w ∧ Al2 (Rv (memOf M S w0 os (ren k g) w)) vs' vals := by
  have hlive : ∀ i, lives os i → ∃ id, findN k.r i = some id ∧ lives h id := fun i hi => by
    have hlt := lives_lt hi
    obtain ⟨id, hid⟩ := t.all i _ (List.getElem?_eq_getElem hlt)
    exact ⟨id, hid, t.live i id hid hi⟩
  have himm : ∀ b, (memOf M S w0 h g w).I b → (memOf M S w0 os (ren k g) w).I b := fun b hb => by
    refine ⟨hb.1, hb.2.1, fun i hi hf => ?_⟩
    obtain ⟨id, h1, h2⟩ := hlive i hi
    rw [ren_eq h1] at hf
    exact hb.2.2 id h2 hf
  have G : Goal (memOf M S w0 h g w) (memOf M S w0 os (ren k g) w) h k := by
    refine ⟨rfl, himm, fun id hid b hb => ?_, fun i id hi hnl b hb hor => ?_, fun i id hi => ⟨ren_eq hi, by show i < os.length; rw [t.len]; exact t.bound i id hi, fun hl => t.live i id hi hl⟩⟩
    · refine ⟨H.foot_lt (t.fz id hid) hb, ?_, fun i hi hf => ?_⟩
      · rcases H.mine id (t.fz id hid) b hb with h1 | h1
        · exact .inl h1
        · exact .inr (.inr h1)
      · obtain ⟨id', h1, h2⟩ := hlive i hi
        rw [ren_eq h1] at hf
        have hne : id' ≠ id := fun q => by subst q; exact t.free _ hid i h1
        exact H.inj id' id h2 (t.fz id hid) hne b hf hb
    · rcases hor with h1 | h1
      · have hl : lives h id := h1
        refine ⟨H.foot_lt hl hb, ?_, fun j hj hf => ?_⟩
        · rcases H.mine id hl b hb with h2 | h2
          · exact .inl h2
          · exact .inr (.inr h2)
        · obtain ⟨id', h2, h3⟩ := hlive j hj
          rw [ren_eq h2] at hf
          have hne : id' ≠ id := fun q => by
            subst q
            have := t.inj i j _ hi h2
            subst this
            exact hnl hj
          exact H.inj id' id h3 hl hne b hf hb
      · exact himm b h1
  obtain ⟨hv, ho⟩ := t.rep _ G (fun j hj => hj)
  refine ⟨⟨H.os, H.tape, H.output, H.size, H.old, H.dis, fun i o hi => ?_, fun i hi b hb => ?_, fun i j hi hj hne b hb hb' => ?_⟩, hv⟩
  · obtain ⟨id, h1, h2⟩ := ho i o hi
    rw [ren_eq h1]; exact h2
  · obtain ⟨id, h1, h2⟩ := hlive i hi
    rw [ren_eq h1] at hb
    exact H.mine id h2 b hb
  · obtain ⟨id, h1, h2⟩ := hlive i hi
    obtain ⟨id', h3, h4⟩ := hlive j hj
    rw [ren_eq h1] at hb
    rw [ren_eq h3] at hb'
    have : id ≠ id' := fun q => by subst q; exact hne (t.inj i j id h1 h3)
    exact H.inj id id' h2 h4 this b hb hb'

theorem getEs_al2 {m : Mem} (E : ER m e r) : ∀ (ss : List Nat), Al2 (Rv m) (getEs e ss) (ss.map r)
  | [] => trivial
  | s :: ss => ⟨E s, getEs_al2 E ss⟩
theorem zipE_er {m : Mem} : ∀ {ss : List Nat} {vs : List V}, Al2 (Rv m) vs (ss.map r) → ER m (zipE ss vs) r
  | [], vs, h => by have : vs = [] := by { cases vs with | nil => rfl | cons _ _ => exact h.elim }; subst this; exact fun t => trivial
  | s :: ss, vs, h => by
    cases vs with
    | nil => exact h.elim
    | cons v vs =>
      intro t
      simp only [zipE, getE]
      cases e : Nat.beq s t with
      | true => rw [← Nat.eq_of_beq_eq_true e]; exact h.1
      | false => exact zipE_er h.2 t

/-- where ways meet -/
theorem arrive_sound {X : Cx} {d : Sd} {J : HL d.ds.ts → Option R} (H : Rel M S w0 h g w) (E : ER (memOf M S w0 h g w) e r) (hk : arrive X d J e h = some res) :
    ∃ x g', J x = some res ∧ Rel M S w0 (givenO d.ds id x) g' w ∧ ER (memOf M S w0 (givenO d.ds id x) g' w) (zipE d.slots (givenV d.ds id x).1) r ∧ ∀ i, i < X.keep → i < d.ds.objs.length ∧ g' i = g i := by
  unfold arrive at hk
  split at hk
  · rename_i l k ht
    split at hk
    · rename_i x hx
      obtain ⟨vs', os, t⟩ := takeDs_sound H.objs ht (getEs_al2 E d.slots) (by simp) (keepN_inj _)
      obtain ⟨H', hv⟩ := t.rel H
      obtain ⟨do', h1, h2⟩ := t.gv
      have e1 := ofL_toL _ _ _ hx
      have e2 : givenV d.ds id x = (vs', do') := by unfold givenV; rw [e1]; exact h1
      have e3 : givenO d.ds id x = os := by unfold givenO; rw [e2]; exact h2
      refine ⟨x, ren k g, hk, by rw [e3]; exact H', ?_, fun i hi => ?_⟩
      · rw [e3, e2]; exact zipE_er hv
      · exact ⟨t.bound i i (t.le.r i i (keepN_has hi)), ren_eq (t.le.r i i (keepN_has hi))⟩
    · cases hk
  · cases hk
end
end Go.Dor
