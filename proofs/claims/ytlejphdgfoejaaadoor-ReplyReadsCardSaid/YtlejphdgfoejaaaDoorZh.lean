/- A CALL: what the machine says of it holds. Plain lemmas over any program. -/
import Derived.Test.YtlejphdgfoejaaaDoorZg
namespace Go.Dor
open Go.RowKit (Below)

/-- an object that no one touched -/
theorem Ho.keep {m m' : Mem} {o : Ob} {v : Value} (h : Ho m v o) (le : m.Le m') (hb : ∀ b, foot v = some b → liveO (some o) = true → m'.w.heap[b]? = m.w.heap[b]?) : Ho m' v o := by
  cases o with
  | gone => trivial
  | blk ty ls =>
    obtain ⟨b, s, h3, h4, h5⟩ := h
    exact ⟨b, s, h3, (hb b (by rw [h3]; rfl) rfl).trans h4, Rls.mono le h5⟩
  | rd ty ls =>
    obtain ⟨b, s, h3, h4, h5, h6⟩ := h
    exact ⟨b, s, h3, (le.imm b h6).2.trans h4, Rls.mono le h5, (le.imm b h6).1⟩
  | arr ty t xs =>
    obtain ⟨ys, h3, h4⟩ := h
    exact ⟨ys, h3.kept fun b hbb => hb b (foot_vfoot hbb) rfl, h4.mono (At.mono le.imm t)⟩
  | fix => exact h.elim

theorem freeze_get : ∀ (f : List Nat) (h : Hm) (id : Nat), (freeze h f)[id]? = h[id]? ∨ (id ∈ f ∧ ((freeze h f)[id]? = some .gone ∨ (freeze h f)[id]? = none))
  | [], h, id => .inl rfl
  | i :: f, h, id => by
    rcases freeze_get f (h.set i .gone) id with h1 | ⟨h1, h2⟩
    · rw [freeze, h1, List.getElem?_set]
      by_cases e : i = id
      · subst e
        rw [if_pos rfl]
        split
        · exact .inr ⟨by simp, .inl rfl⟩
        · exact .inr ⟨by simp, .inr rfl⟩
      · rw [if_neg e]; exact .inl rfl
    · exact .inr ⟨List.mem_cons_of_mem _ h1, h2⟩
theorem freeze_len (f : List Nat) (h : Hm) : (freeze h f).length = h.length := by
  induction f generalizing h with
  | nil => rfl
  | cons i f ih => rw [freeze, ih]; simp

theorem goneOk_get : ∀ {pre : List Od} {ps : Hm}, goneOk pre ps = true → pre.length ≤ ps.length ∧ ∀ (i : Nat) (p : Od) (o : Ob), pre[i]? = some p → ps[i]? = some o → odLive p = false → liveO (some o) = false
  | [], ps, _ => ⟨by simp, fun i p o h => by simp at h⟩
  | p :: pre, o :: ps, h => by
    simp only [goneOk, Bool.and_eq_true] at h
    obtain ⟨h1, h2⟩ := goneOk_get h.2
    refine ⟨by simpa using h1, fun i p' o' hp ho hd => ?_⟩
    cases i with
    | zero =>
      simp at hp ho; subst hp ho
      have := h.1
      rw [hd] at this
      simpa using this
    | succ i => simp at hp ho; exact h2 i p' o' hp ho hd
  | _ :: _, [], h => by cases h

theorem isRd_live {p : Od} (h : isRdO p = true) : odLive p = false := by cases p <;> first | rfl | cases h

section
variable {P : Program} {M S : Nat → Prop} {w0 w : World} {h : Hm} {g : Nat → Value} {R : Type} {res : R} {K : V → Hm → Option R}

theorem resV_one {m : Mem} : ∀ {vs : List V} {vals : List Value} (_ : Al2 (Rv m) vs vals) (_ : ∀ v ∈ vs, ∃ ls, leaves v = some ls), Rv m (resV vs) (one vals) := by
  intro vs vals hv hl
  have tup : ∀ {vs : List V} {vals : List Value}, Al2 (Rv m) vs vals → (∀ v ∈ vs, ∃ ls, leaves v = some ls) → Al2 (Rp m) (vs.map unone) vals := by
    intro vs
    induction vs with
    | nil => intro vals hv _; have := hv.nil_left; subst this; trivial
    | cons v vs ih =>
      intro vals hv hl
      obtain ⟨x, xs, rfl, h1, h2⟩ := hv.cons_left
      refine ⟨?_, ih h2 fun q hq => hl q (List.mem_cons_of_mem _ hq)⟩
      obtain ⟨ls, hls⟩ := hl v (by simp)
      cases v <;> first | exact h1 | cases hls
  match vs, vals, hv with
  | [], [], _ => exact ⟨[], rfl, trivial⟩
  | [v], [x], hv => exact hv.1
  | v :: v2 :: vs, x :: y :: xs, hv => exact ⟨_, rfl, tup hv hl⟩
  | [_], [], hv => exact hv.elim
  | [_], _ :: _ :: _, hv => exact hv.2.elim
  | _ :: _ :: _, [_], hv => exact hv.2.elim

theorem enterE_sound {fid : FuncId} {en : Entry} {vs : List V} {vals : List Value} (hS : Entry.Sound P fid en) (H : Rel M S w0 h g w) (hv : Al2 (Rv (memOf M S w0 h g w)) vs vals) (hk : enterE en vs h K = some res) :
    Calls P fid vals.toArray w fun e w' => ∃ v, e = .returned v ∧ After M S w0 h g w K res v w' := by
  unfold enterE at hk
  split at hk
  rotate_left
  · cases hk
  rename_i l k ht
  split at hk
  rotate_left
  · cases hk
  rename_i x hx
  obtain ⟨y, hfn, hk⟩ := bind_some hk
  rw [cond_eq_ite] at hk
  split at hk
  rotate_left
  · cases hk
  rename_i hok
  simp only [okBack, Bool.and_eq_true] at hok
  obtain ⟨⟨hgone, hown⟩, hownO⟩ := hok
  obtain ⟨vs', os, t⟩ := takeDs_sound H.objs ht hv (by simp) (fun i j id hi => by cases hi)
  obtain ⟨do', hg1, hg2⟩ := t.gv
  have el := ofL_toL _ _ _ hx
  have eV : givenV en.pre id x = (vs', do') := by unfold givenV; rw [el]; exact hg1
  have eO : givenO en.pre id x = os := by unfold givenO; rw [eV]; exact hg2
  generalize hg1e : ren k g = g1
  have g1e : ∀ i id, findN k.r i = some id → g1 i = g id := fun i id hi => by rw [← hg1e]; exact ren_eq hi
  have hlive : ∀ i, lives os i → ∃ id, findN k.r i = some id ∧ lives h id := fun i hi => by
    obtain ⟨id, hid⟩ := t.all i _ (List.getElem?_eq_getElem (lives_lt hi))
    exact ⟨id, hid, t.live i id hid hi⟩
  -- what the callee may read
  let S' : Nat → Prop := fun b => (memOf M S w0 h g w).I b ∨ ∃ id, (id ∈ k.fz ∨ ∃ i, findN k.r i = some id ∧ ¬ lives os i) ∧ lives h id ∧ foot (g id) = some b
  have lent : ∀ b, lentOf os g1 b → ∃ i id, lives os i ∧ findN k.r i = some id ∧ lives h id ∧ foot (g id) = some b := fun b ⟨i, hi, hb⟩ => by
    obtain ⟨id, h1, h2⟩ := hlive i hi
    rw [g1e i id h1] at hb
    exact ⟨i, id, hi, h1, h2, hb⟩
  -- a lent object and one that is read lie apart
  have apart : ∀ {i id id' b}, lives os i → findN k.r i = some id → lives h id → foot (g id) = some b → (id' ∈ k.fz ∨ ∃ i, findN k.r i = some id' ∧ ¬ lives os i) → lives h id' → foot (g id') = some b → False := by
    intro i id id' b hi hf hl hb hor hl' hb'
    have hne : id ≠ id' := fun q => by
      subst q
      rcases hor with h1 | ⟨i', h1, h2⟩
      · exact t.free _ h1 i hf
      · have := t.inj i i' _ hf h1
        subst this
        exact h2 hi
    exact H.inj id id' hl hl' hne b hb hb'
  have dis : ∀ b, S' b → ¬ lentOf os g1 b := fun b hSb hL => by
    obtain ⟨i, id, hi, hf, hl, hb⟩ := lent b hL
    rcases hSb with h1 | ⟨id', hor, hl', hb'⟩
    · exact h1.2.2 id hl hb
    · exact apart hi hf hl hb hor hl' hb'
  have G : Goal (memOf M S w0 h g w) (memOf (lentOf os g1) S' w os g1 w) h k := by
    have nof : ∀ {b}, S' b → ∀ i, lives os i → foot (g1 i) ≠ some b := fun hSb i hi hf => dis _ hSb ⟨i, hi, hf⟩
    refine ⟨rfl, fun b hb => ⟨hb.1, .inr (.inl (.inl hb)), nof (.inl hb)⟩, fun id hid b hb => ?_, fun i id hi hnl b hb hor => ?_, fun i id hi => ⟨g1e i id hi, by show i < os.length; rw [t.len]; exact t.bound i id hi, fun hl => t.live i id hi hl⟩⟩
    · have hSb : S' b := .inr ⟨id, .inl hid, t.fz id hid, hb⟩
      exact ⟨H.foot_lt (t.fz id hid) hb, .inr (.inl hSb), nof hSb⟩
    · rcases hor with h1 | h1
      · have hSb : S' b := .inr ⟨id, .inr ⟨i, hi, hnl⟩, h1, hb⟩
        exact ⟨H.foot_lt h1 hb, .inr (.inl hSb), nof hSb⟩
      · exact ⟨h1.1, .inr (.inl (.inl h1)), nof (.inl h1)⟩
  obtain ⟨hv', ho'⟩ := t.rep _ G (fun j hj => hj)
  have Hs : Start en.pre x S' w g1 vals := by
    refine ⟨?_, ?_⟩
    · rw [eO]
      refine ⟨rfl, rfl, rfl, Nat.le_refl _, fun _ _ _ => rfl, dis, fun i o hi => ?_, fun i hi b hb => .inr ⟨i, hi, hb⟩, fun i j hi hj hne b hb hb' => ?_⟩
      · obtain ⟨id, h1, h2⟩ := ho' i o hi
        rw [g1e i id h1]; exact h2
      · obtain ⟨id, h1, h2⟩ := hlive i hi
        obtain ⟨id', h3, h4⟩ := hlive j hj
        rw [g1e i id h1] at hb
        rw [g1e j id' h3] at hb'
        have : id ≠ id' := fun q => by subst q; exact hne (t.inj i j id h1 h3)
        exact H.inj id id' h2 h4 this b hb hb'
    · rw [eO, eV]; exact hv'
  refine (hS.out x y hfn S' w g1 vals Hs).mono fun e w' ⟨vs2, g2, he, R2, hv2, hgg⟩ => ⟨_, he, ?_⟩
  rw [eO] at R2 hv2
  -- the objects behind the call
  generalize hps : givenO en.post id y = ps at R2 hv2 hgone hown hownO
  generalize hfe : backN k.r en.pre.objs.length h.length = f at hk
  generalize hfl : en.post.flat = fl at hk
  generalize hh1 : (bif fl then h else freeze h k.fz) = h1 at hk
  have hOf : givenO en.post f y = ps.map (renO f) := by rw [givenO_ren f, hps]
  rw [hOf] at hk
  obtain ⟨hlen, hgl⟩ := goneOk_get hgone
  have h1len : h1.length = h.length := by rw [← hh1]; cases fl <;> simp [freeze_len]
  have npre : os.length = en.pre.objs.length := t.len
  have fpre : ∀ i id, findN k.r i = some id → f i = id := fun i id hi => by
    have hlt := t.bound i id hi
    have hb : Nat.blt i en.pre.objs.length = true := by rw [Nat.blt_eq]; exact hlt
    rw [← hfe, backN, hb, hi]; rfl
  have allb : ∀ i, i < en.pre.objs.length → ∃ id, findN k.r i = some id := fun i hi => t.all i _ (List.getElem?_eq_getElem (by rw [npre]; exact hi))
  have hidlt : ∀ i id, findN k.r i = some id → lives os i → id < h.length := fun i id hi hl => lives_lt (t.live i id hi hl)
  have fnew : ∀ j, en.pre.objs.length ≤ j → f j = h.length + (j - en.pre.objs.length) := fun j hj => by
    have hb : Nat.blt j en.pre.objs.length = false := by rw [Bool.eq_false_iff, ne_eq, Nat.blt_eq]; omega
    rw [← hfe, backN, hb]; rfl
  have osl : ∀ i p, en.pre.objs[i]? = some p → liveO os[i]? = odLive p := fun i p hp => by
    obtain ⟨l1, l2, _, _, e3, _, e5⟩ := given_types en.pre x
    rw [eO] at e5
    rw [e5, giveOds_live e3, hp]; rfl
  generalize hfin : putBack f fl en.pre.objs (ps.map (renO f)) h1 = hF at hk
  have finj : ∀ a b, 0 ≤ a → a < 0 + en.pre.objs.length → 0 ≤ b → b < 0 + en.pre.objs.length → f a = f b → a = b := fun a b _ ha _ hb e => by
    obtain ⟨i, hi⟩ := allb a (by omega)
    obtain ⟨j, hj⟩ := allb b (by omega)
    rw [fpre a i hi, fpre b j hj] at e
    subst e
    exact t.inj a b i hi hj
  have blt : ∀ i id, i < en.pre.objs.length → findN k.r i = some id → id < h.length := fun i id hi hf => t.lt i _ id (List.getElem?_eq_getElem (by rw [npre]; exact hi)) hf
  have hFlen : hF.length = h.length + (ps.length - en.pre.objs.length) := by
    rw [← hfin]; simp only [putBack, List.length_append, putOld_len, List.length_drop, List.length_map, h1len]
  have plen : (putOld f fl 0 en.pre.objs (ps.map (renO f)) h1).length = h.length := by rw [putOld_len, h1len]
  have F1 : ∀ id, id < h.length → (∀ i, i < en.pre.objs.length → findN k.r i ≠ some id) → hF[id]? = h1[id]? := fun id hid hne => by
    rw [← hfin, putBack, List.getElem?_append_left (by rw [plen]; exact hid)]
    refine putOld_ne _ _ _ _ fun i _ hi e => ?_
    obtain ⟨id', hid'⟩ := allb i (by omega)
    rw [fpre i id' hid'] at e
    subst e
    exact hne i (by omega) hid'
  have F2 : ∀ i id p o, en.pre.objs[i]? = some p → ps[i]? = some o → findN k.r i = some id → hF[id]? = if isRdO p then (if fl then h1[id]? else h1[id]?.map asRd) else some (renO f o) := fun i id p o hp ho hi => by
    have hilt : i < en.pre.objs.length := (List.getElem?_eq_some_iff.1 hp).1
    have hid := blt i id hilt hi
    rw [← hfin, putBack, List.getElem?_append_left (by rw [plen]; exact hid)]
    exact putOld_at 0 _ _ _ i p (renO f o) hp (by simp [ho]) (by rw [Nat.zero_add]; exact fpre i id hi) finj (by rw [h1len]; exact hid)
  have F3 : ∀ j, en.pre.objs.length ≤ j → hF[f j]? = (ps[j]?).map (renO f) := fun j hj => by
    rw [fnew j hj, ← hfin, putBack, List.getElem?_append_right (by rw [plen]; omega), plen, List.getElem?_drop, List.getElem?_map]
    congr 2; omega
  have h1of : ∀ id o, h1[id]? = some o → h[id]? = some o ∨ (fl = false ∧ id ∈ k.fz ∧ o = .gone) := fun id o ho => by
    cases fl with
    | true => rw [← hh1] at ho; exact .inl ho
    | false =>
      rw [← hh1] at ho
      rcases freeze_get k.fz h id with h2 | ⟨h2, h3⟩
      · simp only [cond_false] at ho; rw [h2] at ho; exact .inl ho
      · simp only [cond_false] at ho
        rcases h3 with h3 | h3 <;> rw [h3] at ho <;> cases ho
        exact .inr ⟨rfl, h2, rfl⟩
  let gF : Nat → Value := fun id => if id < h.length then g id else g2 (en.pre.objs.length + (id - h.length))
  have gFlt : ∀ id, id < h.length → gF id = g id := fun id hid => if_pos hid
  have gFf : ∀ j, j < ps.length → gF (f j) = g2 j := fun j hj => by
    by_cases hlt : j < en.pre.objs.length
    · obtain ⟨id, hid⟩ := allb j hlt
      rw [fpre j id hid, gFlt id (blt j id hlt hid), hgg j hlt, g1e j id hid]
    · rw [fnew j (by omega)]
      simp only [gF]
      rw [if_neg (by omega)]
      congr 1; omega
  have fF : ∀ j, j < ps.length → f j < hF.length := fun j hj => by
    rw [hFlen]
    by_cases hlt : j < en.pre.objs.length
    · obtain ⟨id, hid⟩ := allb j hlt
      have := blt j id hlt hid
      rw [fpre j id hid]; omega
    · rw [fnew j (by omega)]; omega
  have LF : ∀ a, lives hF a → (a < h.length ∧ lives h a ∧ (∀ i, lives os i → findN k.r i ≠ some a) ∧ (fl = false → a ∉ k.fz ∧ ∀ i, findN k.r i = some a → lives os i)) ∨ ∃ j, lives ps j ∧ a = f j := fun a ha => by
    have halt := lives_lt ha
    by_cases hn : a < h.length
    · by_cases hb : ∃ i, i < en.pre.objs.length ∧ findN k.r i = some a
      · obtain ⟨i, hi, hf⟩ := hb
        have hp : en.pre.objs[i]? = some en.pre.objs[i] := List.getElem?_eq_getElem hi
        have hilt : i < ps.length := by omega
        have ho : ps[i]? = some ps[i] := List.getElem?_eq_getElem hilt
        have h2 := F2 i a _ _ hp ho hf
        by_cases hrd : isRdO en.pre.objs[i] = true
        · rw [if_pos hrd] at h2
          cases hflc : fl with
          | true =>
            rw [hflc] at h2
            simp only [if_true] at h2
            rw [lives, h2] at ha
            left
            refine ⟨hn, ?_, fun i' hi' hf' => ?_, fun q => by cases q⟩
            · cases e : h1[a]? with
              | none => rw [e] at ha; cases ha
              | some o =>
                rcases h1of a o e with h3 | ⟨h3, _⟩
                · rw [lives, h3, ← e]; exact ha
                · rw [hflc] at h3; cases h3
            · have := t.inj i i' a hf hf'
              subst this
              have h4 := osl i _ hp
              rw [isRd_live hrd] at h4
              rw [lives, h4] at hi'; cases hi'
          | false =>
            rw [hflc] at h2
            simp only [Bool.false_eq_true, if_false] at h2
            rw [lives, h2] at ha
            exfalso
            cases e : h1[a]? with
            | none => rw [e] at ha; cases ha
            | some o =>
              rw [e] at ha
              cases o <;> cases ha
        · rw [if_neg hrd] at h2
          rw [lives, h2, liveO_ren] at ha
          exact .inr ⟨i, by rw [lives, ho]; exact ha, (fpre i a hf).symm⟩
      · have hne : ∀ i, i < en.pre.objs.length → findN k.r i ≠ some a := fun i hi hf => hb ⟨i, hi, hf⟩
        rw [lives, F1 a hn hne] at ha
        left
        cases e : h1[a]? with
        | none => rw [e] at ha; cases ha
        | some o =>
          rw [e] at ha
          rcases h1of a o e with h3 | ⟨_, _, h3⟩
          · refine ⟨hn, by rw [lives, h3]; exact ha, fun i hi hf => hne i (t.bound i a hf) hf, fun q => ⟨fun hfz => ?_, fun i hf => absurd hf (hne i (t.bound i a hf))⟩⟩
            subst q
            rw [← hh1] at e
            simp only [cond_false] at e
            exact freeze_gone k.fz h a hfz (by rw [lives, e]; exact ha)
          · subst h3; cases ha
    · right
      refine ⟨en.pre.objs.length + (a - h.length), ?_, ?_⟩
      · have h2 := F3 (en.pre.objs.length + (a - h.length)) (by omega)
        rw [fnew _ (by omega), show h.length + (en.pre.objs.length + (a - h.length) - en.pre.objs.length) = a by omega] at h2
        rw [lives, h2] at ha
        cases e : ps[en.pre.objs.length + (a - h.length)]? with
        | none => rw [e] at ha; cases ha
        | some o => rw [e] at ha; rw [lives, e]; simpa [liveO_ren] using ha
      · rw [fnew _ (by omega)]; omega
  have R2foot : ∀ j, lives ps j → ∀ b, foot (g2 j) = some b → w.heap.size ≤ b ∨ ∃ i id, lives os i ∧ findN k.r i = some id ∧ lives h id ∧ foot (g id) = some b := fun j hj b hb => by
    rcases R2.mine j hj b hb with h2 | h2
    · exact .inl h2
    · exact .inr (lent b h2)
  have unf : ∀ {a b}, lives h a → (∀ i, lives os i → findN k.r i ≠ some a) → foot (g a) = some b → ∀ j, lives ps j → foot (g2 j) ≠ some b := fun {a b} ha hne hb j hj hb2 => by
    rcases R2foot j hj b hb2 with h2 | ⟨i, id, h2, h3, h4, h5⟩
    · have := H.foot_lt ha hb; omega
    · have : id ≠ a := fun q => by subst q; exact hne i h2 h3
      exact H.inj id a h4 ha this b h5 hb
  have hsz : w.heap.size ≤ w'.heap.size := R2.size
  have hold : ∀ b, b < w.heap.size → (∀ i id, lives os i → findN k.r i = some id → lives h id → foot (g id) ≠ some b) → w'.heap[b]? = w.heap[b]? := fun b hb hne => R2.old b hb fun hL => by
    obtain ⟨i, id, h2, h3, h4, h5⟩ := lent b hL
    exact hne i id h2 h3 h4 h5
  have le : (memOf M S w0 h g w).Le (memOf M S w0 hF gF w') := by
    refine ⟨by show h.length ≤ hF.length; omega, gFlt, fun a han ha => ?_, fun b hb => ⟨⟨Nat.lt_of_lt_of_le hb.1 hsz, hb.2.1, fun a ha hfa => ?_⟩, hold b hb.1 fun i id _ _ h4 h5 => hb.2.2 id h4 h5⟩⟩
    · rcases LF a ha with h2 | ⟨j, h2, h3⟩
      · exact h2.2.1
      · have hj : j < en.pre.objs.length := by
          rcases Nat.lt_or_ge j en.pre.objs.length with q | q
          · exact q
          · rw [h3, fnew j q] at han
            have : h.length + (j - en.pre.objs.length) < h.length := han
            omega
        obtain ⟨id, hid⟩ := allb j hj
        rw [fpre j id hid] at h3
        subst h3
        refine t.live j a hid ?_
        rw [osl j _ (List.getElem?_eq_getElem hj)]
        cases hd : odLive en.pre.objs[j] with
        | true => rfl
        | false =>
          have hjp := lives_lt h2
          have := hgl j _ _ (List.getElem?_eq_getElem hj) (List.getElem?_eq_getElem hjp) hd
          rw [lives, List.getElem?_eq_getElem hjp, this] at h2
          cases h2
    · rcases LF a ha with ⟨h2, h3, h4, _⟩ | ⟨j, h2, h3⟩
      · rw [gFlt a h2] at hfa; exact hb.2.2 a h3 hfa
      · rw [h3, gFf j (lives_lt h2)] at hfa
        rcases R2foot j h2 b hfa with h4 | ⟨i, id, _, _, h4, h5⟩
        · have h9 : b < w.heap.size := hb.1
          omega
        · exact hb.2.2 id h4 h5
  have cond : ∀ b, S' b → w0.heap.size ≤ b ∨ S b ∨ M b := fun b hb => by
    rcases hb with h2 | ⟨id, _, h2, h3⟩
    · exact h2.2.1
    · rcases H.mine id h2 b h3 with h4 | h4
      · exact .inl h4
      · exact .inr (.inr h4)
  have nolive : fl = false → ∀ b, S' b → (∀ j, lives ps j → foot (g2 j) ≠ some b) → ∀ a, lives hF a → foot (gF a) ≠ some b := fun hfl b hb hnp a ha hfa => by
    rcases LF a ha with ⟨h2, h3, h4, h5⟩ | ⟨j, h2, h3⟩
    · rw [gFlt a h2] at hfa
      rcases hb with h6 | ⟨id, h6, h7, h8⟩
      · exact h6.2.2 a h3 hfa
      · have hne : id ≠ a := fun q => by
          subst q
          rcases h6 with h6 | ⟨i, h6, h9⟩
          · exact (h5 hfl).1 h6
          · exact h9 ((h5 hfl).2 i h6)
        exact H.inj id a h7 h3 hne b h8 hfa
    · rw [h3, gFf j (lives_lt h2)] at hfa
      exact hnp j h2 hfa
  have Q : Ren (memOf (lentOf os g1) S' w ps g2 w') (memOf M S w0 hF gF w') f fl := by
    refine ⟨rfl, fun hfl b hb => ⟨hb.1, ?_, fun a ha hfa => ?_⟩, fun j hj => ⟨fF j hj, gFf j hj⟩⟩
    · rcases hb.2.1 with h2 | h2 | h2
      · exact .inl (Nat.le_trans H.size h2)
      · exact cond b h2
      · obtain ⟨i, id, _, _, h4, h5⟩ := lent b h2
        rcases H.mine id h4 b h5 with h6 | h6
        · exact .inl h6
        · exact .inr (.inr h6)
    · rcases hb.2.1 with h2 | h2 | h2
      · rcases LF a ha with ⟨h3, h4, _, _⟩ | ⟨j, h3, h4⟩
        · rw [gFlt a h3] at hfa
          have := H.foot_lt h4 hfa; omega
        · rw [h4, gFf j (lives_lt h3)] at hfa; exact hb.2.2 j h3 hfa
      · exact nolive hfl b h2 hb.2.2 a ha hfa
      · obtain ⟨i, id, h3, h4, h5, h6⟩ := lent b h2
        rcases LF a ha with ⟨h7, h8, h9, _⟩ | ⟨j, h7, h8⟩
        · rw [gFlt a h7] at hfa
          have hne : id ≠ a := fun q => by subst q; exact h9 i h3 h4
          exact H.inj id a h5 h8 hne b h6 hfa
        · rw [h8, gFf j (lives_lt h7)] at hfa; exact hb.2.2 j h7 hfa
  have psflat : fl = true → ∀ o ∈ ps, flatO o = true := fun q => by
    obtain ⟨l1, l2, _, _, e3, _, e5⟩ := given_types en.post y
    rw [hps] at e5
    rw [e5]
    refine giveOds_all e3 ?_
    rw [q] at hfl
    simp only [Ds.flat, Bool.and_eq_true] at hfl
    exact hfl.2
  have newHo : ∀ j o, ps[j]? = some o → Ho (memOf M S w0 hF gF w') (gF (f j)) (renO f o) := fun j o ho => by
    rw [gFf j (List.getElem?_eq_some_iff.1 ho).1]
    exact Q.ho (ps := ps) (fun _ q => q) (fun q => psflat q o (List.mem_of_getElem? ho)) (List.all_eq_true.1 hownO o (List.mem_of_getElem? ho)) (R2.obj j o ho)
  -- what is not lent stays
  have keep : ∀ a o, a < h.length → h[a]? = some o → (∀ i, lives os i → findN k.r i ≠ some a) → Ho (memOf M S w0 hF gF w') (gF a) o := fun a o ha ho hne => by
    rw [gFlt a ha]
    refine (H.obj a o ho).keep le fun b hb hl => hold b ?_ fun i id h2 h3 h4 h5 => ?_
    · exact H.foot_lt (by rw [lives, ho]; exact hl) hb
    · have : id ≠ a := fun q => by subst q; exact hne i h2 h3
      exact H.inj id a h4 (by rw [lives, ho]; exact hl) this b h5 hb
  have rdne : ∀ i a p, en.pre.objs[i]? = some p → isRdO p = true → findN k.r i = some a → ∀ i', lives os i' → findN k.r i' ≠ some a := fun i a p hp hrd hf i' hi' hf' => by
    have := t.inj i i' a hf hf'
    subst this
    have h4 := osl i _ hp
    rw [isRd_live hrd] at h4
    rw [lives, h4] at hi'; cases hi'
  have HF : Rel M S w0 hF gF w' := by
    refine ⟨R2.os.trans H.os, R2.tape.trans H.tape, R2.output.trans H.output, Nat.le_trans H.size hsz, fun b h2 h3 => ?_, H.dis, fun a o ha => ?_, fun a ha b hb => ?_, fun a a' ha ha' hne b hb hb' => ?_⟩
    · rw [hold b (Nat.lt_of_lt_of_le h2 H.size) fun i id _ _ h4 h5 => ?_]
      · exact H.old b h2 h3
      · rcases H.mine id h4 b h5 with h6 | h6
        · omega
        · exact h3 h6
    · by_cases han : a < h.length
      · by_cases hb : ∃ i, i < en.pre.objs.length ∧ findN k.r i = some a
        · obtain ⟨i, hi, hf⟩ := hb
          have hp : en.pre.objs[i]? = some en.pre.objs[i] := List.getElem?_eq_getElem hi
          have ho : ps[i]? = some ps[i] := List.getElem?_eq_getElem (by omega)
          have h2 := F2 i a _ _ hp ho hf
          by_cases hrd : isRdO en.pre.objs[i] = true
          · rw [if_pos hrd] at h2
            have hne := rdne i a _ hp hrd hf
            by_cases hflc : fl = true
            · rw [if_pos hflc] at h2
              rw [h2] at ha
              rcases h1of a o ha with h3 | ⟨h3, _⟩
              · exact keep a o han h3 hne
              · rw [hflc] at h3; cases h3
            · rw [if_neg hflc] at h2
              have hflf : fl = false := by simpa using hflc
              rw [h2] at ha
              cases e : h1[a]? with
              | none => rw [e] at ha; cases ha
              | some o1 =>
                rw [e] at ha
                simp only [Option.map_some, Option.some.injEq] at ha
                subst ha
                rcases h1of a o1 e with h3 | ⟨_, _, h3⟩
                · have hk1 := keep a o1 han h3 hne
                  cases o1 with
                  | blk ty ls =>
                    have h0 := H.obj a _ h3
                    obtain ⟨b, s, e1, e2, e3⟩ := h0
                    obtain ⟨b', s', e1', e2', e3'⟩ := hk1
                    rw [gFlt a han, e1] at e1'
                    cases e1'
                    refine ⟨b, s', by rw [gFlt a han]; exact e1, e2', e3', ?_⟩
                    have hla : lives h a := by simp [lives, h3, liveO]
                    have hfa : foot (g a) = some b := by rw [e1]; rfl
                    have hSb : S' b := .inr ⟨a, .inr ⟨i, hf, fun q => hne i q hf⟩, hla, hfa⟩
                    exact ⟨Nat.lt_of_lt_of_le (H.foot_lt hla hfa) hsz, cond b hSb, nolive hflf b hSb (unf hla hne hfa)⟩
                  | rd ty ls => exact hk1
                  | _ => trivial
                · subst h3; trivial
          · rw [if_neg hrd] at h2
            rw [h2] at ha
            cases ha
            have := newHo i _ ho
            rw [fpre i a hf] at this
            exact this
        · have hne : ∀ i, i < en.pre.objs.length → findN k.r i ≠ some a := fun i hi hf => hb ⟨i, hi, hf⟩
          rw [F1 a han hne] at ha
          rcases h1of a o ha with h3 | ⟨_, _, h3⟩
          · exact keep a o han h3 fun i _ hf => hne i (t.bound i a hf) hf
          · subst h3; trivial
      · have h2 := F3 (en.pre.objs.length + (a - h.length)) (by omega)
        have hfa : f (en.pre.objs.length + (a - h.length)) = a := by rw [fnew _ (by omega)]; omega
        rw [hfa, ha] at h2
        cases e : ps[en.pre.objs.length + (a - h.length)]? with
        | none => rw [e] at h2; cases h2
        | some o' =>
          rw [e] at h2
          simp only [Option.map_some, Option.some.injEq] at h2
          subst h2
          have := newHo _ _ e
          rw [hfa] at this; exact this
    · rcases LF a ha with ⟨h2, h3, _, _⟩ | ⟨j, h2, h3⟩
      · rw [gFlt a h2] at hb; exact H.mine a h3 b hb
      · rw [h3, gFf j (lives_lt h2)] at hb
        rcases R2foot j h2 b hb with h4 | ⟨i, id, _, _, h4, h5⟩
        · exact .inl (Nat.le_trans H.size h4)
        · exact H.mine id h4 b h5
    · rcases LF a ha with ⟨h2, h3, h4, _⟩ | ⟨j, h2, h3⟩ <;> rcases LF a' ha' with ⟨k2, k3, k4, _⟩ | ⟨j', k2, k3⟩
      · rw [gFlt a h2] at hb; rw [gFlt a' k2] at hb'
        exact H.inj a a' h3 k3 hne b hb hb'
      · rw [gFlt a h2] at hb; rw [k3, gFf j' (lives_lt k2)] at hb'
        exact unf h3 h4 hb j' k2 hb'
      · rw [gFlt a' k2] at hb'; rw [h3, gFf j (lives_lt h2)] at hb
        exact unf k3 k4 hb' j h2 hb
      · rw [h3, gFf j (lives_lt h2)] at hb
        rw [k3, gFf j' (lives_lt k2)] at hb'
        have : j ≠ j' := fun q => by subst q; exact hne (h3.trans k3.symm)
        exact R2.inj j j' h2 k2 this b hb hb'
  refine ⟨_, hF, gF, HF, le, ?_, hk⟩
  obtain ⟨l1, l2, _, e2, _, e4, _⟩ := given_types en.post y
  have hall := giveVds_all (d := en.post.vals) e2
  rw [givenV_ren f]
  dsimp only
  have key : ∀ {vs : List V} {vals : List Value}, Al2 (Rv (memOf (lentOf os g1) S' w ps g2 w')) vs vals → (∀ v ∈ vs, (∃ ls, leaves v = some ls) ∧ (fl = true → flatV v = true) ∧ ownOkV ps v = true) →
      Al2 (Rv (memOf M S w0 hF gF w')) (vs.map (renV f)) vals := by
    intro vs
    induction vs with
    | nil => intro vals h2 _; have := h2.nil_left; subst this; trivial
    | cons v vs ih =>
      intro vals h2 h3
      obtain ⟨x, xs, rfl, h4, h5⟩ := h2.cons_left
      obtain ⟨h6, h7, h8⟩ := h3 v (by simp)
      exact ⟨Q.rv (fun _ q => q) h7 h8 h4, ih h5 fun q hq => h3 q (List.mem_cons_of_mem _ hq)⟩
  have hmem : ∀ v ∈ (givenV en.post id y).1, (∃ ls, leaves v = some ls) ∧ (fl = true → flatV v = true) ∧ ownOkV ps v = true := fun v hv => by
    have h2 := hall v (by rw [e4] at hv; exact hv)
    refine ⟨h2.1, fun q => h2.2 ?_, List.all_eq_true.1 hown v hv⟩
    rw [q] at hfl
    simp only [Ds.flat, Bool.and_eq_true] at hfl
    exact hfl.1
  refine resV_one (key hv2 hmem) fun v hv => ?_
  obtain ⟨q, hq, rfl⟩ := List.mem_map.1 hv
  obtain ⟨ls, hls⟩ := (hmem q hq).1
  cases q <;> first | exact ⟨_, rfl⟩ | cases hls
end
end Go.Dor
