/- Symbolic execution, part U: a region that draws its order. -/
import Derived.Test.YtbnmeeajooljmaaSxT
set_option linter.all false
namespace Go.Sx
open Go Go.RowKit

/-- in every order j comes before i -/
inductive Bef (full : List Oper) : Nat → Nat → Prop
  | edge {i : Nat} {o : Oper} {e : Edge} : full[i]? = some o → e ∈ o.after.toList → bindsAny e = true → Bef full e.on i
  | trans {j k i : Nat} : Bef full j k → Bef full k i → Bef full j i
/-- the one does not touch what the other does -/
structure NoConf (full : List Oper) (o' : Oper) (f' : Inf) (o : Oper) (f : Inf) : Prop where
  dl : ∀ s, o'.dst = some s → s ∉ looksL full o
  dd : ∀ s, o'.dst = some s → o.dst ≠ some s
  ld : ∀ s, o.dst = some s → s ∉ looksL full o'
  ct : ∀ i ∈ f'.chg, i ∉ f.touch
  cc : ∀ i ∈ f'.chg, i ∉ f.chg
  tc : ∀ i ∈ f'.touch, i ∉ f.chg
theorem testBit_shl (n m : Nat) : Nat.testBit (Nat.shiftLeft 1 n) m = decide (n = m) := by
  show Nat.testBit (1 <<< n) m = _
  rw [Nat.testBit_shiftLeft]
  by_cases h : n = m
  · subst h; simp
  · by_cases h2 : n ≤ m
    · obtain ⟨k, hk⟩ : ∃ k, m - n = k + 1 := ⟨m - n - 1, by omega⟩
      simp [h, h2, hk, Nat.testBit_succ]
    · simp [h, h2]
theorem testBit_lor (a b m : Nat) : Nat.testBit (Nat.lor a b) m = (Nat.testBit a m || Nat.testBit b m) := Nat.testBit_or a b m
theorem zero_and {a b s : Nat} (h : zeroN (Nat.land a b) = true) (ha : Nat.testBit a s = true) (hb : Nat.testBit b s = true) : False := by
  have h0 : Nat.land a b = 0 := Nat.eq_of_beq_eq_true h
  have : Nat.testBit (Nat.land a b) s = (Nat.testBit a s && Nat.testBit b s) := Nat.testBit_and a b s
  rw [h0, ha, hb] at this
  simp at this
theorem looksM_spec (s : Nat) : ∀ (l : List Operand) (m : Nat), (Nat.testBit m s = true → Nat.testBit (looksM l m) s = true) ∧ (Operand.tmp s ∈ l → Nat.testBit (looksM l m) s = true) := by
  intro l
  induction l with
  | nil => intro m; exact ⟨fun h => h, fun h => by cases h⟩
  | cons x xs ih =>
    intro m
    cases x with
    | tmp t =>
      simp only [looksM]
      refine ⟨fun h => (ih _).1 (by rw [testBit_lor, h]; rfl), fun h => ?_⟩
      cases h with
      | head => exact (ih _).1 (by rw [testBit_lor, testBit_shl]; simp)
      | tail _ h => exact (ih _).2 h
    | const v => exact ⟨fun h => (ih _).1 h, fun h => by cases h with | tail _ h => exact (ih _).2 h⟩
    | func f => exact ⟨fun h => (ih _).1 h, fun h => by cases h with | tail _ h => exact (ih _).2 h⟩
    | global g => exact ⟨fun h => (ih _).1 h, fun h => by cases h with | tail _ h => exact (ih _).2 h⟩
theorem maskD_spec {d : Option Tmp} {s : Nat} (h : d = some s) : Nat.testBit (maskD d) s = true := by subst h; simp only [maskD]; rw [testBit_shl]; simp
theorem looksAll_spec {full : List Oper} {o : Oper} {s : Nat} (h : s ∈ looksL full o) : Nat.testBit (looksAll full o) s = true := by
  unfold looksAll
  simp only [looksL, List.mem_append, List.mem_filterMap] at h
  rcases h with ⟨x, hx, hxs⟩ | h
  · cases x <;> simp at hxs
    subst hxs
    exact (looksM_spec _ _ _).2 hx
  · refine (looksM_spec _ _ _).1 ?_
    cases hg : o.guard with
    | none => rw [hg] at h; cases h
    | some p =>
      obtain ⟨j, want⟩ := p
      rw [hg] at h
      simp only [Option.mem_toList] at h
      exact maskD_spec h
theorem ancs_spec {prev : List Prev} {i : Nat} : ∀ {es : List Edge} {m a : Nat}, ancs prev i es m = some a → (∀ e ∈ es, bindsAny e = true → e.on < i) ∧ ∀ s, Nat.testBit a s = true → Nat.testBit m s = true ∨ ∃ e ∈ es, bindsAny e = true ∧ (s = e.on ∨ Nat.testBit (ancOf prev e.on) s = true) := by
  intro es
  induction es with
  | nil => intro m a h; simp only [ancs, Option.some.injEq] at h; subst h; exact ⟨fun e he => (by cases he), fun s hs => .inl hs⟩
  | cons e es ih =>
    intro m a h
    simp only [ancs] at h
    cases hb : bindsAny e with
    | false =>
      rw [hb] at h
      obtain ⟨h1, h2⟩ := ih h
      refine ⟨fun e' he' hb' => ?_, fun s hs => ?_⟩
      · cases he' with
        | head => rw [hb] at hb'; cases hb'
        | tail _ he' => exact h1 e' he' hb'
      · rcases h2 s hs with h | ⟨e', he', h⟩
        · exact .inl h
        · exact .inr ⟨e', List.mem_cons_of_mem _ he', h⟩
    | true =>
      rw [hb] at h
      simp only [cond_true] at h
      cases hlt : Nat.blt e.on i with
      | false => rw [hlt] at h; cases h
      | true =>
        rw [hlt] at h
        simp only [cond_true] at h
        obtain ⟨h1, h2⟩ := ih h
        refine ⟨fun e' he' hb' => ?_, fun s hs => ?_⟩
        · cases he' with
          | head => rw [Nat.blt_eq] at hlt; exact hlt
          | tail _ he' => exact h1 e' he' hb'
        · rcases h2 s hs with h | ⟨e', he', h⟩
          · rw [testBit_lor, testBit_lor, testBit_shl] at h
            simp only [Bool.or_eq_true, decide_eq_true_eq] at h
            rcases h with h | h | h
            · exact .inl h
            · exact .inr ⟨e, List.mem_cons_self, hb, .inl h.symm⟩
            · exact .inr ⟨e, List.mem_cons_self, hb, .inr h⟩
          · exact .inr ⟨e', List.mem_cons_of_mem _ he', h⟩
theorem ancOf_mem : ∀ {prev : List Prev} {j s : Nat}, Nat.testBit (ancOf prev j) s = true → ∃ p ∈ prev, p.j = j ∧ Nat.testBit p.anc s = true := by
  intro prev
  induction prev with
  | nil => intro j s h; simp [ancOf] at h
  | cons p ps ih =>
    intro j s h
    simp only [ancOf] at h
    cases hb : Nat.beq p.j j with
    | true => rw [hb] at h; exact ⟨p, List.mem_cons_self, Nat.eq_of_beq_eq_true hb, h⟩
    | false =>
      rw [hb] at h
      obtain ⟨q, h1, h2⟩ := ih h
      exact ⟨q, List.mem_cons_of_mem _ h1, h2⟩
theorem idsOk_spec {R i anc : Nat} : ∀ {l : List Id}, idsOk R i anc l = true → ∀ id ∈ l, id.r < R ∨ (id.r = R ∧ (id.s = i ∨ Nat.testBit anc id.s = true)) := by
  intro l
  induction l with
  | nil => intro _ id hid; cases hid
  | cons x xs ih =>
    intro h id hid
    obtain ⟨r, s, c⟩ := x
    simp only [idsOk, Bool.and_eq_true, Bool.or_eq_true] at h
    cases hid with
    | head =>
      rcases h.1 with h | h
      · exact .inl (by rw [Nat.blt_eq] at h; exact h)
      · refine .inr ⟨Nat.eq_of_beq_eq_true h.1, ?_⟩
        rcases h.2 with h | h
        · exact .inl (Nat.eq_of_beq_eq_true h)
        · exact .inr h
    | tail _ hid => exact ih h.2 id hid
/-- what was noted of the operations so far -/
def PrevOk (full : List Oper) (fs : List Inf) (i : Nat) (prev : List Prev) : Prop :=
  (∀ p ∈ prev, ∃ o f, full[p.j]? = some o ∧ fs[p.j]? = some f ∧ p.d = maskD o.dst ∧ p.l = looksAll full o ∧ p.tch = f.touch ∧ p.chg = f.chg ∧ ∀ s, Nat.testBit p.anc s = true → Bef full s p.j) ∧
  ∀ j, j < i → ∃ p ∈ prev, p.j = j
theorem prevOk_spec {full : List Oper} {fs : List Inf} {i anc : Nat} {o : Oper} {f : Inf} : ∀ {prev : List Prev}, prevOk anc (maskD o.dst) (looksAll full o) f.touch f.chg prev = true → (∀ s, Nat.testBit anc s = true → Bef full s i) →
    (∀ p ∈ prev, ∃ o f, full[p.j]? = some o ∧ fs[p.j]? = some f ∧ p.d = maskD o.dst ∧ p.l = looksAll full o ∧ p.tch = f.touch ∧ p.chg = f.chg ∧ ∀ s, Nat.testBit p.anc s = true → Bef full s p.j) →
    ∀ p ∈ prev, ∀ o' f', full[p.j]? = some o' → fs[p.j]? = some f' → Bef full p.j i ∨ NoConf full o' f' o f := by
  intro prev
  induction prev with
  | nil => intro _ _ _ p hp; cases hp
  | cons q qs ih =>
    intro h ha hp p hpm o' f' ho hf
    simp only [prevOk, Bool.and_eq_true, Bool.or_eq_true] at h
    cases hpm with
    | head =>
      obtain ⟨o2, f2, h1, h2, h3, h4, h5, h6, _⟩ := hp q List.mem_cons_self
      rw [ho] at h1; cases h1
      rw [hf] at h2; cases h2
      rcases h.1 with h | ⟨⟨⟨⟨⟨g1, g2⟩, g3⟩, g4⟩, g5⟩, g6⟩
      · exact .inl (ha _ h)
      · rw [h3] at g1 g2
        rw [h4] at g3
        rw [h6] at g4 g5
        rw [h5] at g6
        exact .inr ⟨fun s hs hl => zero_and g1 (maskD_spec hs) (looksAll_spec hl), fun s hs hd => zero_and g2 (maskD_spec hs) (maskD_spec hd), fun s hs hl => zero_and g3 (maskD_spec hs) (looksAll_spec hl), disjN_spec g4, disjN_spec g5, disjN_spec g6⟩
    | tail _ hpm => exact ih h.2 ha (fun p hp' => hp p (List.mem_cons_of_mem _ hp')) p hpm o' f' ho hf
theorem anyChk_spec {R : Nat} {full : List Oper} {all : List Inf} : ∀ {os : List Oper} {fs : List Inf} {is : List Nat} {i0 : Nat} {prev : List Prev}, anyChk R full os fs is prev = true → (∀ k x, is[k]? = some x → x = i0 + k) → os = full.drop i0 → fs = all.drop i0 → PrevOk full all i0 prev →
    ∀ (j : Nat) (o : Oper) (f : Inf), os[j]? = some o → fs[j]? = some f → (∀ e ∈ o.after.toList, bindsAny e = true → e.on < i0 + j) ∧ (∀ id ∈ f.ids, id.r < R ∨ (id.r = R ∧ (id.s = i0 + j ∨ Bef full id.s (i0 + j)))) ∧
      ∀ j', j' < i0 + j → ∀ o' f', full[j']? = some o' → all[j']? = some f' → Bef full j' (i0 + j) ∨ NoConf full o' f' o f := by
  intro os
  induction os with
  | nil => intro fs is i0 prev _ _ _ _ _ j o f hj; simp at hj
  | cons o os ih =>
    intro fs is i0 prev h hn hos hfs hprev j o2 f2 hj hfj
    cases fs with
    | nil => simp at hfj
    | cons f fs =>
      cases is with
      | nil => simp [anyChk] at h
      | cons i is =>
        have hi : i = i0 := by simpa using hn 0 i rfl
        subst hi
        have ho : full[i]? = some o := by
          have := congrArg (·[0]?) hos
          simpa using this.symm
        have hf : all[i]? = some f := by
          have := congrArg (·[0]?) hfs
          simpa using this.symm
        simp only [anyChk] at h
        split at h
        · cases h
        · rename_i a ha
          simp only [Bool.and_eq_true] at h
          obtain ⟨h1, h2, h3⟩ := h
          obtain ⟨e1, e2⟩ := ancs_spec ha
          have hanc : ∀ s, Nat.testBit a s = true → Bef full s i := fun s hs => by
            rcases e2 s hs with h | ⟨e, he, hb, h⟩
            · simp at h
            · rcases h with rfl | h
              · exact .edge ho he hb
              · obtain ⟨p, hp, hpj, hps⟩ := ancOf_mem h
                obtain ⟨_, _, _, _, _, _, _, _, hbef⟩ := hprev.1 p hp
                rw [hpj] at hbef
                exact .trans (hbef s hps) (.edge ho he hb)
          cases j with
          | zero =>
            simp only [List.getElem?_cons_zero, Option.some.injEq] at hj hfj
            subst hj
            subst hfj
            refine ⟨e1, fun id hid => ?_, fun j' hj' o' f' ho' hf' => ?_⟩
            · rcases idsOk_spec h1 id hid with h | ⟨h, h' | h'⟩
              · exact .inl h
              · exact .inr ⟨h, .inl h'⟩
              · exact .inr ⟨h, .inr (hanc _ h')⟩
            · obtain ⟨p, hp, hpj⟩ := hprev.2 j' hj'
              subst hpj
              exact prevOk_spec h2 hanc hprev.1 p hp o' f' ho' hf'
          | succ j =>
            have hd : ∀ {β : Type} (x : β) (xs l : List β), x :: xs = l.drop i → xs = l.drop (i + 1) := fun x xs l h => by
              rw [← List.drop_drop, ← h]
              rfl
            have := ih (i0 := i + 1) h3 (fun k x hk => by have := hn (k + 1) x (by simpa using hk); omega) (hd _ _ _ hos) (hd _ _ _ hfs) ⟨fun p hp => ?_, fun j' hj' => ?_⟩ j o2 f2 (by simpa using hj) (by simpa using hfj)
            · rwa [show i + 1 + j = i + (j + 1) by omega] at this
            · cases hp with
              | head => exact ⟨o, f, ho, hf, rfl, rfl, rfl, rfl, hanc⟩
              | tail _ hp => exact hprev.1 p hp
            · by_cases h : j' = i
              · exact ⟨_, List.mem_cons_self, h.symm⟩
              · obtain ⟨p, hp, hpj⟩ := hprev.2 j' (by omega)
                exact ⟨p, List.mem_cons_of_mem _ hp, hpj⟩

section
variable {P : Program} {C : Ctx} {E : Env} {ops : Array Oper} {Q : Exit → Act → World → Prop}
theorem binds_any (e : Edge) : Region.binds .any e = bindsAny e := by
  unfold Region.binds bindsAny
  cases e.ground <;> rfl
/-- how many are left -/
def leftN (n : Nat) (l : Array Bool) : Nat := ((List.range n).filter fun j => !l.getD j false).length
theorem getD_set {l : Array Bool} {i j : Nat} (hi : i < l.size) : (l.setIfInBounds i true).getD j false = (l.getD j false || decide (j = i)) := by
  rw [Array.getD_eq_getD_getElem?, Array.getD_eq_getD_getElem?, Array.getElem?_setIfInBounds]
  by_cases h : i = j
  · subst h; simp [hi]
  · simp [h, Ne.symm h]
theorem leftN_set {n i : Nat} {l : Array Bool} (hi : i < n) (hl : i < l.size) (hf : l.getD i false = false) : leftN n (l.setIfInBounds i true) < leftN n l := by
  unfold leftN
  have h1 : (List.range n).filter (fun j => !(l.setIfInBounds i true).getD j false) = ((List.range n).filter fun j => !l.getD j false).filter fun j => !decide (j = i) := by
    rw [List.filter_filter]
    refine List.filter_congr fun j _ => ?_
    rw [getD_set hl]
    cases l.getD j false <;> simp
  rw [h1]
  refine List.length_filter_lt_length_iff_exists.2 ⟨i, ?_, by simp⟩
  rw [List.mem_filter]
  exact ⟨List.mem_range.2 hi, by rw [hf]; rfl⟩
theorem region_any (hP : Prg P C) {R : Nat} {decs : List (Nat × Bool)} {t : List SV} {rs : List (Id × Res)} {recs : List Rec} {t' : List SV} {rs' : List (Id × Res)} {stk : List (List SV)} (hr : Ran C R decs ops t rs recs t' rs') (hv : ∀ r ∈ recs, ∀ p ∈ r.vc, p)
    (hchk : anyChk R ops.toList ops.toList (recs.map infOf) nums [] = true) (hQ : ∀ G a w, SatF E (getT t') t.length (look rs') stk (fun id => id.r ≤ R) G a w → Q .normal a w) :
    ∀ (fuel : Nat) (listed : Array Bool), listed.size = ops.size → (∀ i j, Bef ops.toList j i → listed.getD i false = true → listed.getD j false = true) → leftN ops.size listed ≤ fuel → ∀ (G : Gh) (a : Act) (w : World),
    SatF E (appS (fun k => listed.getD k false) t.length (ops.toList.zip recs) 0 (getT t, look rs)).1 t.length (appS (fun k => listed.getD k false) t.length (ops.toList.zip recs) 0 (getT t, look rs)).2 stk (oldS R fun k => listed.getD k false) G a w →
    wpAny P .any ops Q fuel listed a w := by
  have hspec := anyChk_spec (all := recs.map infOf) (i0 := 0) hchk (fun k x hk => by rw [nums_get hk]; omega) rfl rfl ⟨fun p hp => (by cases hp), fun j hj => (by omega)⟩
  have hinf : ∀ {j : Nat} {o : Oper} {r : Rec}, (ops.toList.zip recs)[j]? = some (o, r) → ops.toList[j]? = some o ∧ (recs.map infOf)[j]? = some (infOf r) := fun h => by
    obtain ⟨h1, h2⟩ := zip_get' h
    exact ⟨by rw [Array.getElem?_toList]; exact h1, by rw [List.getElem?_map, h2]; rfl⟩
  have done : ∀ (listed : Array Bool) (G : Gh) (a : Act) (w : World), (∀ i, i < ops.size → listed.getD i false = true) →
      SatF E (appS (fun k => listed.getD k false) t.length (ops.toList.zip recs) 0 (getT t, look rs)).1 t.length (appS (fun k => listed.getD k false) t.length (ops.toList.zip recs) 0 (getT t, look rs)).2 stk (oldS R fun k => listed.getD k false) G a w → Q .normal a w := by
    intro listed G a w hall hs
    refine hQ G a w ?_
    have : appS (fun k => listed.getD k false) t.length (ops.toList.zip recs) 0 (getT t, look rs) = (getT t', look rs') := by
      rw [hr.fin]
      refine appS_ext _ fun j hj => ?_
      rw [List.length_zip, Array.length_toList, hr.len] at hj
      rw [Nat.zero_add, hall j (by omega)]
    rw [this] at hs
    exact hs.mono fun id h => by rcases h with h | ⟨h, _⟩ <;> omega
  have allReady : ∀ (listed : Array Bool), listed.size = ops.size → Region.ready .any ops listed = [] → ∀ i, i < ops.size → listed.getD i false = true := by
    intro listed hsz hrd i
    induction i using Nat.strongRecOn with
    | ind i ih =>
      intro hi
      cases hli : listed.getD i false with
      | true => rfl
      | false =>
        exfalso
        obtain ⟨o, r, h1, h2, h3⟩ := zip_get (ops := ops) hr.len hi
        have hmem : i ∈ Region.ready .any ops listed := by
          rw [mem_ready]
          refine ⟨?_, o, h1, fun e he hb => ?_⟩
          · rw [Array.getD_eq_getD_getElem?, Array.getElem?_eq_getElem (by omega)] at hli ⊢
            exact hli
          · rw [binds_any] at hb
            obtain ⟨g1, _, _⟩ := hspec i o (infOf r) (hinf h3).1 (hinf h3).2
            have := g1 e (by simpa using he) hb
            exact ih e.on (by omega) (by omega)
        rw [hrd] at hmem
        cases hmem
  intro fuel
  induction fuel with
  | zero =>
    intro listed hsz hcl hleft G a w hs
    have hall : ∀ i, i < ops.size → listed.getD i false = true := fun i hi => by
      cases h : listed.getD i false with
      | true => rfl
      | false =>
        exfalso
        have hnil : (List.range ops.size).filter (fun j => !listed.getD j false) = [] := List.eq_nil_of_length_eq_zero (by unfold leftN at hleft; omega)
        have : i ∈ (List.range ops.size).filter fun j => !listed.getD j false := List.mem_filter.2 ⟨List.mem_range.2 hi, by rw [h]; rfl⟩
        rw [hnil] at this
        cases this
    refine ⟨?_, done listed G a w hall hs⟩
    cases hrd : Region.ready .any ops listed with
    | nil => rfl
    | cons x xs =>
      have : x ∈ Region.ready .any ops listed := by rw [hrd]; exact List.mem_cons_self
      rw [mem_ready] at this
      obtain ⟨h1, o, h2, _⟩ := this
      have hx : x < ops.size := (Array.getElem?_eq_some_iff.1 h2).1
      have := hall x hx
      rw [Array.getD_eq_getD_getElem?, Array.getElem?_eq_getElem (by omega)] at this h1
      simp only [Option.getD_some] at this h1
      rw [this] at h1
      cases h1
  | succ fuel ih =>
    intro listed hsz hcl hleft G a w hs
    refine ⟨fun hrd => done listed G a w (allReady listed hsz hrd) hs, fun i hi => ?_⟩
    rw [mem_ready] at hi
    obtain ⟨hli, o, ho, hedges⟩ := hi
    have hin : i < ops.size := (Array.getElem?_eq_some_iff.1 ho).1
    have hlf : listed.getD i false = false := by
      rw [Array.getD_eq_getD_getElem?, Array.getElem?_eq_getElem (by omega)] at hli ⊢
      exact hli
    obtain ⟨o', r, h1, h2, h3⟩ := zip_get (ops := ops) hr.len hin
    rw [ho] at h1
    cases h1
    have hbef : ∀ j, Bef ops.toList j i → listed.getD j false = true := by
      have key : ∀ j k, Bef ops.toList j k → k = i → listed.getD j false = true := by
        intro j k hb
        induction hb with
        | edge he1 he2 he3 =>
          intro hk
          subst hk
          rw [Array.getElem?_toList, ho] at he1
          cases he1
          exact hedges _ (by simpa using he2) (by rw [binds_any]; exact he3)
        | trans hb1 hb2 ih1 ih2 =>
          intro hk
          exact hcl _ _ hb1 (ih2 hk)
      exact fun j hb => key j i hb rfl
    have hw : (fun k => (listed.setIfInBounds i true).getD k false) = with1 (fun k => listed.getD k false) i := by
      funext k
      exact getD_set (by omega)
    obtain ⟨g1, g2, g3⟩ := hspec i o (infOf r) (hinf h3).1 (hinf h3).2
    rw [Nat.zero_add] at g1 g2 g3
    refine step_any hP ho h3 (hr.one i o r h3) hlf (hv r (List.mem_of_getElem? h2)) (fun j o' r' hj hne => ?_) (fun j o' r' hj hlt hS => ?_) (fun id hid => ?_) hs fun G' a' w' hs' => ?_
    · cases hSj : listed.getD j false with
      | true =>
        rw [hSj] at hne
        have hji : ¬ j < i := by
          intro h
          simp [h] at hne
        have hne2 : j ≠ i := fun e => by rw [e, hlf] at hSj; cases hSj
        obtain ⟨_, _, k3⟩ := hspec j o' (infOf r') (hinf hj).1 (hinf hj).2
        rw [Nat.zero_add] at k3
        rcases k3 i (by omega) o (infOf r) (hinf h3).1 (hinf h3).2 with h | h
        · have := hcl _ _ h hSj
          rw [hlf] at this
          cases this
        · exact ⟨fun s hs hd => h.ld s hd hs, fun id hid hm => h.tc id hid hm⟩
      | false =>
        rw [hSj] at hne
        have hji : j < i := by
          rcases Nat.lt_or_ge j i with h | h
          · exact h
          · simp [show ¬ j < i by omega] at hne
        rcases g3 j hji o' (infOf r') (hinf hj).1 (hinf hj).2 with h | h
        · rw [hbef j h] at hSj
          cases hSj
        · exact ⟨fun s hs hd => h.dl s hd hs, fun id hid hm => h.ct id hm hid⟩
    · obtain ⟨_, _, k3⟩ := hspec j o' (infOf r') (hinf hj).1 (hinf hj).2
      rw [Nat.zero_add] at k3
      rcases k3 i hlt o (infOf r) (hinf h3).1 (hinf h3).2 with h | h
      · have := hcl _ _ h hS
        rw [hlf] at this
        cases this
      · exact ⟨fun d hd => h.dd d hd, fun id hid => h.cc id hid⟩
    · rcases g2 id hid with h | ⟨h, h'⟩
      · exact .inl h
      · refine .inr ⟨h, ?_⟩
        simp only [with1, Bool.or_eq_true, decide_eq_true_eq]
        rcases h' with h' | h'
        · exact .inr h'
        · exact .inl (hbef _ h')
    · rw [← hw] at hs'
      refine ih _ (by simpa using hsz) (fun i' j' hb hl => ?_) ?_ G' a' w' hs'
      · rw [getD_set (by omega)] at hl ⊢
        simp only [Bool.or_eq_true, decide_eq_true_eq] at hl ⊢
        rcases hl with hl | rfl
        · exact .inl (hcl _ _ hb hl)
        · exact .inl (hbef _ hb)
      · have := leftN_set hin (by omega) hlf
        omega

theorem SatF.drew {tm : Nat → SV} {len : Nat} {lk : Id → Option Res} {stk : List (List SV)} {old : Id → Prop} {G : Gh} {a : Act} {w : World} (s : SatF E tm len lk stk old G a w) : SatF E tm len lk stk old G a w.drew := by
  have h := s.step (dst := none) (sv := .junk) (v := undef) (us := []) (old' := old) (Chg.refl s.bnd).drew (fun h => absurd rfl h) (fun _ _ h => by cases h) (fun _ h => h) (by simp [SV.ids, idsU])
  have e : updT tm none len .junk = tm := by funext i; simp [updT]
  rw [e] at h
  exact h
/-- THE RUN OF A REGION. -/
theorem run_region (hP : Prg P C) {R : Nat} {decs : List (Nat × Bool)} {draw : Bool} {st st' : St} {vc : Prop} {rid : Nat} (hmix : draw = true → P.follows .mixedOrders = true) (hrun : runR C R decs ops st = some (st', vc)) (hchk : chkR C R decs ops draw st = true) (hvc : vc) {G : Gh} {a : Act} {w : World} (hs : Sat E st G a w)
    (hQ : ∀ G a w, Sat E st' G a w → Q .normal a w) : (Code.region rid ops draw).wp P Q a w := by
  obtain ⟨t, rs, ctr, stk⟩ := st
  unfold runR at hrun
  simp only at hrun
  cases hlt : Nat.blt ctr R with
  | false => rw [hlt] at hrun; cases hrun
  | true =>
    rw [hlt] at hrun
    rw [Nat.blt_eq] at hlt
    simp only [cond_true] at hrun
    rw [runK_eq] at hrun
    unfold chkR at hchk
    simp only at hchk
    rw [runK_eq] at hchk
    split at hrun
    · cases hrun
    · rename_i recs t' rs' hl
      rw [hl] at hchk
      simp only at hchk
      have hc := hchk
      simp only [Option.some.injEq, Prod.mk.injEq] at hrun
      obtain ⟨rfl, rfl⟩ := hrun
      · obtain ⟨s1, s2, s3, s4⟩ := runL_spec (i0 := 0) hl (fun k x hk => by rw [nums_get hk]; omega)
        have hr : Ran C R decs ops t rs recs t' rs' := ⟨by simpa using s1, s2, fun j o r hj => by have := s3 j o r hj; rwa [Nat.zero_add] at this, s4⟩
        have hv : ∀ r ∈ recs, ∀ p ∈ r.vc, p := fun r hr p hp => conj_all hvc p (mem_vcsOf (.inr ⟨r, hr, hp⟩))
        have hs0 : SatF E (getT t) t.length (look rs) stk (fun id => id.r ≤ ctr) G a w := hs
        have hQ' : ∀ G a w, SatF E (getT t') t.length (look rs') stk (fun id => id.r ≤ R) G a w → Q .normal a w := fun G a w h => hQ G a w (by
          have : t'.length = t.length := s2
          show SatF E (getT t') t'.length (look rs') stk (fun id => id.r ≤ R) G a w
          rw [this]
          exact h)
        unfold regChk at hc
        rw [infs_rev] at hc
        cases draw with
        | false =>
          simp only at hc
          refine wp_region ?_
          have hsp := seqChk_spec (i0 := 0) hc (fun k x hk => by rw [nums_get hk]; omega)
          rw [List.range_eq_range']
          refine region_plain hP hr hv (fun j r hj id hid => ?_) ops.size 0 (by omega) G a w ?_ hQ'
          · have := hsp j (infOf r) (by rw [List.getElem?_map, hj]; rfl) id hid
            rwa [Nat.zero_add] at this
          · rw [appS_none _ _ _ _ _ (fun j hj => by simp)]
            exact hs0.mono fun id h => .inl (by omega)
        | true =>
          simp only at hc
          refine wp_region_any (hmix rfl) ?_
          refine region_any hP hr hv hc hQ' ops.size (Array.replicate ops.size false) (by simp) (fun i j _ h => ?_) ?_ G a _ ?_
          · rw [Array.getD_eq_getD_getElem?, Array.getElem?_replicate] at h
            split at h <;> simp at h
          · unfold leftN
            exact Nat.le_trans (List.length_filter_le _ _) (by simp)
          · rw [appS_none _ _ _ _ _ (fun j hj => by rw [Array.getD_eq_getD_getElem?, Array.getElem?_replicate]; split <;> rfl)]
            exact (hs0.mono fun id h => .inl (by omega)).drew
end
end Go.Sx
