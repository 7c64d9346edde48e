/- Symbolic execution, part T: a region's run is sound, in its order and in any. -/
import Derived.Test.YtbnmeeajooljmaaSxS
set_option linter.all false
namespace Go.Sx
open Go Go.RowKit

theorem nums_get {k x : Nat} (h : nums[k]? = some x) : x = k := by
  have hn : nums = List.range 120 := by decide
  rw [hn] at h
  have hk : k < 120 := by
    have := (List.getElem?_eq_some_iff.1 h).1
    simpa using this
  rw [List.getElem?_range hk] at h
  exact (Option.some.inj h).symm
theorem appS_none (S : Nat → Bool) (len : Nat) : ∀ (l : List (Oper × Rec)) (i : Nat) (s : (Nat → SV) × (Id → Option Res)), (∀ j, i ≤ j → S j = false) → appS S len l i s = s := by
  intro l
  induction l with
  | nil => intro i s _; rfl
  | cons x xs ih =>
    intro i s h
    obtain ⟨o, r⟩ := x
    simp only [appS]
    rw [h i (Nat.le_refl _)]
    exact ih (i + 1) s fun j hj => h j (by omega)
theorem runL_spec {C : Ctx} {R : Nat} {decs : List (Nat × Bool)} {full : List Oper} : ∀ {os : List Oper} {is : List Nat} {i0 : Nat} {t : List SV} {rs : List (Id × Res)} {recs : List Rec} {t' : List SV} {rs' : List (Id × Res)},
    runL C R decs full os is t rs = some (recs, t', rs') → (∀ k x, is[k]? = some x → x = i0 + k) → recs.length = os.length ∧ t'.length = t.length ∧
      (∀ (j : Nat) (o : Oper) (r : Rec), (os.zip recs)[j]? = some (o, r) → oneF C R decs full o (i0 + j) (appS (fun k => decide (k < i0 + j)) t.length (os.zip recs) i0 (getT t, look rs)).1 (appS (fun k => decide (k < i0 + j)) t.length (os.zip recs) i0 (getT t, look rs)).2 = some r) ∧
      (getT t', look rs') = appS (fun _ => true) t.length (os.zip recs) i0 (getT t, look rs) := by
  intro os
  induction os with
  | nil =>
    intro is i0 t rs recs t' rs' h _
    simp only [runL, Option.some.injEq, Prod.mk.injEq] at h
    obtain ⟨rfl, rfl, rfl⟩ := h
    exact ⟨rfl, rfl, fun j o r hj => by simp at hj, rfl⟩
  | cons o os ih =>
    intro is i0 t rs recs t' rs' h hn
    cases is with
    | nil => simp [runL] at h
    | cons i is =>
      have hi : i = i0 := by simpa using hn 0 i rfl
      subst hi
      simp only [runL] at h
      split at h
      · cases h
      · rename_i r hr
        split at h
        · cases h
        · rename_i recs1 t1 rs1 hl
          simp only [Option.some.injEq, Prod.mk.injEq] at h
          obtain ⟨rfl, rfl, rfl⟩ := h
          obtain ⟨h1, h2, h3, h4⟩ := ih (i0 := i + 1) hl (fun k x hk => by have := hn (k + 1) x (by simpa using hk); omega)
          rw [len_stT] at h2 h3 h4
          rw [getT_stT, look_puts] at h3 h4
          refine ⟨by simp [h1], h2, fun j o' r' hj => ?_, ?_⟩
          · cases j with
            | zero =>
              simp only [List.zip_cons_cons, List.getElem?_cons_zero, Option.some.injEq, Prod.mk.injEq] at hj
              obtain ⟨rfl, rfl⟩ := hj
              rw [appS_none _ _ _ _ _ (fun j hj => by simp; omega)]
              exact hr
            | succ j =>
              have := h3 j o' r' (by simpa using hj)
              simp only [List.zip_cons_cons, appS]
              rw [if_pos (by simp)]
              rw [show i + (j + 1) = i + 1 + j by omega]
              exact this
          · rw [h4]
            simp [appS]
theorem conj_all : ∀ {l : List Prop}, conj l → ∀ p ∈ l, p := by
  intro l
  induction l with
  | nil => intro _ p hp; cases hp
  | cons x xs ih =>
    intro h p hp
    cases xs with
    | nil => rw [List.mem_singleton] at hp; subst hp; exact h
    | cons y ys =>
      cases hp with
      | head => exact h.2
      | tail _ hp => exact ih h.1 p hp
theorem mem_vcsOf : ∀ {recs : List Rec} {v : List Prop} {p : Prop}, (p ∈ v ∨ ∃ r ∈ recs, p ∈ r.vc) → p ∈ vcsOf recs v := by
  intro recs
  induction recs with
  | nil => intro v p h; rcases h with h | ⟨r, hr, _⟩; exact h; cases hr
  | cons r rs ih =>
    intro v p h
    simp only [vcsOf]
    refine ih ?_
    rcases h with h | ⟨r', hr, hp⟩
    · exact .inl (List.mem_append_right _ h)
    · cases hr with
      | head => exact .inl (List.mem_append_left _ hp)
      | tail _ hr => exact .inr ⟨r', hr, hp⟩
theorem revA_eq {β : Type} : ∀ (l m : List β), revA l m = l.reverse ++ m := by
  intro l
  induction l with
  | nil => intro m; rfl
  | cons x xs ih => intro m; simp [revA, ih]
theorem infsOf_eq : ∀ (recs : List Rec) (v : List Inf), infsOf recs v = (recs.map infOf).reverse ++ v := by
  intro recs
  induction recs with
  | nil => intro v; rfl
  | cons r rs ih => intro v; simp [infsOf, ih]
theorem infs_rev (recs : List Rec) : revA (infsOf recs []) [] = recs.map infOf := by rw [revA_eq, infsOf_eq]; simp

section
variable {P : Program} {C : Ctx} {E : Env} {ops : Array Oper} {Q : Exit → Act → World → Prop}
/-- what was made before, or by the operations of S -/
def oldS (R : Nat) (S : Nat → Bool) (id : Id) : Prop := id.r < R ∨ (id.r = R ∧ S id.s = true)
theorem SatF.mono {tm : Nat → SV} {len : Nat} {lk : Id → Option Res} {stk : List (List SV)} {old old' : Id → Prop} {G : Gh} {a : Act} {w : World} (h : ∀ id, old id → old' id) (s : SatF E tm len lk stk old G a w) : SatF E tm len lk stk old' G a w :=
  { s with tmO := fun i id hi => h id (s.tmO i id hi), rsO := fun id R hR => ⟨h id (s.rsO id R hR).1, fun j hj => h j ((s.rsO id R hR).2 j hj)⟩, stO := fun id hi => h id (s.stO id hi) }
def with1 (S : Nat → Bool) (i : Nat) : Nat → Bool := fun j => S j || decide (j = i)
theorem step_any (hP : Prg P C) {R : Nat} {decs : List (Nat × Bool)} {L : List (Oper × Rec)} {len : Nat} {s0 : (Nat → SV) × (Id → Option Res)} {stk : List (List SV)} {S : Nat → Bool} {i : Nat} {o : Oper} {r : Rec} {K : Act → World → Prop} {a : Act} {w : World} {G : Gh}
    (hi : ops[i]? = some o) (hL : L[i]? = some (o, r)) (h1 : oneF C R decs ops.toList o i (appS (fun k => decide (k < i)) len L 0 s0).1 (appS (fun k => decide (k < i)) len L 0 s0).2 = some r) (hS : S i = false) (hv : ∀ p ∈ r.vc, p)
    (c1 : ∀ j o' r', L[j]? = some (o', r') → S j ≠ decide (j < i) → (∀ s ∈ looksL ops.toList o, o'.dst ≠ some s) ∧ ∀ id ∈ r.touch, id ∉ r'.us.map (·.1))
    (c2 : ∀ j o' r', L[j]? = some (o', r') → i < j → S j = true → (∀ d, o.dst = some d → o'.dst ≠ some d) ∧ ∀ id ∈ r.us.map (·.1), id ∉ r'.us.map (·.1))
    (c3 : ∀ id ∈ r.ids, oldS R (with1 S i) id)
    (hs : SatF E (appS S len L 0 s0).1 len (appS S len L 0 s0).2 stk (oldS R S) G a w)
    (hK : ∀ G' a' w', SatF E (appS (with1 S i) len L 0 s0).1 len (appS (with1 S i) len L 0 s0).2 stk (oldS R (with1 S i)) G' a' w' → K a' w') : wpOp P ops Q i K a w := by
  have h2 : oneF C R decs ops.toList o i (appS S len L 0 s0).1 (appS S len L 0 s0).2 = some r := by
    refine oneF_congr h1 (fun s hs => ?_) (fun id hid => ?_)
    · exact appS_tm _ _ _ _ _ _ _ _ rfl fun j o' r' hj hne => (c1 j o' r' hj (by simpa using hne)).1 s hs
    · exact appS_lk _ _ _ _ _ _ _ _ rfl fun j o' r' hj hne => (c1 j o' r' hj (by simpa using hne)).2 id hid
  have hil : i < L.length := (List.getElem?_eq_some_iff.1 hL).1
  have hsplit : L = L.take i ++ (o, r) :: L.drop (i + 1) := by
    have : L[i] = (o, r) := (List.getElem?_eq_some_iff.1 hL).2
    rw [← this, List.getElem_cons_drop, List.take_append_drop]
  have hlen : (L.take i).length = i := by rw [List.length_take]; omega
  have hdrop : ∀ j o' r', (L.drop (i + 1))[j]? = some (o', r') → L[i + 1 + j]? = some (o', r') := fun j o' r' h => by rwa [List.getElem?_drop] at h
  have et : updT (appS S len L 0 s0).1 o.dst len r.sv = (appS (with1 S i) len L 0 s0).1 := by
    funext s
    by_cases hd : o.dst = some s ∧ s < len
    · have e1 : (appS (with1 S i) len L 0 s0).1 s = r.sv := by
        rw [hsplit, appS_append, hlen, Nat.zero_add]
        simp only [appS]
        rw [if_pos (by simp [with1])]
        rw [appS_tm (with1 S i) (fun _ => false) len s (L.drop (i + 1)) (i + 1) _ _ rfl fun j o' r' hj hne => ?_, appS_false]
        · simp [updT, hd]
        · have hSj : S (i + 1 + j) = true := by
            simp only [with1, ne_eq, Bool.not_eq_false, Bool.or_eq_true, decide_eq_true_eq] at hne
            rcases hne with h | h
            · exact h
            · omega
          exact (c2 _ o' r' (hdrop j o' r' hj) (by omega) hSj).1 s hd.1
      rw [e1]
      simp [updT, hd]
    · have : updT (appS S len L 0 s0).1 o.dst len r.sv s = (appS S len L 0 s0).1 s := by simp only [updT]; rw [if_neg hd]
      rw [this]
      by_cases hds : o.dst = some s
      · -- past the slots: nothing writes there
        have hge : ¬ s < len := fun h => hd ⟨hds, h⟩
        have hst : ∀ (S : Nat → Bool) (l : List (Oper × Rec)) (k : Nat) (x : (Nat → SV) × (Id → Option Res)), (appS S len l k x).1 s = x.1 s := by
          intro S l
          induction l with
          | nil => intro k x; rfl
          | cons y ys ih =>
            intro k x
            obtain ⟨o', r'⟩ := y
            simp only [appS]
            rw [ih]
            split
            · simp [updT, hge]
            · rfl
        rw [hst, hst]
      · refine appS_tm _ _ _ _ _ _ _ _ rfl fun j o' r' hj hne => ?_
        simp only [Nat.zero_add, with1, ne_eq] at hne
        have hji : j = i := by
          cases hSj : S j with
          | true => simp [hSj] at hne
          | false =>
            rw [hSj] at hne
            simpa using hne
        subst hji
        rw [hL] at hj
        cases hj
        exact hds
  have el : updL (appS S len L 0 s0).2 r.us = (appS (with1 S i) len L 0 s0).2 := by
    funext id
    by_cases hd : id ∈ r.us.map (·.1)
    · have e1 : ∃ lk', (appS (with1 S i) len L 0 s0).2 id = updL lk' r.us id := by
        rw [hsplit, appS_append, hlen, Nat.zero_add]
        simp only [appS]
        rw [if_pos (by simp [with1])]
        rw [appS_lk (with1 S i) (fun _ => false) len id (L.drop (i + 1)) (i + 1) _ _ rfl fun j o' r' hj hne => ?_, appS_false]
        · exact ⟨_, rfl⟩
        · have hSj : S (i + 1 + j) = true := by
            simp only [with1, ne_eq, Bool.not_eq_false, Bool.or_eq_true, decide_eq_true_eq] at hne
            rcases hne with h | h
            · exact h
            · omega
          exact (c2 _ o' r' (hdrop j o' r' hj) (by omega) hSj).2 id hd
      obtain ⟨lk', e1⟩ := e1
      rw [e1]
      exact updL_mem hd
    · rw [updL_not hd]
      refine appS_lk _ _ _ _ _ _ _ _ rfl fun j o' r' hj hne => ?_
      simp only [Nat.zero_add, with1, ne_eq] at hne
      have hji : j = i := by
        cases hSj : S j with
        | true => simp [hSj] at hne
        | false =>
          rw [hSj] at hne
          simpa using hne
      subst hji
      rw [hL] at hj
      cases hj
      exact hd
  refine one_sound hP hi h2 hs hv (fun k h => ?_) (fun id h => ?_) c3 fun G' a' w' h => hK G' a' w' (by rw [← et, ← el]; exact h)
  · rcases h with h | ⟨_, h⟩
    · simp at h
    · simp only at h; rw [hS] at h; cases h
  · rcases h with h | ⟨h, h'⟩
    · exact .inl h
    · exact .inr ⟨h, by simp [with1, h']⟩

theorem seqChk_spec {R : Nat} : ∀ {fs : List Inf} {is : List Nat} {i0 : Nat}, seqChk R fs is = true → (∀ k x, is[k]? = some x → x = i0 + k) → ∀ (j : Nat) (f : Inf), fs[j]? = some f → ∀ id ∈ f.ids, id.r < R ∨ (id.r = R ∧ id.s ≤ i0 + j) := by
  have hids : ∀ {i : Nat} {l : List Id}, idsOkSeq R i l = true → ∀ id ∈ l, id.r < R ∨ (id.r = R ∧ id.s ≤ i) := by
    intro i l
    induction l with
    | nil => intro _ id hid; cases hid
    | cons x xs ih =>
      intro h id hid
      obtain ⟨r, s, c⟩ := x
      simp only [idsOkSeq, Bool.and_eq_true, Bool.or_eq_true] at h
      cases hid with
      | head =>
        rcases h.1 with h | h
        · exact .inl (by rw [Nat.blt_eq] at h; exact h)
        · exact .inr ⟨Nat.eq_of_beq_eq_true h.1, Nat.le_of_ble_eq_true h.2⟩
      | tail _ hid => exact ih h.2 id hid
  intro fs
  induction fs with
  | nil => intro is i0 _ _ j f hj; simp at hj
  | cons f fs ih =>
    intro is i0 h hn j f' hj
    cases is with
    | nil => cases h
    | cons i is =>
      have hi : i = i0 := by simpa using hn 0 i rfl
      subst hi
      simp only [seqChk, Bool.and_eq_true] at h
      cases j with
      | zero => simp only [List.getElem?_cons_zero, Option.some.injEq] at hj; subst hj; exact hids h.1
      | succ j =>
        have := ih (i0 := i + 1) h.2 (fun k x hk => by have := hn (k + 1) x (by simpa using hk); omega) j f' (by simpa using hj)
        rwa [show i + 1 + j = i + (j + 1) by omega] at this
/-- what the run yields, laid out -/
structure Ran (C : Ctx) (R : Nat) (decs : List (Nat × Bool)) (ops : Array Oper) (t : List SV) (rs : List (Id × Res)) (recs : List Rec) (t' : List SV) (rs' : List (Id × Res)) : Prop where
  len : recs.length = ops.size
  lenT : t'.length = t.length
  one : ∀ (j : Nat) (o : Oper) (r : Rec), (ops.toList.zip recs)[j]? = some (o, r) → oneF C R decs ops.toList o j (appS (fun k => decide (k < j)) t.length (ops.toList.zip recs) 0 (getT t, look rs)).1 (appS (fun k => decide (k < j)) t.length (ops.toList.zip recs) 0 (getT t, look rs)).2 = some r
  fin : (getT t', look rs') = appS (fun _ => true) t.length (ops.toList.zip recs) 0 (getT t, look rs)
theorem appS_ext {S S' : Nat → Bool} (len : Nat) {l : List (Oper × Rec)} {i : Nat} {s : (Nat → SV) × (Id → Option Res)} (h : ∀ j, j < l.length → S (i + j) = S' (i + j)) : appS S len l i s = appS S' len l i s := by
  refine Prod.ext ?_ ?_
  · funext x
    exact appS_tm S S' len x l i s s rfl fun j o r hj hne => absurd (h j (List.getElem?_eq_some_iff.1 hj).1) hne
  · funext x
    exact appS_lk S S' len x l i s s rfl fun j o r hj hne => absurd (h j (List.getElem?_eq_some_iff.1 hj).1) hne
theorem zip_get {recs : List Rec} (hl : recs.length = ops.size) {i : Nat} (hi : i < ops.size) : ∃ o r, ops[i]? = some o ∧ recs[i]? = some r ∧ (ops.toList.zip recs)[i]? = some (o, r) := by
  refine ⟨ops[i], recs[i]'(by omega), Array.getElem?_eq_getElem hi, List.getElem?_eq_getElem (by omega), ?_⟩
  rw [List.getElem?_zip_eq_some]
  exact ⟨by rw [Array.getElem?_toList]; exact Array.getElem?_eq_getElem hi, List.getElem?_eq_getElem (by omega)⟩
theorem zip_get' {recs : List Rec} {i : Nat} {o : Oper} {r : Rec} (h : (ops.toList.zip recs)[i]? = some (o, r)) : ops[i]? = some o ∧ recs[i]? = some r := by
  rw [List.getElem?_zip_eq_some, Array.getElem?_toList] at h
  exact h
theorem region_plain (hP : Prg P C) {R : Nat} {decs : List (Nat × Bool)} {t : List SV} {rs : List (Id × Res)} {recs : List Rec} {t' : List SV} {rs' : List (Id × Res)} {stk : List (List SV)} (hr : Ran C R decs ops t rs recs t' rs') (hv : ∀ r ∈ recs, ∀ p ∈ r.vc, p)
    (hids : ∀ (j : Nat) (r : Rec), recs[j]? = some r → ∀ id ∈ r.ids, id.r < R ∨ (id.r = R ∧ id.s ≤ j)) :
    ∀ (m i : Nat), i + m = ops.size → ∀ (G : Gh) (a : Act) (w : World), SatF E (appS (fun k => decide (k < i)) t.length (ops.toList.zip recs) 0 (getT t, look rs)).1 t.length (appS (fun k => decide (k < i)) t.length (ops.toList.zip recs) 0 (getT t, look rs)).2 stk (oldS R fun k => decide (k < i)) G a w →
    (∀ G a w, SatF E (getT t') t.length (look rs') stk (fun id => id.r ≤ R) G a w → Q .normal a w) → wpOps P ops Q (List.range' i m) a w := by
  intro m
  induction m with
  | zero =>
    intro i hi G a w hs hQ
    refine hQ G a w ?_
    have hf := hr.fin
    have : appS (fun k => decide (k < i)) t.length (ops.toList.zip recs) 0 (getT t, look rs) = (getT t', look rs') := by
      rw [hf]
      refine appS_ext _ fun j hj => ?_
      rw [List.length_zip, Array.length_toList, hr.len] at hj
      simp
      omega
    rw [this] at hs
    exact hs.mono fun id h => by rcases h with h | ⟨h, _⟩ <;> omega
  | succ m ih =>
    intro i hi G a w hs hQ
    rw [List.range'_succ, wpOps_cons]
    obtain ⟨o, r, h1, h2, h3⟩ := zip_get (ops := ops) hr.len (show i < ops.size by omega)
    have hw : with1 (fun k => decide (k < i)) i = fun k => decide (k < i + 1) := by
      funext k
      by_cases hk : k < i
      · have : k < i + 1 := by omega
        simp [with1, hk, this]
      · by_cases hk2 : k = i
        · simp [with1, hk2]
        · have : ¬ k < i + 1 := by omega
          simp [with1, hk, hk2, this]
    refine step_any hP h1 h3 (hr.one i o r h3) (by simp) (hv r (List.mem_of_getElem? h2)) (fun j o' r' hj hne => absurd rfl hne) (fun j o' r' hj hlt hS => ?_) (fun id hid => ?_) hs fun G' a' w' hs' => ?_
    · simp at hS; omega
    · rw [hw]
      rcases hids i r h2 id hid with h | ⟨h, h'⟩
      · exact .inl h
      · exact .inr ⟨h, by simp; omega⟩
    · rw [hw] at hs'
      exact ih (i + 1) (by omega) G' a' w' hs' hQ
end
end Go.Sx
