/- Symbolic execution, part S: the run of a region. -/
import Derived.Test.YtbnmeeajooljmaaSxR
set_option linter.all false
namespace Go.Sx
open Go Go.RowKit

def stT (t : List SV) (d : Option Tmp) (v : SV) : List SV := match d with | none => t | some d => setT t d v
def runL (C : Ctx) (R : Nat) (decs : List (Nat × Bool)) (full : List Oper) : List Oper → List Nat → List SV → List (Id × Res) → Option (List Rec × List SV × List (Id × Res))
  | [], _, t, rs => some ([], t, rs)
  | _ :: _, [], _, _ => none
  | o :: os, i :: is, t, rs => match oneF C R decs full o i (getT t) (look rs) with
    | none => none
    | some r => match runL C R decs full os is (stT t o.dst r.sv) (puts rs r.us) with
      | none => none
      | some (recs, t', rs') => some (r :: recs, t', rs')
def vcsOf : List Rec → List Prop → List Prop
  | [], v => v
  | r :: rs, v => vcsOf rs (r.vc ++ v)
def infOf (r : Rec) : Inf := ⟨r.touch, r.us.map (·.1), r.ids⟩
def infsOf : List Rec → List Inf → List Inf
  | [], v => v
  | r :: rs, v => infsOf rs (infOf r :: v)

section
variable {α : Type}
theorem getK_eq (l : List SV) (i : Nat) (k : SV → α) : getK l i k = k (getT l i) := by
  induction l generalizing i with
  | nil => rfl
  | cons x xs ih => cases i with
    | zero => rfl
    | succ i => simp only [getK, getT]; exact ih i
theorem cond_app {β : Type} (c : Bool) (k : β → α) (x y : β) : (bif c then k x else k y) = k (bif c then x else y) := by cases c <;> rfl
theorem evCK_eq (v : Value) (k : SV → α) : evCK v k = k (evC v) := by
  cases v with
  | int kd n => exact cond_app _ k _ _
  | string s => exact cond_app _ k _ _
  | slice A n c => cases A <;> cases n <;> cases c <;> rfl
  | pointer p => cases p <;> rfl
  | _ => rfl
theorem evOK_eq (t : List SV) (o : Operand) (k : SV → α) : evOK t o k = k (evF (getT t) o) := by
  cases o with
  | tmp i => exact getK_eq t i k
  | const v => exact evCK_eq v k
  | func f => rfl
  | global g => rfl
theorem evsK_eq (t : List SV) : ∀ (l : List Operand) (k : List SV → α), evsK t l k = k (l.map (evF (getT t))) := by
  intro l
  induction l with
  | nil => intro k; rfl
  | cons o os ih =>
    intro k
    simp only [evsK]
    rw [evOK_eq, ih]
    rfl
theorem runK_eq (C : Ctx) (R : Nat) (decs : List (Nat × Bool)) (full : List Oper) : ∀ (os : List Oper) (is : List Nat) (t : List SV) (rs : List (Id × Res)) (vcs : List Prop) (infs : List Inf) (k : List SV → List (Id × Res) → List Prop → List Inf → α) (d : α),
    runK C R decs full os is t rs vcs infs k d = match runL C R decs full os is t rs with
      | none => d
      | some (recs, t', rs') => k t' rs' (vcsOf recs vcs) (infsOf recs infs) := by
  intro os
  induction os with
  | nil => intro is t rs vcs infs k d; rfl
  | cons o os ih =>
    intro is t rs vcs infs k d
    cases is with
    | nil => rfl
    | cons i is =>
      have skip : oneF C R decs full o i (getT t) (look rs) = some ⟨passed, [], [], [], []⟩ →
          (match o.dst with
          | none => runK C R decs full os is t rs vcs (⟨[], [], []⟩ :: infs) k d
          | some dst => setK t dst passed fun t' => runK C R decs full os is t' rs vcs (⟨[], [], []⟩ :: infs) k d) = match runL C R decs full (o :: os) (i :: is) t rs with
            | none => d
            | some (recs, t', rs') => k t' rs' (vcsOf recs vcs) (infsOf recs infs) := fun h => by
        simp only [runL, h]
        cases hd : o.dst with
        | none =>
          simp only [stT]
          rw [ih]
          cases hl : runL C R decs full os is t (puts rs []) with
          | none => rw [show puts rs [] = rs from rfl] at hl; rw [hl]
          | some x => rw [show puts rs [] = rs from rfl] at hl; rw [hl]; rfl
        | some dst =>
          simp only [stT]
          rw [setK_eq, ih]
          cases hl : runL C R decs full os is (setT t dst passed) (puts rs []) with
          | none => rw [show puts rs [] = rs from rfl] at hl; rw [hl]
          | some x => rw [show puts rs [] = rs from rfl] at hl; rw [hl]; rfl
      have go : guardF full o.guard (getT t) = some true → (evsK t o.op.operands.toList fun vals =>
          match (opEff C o.op ⟨R, i, 0⟩ vals).exec (look rs) with
          | none => d
          | some (⟨v, upd, vc⟩, touch) => putsK rs upd fun rs' =>
              match o.dst with
              | none => runK C R decs full os is t rs' (vc ++ vcs) (⟨touch, upd.map (·.1), v.ids ++ idsU upd⟩ :: infs) k d
              | some dst => match decOf decs i with
                | none => setK t dst v fun t' => runK C R decs full os is t' rs' (vc ++ vcs) (⟨touch, upd.map (·.1), v.ids ++ idsU upd⟩ :: infs) k d
                | some b => match asB v with
                  | none => d
                  | some x => setK t dst (.v false [.kb b]) fun t' => runK C R decs full os is t' rs' (((x = b) :: vc) ++ vcs) (⟨touch, upd.map (·.1), idsU upd⟩ :: infs) k d) =
          match runL C R decs full (o :: os) (i :: is) t rs with
            | none => d
            | some (recs, t', rs') => k t' rs' (vcsOf recs vcs) (infsOf recs infs) := fun hg => by
        rw [evsK_eq]
        simp only [runL, oneF, hg]
        cases hx : (opEff C o.op ⟨R, i, 0⟩ (o.op.operands.toList.map (evF (getT t)))).exec (look rs) with
        | none => rfl
        | some y =>
          obtain ⟨⟨v, upd, vc⟩, touch⟩ := y
          simp only
          rw [putsK_eq]
          cases hd : o.dst with
          | none =>
            simp only [stT]
            rw [ih]
            cases runL C R decs full os is t (puts rs upd) <;> rfl
          | some dst =>
            simp only
            cases hdec : decOf decs i with
            | none =>
              simp only [stT]
              rw [setK_eq, ih]
              cases runL C R decs full os is (setT t dst v) (puts rs upd) <;> rfl
            | some b =>
              simp only
              cases hb : asB v with
              | none => rfl
              | some x =>
                simp only [stT]
                rw [setK_eq, ih]
                cases runL C R decs full os is (setT t dst (.v false [.kb b])) (puts rs upd) <;> rfl
      unfold runK
      simp only
      cases hgo : o.guard with
      | none => exact go (by simp [guardF, hgo])
      | some p =>
        obtain ⟨j, want⟩ := p
        simp only
        cases hd : dstAt full j with
        | none => simp [runL, oneF, guardF, hgo, hd]
        | some g =>
          simp only
          rw [getK_eq]
          split
          · rename_i b hb
            cases he : eqB b want with
            | true => exact go (by simp [guardF, hgo, hd, hb, he])
            | false => exact skip (by simp [oneF, guardF, hgo, hd, hb, he])
          · rename_i hb
            exact skip (by simp [oneF, guardF, hgo, hd, hb])
          · rename_i h1 h2
            have : guardF full o.guard (getT t) = none := by
              simp only [guardF, hgo, hd]
            simp [runL, oneF, this]
end

/-! what a state is after some of the operations -/
theorem getT_set (t : List SV) (d : Nat) (v : SV) : getT (setT t d v) = updT (getT t) (some d) t.length v := by
  funext i
  induction t generalizing d i with
  | nil => simp [setT, getT, updT]
  | cons x xs ih =>
    cases d with
    | zero => cases i with
      | zero => simp [setT, getT, updT]
      | succ i => simp [setT, getT, updT]
    | succ d => cases i with
      | zero => simp [setT, getT, updT]
      | succ i =>
        simp only [setT, getT]
        rw [ih]
        simp [updT]
theorem len_setT (t : List SV) (d : Nat) (v : SV) : (setT t d v).length = t.length := by
  induction t generalizing d with
  | nil => rfl
  | cons x xs ih => cases d with
    | zero => rfl
    | succ d => simp [setT, ih]
theorem getT_stT (t : List SV) (d : Option Tmp) (v : SV) : getT (stT t d v) = updT (getT t) d t.length v := by
  cases d with
  | none => funext i; simp [stT, updT]
  | some d => exact getT_set t d v
theorem len_stT (t : List SV) (d : Option Tmp) (v : SV) : (stT t d v).length = t.length := by
  cases d with
  | none => rfl
  | some d => exact len_setT t d v
theorem look_put (rs : List (Id × Res)) (r : Id) (x : Option Res) : look (putR rs r x) = fun j => if j = r then x else look rs j := by
  funext j
  have hbe : ∀ a b : Id, a.beq b = true ↔ a = b := fun a b => ⟨Id.eq_of_beq, fun h => h ▸ Id.beq_self a⟩
  induction rs generalizing x with
  | nil =>
    cases x with
    | none => simp [putR, look]
    | some y =>
      simp only [putR, look]
      cases hb : r.beq j with
      | true => rw [(hbe _ _).1 hb]; simp
      | false => simp only [cond_false]; rw [if_neg (fun e => Id.beq_ne hb e.symm)]
  | cons e es ih =>
    obtain ⟨id, y⟩ := e
    simp only [putR]
    cases hb : id.beq r with
    | true =>
      have he := (hbe _ _).1 hb
      subst he
      simp only [cond_true]
      cases x with
      | none =>
        simp only
        rw [ih]
        by_cases hj : j = id
        · simp [hj]
        · rw [if_neg hj, if_neg hj]
          simp only [look]
          cases hb2 : id.beq j with
          | true => exact absurd ((hbe _ _).1 hb2).symm hj
          | false => rfl
      | some z =>
        simp only [look]
        cases hb2 : id.beq j with
        | true => rw [(hbe _ _).1 hb2]; simp
        | false => simp only [cond_false]; rw [if_neg (fun e => Id.beq_ne hb2 e.symm)]
    | false =>
      simp only [cond_false, look]
      cases hb2 : id.beq j with
      | true =>
        have he := (hbe _ _).1 hb2
        subst he
        simp only [cond_true]
        rw [if_neg (Id.beq_ne hb)]
      | false => simp only [cond_false]; exact ih x
theorem look_puts : ∀ (us : List (Id × Option Res)) (rs : List (Id × Res)), look (puts rs us) = updL (look rs) us := by
  intro us
  induction us with
  | nil => intro rs; rfl
  | cons u us ih =>
    intro rs
    obtain ⟨r, x⟩ := u
    simp only [puts, updL]
    rw [ih, look_put]

/-- the state after the operations of S -/
def appS (S : Nat → Bool) (len : Nat) : List (Oper × Rec) → Nat → (Nat → SV) × (Id → Option Res) → (Nat → SV) × (Id → Option Res)
  | [], _, s => s
  | (o, r) :: l, i, s => appS S len l (i + 1) (if S i then (updT s.1 o.dst len r.sv, updL s.2 r.us) else s)
theorem appS_append (S : Nat → Bool) (len : Nat) : ∀ (l m : List (Oper × Rec)) (i : Nat) (s : (Nat → SV) × (Id → Option Res)), appS S len (l ++ m) i s = appS S len m (i + l.length) (appS S len l i s) := by
  intro l
  induction l with
  | nil => intro m i s; rfl
  | cons x xs ih =>
    intro m i s
    obtain ⟨o, r⟩ := x
    simp only [List.cons_append, appS, List.length_cons]
    rw [ih, show i + 1 + xs.length = i + (xs.length + 1) by omega]
theorem appS_false (len : Nat) : ∀ (l : List (Oper × Rec)) (i : Nat) (s : (Nat → SV) × (Id → Option Res)), appS (fun _ => false) len l i s = s := by
  intro l
  induction l with
  | nil => intro i s; rfl
  | cons x xs ih => intro i s; obtain ⟨o, r⟩ := x; simp only [appS]; exact ih _ _
theorem updL_not {us : List (Id × Option Res)} : ∀ {lk : Id → Option Res} {id : Id}, id ∉ us.map (·.1) → updL lk us id = lk id := by
  induction us with
  | nil => intro lk id _; rfl
  | cons u us ih =>
    intro lk id h
    simp only [List.map_cons, List.mem_cons, not_or] at h
    simp only [updL]
    rw [ih h.2, if_neg h.1]
theorem updL_mem {us : List (Id × Option Res)} : ∀ {lk lk' : Id → Option Res} {id : Id}, id ∈ us.map (·.1) → updL lk us id = updL lk' us id := by
  induction us with
  | nil => intro lk lk' id h; cases h
  | cons u us ih =>
    intro lk lk' id h
    by_cases hm : id ∈ us.map (·.1)
    · exact ih hm
    · have he : id = u.1 := by simpa [hm] using h
      simp only [updL]
      rw [updL_not hm, updL_not hm, if_pos he, if_pos he]
theorem appS_tm (S S' : Nat → Bool) (len : Nat) (s : Nat) : ∀ (l : List (Oper × Rec)) (i : Nat) (x x' : (Nat → SV) × (Id → Option Res)), x.1 s = x'.1 s → (∀ j o r, l[j]? = some (o, r) → S (i + j) ≠ S' (i + j) → o.dst ≠ some s) →
    (appS S len l i x).1 s = (appS S' len l i x').1 s := by
  intro l
  induction l with
  | nil => intro i x x' h _; exact h
  | cons y ys ih =>
    intro i x x' h hd
    obtain ⟨o, r⟩ := y
    simp only [appS]
    refine ih (i + 1) _ _ ?_ fun j o' r' hj hne => hd (j + 1) o' r' (by simpa using hj) (by rwa [show i + (j + 1) = i + 1 + j by omega])
    by_cases hSS : S i = S' i
    · rw [← hSS]
      split
      · simp only [updT]; rw [h]
      · exact h
    · have hdn := hd 0 o r rfl (by simpa using hSS)
      have e1 : (if S i then (updT x.1 o.dst len r.sv, updL x.2 r.us) else x).1 s = x.1 s := by
        split
        · simp [updT, hdn]
        · rfl
      have e2 : (if S' i then (updT x'.1 o.dst len r.sv, updL x'.2 r.us) else x').1 s = x'.1 s := by
        split
        · simp [updT, hdn]
        · rfl
      rw [e1, e2, h]
theorem appS_lk (S S' : Nat → Bool) (len : Nat) (id : Id) : ∀ (l : List (Oper × Rec)) (i : Nat) (x x' : (Nat → SV) × (Id → Option Res)), x.2 id = x'.2 id → (∀ j o r, l[j]? = some (o, r) → S (i + j) ≠ S' (i + j) → id ∉ r.us.map (·.1)) →
    (appS S len l i x).2 id = (appS S' len l i x').2 id := by
  intro l
  induction l with
  | nil => intro i x x' h _; exact h
  | cons y ys ih =>
    intro i x x' h hd
    obtain ⟨o, r⟩ := y
    simp only [appS]
    refine ih (i + 1) _ _ ?_ fun j o' r' hj hne => hd (j + 1) o' r' (by simpa using hj) (by rwa [show i + (j + 1) = i + 1 + j by omega])
    by_cases hSS : S i = S' i
    · rw [← hSS]
      split
      · simp only
        by_cases hm : id ∈ r.us.map (·.1)
        · exact updL_mem hm
        · rw [updL_not hm, updL_not hm, h]
      · exact h
    · have hdn := hd 0 o r rfl (by simpa using hSS)
      have e1 : (if S i then (updT x.1 o.dst len r.sv, updL x.2 r.us) else x).2 id = x.2 id := by
        split
        · exact updL_not hdn
        · rfl
      have e2 : (if S' i then (updT x'.1 o.dst len r.sv, updL x'.2 r.us) else x').2 id = x'.2 id := by
        split
        · exact updL_not hdn
        · rfl
      rw [e1, e2, h]
end Go.Sx
