/- Symbolic execution, part D: a symbolic state holds of a frame and a world; what a step may turn, and what it keeps. -/
import Derived.Test.YtbnmeeajooljmaaSxC
set_option linter.all false
namespace Go.Sx
open Go Go.RowKit

/-- What the whole walk is measured by: the world at its begin, the blocks that must stay as they were, the callers' slots. -/
structure Env where
  w0 : World
  prot : Nat → Prop
  lab : Nat → Lab
  frames : List (Array Value)

def MtT (G : Gh) (w : World) (tm : Nat → SV) (len : Nat) (a : Array Value) : Prop :=
  len = a.size ∧ ∀ i, MtS G w (tm i) (a.getD i undef)
def MtK (G : Gh) (w : World) : List (List SV) → List (Array Value) → Prop
  | [], fs => fs = []
  | t :: r, fs => ∃ f fs', fs = f :: fs' ∧ MtT G w (getT t) t.length f ∧ MtK G w r fs'

/-- every value that an id stands for is a single one -/
def RhoOk (G : Gh) : Prop := ∀ id, (G.ρ id).oneCell' = true
structure SatF (E : Env) (tm : Nat → SV) (len : Nat) (lk : Id → Option Res) (stk : List (List SV)) (old : Id → Prop) (G : Gh) (a : Act) (w : World) : Prop where
  tms : MtT G w tm len a.tmps
  rs : ∀ id R, lk id = some R → ResOk G w id R
  st : MtK G w stk E.frames
  bnd : ∀ b, G.g b ≠ .no → b < w.heap.size
  df : a.defers = []
  one : RhoOk G
  tmO : ∀ i, ∀ id ∈ (tm i).ids, old id
  rsO : ∀ id R, lk id = some R → old id ∧ ∀ j ∈ R.ids, old j
  stO : ∀ id ∈ idsK stk, old id
  os : w.os = E.w0.os
  tape : w.tape = E.w0.tape
  output : w.output = E.w0.output
  size : E.w0.heap.size ≤ w.heap.size
  prot : ∀ b, E.prot b → b < E.w0.heap.size ∧ w.heap[b]? = E.w0.heap[b]? ∧ G.g b = E.lab b ∧ ∀ id p, E.lab b ≠ .own id p

def Sat (E : Env) (st : St) (G : Gh) (a : Act) (w : World) : Prop :=
  SatF E (getT st.tmps) st.tmps.length (look st.res) st.stk (fun id => id.r ≤ st.ctr) G a w

/-- What a step may turn: what the ids in 'chg' stand for, and new blocks. -/
structure Chg (old : Id → Prop) (chg : Id → Prop) (G G' : Gh) (w w' : World) : Prop where
  rho : ∀ id, old id → G'.ρ id = G.ρ id
  pb : KeepPB G G' w w'
  own : ∀ b id p, G.g b = .own id p → ¬ chg id → G'.g b = .own id p ∧ w'.heap[b]? = w.heap[b]?
  no : ∀ b, b < w.heap.size → G.g b = .no → w'.heap[b]? = w.heap[b]? ∧ G'.g b = .no
  bnd : ∀ b, G'.g b ≠ .no → b < w'.heap.size
  one : RhoOk G → RhoOk G'
  os : w'.os = w.os
  tape : w'.tape = w.tape
  output : w'.output = w.output
  size : w.heap.size ≤ w'.heap.size

theorem MtA.keep {old chg : Id → Prop} {G G' : Gh} {w w' : World} (h : Chg old chg G G' w w') {a : At} {cs : List Value} (ho : ∀ id ∈ a.ids, old id) (m : MtA G w a cs) : MtA G' w' a cs := by
  cases a with
  | d T F x => exact ⟨m.1, m.2.keep h.pb m.1⟩
  | kb b => exact m
  | nils => exact m
  | own id => have := h.rho id (ho id (by simp [At.ids])); rw [show cs = _ from m, ← this]; rfl
  | ptr id off =>
    have := h.rho id (ho id (by simp [At.ids]))
    obtain ⟨b, h1, h2⟩ := m
    exact ⟨b, this.trans h1, h2⟩
  | opt id i sz off T =>
    have := h.rho id (ho id (by simp [At.ids]))
    obtain ⟨b, o, n, c, h1, h2⟩ := m
    exact ⟨b, o, n, c, this.trans h1, h2⟩
  | rpt o T F x =>
    obtain ⟨h0, ho', b, off, C, t, fz, h1, h2, h3, h4, h5⟩ := m
    have hl := labOk_keep h.pb (id' := default) (p' := []) ho' h2
    exact ⟨h0, ho', b, off, C, t, fz, h1, hl.1, by rw [hl.2]; exact h3, h4, h5.keep h.pb h0⟩
  | nilp => exact m
  | junk => exact m
  | anyb P => exact m
  | sub id lo hi sz inn =>
    have := h.rho id (ho id (by simp [At.ids]))
    obtain ⟨A, n, c, h1, h2⟩ := m
    exact ⟨A, n, c, this.trans h1, h2⟩
  | chp id i =>
    have := h.rho id (ho id (by simp [At.ids]))
    obtain ⟨ps, A, h1, h2⟩ := m
    exact ⟨ps, A, by rw [this]; exact h1, h2⟩
  | chf id i off =>
    have := h.rho id (ho id (by simp [At.ids]))
    obtain ⟨ps, b, h1, h2⟩ := m
    exact ⟨ps, b, by rw [this]; exact h1, h2⟩
  | lnk id0 off id i sz =>
    have t0 := h.rho id0 (ho id0 (by simp [At.ids]))
    have t1 := h.rho id (ho id (by simp [At.ids]))
    rcases m with ⟨h1, b, h2, h3⟩ | ⟨k, ps, b, h1, h2, h3⟩
    · exact .inl ⟨h1, b, t0.trans h2, h3⟩
    · exact .inr ⟨k, ps, b, h1, by rw [t1]; exact h2, h3⟩
  | vp id off i n e =>
    have := h.rho id (ho id (by simp [At.ids]))
    obtain ⟨b, h1, h2⟩ := m
    exact ⟨b, this.trans h1, h2⟩
  | vsl id off n sz =>
    have := h.rho id (ho id (by simp [At.ids]))
    obtain ⟨b, h1, h2⟩ := m
    exact ⟨b, this.trans h1, h2⟩
theorem MtL.keep {old chg : Id → Prop} {G G' : Gh} {w w' : World} (h : Chg old chg G G' w w') : ∀ {l : List At} {cs : List Value}, (∀ id ∈ idsL l, old id) → MtL G w l cs → MtL G' w' l cs := by
  intro l
  induction l with
  | nil => intro cs _ m; exact m
  | cons a r ih =>
    intro cs ho m
    obtain ⟨c1, c2, rfl, h1, h2⟩ := m
    exact ⟨c1, c2, rfl, h1.keep h fun id hi => ho id (by simp [idsL, hi]), ih (fun id hi => ho id (by simp [idsL, hi])) h2⟩
theorem MtV.keep {old chg : Id → Prop} {G G' : Gh} {w w' : World} (h : Chg old chg G G' w w') {ag : Bool} {l : List At} {v : Value} (ho : ∀ id ∈ idsL l, old id) (m : MtV G w ag l v) : MtV G' w' ag l v := by
  cases ag with
  | true => obtain ⟨cs, h1, h2⟩ := m; exact ⟨cs, h1, h2.keep h ho⟩
  | false => exact ⟨m.1, m.2.keep h ho⟩
theorem MtVs.keep {old chg : Id → Prop} {G G' : Gh} {w w' : World} (h : Chg old chg G G' w w') : ∀ {l : List (Bool × List At)} {vs : List Value}, (∀ id ∈ idsT l, old id) → MtVs G w l vs → MtVs G' w' l vs := by
  intro l
  induction l with
  | nil => intro vs _ m; exact m
  | cons a r ih =>
    intro vs ho m
    obtain ⟨ag, l⟩ := a
    obtain ⟨v, vs', rfl, h1, h2⟩ := m
    exact ⟨v, vs', rfl, h1.keep h fun id hi => ho id (by simp [idsT, hi]), ih (fun id hi => ho id (by simp [idsT, hi])) h2⟩
theorem MtC.keep {old chg : Id → Prop} {G G' : Gh} {w w' : World} (h : Chg old chg G G' w w') : ∀ {l : List At} {vs : List Value}, (∀ id ∈ idsL l, old id) → MtC G w l vs → MtC G' w' l vs := by
  intro l
  induction l with
  | nil => intro vs _ m; exact m
  | cons a r ih =>
    intro vs ho m
    obtain ⟨v, vs', rfl, h1, h2, h3⟩ := m
    exact ⟨v, vs', rfl, h1, h2.keep h fun id hi => ho id (by simp [idsL, hi]), ih (fun id hi => ho id (by simp [idsL, hi])) h3⟩
theorem MtS.keep {old chg : Id → Prop} {G G' : Gh} {w w' : World} (h : Chg old chg G G' w w') {s : SV} {v : Value} (ho : ∀ id ∈ s.ids, old id) (m : MtS G w s v) : MtS G' w' s v := by
  cases s with
  | v ag l => exact MtV.keep h ho m
  | fn f caps => obtain ⟨vs, h1, h2⟩ := m; exact ⟨vs, h1, h2.keep h ho⟩
  | tup l => obtain ⟨vs, h1, h2⟩ := m; exact ⟨vs, h1, h2.keep h ho⟩
  | junk => trivial
theorem MtEls.keep {old chg : Id → Prop} {G G' : Gh} {w w' : World} (h : Chg old chg G G' w w') {sz : Nat} {C : Array Value} : ∀ {l : List (List At)} {off : Nat}, (∀ id ∈ idsLL l, old id) → MtEls G w sz C off l → MtEls G' w' sz C off l := by
  intro l
  induction l with
  | nil => intro off _ m; exact m
  | cons a r ih => intro off ho m; exact ⟨m.1.keep h fun id hi => ho id (by simp [idsLL, hi]), ih (fun id hi => ho id (by simp [idsLL, hi])) m.2⟩
theorem idsL_app (l m : List At) : idsL (l ++ m) = idsL l ++ idsL m := by
  induction l with
  | nil => rfl
  | cons a l ih => simp [idsL, ih]
theorem atomsOf_ids : ∀ {T : Ty} {F : Fl} {x : T.den}, idsL (atomsOf T F x) = [] := by
  intro T
  induction T with
  | pr a b iha ihb => intro F x; simp only [atomsOf]; rw [idsL_app, iha, ihb]; rfl
  | _ => intro F x; rfl
theorem MpOk.keep {old chg : Id → Prop} {G G' : Gh} {w w' : World} (h : Chg old chg G G' w w') {ak av : Bool} {K V : Ty} {F : Fl} : ∀ {l : List (K.den × V.den)} {es : List MapEntry}, MpOk G w ak av K V F l es → MpOk G' w' ak av K V F l es := by
  intro l
  induction l with
  | nil => intro es m; exact m
  | cons p l ih =>
    intro es m
    obtain ⟨e, es', h1, h2, h3, h4⟩ := m
    exact ⟨e, es', h1, h2.keep h (by rw [atomsOf_ids]; simp), h3.keep h (by rw [atomsOf_ids]; simp), ih h4⟩
theorem ResOk.keep {old chg : Id → Prop} {G G' : Gh} {w w' : World} (h : Chg old chg G G' w w') {id : Id} {R : Res} (hid : old id) (ho : ∀ j ∈ R.ids, old j) (hc : ¬ chg id) (m : ResOk G w id R) : ResOk G' w' id R := by
  have hown : ∀ b q, G.g b = .own id q → G'.g b = .own id q ∧ w'.heap[b]? = w.heap[b]? := fun b q hb => h.own b id q hb hc
  cases R with
  | var cs =>
    obtain ⟨b, C, t, h1, h2, h3, h4⟩ := m
    exact ⟨b, C, t, (h.rho id hid).trans h1, (hown b [] h2).1, by rw [(hown b [] h2).2]; exact h3, h4.keep h ho⟩
  | sl e f x =>
    show Tr G' w' (.sl e) (.sl .w f) id [] [G'.ρ id] x
    rw [h.rho id hid]
    exact Tr.mono h.pb (fun b q hb => by simpa using hown b q (by simpa using hb)) m
  | slo e f x j cs =>
    obtain ⟨b, off, C, t, n, c, h1, h2, h3, h4, h5, h6, h7, h8, h9, h10⟩ := m
    refine ⟨b, off, C, t, n, c, (h.rho id hid).trans h1, h2, h3, h4, h5, (hown b [] h6).1, by rw [(hown b [] h6).2]; exact h7, h8, fun k y hk hy => ?_, h10.keep h ho⟩
    exact Tr.mono h.pb (fun b q hb => hown b _ hb) (h9 k y hk hy)
  | els sz css =>
    obtain ⟨A, n, c, h1, h2, h3, h4, h5⟩ := m
    refine ⟨A, n, c, (h.rho id hid).trans h1, h2, h3, h4, ?_⟩
    rcases h5 with h5 | ⟨b, off, C, t, h6, h7, h8, h9, h10⟩
    · exact .inl h5
    · exact .inr ⟨b, off, C, t, h6, (hown b [] h7).1, by rw [(hown b [] h7).2]; exact h8, h9, h10.keep h ho⟩
  | mp ak av K V F l =>
    obtain ⟨h0, r, es, clk, h1, h2, h3, h4⟩ := m
    exact ⟨h0, r, es, clk, (h.rho id hid).trans h1, (hown r [] h2).1, by rw [(hown r [] h2).2]; exact h3, h4.keep h⟩
  | room i k =>
    obtain ⟨A, n, c, h1, h2⟩ := m
    exact ⟨A, n, c, (h.rho i (ho i (by simp [Res.ids]))).trans h1, h2⟩
  | ch o e l =>
    obtain ⟨ps, h1, h2, h3⟩ := m
    refine ⟨ps, by rw [h.rho id hid]; exact h1, h2, fun k y hy => ?_⟩
    obtain ⟨b, C, t, cs, nx, g1, g2, g3, g4, g5, g6⟩ := h3 k y hy
    have hb : labC G' o id k b ∧ w'.heap[b]? = w.heap[b]? := by
      cases o with
      | true => exact hown b [k] g3
      | false => exact h.pb.bor b g3
    exact ⟨b, C, t, cs, nx, g1, g2, hb.1, by rw [hb.2]; exact g4, g5, g6.keep h.pb (noO_p e)⟩
  | lvar cs =>
    obtain ⟨b, C, t, h1, h2, h3, h4⟩ := m
    exact ⟨b, C, t, (h.rho id hid).trans h1, (h.pb.bor b h2).1, by rw [(h.pb.bor b h2).2]; exact h3, h4.keep h ho⟩
  | bys l =>
    obtain ⟨b, C, t, fz, c, h1, h2, h3, h4, h5, h6⟩ := m
    have hb := hown b [] h4
    exact ⟨b, C, t, fz, c, (h.rho id hid).trans h1, h2, h3, hb.1, by rw [hb.2]; exact h5, h6⟩
  | pre i n =>
    obtain ⟨ps, ps', h1, h2, h3⟩ := m
    exact ⟨ps, ps', by rw [h.rho id hid]; exact h1, by rw [h.rho i (ho i (by simp [Res.ids]))]; exact h2, h3⟩
theorem mem_idsS_getT {t : List SV} : ∀ {i : Nat} {id : Id}, id ∈ (getT t i).ids → id ∈ idsS t := by
  induction t with
  | nil => intro i id h; simp [getT, SV.ids] at h
  | cons x xs ih => intro i id h; cases i with
    | zero => simp only [idsS, List.mem_append]; exact .inl h
    | succ i => simp only [idsS, List.mem_append]; exact .inr (ih h)
theorem MtK.keep {old chg : Id → Prop} {G G' : Gh} {w w' : World} (h : Chg old chg G G' w w') : ∀ {l : List (List SV)} {fs : List (Array Value)}, (∀ id ∈ idsK l, old id) → MtK G w l fs → MtK G' w' l fs := by
  intro l
  induction l with
  | nil => intro fs _ m; exact m
  | cons t r ih =>
    intro fs ho m
    obtain ⟨f, fs', rfl, h1, h2⟩ := m
    refine ⟨f, fs', rfl, ⟨h1.1, fun i => (h1.2 i).keep h fun id hi => ho id ?_⟩, ih (fun id hi => ho id (by simp [idsK, hi])) h2⟩
    simp only [idsK, List.mem_append]
    exact .inl (mem_idsS_getT hi)

/-! ### The step -/

def updL (lk : Id → Option Res) : List (Id × Option Res) → Id → Option Res
  | [] => lk
  | (i, x) :: us => updL (fun j => if j = i then x else lk j) us
def updT (tm : Nat → SV) (dst : Option Tmp) (len : Nat) (v : SV) : Nat → SV := fun i => if dst = some i ∧ i < len then v else tm i

theorem updL_cases (us : List (Id × Option Res)) : ∀ (lk : Id → Option Res) (id : Id) (R : Res), updL lk us id = some R →
    (id ∉ us.map (·.1) ∧ lk id = some R) ∨ (id, some R) ∈ us := by
  induction us with
  | nil => intro lk id R h; exact .inl ⟨by simp, h⟩
  | cons u us ih =>
    intro lk id R h
    obtain ⟨i, x⟩ := u
    rcases ih _ id R h with ⟨h1, h2⟩ | h1
    · by_cases hi : id = i
      · subst hi
        simp only [if_true] at h2
        exact .inr (by rw [← h2]; exact List.mem_cons_self)
      · rw [if_neg hi] at h2
        exact .inl ⟨by simp only [List.map_cons, List.mem_cons, not_or]; exact ⟨hi, h1⟩, h2⟩
    · exact .inr (List.mem_cons_of_mem _ h1)

theorem mem_idsU {us : List (Id × Option Res)} : ∀ {id : Id} {R : Res}, (id, some R) ∈ us → id ∈ idsU us ∧ ∀ j ∈ R.ids, j ∈ idsU us := by
  induction us with
  | nil => intro id R h; cases h
  | cons u us ih =>
    intro id R h
    obtain ⟨i, x⟩ := u
    cases h with
    | head => exact ⟨by simp [idsU], fun j hj => by simp [idsU, hj]⟩
    | tail _ h =>
      have := ih h
      cases x with
      | none => simp only [idsU, List.mem_cons]; exact ⟨.inr this.1, fun j hj => .inr (this.2 j hj)⟩
      | some S => simp only [idsU, List.mem_cons, List.mem_append]; exact ⟨.inr this.1, fun j hj => .inr (this.2 j hj)⟩

theorem getD_put (a : Act) (dst : Option Tmp) (v : Value) (i : Nat) : (a.put dst v).tmps.getD i undef = if dst = some i ∧ i < a.tmps.size then v else a.tmps.getD i undef := by
  cases dst with
  | none => simp [Act.put]
  | some d =>
    by_cases h : d = i
    · subst h
      by_cases hl : d < a.tmps.size
      · simp [Act.put, hl]
      · simp [Act.put, hl]
    · simp [Act.put, h, Array.getElem?_setIfInBounds_ne h]
theorem size_put (a : Act) (dst : Option Tmp) (v : Value) : (a.put dst v).tmps.size = a.tmps.size := by cases dst <;> simp [Act.put]
theorem defers_put (a : Act) (dst : Option Tmp) (v : Value) : (a.put dst v).defers = a.defers := by cases dst <;> rfl

/-- A step: what it turned is as the effect says. -/
theorem SatF.step {E : Env} {tm : Nat → SV} {len : Nat} {lk : Id → Option Res} {stk : List (List SV)} {old old' : Id → Prop} {G G' : Gh} {a : Act} {w w' : World} {dst : Option Tmp} {sv : SV} {v : Value}
    {us : List (Id × Option Res)} (s : SatF E tm len lk stk old G a w) (h : Chg old (fun id => id ∈ us.map (·.1)) G G' w w') (hv : dst ≠ none → MtS G' w' sv v)
    (hr : ∀ id R, (id, some R) ∈ us → ResOk G' w' id R) (hoo : ∀ id, old id → old' id) (hids : ∀ id ∈ sv.ids ++ idsU us, old' id) :
    SatF E (updT tm dst len sv) len (updL lk us) stk old' G' (a.put dst v) w' := by
  refine ⟨⟨by rw [size_put]; exact s.tms.1, fun i => ?_⟩, fun id R hR => ?_, s.st.keep h s.stO, h.bnd, by rw [defers_put]; exact s.df, h.one s.one, fun i id hi => ?_, fun id R hR => ?_, fun id hi => hoo id (s.stO id hi),
    h.os.trans s.os, h.tape.trans s.tape, h.output.trans s.output, Nat.le_trans s.size h.size, fun b hb => ?_⟩
  · rw [getD_put]
    unfold updT
    rw [← s.tms.1]
    split
    · rename_i hc
      exact hv (by rw [hc.1]; simp)
    · exact (s.tms.2 i).keep h (s.tmO i)
  · rcases updL_cases us lk id R hR with ⟨h1, h2⟩ | h1
    · exact (s.rs id R h2).keep h (s.rsO id R h2).1 (s.rsO id R h2).2 h1
    · exact hr id R h1
  · unfold updT at hi
    split at hi
    · exact hids id (List.mem_append_left _ hi)
    · exact hoo id (s.tmO i id hi)
  · rcases updL_cases us lk id R hR with ⟨h1, h2⟩ | h1
    · exact ⟨hoo id (s.rsO id R h2).1, fun j hj => hoo j ((s.rsO id R h2).2 j hj)⟩
    · exact ⟨hids id (List.mem_append_right _ (mem_idsU h1).1), fun j hj => hids j (List.mem_append_right _ ((mem_idsU h1).2 j hj))⟩
  · obtain ⟨h1, h2, h3, h4⟩ := s.prot b hb
    have hlt : b < w.heap.size := Nat.lt_of_lt_of_le h1 s.size
    cases hg : G.g b with
    | no => exact ⟨h1, ((h.no b hlt hg).1).trans h2, by rw [(h.no b hlt hg).2, ← h3, hg], h4⟩
    | per => exact ⟨h1, (h.pb.per b hg).2.trans h2, by rw [(h.pb.per b hg).1, ← h3, hg], h4⟩
    | bor => exact ⟨h1, (h.pb.bor b hg).2.trans h2, by rw [(h.pb.bor b hg).1, ← h3, hg], h4⟩
    | own id p => rw [hg] at h3; exact absurd h3.symm (h4 id p)

end Go.Sx
