/- Symbolic execution, part Y: a function's contract from its body. -/
import Derived.Test.YtbnmeeajooljmaaSxX
set_option linter.all false
namespace Go.Sx
open Go Go.RowKit

/-- a result's value -/
def retS (tt : TT) (t : List SV) (lk : Id → Option Res) : ResultVar → Option SV
  | .tmp i => some (getT t i)
  | .cell a ty => match ttOf tt ty, getT t a with
    | some ⟨_, T0, ag, _, _, _, _⟩, .v false [.ptr id off] => match lk id with
      | some (.var cs) => match takeA cs off T0.size with
        | some l => match (SV.ofTy ag l).exec lk with
          | some (s, _) => some s
          | none => none
        | none => none
      | _ => none
    | _, _ => none
def retSs (tt : TT) (t : List SV) (lk : Id → Option Res) : List ResultVar → Option (List SV)
  | [] => some []
  | r :: rs => match retS tt t lk r with
    | none => none
    | some s => match retSs tt t lk rs with
      | none => none
      | some ss => some (s :: ss)

/-- the results, one by one -/
def resL : SV → List SV
  | .tup l => l.map fun p => .v p.1 p.2
  | s => [s]
/-- captured variables, but those that are lent -/
def maskC : List (Bool × Ty × Fl) → List At → List At
  | (true, _, _) :: r, a :: l => a :: maskC r l
  | (false, _, _) :: r, _ :: l => .junk :: maskC r l
  | _, _ => []
/-- the arguments that matter: pointers to variables -/
def maskS : List Mode → List SV → List SV
  | .ref _ _ :: ms, s :: ss => s :: maskS ms ss
  | .mu _ _ _ :: ms, s :: ss => s :: maskS ms ss
  | .clo _ l :: ms, s :: ss => (match s with | .fn f caps => .fn f (maskC l caps) | _ => .junk) :: maskS ms ss
  | _ :: ms, _ :: ss => .junk :: maskS ms ss
  | _, _ => []
def noRefC : List (Bool × Ty × Fl) → Bool
  | [] => true
  | (b, _, _) :: r => !b && noRefC r
def noRefs : List Mode → Bool
  | [] => true
  | .ref _ _ :: _ => false
  | .mu _ _ _ :: _ => false
  | .clo _ l :: ms => noRefC l && noRefs ms
  | _ :: ms => noRefs ms
def stkOf (ms : List Mode) (ss : List SV) : List (List SV) := match noRefs ms with
  | true => []
  | false => [maskS ms ss]
def entrySt (c : Ctr) (n : Nat) (x : mdens c.ins) : St := match entryS 0 c.ins x with
  | (ss, us) => ⟨ss ++ List.replicate (n - ss.length) passed, puts [] us, 0, stkOf c.ins ss⟩
/-- the state at the end, the results in place of the slots -/
def exitSt (tt : TT) (rts : List ResultVar) (st : St) : Option St :=
  match st with
  | ⟨t, rs, ctr, k⟩ => match retSs tt t (look rs) rts with
    | none => none
    | some ss => some ⟨ss, rs, ctr, k⟩
/-- what is claimed of it -/
def exitInv (c : Ctr) (x : mdens c.ins) : St := ⟨resL (c.post x).1, (c.post x).2, 1, stkOf c.ins (entryS 0 c.ins x).1⟩
def exitOk (tt : TT) (c : Ctr) (rts : List ResultVar) (x : mdens c.ins) (st : St) : Option (List Prop) :=
  match exitSt tt rts st with
  | none => none
  | some s => bif nodupN (firsts (c.post x).2) then ent s (exitInv c x) else none

section
variable {P : Program} {C : Ctx}
theorem ArgsOk.len {G : Gh} {w : World} : ∀ {ms : List Mode} {k : Nat} {x : mdens ms} {args : List Value}, ArgsOk G w k ms x args → args.length = ms.length := by
  intro ms
  induction ms with
  | nil => intro k x args h; rw [show args = [] from h]; rfl
  | cons m ms ih => intro k x args h; obtain ⟨v, vs, rfl, _, h2⟩ := h; simp [ih h2]
theorem MtSs.get {G : Gh} {w : World} : ∀ {ss : List SV} {vs : List Value}, MtSs G w ss vs → ∀ (i : Nat) (v : Value), vs[i]? = some v → MtS G w (getT ss i) v := by
  intro ss
  induction ss with
  | nil => intro vs h i v hv; cases vs with
    | nil => simp at hv
    | cons _ _ => exact h.elim
  | cons s ss ih =>
    intro vs h i v hv
    cases vs with
    | nil => exact h.elim
    | cons u us => cases i with
      | zero => simp at hv; subst hv; exact h.1
      | succ i => exact ih h.2 i v (by simpa using hv)
theorem getT_past : ∀ {ss : List SV} {i : Nat}, ss.length ≤ i → getT ss i = .junk := by
  intro ss
  induction ss with
  | nil => intro i _; rfl
  | cons s ss ih => intro i h; cases i with
    | zero => simp at h
    | succ i => exact ih (by simpa using h)
theorem getT_app : ∀ {a b : List SV} {i : Nat}, getT (a ++ b) i = if i < a.length then getT a i else getT b (i - a.length) := by
  intro a
  induction a with
  | nil => intro b i; simp
  | cons x xs ih => intro b i; cases i with
    | zero => simp [getT]
    | succ i => simp only [List.cons_append, getT, List.length_cons]; rw [ih]; by_cases h : i < xs.length <;> simp [h]
theorem getT_rep {n i : Nat} : getT (List.replicate n passed) i = passed ∨ getT (List.replicate n passed) i = .junk := by
  induction n generalizing i with
  | zero => exact .inr rfl
  | succ n ih => cases i with
    | zero => exact .inl rfl
    | succ i => exact ih
theorem getT_mem {ss : List SV} : ∀ {i : Nat}, getT ss i = .junk ∨ getT ss i ∈ ss := by
  induction ss with
  | nil => intro i; exact .inl rfl
  | cons s ss ih => intro i; cases i with
    | zero => exact .inr List.mem_cons_self
    | succ i => exact (ih (i := i)).imp id (List.mem_cons_of_mem _)

theorem maskC_spec {G : Gh} {w : World} : ∀ {l : List (Bool × Ty × Fl)} {as : List At} {vs : List Value}, as.length = l.length → MtC G w as vs → MtC G w (maskC l as) vs := by
  intro l
  induction l with
  | nil => intro as vs h m; cases as with
    | nil => exact m
    | cons _ _ => simp at h
  | cons p r ih =>
    intro as vs h m
    obtain ⟨b, T, F⟩ := p
    cases as with
    | nil => simp at h
    | cons a as =>
      obtain ⟨v, vs', rfl, h1, h2, h3⟩ := m
      have := ih (as := as) (by simpa using h) h3
      cases b with
      | true => exact ⟨v, vs', rfl, h1, h2, this⟩
      | false => exact ⟨v, vs', rfl, h1, ⟨v, h1, rfl⟩, this⟩
theorem entryC_len {k : Nat} : ∀ {l : List (Bool × Ty × Fl)} {c : Nat} {x : dens l}, (entryC k l c x).1.length = l.length := by
  intro l
  induction l with
  | nil => intro c x; rfl
  | cons p r ih =>
    intro c x
    obtain ⟨b, T, F⟩ := p
    cases b with
    | true => simp [entryC, ih]
    | false => simp [entryC, ih]
theorem maskS_len : ∀ {ms : List Mode} {k : Nat} {x : mdens ms}, (maskS ms (entryS k ms x).1).length = ms.length := by
  intro ms
  induction ms with
  | nil => intro k x; rfl
  | cons m ms ih => intro k x; cases m <;> simp [maskS, entryS, ih]
theorem maskS_spec {G : Gh} {w : World} : ∀ {ms : List Mode} {k : Nat} {x : mdens ms} {args : List Value}, MtSs G w (entryS k ms x).1 args → MtSs G w (maskS ms (entryS k ms x).1) args := by
  intro ms
  induction ms with
  | nil => intro k x args h; exact h
  | cons m ms ih =>
    intro k x args h
    cases args with
    | nil => exact h.elim
    | cons v vs =>
      obtain ⟨h1, h2⟩ := h
      have := ih (k := k + 1) h2
      cases m with
      | ref T F => exact ⟨h1, this⟩
      | mu _ _ _ => exact ⟨h1, this⟩
      | clo f l =>
        obtain ⟨us, rfl, h3⟩ := h1
        exact ⟨⟨us, rfl, maskC_spec entryC_len h3⟩, this⟩
      | val _ _ _ => exact ⟨trivial, this⟩
      | own _ _ _ => exact ⟨trivial, this⟩
      | rp _ _ => exact ⟨trivial, this⟩
theorem idsC_mask : ∀ {l : List (Bool × Ty × Fl)} {as : List At}, ∀ j ∈ idsL (maskC l as), j ∈ idsL as := by
  intro l
  induction l with
  | nil => intro as j h; simp [maskC, idsL] at h
  | cons p r ih =>
    intro as j h
    obtain ⟨b, T, F⟩ := p
    cases as with
    | nil => cases b <;> simp [maskC, idsL] at h
    | cons a as =>
      cases b with
      | true =>
        simp only [maskC, idsL, List.mem_append] at h ⊢
        exact h.imp (fun h => h) (ih j)
      | false =>
        simp only [maskC, idsL, At.ids, List.nil_append] at h
        simp only [idsL, List.mem_append]
        exact .inr (ih j h)
theorem idsS_mask : ∀ {ms : List Mode} {ss : List SV}, ∀ j ∈ idsS (maskS ms ss), j ∈ idsS ss := by
  intro ms
  induction ms with
  | nil => intro ss j h; simp [maskS, idsS] at h
  | cons m ms ih =>
    intro ss j h
    cases ss with
    | nil => cases m <;> simp [maskS, idsS] at h
    | cons s ss =>
      simp only [idsS, List.mem_append]
      cases m with
      | ref T F =>
        simp only [maskS, idsS, List.mem_append] at h
        exact h.imp (fun h => h) (ih j)
      | mu _ _ _ =>
        simp only [maskS, idsS, List.mem_append] at h
        exact h.imp (fun h => h) (ih j)
      | clo f l =>
        simp only [maskS, idsS, List.mem_append] at h
        refine h.imp (fun h => ?_) (ih j)
        cases s with
        | fn g caps => exact idsC_mask j h
        | _ => cases h
      | val _ _ _ => simp only [maskS, idsS, SV.ids, List.nil_append] at h; exact .inr (ih j h)
      | own _ _ _ => simp only [maskS, idsS, SV.ids, List.nil_append] at h; exact .inr (ih j h)
      | rp _ _ => simp only [maskS, idsS, SV.ids, List.nil_append] at h; exact .inr (ih j h)
/-- the pointers to what was handed over are still those -/
theorem capsPtr_sound {G : Gh} {w : World} {k : Nat} : ∀ {l : List (Bool × Ty × Fl)} {c : Nat} {x : dens l} {vs : List Value}, MtC G w (maskC l (entryC k l c x).1) vs → ∀ p ∈ capsPtr k l c vs, G.ρ p.1 = p.2 := by
  intro l
  induction l with
  | nil => intro c x vs _ p hp; simp [capsPtr] at hp
  | cons q r ih =>
    intro c x vs m p hp
    obtain ⟨b, T, F⟩ := q
    cases b with
    | true =>
      obtain ⟨v, vs', rfl, h1, h2, h3⟩ := m
      simp only [capsPtr, List.mem_cons] at hp
      rcases hp with rfl | hp
      · obtain ⟨b, h4, h5⟩ := h2
        simp only [List.cons.injEq, and_true] at h5
        exact h4.trans h5.symm
      · exact ih h3 p hp
    | false =>
      obtain ⟨v, vs', rfl, h1, h2, h3⟩ := m
      exact ih h3 p hp
theorem argsPtr_sound {G : Gh} {w : World} : ∀ {ms : List Mode} {k : Nat} {x : mdens ms} {args : List Value}, MtSs G w (maskS ms (entryS k ms x).1) args → ∀ p ∈ argsPtr k ms args, G.ρ p.1 = p.2 := by
  intro ms
  induction ms with
  | nil => intro k x args _ p hp; simp [argsPtr] at hp
  | cons m ms ih =>
    intro k x args h p hp
    cases args with
    | nil => simp [argsPtr] at hp
    | cons v vs =>
      simp only [argsPtr, List.mem_append] at hp
      cases m with
      | ref T F =>
        rcases hp with hp | hp
        · simp only [argPtr, List.mem_singleton] at hp
          subst hp
          obtain ⟨b, h4, h5⟩ := (MtS.at1 (show MtS G w (.v false [.ptr ⟨0, k, 0⟩ 0]) v from h.1)).2
          simp only [List.cons.injEq, and_true] at h5
          exact h4.trans h5.symm
        · exact ih (k := k + 1) (x := x.2) h.2 p hp
      | clo f l =>
        rcases hp with hp | hp
        · obtain ⟨us, rfl, h3⟩ := (show MtS G w (.fn f (maskC l (entryC k l 0 x.1).1)) v from h.1)
          exact capsPtr_sound h3 p (by simpa [argPtr, capsV] using hp)
        · exact ih (k := k + 1) (x := x.2) h.2 p hp
      | val _ _ _ => exact ih (k := k + 1) (x := x.2) h.2 p (hp.elim (fun h => by simp [argPtr] at h) (fun h => h))
      | own _ _ _ => exact ih (k := k + 1) (x := x.2) h.2 p (hp.elim (fun h => by simp [argPtr] at h) (fun h => h))
      | rp _ _ => exact ih (k := k + 1) (x := x.2) h.2 p (hp.elim (fun h => by simp [argPtr] at h) (fun h => h))
      | mu ag e f =>
        rcases hp with hp | hp
        · simp only [argPtr, List.mem_singleton] at hp
          subst hp
          have h4 := (MtV.mk (show MtV G w ag [.own ⟨0, k, 0⟩] v from h.1)).2.2.one_inv
          have h5 : v.cells.toList = [G.ρ ⟨0, k, 0⟩] := h4
          simp [h5]
        · exact ih (k := k + 1) (x := x.2) h.2 p hp
theorem noRefC_ptr {k : Nat} : ∀ {l : List (Bool × Ty × Fl)} {c : Nat} {vs : List Value}, noRefC l = true → capsPtr k l c vs = [] := by
  intro l
  induction l with
  | nil => intro c vs _; rfl
  | cons q r ih =>
    intro c vs h
    obtain ⟨b, T, F⟩ := q
    simp only [noRefC, Bool.and_eq_true, Bool.not_eq_true'] at h
    obtain ⟨rfl, h⟩ := h
    cases vs with
    | nil => rfl
    | cons v vs => exact ih h
theorem noRefs_ptr : ∀ {ms : List Mode} {k : Nat} {args : List Value}, noRefs ms = true → argsPtr k ms args = [] := by
  intro ms
  induction ms with
  | nil => intro k args _; rfl
  | cons m ms ih =>
    intro k args h
    cases args with
    | nil => rfl
    | cons v vs =>
      cases m with
      | ref T F => cases h
      | mu _ _ _ => cases h
      | clo f l =>
        simp only [noRefs, Bool.and_eq_true] at h
        simp only [argsPtr, argPtr]
        rw [noRefC_ptr h.1, ih h.2]
        rfl
      | val _ _ _ => exact ih (k := k + 1) h
      | own _ _ _ => exact ih (k := k + 1) h
      | rp _ _ => exact ih (k := k + 1) h
def retV : List Value → Value
  | [v] => v
  | l => .tuple l.toArray
def resF (tmps : Array Value) : ResultVar → Sem Value
  | .tmp t => pure (tmps.getD t undef)
  | .cell a t => do loadVar t (← asAddr (tmps.getD a undef))
theorem results_eq (fn : Func) (tmps : Array Value) : results fn tmps = (do let vs ← fn.results.mapM (resF tmps); pure (if h : vs.size = 1 then vs[0] else .tuple vs)) := by
  unfold results
  congr 1
theorem retS_sound (hP : Prg P C) {G : Gh} {w : World} {t : List SV} {lk : Id → Option Res} {tmps : Array Value} (hrs : ∀ id R, lk id = some R → ResOk G w id R) (hone : RhoOk G) (ht : ∀ i, MtS G w (getT t i) (tmps.getD i undef)) {r : ResultVar} {s : SV} (h : retS C.tt t lk r = some s) :
    ∃ u, (resF tmps r).run P w = .ok u w ∧ MtS G w s u := by
  cases r with
  | tmp i => simp only [retS, Option.some.injEq] at h; subst h; exact ⟨_, rfl, ht i⟩
  | cell a ty =>
    simp only [retS] at h
    split at h
    · rename_i t1 T0 ag nf el by_ fts id off hte hta
      split at h
      · rename_i cs hlk
        split at h
        · rename_i l hl
          split at h
          · rename_i s' tr hs
            cases h
            have hm := ht a
            rw [hta] at hm
            obtain ⟨b, C', tt', hρ, hg, hh, hmc⟩ := hrs id _ hlk
            obtain ⟨b', hρ', hv'⟩ := hm.at1.2
            rw [hρ] at hρ'
            cases hρ'
            simp only [List.cons.injEq, and_true] at hv'
            obtain ⟨h3, h4⟩ := takeA_sound hmc hl
            obtain ⟨u, h5, h6⟩ := load_block (te := ⟨t1, T0, ag, nf, el, by_, fts⟩) hP.tt hte hh (by simpa using h3) hone h4 hs
            refine ⟨u, ?_, h6⟩
            simp only [resF]
            rw [hv']
            simpa [Instr.loadAt, Instr.sureAddr, asAddr] using h5
          · cases h
        · cases h
      · cases h
    · cases h
theorem run_results (hP : Prg P C) {G : Gh} {w : World} {t : List SV} {lk : Id → Option Res} {tmps : Array Value} (hrs : ∀ id R, lk id = some R → ResOk G w id R) (hone : RhoOk G) (ht : ∀ i, MtS G w (getT t i) (tmps.getD i undef)) {fn : Func} {rts : List ResultVar} {ss : List SV}
    (hr : fn.results = rts.toArray) (h : retSs C.tt t lk rts = some ss) : ∃ vs, (results fn tmps).run P w = .ok (retV vs) w ∧ MtSs G w ss vs := by
  have hm : ∀ (rts : List ResultVar) (ss : List SV), retSs C.tt t lk rts = some ss → ∃ vs, (rts.mapM (resF tmps)).run P w = .ok vs w ∧ MtSs G w ss vs := by
    intro rts
    induction rts with
    | nil => intro ss h; simp only [retSs, Option.some.injEq] at h; subst h; exact ⟨[], rfl, trivial⟩
    | cons r rs ih =>
      intro ss h
      simp only [retSs] at h
      split at h
      · cases h
      · rename_i s hs
        split at h
        · cases h
        · rename_i ss' hss
          cases h
          obtain ⟨u, h1, h2⟩ := retS_sound hP hrs hone ht hs
          obtain ⟨vs, h3, h4⟩ := ih ss' hss
          exact ⟨u :: vs, by rw [List.mapM_cons, Sem.run_bind, h1]; simp [h3], h2, h4⟩
  obtain ⟨vs, h1, h2⟩ := hm rts ss h
  refine ⟨vs, ?_, h2⟩
  rw [results_eq, Array.mapM_eq_mapM_toList, hr]
  simp [h1]
  match vs with
  | [] => rfl
  | [v] => rfl
  | v :: u :: r => simp [retV]

theorem MtVs.of_map {G : Gh} {w : World} : ∀ {l : List (Bool × List At)} {vs : List Value}, MtSs G w (l.map fun p => SV.v p.1 p.2) vs → MtVs G w l vs := by
  intro l
  induction l with
  | nil => intro vs h; cases vs with
    | nil => rfl
    | cons _ _ => exact h.elim
  | cons p r ih =>
    intro vs h
    cases vs with
    | nil => exact h.elim
    | cons v vs => exact ⟨v, vs, rfl, h.1, ih h.2⟩
/-- a tuple has not just one part -/
def tupOk : SV → Bool
  | .tup [_] => false
  | _ => true
theorem resL_sound {G : Gh} {w : World} {s : SV} {vs : List Value} (hs : tupOk s = true) (h : MtSs G w (resL s) vs) : MtS G w s (retV vs) := by
  have one : ∀ s, MtSs G w [s] vs → MtS G w s (retV vs) := fun s h => by
    match vs, h with
    | [v], h => exact h.1
  cases s with
  | tup l =>
    have h1 := MtVs.of_map h
    cases l with
    | nil => rw [show vs = [] from h1]; exact ⟨[], rfl, rfl⟩
    | cons p r =>
      cases r with
      | nil => cases hs
      | cons q r =>
        have h2 := h1
        obtain ⟨v, vs', rfl, _, u, us, rfl, _⟩ := h2
        exact ⟨_, rfl, h1⟩
  | _ => exact one _ h
theorem SatF_retmp {E : Env} {t t' : List SV} {rs : List (Id × Res)} {c : Nat} {k : List (List SV)} {G : Gh} {a : Act} {w : World} (h : Sat E ⟨t, rs, c, k⟩ G a w) {vs : List Value} (hm : MtSs G w t' vs) (hid : ∀ i, ∀ id ∈ (getT t' i).ids, id.r ≤ c) : Sat E ⟨t', rs, c, k⟩ G { tmps := vs.toArray, defers := [] } w := by
  have h' : SatF E (getT t) t.length (look rs) k (fun id => id.r ≤ c) G a w := h
  show SatF E (getT t') t'.length (look rs) k (fun id => id.r ≤ c) G _ w
  refine ⟨⟨by simp [hm.len], fun i => ?_⟩, h'.rs, h'.st, h'.bnd, rfl, h'.one, hid, h'.rsO, h'.stO, h'.os, h'.tape, h'.output, h'.size, h'.prot⟩
  by_cases hi : i < vs.length
  · refine hm.get i _ ?_
    rw [Array.getD_eq_getD_getElem?]
    simp [hi]
  · rw [getT_past (by rw [hm.len]; omega)]; trivial
theorem takeA_ids : ∀ {l : List At} {off n : Nat} {m : List At}, takeA l off n = some m → ∀ j ∈ idsL m, j ∈ idsL l := by
  intro l
  induction l with
  | nil =>
    intro off n m h j hj
    unfold takeA at h
    split at h
    · cases h; cases hj
    · cases h
  | cons a r ih =>
    intro off n m h j hj
    simp only [idsL, List.mem_append]
    cases off with
    | zero =>
      cases n with
      | zero => simp only [takeA, Option.some.injEq] at h; subst h; cases hj
      | succ n =>
        simp only [takeA] at h
        cases hb : Nat.ble a.size (n + 1) with
        | false => rw [hb] at h; cases h
        | true =>
          rw [hb] at h
          simp only [cond_true] at h
          split at h
          · rename_i y hy
            cases h
            simp only [idsL, List.mem_append] at hj
            exact hj.imp (fun h => h) (ih hy j)
          · cases h
    | succ off =>
      simp only [takeA] at h
      cases hb : Nat.ble a.size (off + 1) with
      | false => rw [hb] at h; cases h
      | true => rw [hb] at h; exact .inr (ih h j hj)
theorem ofTy_ids {lk : Id → Option Res} {ag : Bool} {l : List At} {s : SV} {t : List Id} (h : (SV.ofTy ag l).exec lk = some (s, t)) : ∀ j ∈ s.ids, j ∈ idsL l := by
  cases ag with
  | true => obtain ⟨rfl, _⟩ := exec_ok h; exact fun j hj => hj
  | false => match l with
    | [a] => obtain ⟨rfl, _⟩ := exec_ok h; exact fun j hj => hj
    | [] => exact exec_fail h
    | _ :: _ :: _ => exact exec_fail h
theorem look_of {l : List (Id × Res)} : nodupN (firsts l) = true → ∀ {i : Id} {R : Res}, (i, R) ∈ l → look l i = some R := by
  induction l with
  | nil => intro _ i R h; cases h
  | cons p r ih =>
    intro hn i R h
    obtain ⟨j, S⟩ := p
    rw [nodupN_iff] at hn
    simp only [firsts, List.map_cons, List.nodup_cons] at hn
    simp only [look]
    cases h with
    | head => rw [Id.beq_self]; rfl
    | tail _ h =>
      cases hb : j.beq i with
      | true =>
        rw [Id.eq_of_beq hb] at hn
        exact absurd (List.mem_map.2 ⟨_, h, rfl⟩) hn.1
      | false => exact ih (nodupN_iff.2 hn.2) h
theorem MtSs.of_get {G : Gh} {w : World} : ∀ {ss : List SV} {vs : List Value}, ss.length = vs.length → (∀ (i : Nat) (v : Value), vs[i]? = some v → MtS G w (getT ss i) v) → MtSs G w ss vs := by
  intro ss
  induction ss with
  | nil => intro vs h _; cases vs with
    | nil => trivial
    | cons _ _ => simp at h
  | cons s ss ih =>
    intro vs h k
    cases vs with
    | nil => simp at h
    | cons v vs => exact ⟨k 0 v rfl, ih (by simpa using h) fun i u hu => k (i + 1) u (by simpa using hu)⟩
theorem retS_ids {tt : TT} {t : List SV} {lk : Id → Option Res} {old : Id → Prop} (ht : ∀ i, ∀ id ∈ (getT t i).ids, old id) (hr : ∀ id R, lk id = some R → old id ∧ ∀ j ∈ R.ids, old j) : ∀ {rts : List ResultVar} {ss : List SV}, retSs tt t lk rts = some ss → ∀ s ∈ ss, ∀ j ∈ s.ids, old j := by
  intro rts
  induction rts with
  | nil => intro ss h; simp only [retSs, Option.some.injEq] at h; subst h; intro s hs; cases hs
  | cons r rs ih =>
    intro ss h
    simp only [retSs] at h
    split at h
    · cases h
    · rename_i s hs
      split at h
      · cases h
      · rename_i ss' hss
        cases h
        intro s' hs' j hj
        rcases List.mem_cons.1 hs' with rfl | hs'
        · cases r with
          | tmp i => simp only [retS, Option.some.injEq] at hs; subst hs; exact ht i j hj
          | cell a ty =>
            simp only [retS] at hs
            split at hs
            · split at hs
              · rename_i cs hlk
                split at hs
                · rename_i l hl
                  split at hs
                  · rename_i s2 tr hs2
                    cases hs
                    exact (hr _ _ hlk).2 j (takeA_ids hl j (ofTy_ids hs2 j hj))
                  · cases hs
                · cases hs
              · cases hs
            · cases hs
        · exact ih hss s' hs' j hj
/-- what holds of any data -/
def Ok : (T : Ty) → T.den → Prop
  | .int k, n => inR k n
  | .bool, _ => True
  | .str, s => List.length s ≤ maxL
  | .sl e, l => List.length l ≤ maxL ∧ ∀ x ∈ (l : List e.den), Ok e x
  | .arr n e, l => List.length l = n ∧ ∀ x ∈ (l : List e.den), Ok e x
  | .pr a b, x => Ok a x.1 ∧ Ok b x.2
  | .pt, _ => True
def capsD : (l : List (Bool × Ty × Fl)) → dens l → Prop
  | [], _ => True
  | p :: r, x => Ok p.2.1 x.1 ∧ capsD r x.2
def argD : (m : Mode) → m.den → Prop
  | .val _ T _, x => Ok T x
  | .own _ T _, x => Ok T x
  | .rp T _, x => Ok T x
  | .ref T _, x => Ok T x
  | .mu _ e _, x => Ok (.sl e) x
  | .clo _ l, x => capsD l x
def argsD : (ms : List Mode) → mdens ms → Prop
  | [], _ => True
  | m :: ms, x => argD m x.1 ∧ argsD ms x.2
theorem Tr.ok {G : Gh} {w : World} : ∀ {T : Ty} {F : Fl} {id : Id} {p : List Nat} {cs : List Value} {x : T.den}, Tr G w T F id p cs x → Ok T x := by
  intro T
  induction T with
  | int k => intro F id p cs x h; exact h.2
  | bool => intro F id p cs x h; trivial
  | pt => intro F id p cs x h; trivial
  | str => intro F id p cs x h; exact h.2
  | sl e ih =>
    intro F id p cs x h
    obtain ⟨A, n, c, hcs, hn, hc, hm, hwf, h⟩ := h
    refine ⟨by rw [← hn]; exact hm, fun y hy => ?_⟩
    obtain ⟨j, hj⟩ := List.mem_iff_getElem?.1 hy
    rcases h with h | ⟨b, off, C, t, fz, hA, hl, hh, hs, hw, hjj⟩
    · have h0 := (List.getElem?_eq_some_iff.1 hj).1
      exfalso
      have := h.2
      have : List.length x = 0 := by omega
      omega
    · exact ih (hjj j y hj)
  | arr n e ih =>
    intro F id p cs x h
    refine ⟨h.2.1, fun y hy => ?_⟩
    obtain ⟨j, hj⟩ := List.mem_iff_getElem?.1 hy
    exact ih (h.2.2 j y hj)
  | pr a b iha ihb =>
    intro F id p cs x h
    obtain ⟨c1, c2, rfl, h1, h2⟩ := h
    exact ⟨iha h1, ihb h2⟩
theorem rpt_ok {G : Gh} {w : World} {o : Fo} {T : Ty} {F : Fl} {x : T.den} {cs : List Value} (h : MtA G w (.rpt o T F x) cs) : Ok T x := by
  obtain ⟨_, _, b, off, C, t, fz, _, _, _, _, h⟩ := h
  exact h.ok
theorem CapsOk.d {G : Gh} {w : World} {k : Nat} : ∀ {l : List (Bool × Ty × Fl)} {c : Nat} {x : dens l} {vs : List Value}, CapsOk G w k l c x vs → capsD l x := by
  intro l
  induction l with
  | nil => intro c x vs _; trivial
  | cons p r ih =>
    intro c x vs h
    obtain ⟨b, T, F⟩ := p
    obtain ⟨v, vs', rfl, h1, h2⟩ := h
    cases b with
    | true => obtain ⟨_, _, _, _, _, _, h⟩ := (show RefOk G w _ T F x.1 v from h1); exact ⟨h.ok, ih h2⟩
    | false => exact ⟨rpt_ok (show MtA G w (.rpt .b T F x.1) [v] from h1), ih h2⟩
theorem ArgsOk.d {G : Gh} {w : World} : ∀ {ms : List Mode} {k : Nat} {x : mdens ms} {args : List Value}, ArgsOk G w k ms x args → argsD ms x := by
  intro ms
  induction ms with
  | nil => intro k x args _; trivial
  | cons m ms ih =>
    intro k x args h
    obtain ⟨v, vs, rfl, h1, h2⟩ := h
    refine ⟨?_, ih h2⟩
    cases m with
    | val ag T F => obtain ⟨_, cs, _, _, h⟩ := h1; exact h.ok
    | own ag T F => obtain ⟨cs, _, _, h⟩ := h1; exact h.ok
    | rp T F => exact rpt_ok h1
    | ref T F => obtain ⟨_, _, _, _, _, _, h⟩ := h1; exact h.ok
    | clo f l => obtain ⟨vs, _, h⟩ := h1; exact h.d
    | mu ag e f => obtain ⟨cs, _, _, h⟩ := h1; exact h.ok
/-- A FUNCTION'S CONTRACT, FROM ITS BODY. -/
theorem ctr_of_body (hP : Prg P C) (c : Ctr) {fn : Func} {body : Code} {rts : List ResultVar} (hf : P.funcs[c.f]? = some fn) (hb : fn.body = some body) (hn : (fn.name == "runtime.NumGoroutine") = false) (hres : fn.results = rts.toArray) (hfit : modesFit c.ins = true)
    (h : ∀ x, argsD c.ins x → c.pre x → tupOk (c.post x).1 = true ∧ SW P body (entrySt c fn.ntmps x) (fun e st => (e = .ret ∨ e = .normal) ∧ ∃ v, exitOk C.tt c rts x st = some v ∧ conj v)) : CtrOk P c := by
  intro G w args x hbnd hargs hpre
  have hlen := hargs.len
  have hrun : (callFunc c.f args.toArray).run P w = .ok (.enter c.f args.toArray) w := by
    have hn' : ¬ fn.name = "runtime.NumGoroutine" := by simpa using hn
    simp [callFunc, hf, hn', hb]
  refine ⟨_, _, hrun, .inr (.inl ⟨rfl, calls_of_wp hf hb ?_⟩)⟩
  obtain ⟨⟨ρk, a1, a2⟩, a3, a4⟩ := opened_S hfit hargs
  let g0 : Nat → Lab := fun b => match G.g b with
    | .own i q => (if i.r = 0 then (match rlM c.ins 0 i q with | some (i, r) => .own i r | none => .no) else .no)
    | l => l
  let G0 : Gh := ⟨ρk, g0⟩
  have hk0 : KeepPB G G0 w w := ⟨fun b hb => ⟨by simp [G0, g0, hb], rfl⟩, fun b hb => ⟨by simp [G0, g0, hb], rfl⟩⟩
  obtain ⟨e1, e2⟩ := a2 G0 hk0 (fun b j q i r hj p1 p2 => by simp [G0, g0, p1, p2, hj.1]) (fun j _ => rfl)
  let E : Env := ⟨w, fun b => b < w.heap.size ∧ ∀ id p, G.g b ≠ .own id p, G.g, match noRefs c.ins with | true => [] | false => [args.toArray]⟩
  let ss := (entryS 0 c.ins x).1
  let us := (entryS 0 c.ins x).2
  have hss : ss.length = args.length := e1.len
  have hentry : entrySt c fn.ntmps x = ⟨ss ++ List.replicate (fn.ntmps - ss.length) passed, puts [] us, 0, stkOf c.ins ss⟩ := rfl
  have hids : ∀ j ∈ idsS ss, j.r ≤ 0 := fun j hj => Nat.le_of_eq (a3 j hj)
  have hsat : Sat E (entrySt c fn.ntmps x) G0 { tmps := args.toArray ++ Array.replicate (fn.ntmps - args.toArray.size) undef, defers := [] } w := by
    rw [hentry]
    refine ⟨⟨by simp [hss], fun i => ?_⟩, fun i R hi => ?_, ?_, fun b hb => hbnd b fun h => hb (by simp [G0, g0, h]), rfl, a1, fun i id hid => ?_, fun i R hi => ?_, fun id hid => ?_, rfl, rfl, rfl, Nat.le_refl _, fun b hb => ⟨hb.1, rfl, ?_, hb.2⟩⟩
    · rw [getT_app]
      split
      · rename_i hlt
        rw [hss] at hlt
        refine e1.get i _ ?_
        rw [Array.getD_eq_getD_getElem?, Array.getElem?_append_left (by simpa using hlt)]
        simp [hlt]
      · rename_i hge
        rcases getT_rep (n := fn.ntmps - ss.length) (i := i - ss.length) with hr | hr
        · rw [hr]
          refine ⟨[], ?_, rfl⟩
          rw [Array.getD_eq_getD_getElem?]
          rw [Array.getElem?_append_right (by simp; omega)]
          rw [Array.getElem?_replicate]
          split <;> rfl
        · rw [hr]; trivial
    · simp only at hi
      rw [look_puts] at hi
      rcases updL_cases us _ i R hi with ⟨_, h2⟩ | h2
      · simp [look] at h2
      · exact e2 i R h2
    · simp only [stkOf, E]
      cases hr : noRefs c.ins with
      | true => rfl
      | false =>
        have hm := maskS_spec (ms := c.ins) e1
        refine ⟨args.toArray, [], rfl, ⟨by rw [hm.len]; simp, fun i => ?_⟩, rfl⟩
        by_cases hi : i < args.length
        · refine hm.get i _ ?_
          rw [Array.getD_eq_getD_getElem?]
          simp [hi]
        · rw [getT_past (by rw [hm.len]; omega)]; trivial
    · simp only at hid ⊢
      rw [getT_app] at hid
      split at hid
      · exact hids id (mem_idsS_getT hid)
      · rcases getT_rep (n := fn.ntmps - ss.length) (i := i - ss.length) with h | h <;> rw [h] at hid <;> simp [passed, SV.ids, idsT] at hid
    · simp only at hi
      rw [look_puts] at hi
      rcases updL_cases us _ i R hi with ⟨_, h2⟩ | h2
      · simp [look] at h2
      · obtain ⟨q1, q2⟩ := a4 i R h2
        exact ⟨Nat.le_of_eq q1, fun j hj => Nat.le_of_eq (q2 j hj)⟩
    · simp only [stkOf] at hid
      split at hid
      · cases hid
      · simp only [idsK, List.append_nil] at hid
        exact hids id (idsS_mask id hid)
    · show g0 b = G.g b
      cases hg : G.g b with
      | own id p => exact absurd hg (hb.2 id p)
      | _ => simp [g0, hg]
  obtain ⟨htup, hsw⟩ := h x hargs.d hpre
  refine wp_mono (hsw E G0 _ w hsat) fun e a' w' hpost => ?_
  obtain ⟨st', G1, ⟨he, v, hv, hcv⟩, hs'⟩ := hpost
  obtain ⟨t, rs, cc, stk⟩ := st'
  have hs2 : SatF E (getT t) t.length (look rs) stk (fun id => id.r ≤ cc) G1 a' w' := hs'
  simp only [exitOk, exitSt] at hv
  split at hv
  · cases hv
  rename_i s0 hs0
  split at hs0
  · cases hs0
  rename_i ss1 hss1
  cases hs0
  cases hndp : nodupN (firsts (c.post x).2) with
  | false => rw [hndp] at hv; cases hv
  | true =>
  rw [hndp] at hv
  simp only [cond_true] at hv
  obtain ⟨us1, hrr, hvals⟩ := run_results hP hs2.rs hs2.one hs2.tms.2 hres hss1
  have hsr := SatF_retmp hs' hvals (fun i id hid => by
    rcases getT_mem (ss := ss1) (i := i) with h | h
    · rw [h] at hid; cases hid
    · exact retS_ids hs2.tmO hs2.rsO hss1 _ h id hid)
  obtain ⟨G', hfin⟩ := ent_ok hv hcv E G1 _ w' hsr
  have hf2 : SatF E (getT (resL (c.post x).1)) (resL (c.post x).1).length (look (c.post x).2) (stkOf c.ins ss) (fun id => id.r ≤ 1) G' _ w' := hfin
  have hres' : MtSs G' w' (resL (c.post x).1) us1 := by
    have h1 := hf2.tms
    refine MtSs.of_get (by simpa using h1.1) fun i u hu => ?_
    have := h1.2 i
    rw [Array.getD_eq_getD_getElem?] at this
    simpa [hu] using this
  have hat : ∀ p ∈ argsPtr 0 c.ins args, G'.ρ p.1 = p.2 := by
    cases hr : noRefs c.ins with
    | true => rw [noRefs_ptr hr]; intro p hp; cases hp
    | false =>
      have hst := hf2.st
      simp only [stkOf, E, hr] at hst
      obtain ⟨f, fs, hff, hmt, _⟩ := hst
      cases hff
      refine argsPtr_sound (w := w') (x := x) (MtSs.of_get (by rw [maskS_len, hlen]) fun i u hu => ?_)
      have := hmt.2 i
      rw [Array.getD_eq_getD_getElem?] at this
      simpa [hu] using this
  have hprot : ∀ b, b < w.heap.size → (∀ id p, G.g b ≠ .own id p) → w'.heap[b]? = w.heap[b]? ∧ G'.g b = G.g b := fun b hb hg => by
    obtain ⟨q1, q2, q3, q4⟩ := hf2.prot b ⟨hb, hg⟩
    exact ⟨q2, q3⟩
  have hch : Chg (fun _ => False) (fun _ => True) G G' w w' := by
    refine ⟨fun _ h => h.elim, ⟨fun b hb => ?_, fun b hb => ?_⟩, fun _ _ _ _ h => absurd trivial h, fun b hlt hb => ?_, hf2.bnd, fun _ => hf2.one, hf2.os, hf2.tape, hf2.output, hf2.size⟩
    · obtain ⟨r1, r2⟩ := hprot b (hbnd b (by rw [hb]; simp)) (fun id p => by rw [hb]; simp)
      exact ⟨r2.trans hb, r1⟩
    · obtain ⟨r1, r2⟩ := hprot b (hbnd b (by rw [hb]; simp)) (fun id p => by rw [hb]; simp)
      exact ⟨r2.trans hb, r1⟩
    · obtain ⟨r1, r2⟩ := hprot b hlt (fun id p => by rw [hb]; simp)
      exact ⟨r1, r2.trans hb⟩
  have hfinal : ∃ G', Chg (fun _ => False) (fun _ => True) G G' w w' ∧ RhoOk G' ∧ (∀ p ∈ argsPtr 0 c.ins args, G'.ρ p.1 = p.2) ∧ MtS G' w' (c.post x).1 (retV us1) ∧ ∀ i R, (i, R) ∈ (c.post x).2 → ResOk G' w' i R :=
    ⟨G', hch, hf2.one, hat, resL_sound htup hres', fun i R hi => hf2.rs i R (look_of hndp hi)⟩
  rcases he with rfl | rfl
  · exact ⟨hs2.df, _, hrr, hfinal⟩
  · exact ⟨hs2.df, _, hrr, hfinal⟩

/-! A call whose arguments are what they are. -/
def maskA : At → At
  | .ptr i 0 => .ptr i 0
  | .own i => .own i
  | _ => .junk
def maskL : List At → List At
  | [] => []
  | a :: r => maskA a :: maskL r
def oneL : List At → Bool
  | [] => true
  | a :: r => Nat.beq a.size 1 && oneL r
def maskV (ag : Bool) (l : List At) : SV := bif oneL l && !(isNilL (idsP l)) then .v ag (maskL l) else .junk
def maskX : List SV → List SV
  | [] => []
  | s :: r => (match s with | .v ag l => maskV ag l | _ => .junk) :: maskX r
/-- what is kept may be told -/
def keepX : List SV → Bool
  | [] => true
  | s :: r => (match s with | .v _ l => oneL l || isNilL (idsP l) | _ => true) && keepX r
def entryX (c : Xctr) (n : Nat) : St := ⟨c.args ++ List.replicate (n - c.args.length) passed, resOf c.rs ++ resOf c.ls, 0, [maskX c.args]⟩
def exitX (tt : TT) (c : Xctr) (rts : List ResultVar) (st : St) : Option (List Prop) :=
  match exitSt tt rts st with
  | none => none
  | some s => bif nodupN (firsts c.post.2) then ent s ⟨resL c.post.1, c.post.2, 1, [maskX c.args]⟩ else none
def fitX (c : Xctr) : Bool := keepX c.args && (idsLe 0 (idsS c.args) && idsLe 0 (idsR (resOf c.rs ++ resOf c.ls)))
theorem maskL_spec {G : Gh} {w : World} (hone : RhoOk G) : ∀ {l : List At} {cs : List Value}, oneL l = true → MtL G w l cs → MtL G w (maskL l) cs := by
  intro l
  induction l with
  | nil => intro cs _ h; exact h
  | cons a r ih =>
    intro cs h1 h
    simp only [oneL, Bool.and_eq_true] at h1
    obtain ⟨c1, c2, rfl, h2, h3⟩ := h
    refine ⟨c1, c2, rfl, ?_, ih h1.2 h3⟩
    unfold maskA
    split
    · exact h2
    · exact h2
    · have hl := h2.len
      rw [Nat.eq_of_beq_eq_true h1.1] at hl
      match c1, hl with
      | [u], _ => exact ⟨u, h2.one hone u (by simp), rfl⟩
theorem maskX_spec {G : Gh} {w : World} (hone : RhoOk G) : ∀ {ss : List SV} {vs : List Value}, MtSs G w ss vs → MtSs G w (maskX ss) vs := by
  intro ss
  induction ss with
  | nil => intro vs h; exact h
  | cons s ss ih =>
    intro vs h
    cases vs with
    | nil => exact h.elim
    | cons v vs =>
      refine ⟨?_, ih h.2⟩
      split
      · rename_i ag l
        unfold maskV
        cases hc : (oneL l && !(isNilL (idsP l))) with
        | false => trivial
        | true =>
          simp only [Bool.and_eq_true] at hc
          have h1 : MtV G w ag l v := h.1
          cases ag with
          | true => obtain ⟨cs, e, h2⟩ := h1; exact ⟨cs, e, maskL_spec hone hc.1 h2⟩
          | false => exact ⟨h1.1, maskL_spec hone hc.1 h1.2⟩
      · trivial
theorem maskX_len : ∀ {ss : List SV}, (maskX ss).length = ss.length := by
  intro ss
  induction ss with
  | nil => rfl
  | cons s ss ih => simp only [maskX, List.length_cons, ih]
theorem maskL_ids : ∀ {l : List At}, ∀ j ∈ idsL (maskL l), j ∈ idsL l := by
  intro l
  induction l with
  | nil => intro j h; exact h
  | cons a r ih =>
    intro j h
    simp only [maskL, idsL, List.mem_append] at h ⊢
    rcases h with h | h
    · left
      unfold maskA at h
      split at h
      · exact h
      · exact h
      · cases h
    · exact .inr (ih j h)
theorem maskX_ids : ∀ {ss : List SV}, ∀ j ∈ idsS (maskX ss), j ∈ idsS ss := by
  intro ss
  induction ss with
  | nil => intro j h; exact h
  | cons s ss ih =>
    intro j h
    change j ∈ (match s with | .v ag l => maskV ag l | _ => .junk).ids ++ idsS (maskX ss) at h
    change j ∈ s.ids ++ idsS ss
    rw [List.mem_append] at h ⊢
    rcases h with h | h
    · left
      split at h
      · rename_i ag l
        unfold maskV at h
        cases hc : (oneL l && !(isNilL (idsP l))) with
        | false => rw [hc] at h; cases h
        | true => rw [hc] at h; exact maskL_ids j h
      · cases h
    · exact .inr (ih j h)
theorem maskL_kept {G G' : Gh} {w w' : World} : ∀ {l : List At} {cs : List Value}, oneL l = true → MtL G w l cs → MtL G' w' (maskL l) cs → ∀ i ∈ idsP l, G'.ρ i = G.ρ i := by
  intro l
  induction l with
  | nil => intro cs _ _ _ i h; cases h
  | cons a r ih =>
    intro cs h1 h h' i hi
    simp only [oneL, Bool.and_eq_true] at h1
    obtain ⟨c1, c2, e0, h2, h3⟩ := h
    obtain ⟨d1, d2, f0, h2', h3'⟩ := h'
    have hl := h2.len
    rw [Nat.eq_of_beq_eq_true h1.1] at hl
    have hl' : d1.length = 1 := by
      have := h2'.len
      rw [this]
      unfold maskA
      split <;> rfl
    have hcd : c1 = d1 ∧ c2 = d2 := by rw [e0] at f0; exact List.append_inj f0 (by rw [hl, hl'])
    obtain ⟨rfl, rfl⟩ := hcd
    have hr := ih h1.2 h3 h3'
    simp only [idsP] at hi
    split at hi
    · rename_i j
      rcases List.mem_cons.1 hi with rfl | hi
      · obtain ⟨b, e1, e2⟩ := h2
        obtain ⟨b', f1, f2⟩ := h2'
        rw [e2] at f2
        simp only [List.cons.injEq, Value.pointer.injEq, Option.some.injEq, Addr.mk.injEq, and_true] at f2
        rw [f1, e1, f2]
      · exact hr i hi
    · rename_i j
      rcases List.mem_cons.1 hi with rfl | hi
      · have e1 : c1 = [G.ρ i] := h2
        have f1 : c1 = [G'.ρ i] := h2'
        rw [e1] at f1
        exact (List.cons.inj f1).1.symm
      · exact hr i hi
    · exact hr i hi
theorem ptrsOf_sound {G G' : Gh} {w w' : World} : ∀ {ss : List SV} {vs : List Value}, keepX ss = true → MtSs G w ss vs → MtSs G' w' (maskX ss) vs → ∀ i ∈ ptrsOf ss, G'.ρ i = G.ρ i := by
  intro ss
  induction ss with
  | nil => intro vs _ _ _ i h; cases h
  | cons s ss ih =>
    intro vs hk h h' i hi
    cases vs with
    | nil => exact h.elim
    | cons v vs =>
      simp only [keepX, Bool.and_eq_true] at hk
      have hr := ih hk.2 h.2 h'.2
      have h1 := h.1
      have h2 := h'.1
      simp only [ptrsOf] at hi
      split at hi
      · rename_i ag l
        rcases List.mem_append.1 hi with hi | hi
        · have hne : isNilL (idsP l) = false := by
            cases hc : idsP l with
            | nil => rw [hc] at hi; cases hi
            | cons _ _ => rfl
          have ho : oneL l = true := by
            have := hk.1
            simp only [hne, Bool.or_false] at this
            exact this
          simp only [maskV, ho, hne, Bool.not_false, Bool.and_self, cond_true] at h2
          cases ag with
          | true =>
            obtain ⟨cs, e, h3⟩ := (show MtV G w true l v from h1)
            obtain ⟨cs', e', h4⟩ := (show MtV G' w' true (maskL l) v from h2)
            rw [e] at e'
            have : cs = cs' := by simpa using e'
            subst this
            exact maskL_kept ho h3 h4 i hi
          | false => exact maskL_kept ho h1.2 h2.2 i hi
        · exact hr i hi
      · exact hr i hi
/-- THE SAME, FROM ITS BODY. -/
theorem xctr_of_body (hP : Prg P C) (c : Xctr) {fn : Func} {body : Code} {rts : List ResultVar} (hf : P.funcs[c.f]? = some fn) (hb : fn.body = some body) (hn : (fn.name == "runtime.NumGoroutine") = false) (hres : fn.results = rts.toArray) (hfit : fitX c = true)
    (h : tupOk c.post.1 = true ∧ SW P body (entryX c fn.ntmps) (fun e st => (e = .ret ∨ e = .normal) ∧ ∃ v, exitX C.tt c rts st = some v ∧ conj v)) : XOk P c := by
  intro G w args hbnd hone0 hargs hrs0
  have hlen : c.args.length = args.length := hargs.len
  have hrun : (callFunc c.f args.toArray).run P w = .ok (.enter c.f args.toArray) w := by
    have hn' : ¬ fn.name = "runtime.NumGoroutine" := by simpa using hn
    simp [callFunc, hf, hn', hb]
  refine ⟨_, _, hrun, .inr (.inl ⟨rfl, calls_of_wp hf hb ?_⟩)⟩
  simp only [fitX, Bool.and_eq_true] at hfit
  have hkeep : keepX c.args = true := hfit.1
  have hids : ∀ j ∈ idsS c.args, j.r ≤ 0 := idsLe_spec hfit.2.1
  have hidr : ∀ j ∈ idsR (resOf c.rs ++ resOf c.ls), j.r ≤ 0 := idsLe_spec hfit.2.2
  let E : Env := ⟨w, fun b => b < w.heap.size ∧ ∀ id p, G.g b ≠ .own id p, G.g, [args.toArray]⟩
  have hsat : Sat E (entryX c fn.ntmps) G { tmps := args.toArray ++ Array.replicate (fn.ntmps - args.toArray.size) undef, defers := [] } w := by
    refine ⟨⟨by simp [entryX, hlen], fun i => ?_⟩, fun i R hi => hrs0 i R (look_mem hi), ?_, hbnd, rfl, hone0, fun i id hid => ?_, fun i R hi => ?_, fun id hid => ?_, rfl, rfl, rfl, Nat.le_refl _, fun b hb => ⟨hb.1, rfl, rfl, hb.2⟩⟩
    · simp only [entryX]
      rw [getT_app]
      split
      · rename_i hlt
        rw [hlen] at hlt
        refine hargs.get i _ ?_
        rw [Array.getD_eq_getD_getElem?, Array.getElem?_append_left (by simpa using hlt)]
        simp [hlt]
      · rename_i hge
        rcases getT_rep (n := fn.ntmps - c.args.length) (i := i - c.args.length) with hr | hr
        · rw [hr]
          refine ⟨[], ?_, rfl⟩
          rw [Array.getD_eq_getD_getElem?]
          rw [Array.getElem?_append_right (by simp; omega)]
          rw [Array.getElem?_replicate]
          split <;> rfl
        · rw [hr]; trivial
    · have hm := maskX_spec hone0 hargs
      refine ⟨args.toArray, [], rfl, ⟨by rw [maskX_len, hlen]; simp, fun i => ?_⟩, rfl⟩
      by_cases hi : i < args.length
      · refine hm.get i _ ?_
        rw [Array.getD_eq_getD_getElem?]
        simp [hi]
      · rw [getT_past (by rw [maskX_len]; omega)]; trivial
    · simp only [entryX] at hid ⊢
      rw [getT_app] at hid
      split at hid
      · exact hids id (mem_idsS_getT hid)
      · rcases getT_rep (n := fn.ntmps - c.args.length) (i := i - c.args.length) with h | h <;> rw [h] at hid <;> simp [passed, SV.ids, idsT] at hid
    · obtain ⟨q1, q2⟩ := mem_idsR (look_mem hi)
      exact ⟨hidr i q1, fun j hj => hidr j (q2 j hj)⟩
    · simp only [entryX, idsK, List.append_nil] at hid
      exact hids id (maskX_ids id hid)
  obtain ⟨htup, hsw⟩ := h
  refine wp_mono (hsw E G _ w hsat) fun e a' w' hpost => ?_
  obtain ⟨st', G1, ⟨he, v, hv, hcv⟩, hs'⟩ := hpost
  obtain ⟨t, rs, cc, stk⟩ := st'
  have hs2 : SatF E (getT t) t.length (look rs) stk (fun id => id.r ≤ cc) G1 a' w' := hs'
  simp only [exitX, exitSt] at hv
  split at hv
  · cases hv
  rename_i s0 hs0
  split at hs0
  · cases hs0
  rename_i ss1 hss1
  cases hs0
  cases hndp : nodupN (firsts c.post.2) with
  | false => rw [hndp] at hv; cases hv
  | true =>
  rw [hndp] at hv
  simp only [cond_true] at hv
  obtain ⟨us1, hrr, hvals⟩ := run_results hP hs2.rs hs2.one hs2.tms.2 hres hss1
  have hsr := SatF_retmp hs' hvals (fun i id hid => by
    rcases getT_mem (ss := ss1) (i := i) with h | h
    · rw [h] at hid; cases hid
    · exact retS_ids hs2.tmO hs2.rsO hss1 _ h id hid)
  obtain ⟨G', hfin⟩ := ent_ok hv hcv E G1 _ w' hsr
  have hf2 : SatF E (getT (resL c.post.1)) (resL c.post.1).length (look c.post.2) [maskX c.args] (fun id => id.r ≤ 1) G' _ w' := hfin
  have hres' : MtSs G' w' (resL c.post.1) us1 := by
    have h1 := hf2.tms
    refine MtSs.of_get (by simpa using h1.1) fun i u hu => ?_
    have := h1.2 i
    rw [Array.getD_eq_getD_getElem?] at this
    simpa [hu] using this
  have hat : ∀ i ∈ ptrsOf c.args, G'.ρ i = G.ρ i := by
    have hst := hf2.st
    simp only [E] at hst
    obtain ⟨f, fs, hff, hmt, _⟩ := hst
    cases hff
    refine ptrsOf_sound (w' := w') hkeep hargs (MtSs.of_get (by rw [maskX_len, hlen]) fun i u hu => ?_)
    have := hmt.2 i
    rw [Array.getD_eq_getD_getElem?] at this
    simpa [hu] using this
  have hprot : ∀ b, b < w.heap.size → (∀ id p, G.g b ≠ .own id p) → w'.heap[b]? = w.heap[b]? ∧ G'.g b = G.g b := fun b hb hg => by
    obtain ⟨q1, q2, q3, q4⟩ := hf2.prot b ⟨hb, hg⟩
    exact ⟨q2, q3⟩
  have hch : Chg (fun _ => False) (fun _ => True) G G' w w' := by
    refine ⟨fun _ h => h.elim, ⟨fun b hb => ?_, fun b hb => ?_⟩, fun _ _ _ _ h => absurd trivial h, fun b hlt hb => ?_, hf2.bnd, fun _ => hf2.one, hf2.os, hf2.tape, hf2.output, hf2.size⟩
    · obtain ⟨r1, r2⟩ := hprot b (hbnd b (by rw [hb]; simp)) (fun id p => by rw [hb]; simp)
      exact ⟨r2.trans hb, r1⟩
    · obtain ⟨r1, r2⟩ := hprot b (hbnd b (by rw [hb]; simp)) (fun id p => by rw [hb]; simp)
      exact ⟨r2.trans hb, r1⟩
    · obtain ⟨r1, r2⟩ := hprot b hlt (fun id p => by rw [hb]; simp)
      exact ⟨r1, r2.trans hb⟩
  have hfinal : ∃ G', Chg (fun _ => False) (fun _ => True) G G' w w' ∧ RhoOk G' ∧ (∀ i ∈ ptrsOf c.args, G'.ρ i = G.ρ i) ∧ MtS G' w' c.post.1 (retV us1) ∧ ∀ i R, (i, R) ∈ c.post.2 → ResOk G' w' i R :=
    ⟨G', hch, hf2.one, hat, resL_sound htup hres', fun i R hi => hf2.rs i R (look_of hndp hi)⟩
  rcases he with rfl | rfl
  · exact ⟨hs2.df, _, hrr, hfinal⟩
  · exact ⟨hs2.df, _, hrr, hfinal⟩
end
end Go.Sx
