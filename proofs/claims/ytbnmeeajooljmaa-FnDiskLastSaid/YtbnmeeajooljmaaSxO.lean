/- Symbolic execution, part O: an operation that is no call of a function does what its effect says. -/
import Derived.Test.YtbnmeeajooljmaaSxNc
set_option linter.all false
namespace Go.Sx
open Go Go.RowKit
section
variable {G : Gh} {w : World}
theorem MtSs.len : ∀ {vals : List SV} {vs : List Value}, MtSs G w vals vs → vals.length = vs.length := by
  intro vals
  induction vals with
  | nil => intro vs h; cases vs with
    | nil => rfl
    | cons _ _ => exact h.elim
  | cons s ss ih => intro vs h; cases vs with
    | nil => exact h.elim
    | cons v vs => rw [List.length_cons, List.length_cons, ih h.2]
theorem MtSs.nil' {vals : List SV} (h : MtSs G w vals []) : vals = [] := by cases vals with
  | nil => rfl
  | cons _ _ => exact h.elim
theorem MtSs.one' {vals : List SV} {v : Value} (h : MtSs G w vals [v]) : ∃ s, vals = [s] ∧ MtS G w s v := by cases vals with
  | nil => exact h.elim
  | cons s ss => have := h.2.nil'; subst this; exact ⟨s, rfl, h.1⟩
theorem MtSs.two' {vals : List SV} {v u : Value} (h : MtSs G w vals [v, u]) : ∃ s r, vals = [s, r] ∧ MtS G w s v ∧ MtS G w r u := by cases vals with
  | nil => exact h.elim
  | cons s ss => obtain ⟨r, rfl, hr⟩ := h.2.one'; exact ⟨s, r, rfl, h.1, hr⟩
theorem MtSs.three' {vals : List SV} {v u x : Value} (h : MtSs G w vals [v, u, x]) : ∃ s r q, vals = [s, r, q] ∧ MtS G w s v ∧ MtS G w r u ∧ MtS G w q x := by cases vals with
  | nil => exact h.elim
  | cons s ss => obtain ⟨r, q, rfl, hr, hq⟩ := h.2.two'; exact ⟨s, r, q, rfl, h.1, hr, hq⟩
theorem asAts_sound : ∀ {vals : List SV} {l : List At} {vs : List Value}, asAts vals = some l → MtSs G w vals vs → MtC G w l vs := by
  intro vals
  induction vals with
  | nil =>
    intro l vs h m
    simp only [asAts, Option.some.injEq] at h
    subst h
    cases vs with
    | nil => rfl
    | cons _ _ => exact m.elim
  | cons s ss ih =>
    intro l vs h m
    cases vs with
    | nil => exact m.elim
    | cons v vs =>
      unfold asAts at h
      split at h
      · rename_i heq; cases heq
      · rename_i a r heq
        cases heq
        split at h
        · rename_i l' hl'
          cases h
          exact ⟨v, vs, rfl, m.1.at1.1, m.1.at1.2, ih hl' m.2⟩
        · cases h
      · cases h
end
section
variable {P : Program} {C : Ctx} (T : TtOk P C.tt) (TM : MtOk P C.mt) {old : Id → Prop} {G : Gh} {w : World} {lk : Id → Option Res} (hb : ∀ b, G.g b ≠ .no → b < w.heap.size) (h1 : RhoOk G)
include T hb in
theorem does_bin {op : BinOp} {xT : TypeId} {ox oy : Operand} {x y : SV} {vx vy : Value} {e : Eff} {t : List Id} (hx : (sBin C.tt xT op x y).exec lk = some (e, t)) (hv : ∀ p ∈ e.vc, p) (mx : MtS G w x vx) (my : MtS G w y vy) :
    Does P old G w (do pure (.value (← (do eqGuard op xT ox oy vx vy; binOp op xT vx vy)))) e := by
  unfold sBin at hx
  split at hx
  · split at hx
    · obtain ⟨rfl, ha⟩ := mx.int
      obtain ⟨rfl, hb'⟩ := my.int
      have := does_binI (P := P) (old := old) (xT := xT) hb ha hb' hx hv
      simpa [eqGuard_at_int] using this
    · obtain ⟨rfl, ha⟩ := mx.str
      obtain ⟨rfl, hb'⟩ := my.str
      have := does_binS (P := P) (old := old) (xT := xT) hb hx hv
      have he : ∀ a b, eqGuard op xT ox oy (.string a) (.string b) = pure () := fun a b => by cases op <;> rfl
      simpa [he] using this
    · replace ⟨hB, hx⟩ := condR hx
      have ha := mx.boolV
      have hb' := my.boolV
      subst ha
      subst hb'
      have := does_binB (P := P) (old := old) (xT := xT) T hB hb hx
      simpa [eqGuard_at_bool] using this
    · exact exec_fail hx
  · exact exec_fail hx
def isCall : Op → Bool
  | .call c => (match c.callee with | .value _ => true | _ => false)
  | _ => false
include T TM hb h1 in
theorem does_op {o : Oper} {idb : Id} {vals : List SV} {e : Eff} {t : List Id} {ρ : Operand → Value} (mv : MtSs G w vals (o.op.operands.toList.map ρ)) (hids : ∀ s ∈ vals, ∀ j ∈ s.ids, old j) (hfr : ∀ k, ¬ old (idb.plus k))
    (hrs : ∀ id R, lk id = some R → ResOk G w id R ∧ old id ∧ ∀ j ∈ R.ids, old j) (hx : (opEff C o.op idb vals).exec lk = some (e, t)) (hv : ∀ p ∈ e.vc, p) (hc : isCall o.op = false) : Does P old G w (execOp ρ o) e := by
  have hid : ¬ old idb := by have := hfr 0; rwa [Id.plus_zero] at this
  have hrs' : ∀ id R, lk id = some R → ResOk G w id R := fun i R h => (hrs i R h).1
  obtain ⟨dst, op, type, pos, after, guard⟩ := o
  simp only at mv hx hc
  cases op
  case move x =>
    obtain ⟨s, rfl, m⟩ := MtSs.one' (v := ρ x) mv
    exact does_val hb hx m
  case assign x =>
    obtain ⟨s, rfl, m⟩ := MtSs.one' (v := ρ x) mv
    exact does_val hb hx m
  case pick c a b =>
    obtain ⟨s, r, q, rfl, m1, m2, m3⟩ := MtSs.three' (v := ρ c) (u := ρ a) (x := ρ b) mv
    exact does_pick hb hx m1 m2 m3
  case alloc te =>
    simp only [opEff] at hx
    split at hx
    · rename_i hte
      obtain ⟨rfl, _⟩ := exec_ok hx
      exact does_alloc hb T hid hte
    · exact exec_fail hx
  case box te x =>
    obtain ⟨s, rfl, m⟩ := MtSs.one' (v := ρ x) mv
    simp only [opEff] at hx
    split at hx
    · rename_i ag l heq
      cases heq
      obtain ⟨rfl, _⟩ := exec_ok hx
      exact does_box hb hid (hids _ List.mem_cons_self) m
    · exact exec_fail hx
  case build te ps =>
    have : (ps.toList.map fun p => (p.1, ρ p.2)).map (·.1) = ps.toList.map (·.1) := by simp [Function.comp_def]
    have h2 : (ps.map fun (i, x) => (i, ρ x)) = (ps.toList.map fun p => (p.1, ρ p.2)).toArray := by
      apply Array.ext'
      simp
    simp only [execOp]
    rw [h2]
    exact does_build (vals := vals) T hb (by rw [this]; exact hx) (by simpa [Op.operands, Function.comp_def] using mv)
  case buildSlice te n ps =>
    simp only [opEff] at hx
    split at hx
    · rename_i Te el by_ hT
      have : (ps.toList.map fun p => (p.1, ρ p.2)).map (·.1) = ps.toList.map (·.1) := by simp [Function.comp_def]
      have h2 : (ps.map fun (i, x) => (i, ρ x)) = (ps.toList.map fun p => (p.1, ρ p.2)).toArray := by
        apply Array.ext'
        simp
      simp only [execOp]
      rw [h2]
      exact does_buildSlice (vals := vals) T hb hT hid hids (by rw [this]; exact hx) (by simpa [Op.operands, Function.comp_def] using mv)
    · exact exec_fail hx
  case load te x =>
    obtain ⟨s, rfl, m⟩ := MtSs.one' (v := ρ x) mv
    simp only [opEff] at hx
    cases hX : isX s with
    | true => rw [hX] at hx; exact does_loadX T hb h1 hrs' hx hv m
    | false => rw [hX] at hx; exact does_load T hb h1 hfr hrs hx hv m
  case store te x y =>
    obtain ⟨s, r, rfl, m1, m2⟩ := MtSs.two' (v := ρ x) (u := ρ y) mv
    simp only [opEff] at hx
    replace ⟨hf, hx⟩ := condR hx
    cases hX : isX s with
    | true => rw [hX] at hx; exact does_storeX T hb h1 hfr hrs hf hx hv m1 m2
    | false => rw [hX] at hx; exact does_store T hb h1 hfr hrs (hids r (by simp)) hf hx hv m1 m2
  case nilCheck x =>
    obtain ⟨s, rfl, m⟩ := MtSs.one' (v := ρ x) mv
    simp only [opEff] at hx
    obtain ⟨b, h2, h3⟩ : ∃ b, ρ x = .pointer (some b) ∧ Does P old G w (pure (.value (ρ x))) e := by
      cases hX : isX s with
      | true => rw [hX] at hx; exact does_nilCheckX (P := P) (old := old) hb hrs' hx hv m
      | false => rw [hX] at hx; exact does_nilCheck (P := P) (old := old) hb hx m
    show Does P old G w (match ρ x with
      | .pointer none | .nilIface | .nilFunc => _
      | .func (.method name) first captured => _
      | x => pure (.value x)) e
    rw [h2] at h3 ⊢
    exact h3
  case binOp b xT x y yT =>
    obtain ⟨s, r, rfl, m1, m2⟩ := MtSs.two' (v := ρ x) (u := ρ y) mv
    simp only [opEff] at hx
    cases hq : eqT C.mt xT with
    | true => rw [hq] at hx; exact does_binSt T hb TM hq hx m1 m2
    | false =>
    rw [hq] at hx
    simp only [cond_false] at hx
    cases hn : isNilpV r with
    | true =>
      rw [hn] at hx
      have hy : ρ y = .pointer none := by
        unfold isNilpV at hn
        split at hn
        · simpa using (show [ρ y] = [Value.pointer none] from m2.at1.2)
        · cases hn
      have := does_ptrNil (old := old) (ox := x) (oy := y) T hb hrs' hx hv m1
      show Does P old G w (do pure (.value (← (do eqGuard b xT x y (ρ x) (ρ y); binOp b xT (ρ x) (ρ y))))) e
      rw [hy]
      exact this
    | false =>
    rw [hn] at hx
    cases ha : isArrV s with
    | true => rw [ha] at hx; exact does_binArr T hb hx m1 m2
    | false =>
    rw [ha] at hx
    simp only [cond_false] at hx
    split at hx
    · rename_i hnil
      have hy : ρ y = .slice none 0 0 := by
        unfold isNilsV at hnil
        split at hnil
        · simpa using (show [ρ y] = [Value.slice none 0 0] from m2.at1.2)
        · cases hnil
      have := does_eqNil (old := old) (ox := x) (oy := y) T hb hrs' hx m1
      show Does P old G w (do pure (.value (← (do eqGuard .eql xT x y (ρ x) (ρ y); binOp .eql xT (ρ x) (ρ y))))) e
      rw [hy]
      exact this
    · exact does_bin T hb hx hv m1 m2
  case unOp op ty x =>
    obtain ⟨s, rfl, m⟩ := MtSs.one' (v := ρ x) mv
    cases op <;> first
      | exact does_not hb hx m
      | exact exec_fail hx
  case convert src dst x =>
    obtain ⟨s, rfl, m⟩ := MtSs.one' (v := ρ x) mv
    exact does_convert T hb hid hrs' hx hv m
  case makeFunc fn first caps =>
    cases fn with
    | func f =>
      simp only [opEff] at hx
      split at hx
      · rename_i l hf hl
        obtain ⟨rfl, _⟩ := exec_ok hx
        have hf' : first = #[] := by apply Array.ext'; simpa using hf
        subst hf'
        have h2 := asAts_sound hl mv
        exact .pure hb (v := .func (.func f) #[] (caps.map ρ)) (by simp [execOp, Instr.makeFunc]) ⟨(caps.map ρ).toList, by rw [Array.toArray_toList], by simpa [Op.operands] using h2⟩
      · exact exec_fail hx
    | _ => exact exec_fail hx
  case makeSlice te l c =>
    obtain ⟨s, r, rfl, m1, m2⟩ := MtSs.two' (v := ρ l) (u := ρ c) mv
    exact does_makeSlice T hb hid hx hv m1 m2
  case slice te x lo hi mx =>
    cases mx with
    | some q =>
      cases lo with
      | none => cases hi <;> exact exec_fail hx
      | some a =>
        cases hi with
        | none => exact exec_fail hx
        | some b =>
          simp only [opEff] at hx
          split at hx
          · rename_i x' a' b' m'
            obtain ⟨mx', ma', mb', mm', _⟩ := (show MtSs G w [x', a', b', m'] [ρ x, ρ a, ρ b, ρ q] by simpa [Op.operands] using mv)
            exact does_slice3 T hb hrs' hx hv mx' ma' mb' mm'
          · exact exec_fail hx
    | none =>
      cases lo with
      | none =>
        cases hi with
        | none =>
          obtain ⟨s, rfl, m⟩ := MtSs.one' (v := ρ x) (by simpa [Op.operands] using mv)
          simp only [opEff] at hx
          cases hX : isPtrV s with
          | true => rw [hX] at hx; exact does_sliceX T hb hx m
          | false => rw [hX] at hx; exact does_slice (lo := none) (hi := none) (vlo := none) (vhi := none) T hb hrs' hx hv m (by simp) (by simp) (by simp) (by simp)
        | some b =>
          obtain ⟨s, r, rfl, m, m2⟩ := MtSs.two' (v := ρ x) (u := ρ b) (by simpa [Op.operands] using mv)
          exact does_slice (lo := none) (hi := some r) (vlo := none) (vhi := some (ρ b)) T hb hrs' hx hv m (by simp) (by simp) (by simpa using m2) (by simp)
      | some a =>
        cases hi with
        | none =>
          obtain ⟨s, r, rfl, m, m2⟩ := MtSs.two' (v := ρ x) (u := ρ a) (by simpa [Op.operands] using mv)
          simp only [opEff] at hx
          cases hX : (dupT C.tt te && isOwnV s) with
          | true => rw [hX] at hx; exact does_cut T hb hid hrs' hx hv m m2
          | false =>
          rw [hX] at hx
          exact does_slice (lo := some r) (hi := none) (vlo := some (ρ a)) (vhi := none) T hb hrs' hx hv m (by simpa using m2) (by simp) (by simp) (by simp)
        | some b =>
          obtain ⟨s, r, q, rfl, m, m2, m3⟩ := MtSs.three' (v := ρ x) (u := ρ a) (x := ρ b) (by simpa [Op.operands] using mv)
          exact does_slice (lo := some r) (hi := some q) (vlo := some (ρ a)) (vhi := some (ρ b)) T hb hrs' hx hv m (by simpa using m2) (by simp) (by simpa using m3) (by simp)
  case fieldAddr s x f =>
    obtain ⟨s, rfl, m⟩ := MtSs.one' (v := ρ x) mv
    simp only [opEff] at hx
    cases hX : isX s with
    | true => rw [hX] at hx; exact does_fieldAddrX T hb hx m
    | false => rw [hX] at hx; exact does_fieldAddr T hb hx m
  case field s x f =>
    obtain ⟨s, rfl, m⟩ := MtSs.one' (v := ρ x) mv
    exact does_field T hb h1 hx m
  case indexAddr te x i =>
    obtain ⟨s, r, rfl, m1, m2⟩ := MtSs.two' (v := ρ x) (u := ρ i) mv
    simp only [opEff] at hx
    cases hX : isPtrV s with
    | true => rw [hX] at hx; exact does_indexAddrX T hb hx hv m1 m2
    | false => rw [hX] at hx; exact does_indexAddr T hb hrs' hx hv m1 m2
  case sliceToArrayPointer te x =>
    obtain ⟨s, rfl, m⟩ := MtSs.one' (v := ρ x) mv
    exact does_toArr T hb hx hv m
  case index te x i =>
    obtain ⟨s, r, rfl, m1, m2⟩ := MtSs.two' (v := ρ x) (u := ρ i) mv
    exact does_index hb T hx hv m1 m2
  case makeMap te r =>
    cases r with
    | some _ => exact exec_fail hx
    | none => exact does_makeMap hb hid hx
  case mapUpdate te m k x =>
    obtain ⟨s, r, q, rfl, m1, m2, m3⟩ := MtSs.three' (v := ρ m) (u := ρ k) (x := ρ x) mv
    exact does_mapUpdate T TM hb hrs' hx m1 m2 m3
  case lookup te m k ok =>
    obtain ⟨s, r, rfl, m1, m2⟩ := MtSs.two' (v := ρ m) (u := ρ k) mv
    exact does_lookup T TM hb hrs' hx m1 m2
  case extract x i =>
    obtain ⟨s, rfl, m⟩ := MtSs.one' (v := ρ x) mv
    exact does_extract hb hx m
  case call c =>
    obtain ⟨callee, args, argTypes⟩ := c
    cases callee with
    | value f => cases hc
    | invoke _ _ => exact exec_fail hx
    | builtin b =>
      cases b <;> first
        | exact exec_fail hx
        | skip
      case append =>
        simp only [opEff] at hx
        split at hx
        · rename_i x y t1 t2 hat
          have hat' : argTypes = #[t1, t2] := by apply Array.ext'; simpa using hat
          subst hat'
          have hal : ∃ a b, args = #[a, b] := by
            have := mv.len
            simp [Op.operands, Call.operands] at this
            match args, this with
            | ⟨[a, b]⟩, _ => exact ⟨a, b, rfl⟩
          obtain ⟨a, b, rfl⟩ := hal
          obtain ⟨s, r, heq, m1, m2⟩ := MtSs.two' (v := ρ a) (u := ρ b) (by simpa [Op.operands, Call.operands] using mv)
          cases heq
          have := does_append (ty := type) T hb hid h1 hrs hx hv m1 m2
          simpa [execOp, resolve, invoke, builtin] using this
        · exact exec_fail hx
      case len =>
        simp only [opEff] at hx
        split at hx
        · rename_i x t1 hat
          have hat' : argTypes = #[t1] := by apply Array.ext'; simpa using hat
          subst hat'
          have hal : ∃ a, args = #[a] := by
            have := mv.len
            simp [Op.operands, Call.operands] at this
            match args, this with
            | ⟨[a]⟩, _ => exact ⟨a, rfl⟩
          obtain ⟨a, rfl⟩ := hal
          obtain ⟨s, heq, m1⟩ := MtSs.one' (v := ρ a) (by simpa [Op.operands, Call.operands] using mv)
          cases heq
          split at hx
          · have := does_lenMap (old := old) (ty := type) T hb TM hrs' hx hv m1
            simpa [execOp, resolve, invoke, builtin] using this
          · have := does_len (old := old) (ty := type) hb T hrs' hx m1
            simpa [execOp, resolve, invoke, builtin] using this
        · exact exec_fail hx
      case clear =>
        simp only [opEff] at hx
        split at hx
        · rename_i x t1 hat
          have hat' : argTypes = #[t1] := by apply Array.ext'; simpa using hat
          subst hat'
          have hal : ∃ a, args = #[a] := by
            have := mv.len
            simp [Op.operands, Call.operands] at this
            match args, this with
            | ⟨[a]⟩, _ => exact ⟨a, rfl⟩
          obtain ⟨a, rfl⟩ := hal
          obtain ⟨s, heq, m1⟩ := MtSs.one' (v := ρ a) (by simpa [Op.operands, Call.operands] using mv)
          cases heq
          have := does_clear (P := P) (old := old) (ty := type) T hb hrs' hx hv m1
          simpa [execOp, resolve, invoke, builtin] using this
        · exact exec_fail hx
      case min =>
        simp only [opEff] at hx
        split at hx
        · rename_i x y
          have hal : ∃ a b, args = #[a, b] := by
            have := mv.len
            simp [Op.operands, Call.operands] at this
            match args, this with
            | ⟨[a, b]⟩, _ => exact ⟨a, b, rfl⟩
          obtain ⟨a, b, rfl⟩ := hal
          obtain ⟨s, r, heq, m1, m2⟩ := MtSs.two' (v := ρ a) (u := ρ b) (by simpa [Op.operands, Call.operands] using mv)
          cases heq
          have := does_minMax (P := P) (old := old) (at0 := argTypes) (ty := type) hb hx m1 m2
          simpa [execOp, resolve, invoke, builtin] using this
        · exact exec_fail hx
      case max =>
        simp only [opEff] at hx
        split at hx
        · rename_i x y
          have hal : ∃ a b, args = #[a, b] := by
            have := mv.len
            simp [Op.operands, Call.operands] at this
            match args, this with
            | ⟨[a, b]⟩, _ => exact ⟨a, b, rfl⟩
          obtain ⟨a, b, rfl⟩ := hal
          obtain ⟨s, r, heq, m1, m2⟩ := MtSs.two' (v := ρ a) (u := ρ b) (by simpa [Op.operands, Call.operands] using mv)
          cases heq
          have := does_minMax (P := P) (old := old) (at0 := argTypes) (ty := type) hb hx m1 m2
          simpa [execOp, resolve, invoke, builtin] using this
        · exact exec_fail hx
  all_goals exact exec_fail hx
end
end Go.Sx
