/- Symbolic execution, part E: the table of types against the program's; loads and stores of a whole value; the operations that turn nothing. -/
import Derived.Test.YtbnmeeajooljmaaSxD
import Derived.Laws.CopyRow
import Derived.Laws.StructEq
set_option linter.all false
namespace Go.Sx
open Go Go.RowKit

/-! ### The table -/

inductive DI
  | int (k : IntKind) | bool | str | sl (el : TypeId) | arr (n : Nat) (el : TypeId) | st (l : List (Nat × TypeId)) | ptr | other
def dinfo : Option TypeDesc → DI
  | some (.int k) => .int k
  | some .bool => .bool
  | some .string => .str
  | some (.slice e) => .sl e
  | some (.array n e) => .arr n e
  | some (.pointer _) => .ptr
  | some (.struct fs) => .st (fs.toList.map fun f => (f.offset, f.type))
  | _ => .other
def zeroCells : Ty → List Value
  | .int k => [.int k 0]
  | .bool => [.bool false]
  | .str => [.string ⟨#[]⟩]
  | .sl _ => [.slice none 0 0]
  | .arr n e => (List.replicate n (zeroCells e)).flatten
  | .pr a b => zeroCells a ++ zeroCells b
  | .pt => [.pointer none]
def mkV (ag : Bool) (cs : List Value) : Value := match ag with | true => .agg cs.toArray | false => cs.headD undef
def offsFrom (T : Ty) (nf : Nat) : Nat → List TypeId → List (Nat × TypeId)
  | _, [] => []
  | f, t :: r => (fieldOff T nf f, t) :: offsFrom T nf (f + 1) r
def TE.di (te : TE) : DI := match te.fts with
  | [] => (match te.T with
    | .int k => .int k
    | .bool => .bool
    | .str => .str
    | .sl _ => .sl te.el
    | .arr n _ => .arr n te.el
    | .pr _ _ => .other
    | .pt => .ptr)
  | t :: r => .st (offsFrom te.T te.nf 0 (t :: r))
def DI.agg : DI → Bool
  | .arr _ _ | .st _ => true
  | _ => false
structure TEOk (P : Program) (te : TE) : Prop where
  info : (P.info? te.t).map (fun i => (i.zero, i.size, i.bytes)) = some (some (mkV te.ag (zeroCells te.T)), te.T.size, te.by_)
  di : dinfo (P.underlying te.t) = te.di
  nf : te.nf = te.fts.length
  ag : te.ag = te.di.agg
def elChk (tt : TT) (el : TypeId) (e : Ty) : Bool := match ttOf tt el with | some te => te.T.beq e && !(Nat.beq te.T.size 0) | none => false
def fldChk (tt : TT) (T : Ty) (nf : Nat) : Nat → List TypeId → Bool
  | _, [] => true
  | f, t :: r => elChk tt t (fieldTy T pF nf f 0).1 && fldChk tt T nf (f + 1) r
def teChk (tt : TT) (te : TE) : Bool := match te.fts with
  | [] => (match te.T with
    | .sl e => elChk tt te.el e
    | .arr _ e => elChk tt te.el e
    | .pr _ _ => false
    | _ => true)
  | t :: r => fldChk tt te.T te.nf 0 (t :: r)
structure TtOk (P : Program) (tt : TT) : Prop where
  row : ∀ te ∈ tt, TEOk P te
  chk : tt.all (teChk tt) = true

theorem ttOf_mem {tt : TT} {t : TypeId} {te : TE} (h : ttOf tt t = some te) : te ∈ tt ∧ te.t = t := by
  induction tt with
  | nil => cases h
  | cons e es ih =>
    simp only [ttOf] at h
    cases hb : Nat.beq e.t t with
    | true => rw [hb] at h; simp only [cond_true, Option.some.injEq] at h; subst h; exact ⟨List.mem_cons_self, Nat.eq_of_beq_eq_true hb⟩
    | false => rw [hb] at h; exact ⟨List.mem_cons_of_mem _ (ih h).1, (ih h).2⟩
theorem TtOk.at {P : Program} {tt : TT} (T : TtOk P tt) {t : TypeId} {te : TE} (h : ttOf tt t = some te) : TEOk P te ∧ te.t = t ∧ teChk tt te = true :=
  ⟨T.row te (ttOf_mem h).1, (ttOf_mem h).2, List.all_eq_true.1 T.chk te (ttOf_mem h).1⟩
theorem elChk_spec {tt : TT} {el : TypeId} {e : Ty} (h : elChk tt el e = true) : ∃ te, ttOf tt el = some te ∧ te.T = e ∧ e.size ≠ 0 := by
  unfold elChk at h
  cases ht : ttOf tt el with
  | none => rw [ht] at h; cases h
  | some te =>
    rw [ht] at h
    simp only [Bool.and_eq_true, Bool.not_eq_true'] at h
    have he := Ty.eq_of_beq h.1
    exact ⟨te, rfl, he, fun h0 => by have := h.2; rw [he, h0] at this; simp at this⟩

section
variable {P : Program} {tt : TT} (T : TtOk P tt) {t : TypeId} {te : TE} (h : ttOf tt t = some te)
include T h
theorem info_at : ∃ i, P.info? t = some i ∧ i.zero = some (mkV te.ag (zeroCells te.T)) ∧ i.size = te.T.size ∧ i.bytes = te.by_ := by
  obtain ⟨r, rfl, _⟩ := T.at h
  have := r.info
  cases hi : P.info? te.t with
  | none => rw [hi] at this; cases this
  | some i => rw [hi] at this; simp at this; exact ⟨i, rfl, this.1, this.2.1, this.2.2⟩
theorem run_size_at (w : World) : (sizeOf t).run P w = .ok te.T.size w := by
  obtain ⟨i, hi, _, hs, _⟩ := info_at T h
  simp [sizeOf, typeInfo, hi, hs]
theorem run_zero_at (w : World) : (zeroValue t).run P w = .ok (mkV te.ag (zeroCells te.T)) w := by
  obtain ⟨i, hi, hz, _, _⟩ := info_at T h
  simp [zeroValue, typeInfo, hi, hz]
theorem und_at : ∃ d, P.underlying t = some d ∧ dinfo (some d) = te.di := by
  obtain ⟨r, rfl, c⟩ := T.at h
  have := r.di
  cases hu : P.underlying te.t with
  | some d => rw [hu] at this; exact ⟨d, rfl, this⟩
  | none =>
    rw [hu] at this
    exfalso
    unfold TE.di at this
    unfold teChk at c
    cases hf : te.fts with
    | nil =>
      rw [hf] at this c
      cases hT : te.T <;> rw [hT] at this c <;> simp [dinfo] at this c
    | cons x xs => rw [hf] at this; simp [dinfo] at this
theorem run_agg_at (w : World) : (isAgg t).run P w = .ok te.ag w := by
  obtain ⟨d, hd, hi⟩ := und_at T h
  obtain ⟨r, _, _⟩ := T.at h
  have ha := r.ag
  rw [← hi] at ha
  unfold isAgg
  rw [Sem.run_bind, run_underlying hd w]
  cases d <;> simp [dinfo, DI.agg] at ha ⊢ <;> exact ha
theorem size_one (ha : te.ag = false) : te.T.size = 1 := by
  obtain ⟨r, _, c⟩ := T.at h
  have h1 := r.ag
  rw [ha] at h1
  unfold TE.di at h1
  unfold teChk at c
  cases hf : te.fts with
  | nil =>
    rw [hf] at h1 c
    cases hT : te.T <;> rw [hT] at h1 c <;> simp [DI.agg] at h1 c <;> rfl
  | cons x xs => rw [hf] at h1; simp [DI.agg] at h1
end

/-! ### Loads and stores -/

theorem cell_of_heap {w : World} {b o : Nat} {C : Array Value} {t : TypeId} {fz : Nat × Nat} (h : w.heap[b]? = some (.cells C t fz)) (j : Nat) : w.cell? ⟨b, o + j, none⟩ = C[o + j]? := by
  simp [World.cell?, h]
theorem addr_add (b o j : Nat) : (⟨b, o, none⟩ : Addr).add j = ⟨b, o + j, none⟩ := by unfold Addr.add; split <;> simp_all
theorem cellsAt_get {C : Array Value} {o n j : Nat} {v : Value} (h : (cellsAt C o n)[j]? = some v) : C[o + j]? = some v := by
  unfold cellsAt at h
  rw [List.getElem?_take] at h
  split at h
  · rw [List.getElem?_drop] at h
    simpa using h
  · cases h
theorem cellsAt_rows {w : World} {b o n : Nat} {C : Array Value} {t : TypeId} {fz : Nat × Nat} (h : w.heap[b]? = some (.cells C t fz)) :
    ∀ j v, (cellsAt C o n)[j]? = some v → w.cell? ((⟨b, o, none⟩ : Addr).add j) = some v := fun j v hv => by
  rw [addr_add, cell_of_heap h]
  exact cellsAt_get hv

theorem run_load_at {P : Program} {tt : TT} (T : TtOk P tt) {t : TypeId} {te : TE} (h : ttOf tt t = some te) {w : World} {b o : Nat} {C : Array Value} {t' : TypeId} {fz : Nat × Nat}
    (hh : w.heap[b]? = some (.cells C t' fz)) (hs : o + te.T.size ≤ C.size) : (Instr.loadAt t (.pointer (some ⟨b, o, none⟩))).run P w = .ok (mkV te.ag (cellsAt C o te.T.size)) w := by
  have hl := cellsAt_len hs
  unfold Instr.loadAt Instr.sureAddr loadVar
  cases ha : te.ag with
  | true =>
    have := run_loadCells_list (P := P) w ⟨b, o, none⟩ (cellsAt C o te.T.size) (cellsAt_rows hh)
    rw [hl] at this
    simp [run_agg_at T h, run_size_at T h, ha, this, mkV]
  | false =>
    have h1 := size_one T h ha
    rw [h1] at hl hs ⊢
    obtain ⟨v, hv⟩ : ∃ v, cellsAt C o 1 = [v] := by
      match hc : cellsAt C o 1, hl with
      | [v], _ => exact ⟨v, rfl⟩
    have hc := cellsAt_rows (o := o) (n := 1) hh 0 v (by rw [hv]; rfl)
    rw [addr_add, Nat.add_zero] at hc
    simp [run_agg_at T h, ha, hc, mkV, hv]

/-- a block's cells with some of them written over -/
def over (C : Array Value) (o : Nat) (vs : List Value) : Array Value := (C.toList.take o ++ vs ++ C.toList.drop (o + vs.length)).toArray
theorem run_store_at {P : Program} {tt : TT} (T : TtOk P tt) {t : TypeId} {te : TE} (h : ttOf tt t = some te) {w : World} {b o : Nat} {C : Array Value} {t' : TypeId} {v : Value}
    (hh : w.heap[b]? = some (.cells C t' (0, 0))) (hs : o + te.T.size ≤ C.size) (hv : v.cells.toList.length = te.T.size) (h1 : ∀ x ∈ v.cells.toList, x.oneCell' = true) :
    (Instr.storeAt t (.pointer (some ⟨b, o, none⟩)) v).run P w = .ok () (w.setRow b (over C o v.cells.toList)) := by
  have hst := run_storeCells_at P b o t' v.cells.toList 0 C w hh (by omega) h1
  have hz : v.cells.size = te.T.size := by rw [← hv, Array.length_toList]
  simp only [Nat.add_zero] at hst
  unfold Instr.storeAt Instr.sureAddr storeVar
  simp [run_size_at T h, hz, hst, over]

end Go.Sx
