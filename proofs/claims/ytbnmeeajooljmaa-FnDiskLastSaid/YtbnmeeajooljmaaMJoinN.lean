/- From a law's contract to its call, arguments of any shapes. -/
import Derived.Test.YtbnmeeajooljmaaMOpen
import Derived.Test.YtbnmeeajooljmaaMJoin
import Derived.WideShapes
set_option linter.all false
namespace Go.Sx
open Go Go.RowKit
/-- everything that lies, lies for ever -/
def perG (w : World) : Gh := ⟨fun _ => .bool false, fun b => if b < w.heap.size then .per else .no⟩
def ArgIn (w : World) (te : TE) (v : Value) : Prop := v = mkV te.ag v.cells.toList ∧ (te.ag = false → v.cells.toList.length = 1) ∧ ∃ y, ∀ id p, Tr (perG w) w te.T pF id p v.cells.toList y
theorem mkV_one {v : Value} (h : ∀ cs, v ≠ .agg cs) : v = mkV false v.cells.toList ∧ v.cells.toList.length = 1 := by
  have hv : v.cells = #[v] := by cases v <;> first | rfl | exact absurd rfl (h _)
  exact ⟨by simp [mkV, hv], by simp [hv]⟩
theorem arg_in {P : Program} {tt : TT} {w : World} {H : Type} {enc : TypeId × Value → H} (T : TtOk P tt) (hby : (tt.all fun te => Nat.blt 0 te.by_) = true) {t : TypeId} {te : TE} (hnp : noPtT tt 30 t = true) (ht : ttOf tt t = some te) {v : Value} {r : Reach} {base : Nat} (hval : Value.okWide P w r base t v)
    {d : DataW H} {p : List MemPlace} (hd : DataW.Trod enc P w 0 (fun _ => true) true t v d p) (hwt : ∀ n ∈ d.weights P t, n ≤ reachBytes) : ArgIn w te v := by
  obtain ⟨fuel, hf⟩ := hd
  have htr := tr_of_trod (G := perG w) T hby (fun b hb => by simp [perG, hb]) fuel 30 t te _ _ hnp ht hf hwt
  obtain ⟨dd, hdd, hdi⟩ := und_at T ht
  obtain ⟨hok, _, _⟩ := T.at ht
  have hag := hok.ag
  rw [← hdi] at hag
  refine (fun h => ⟨h.1, h.2, htr⟩ : (v = mkV te.ag v.cells.toList ∧ (te.ag = false → v.cells.toList.length = 1)) → _) ?_
  have key : te.ag = false → (∀ cs, v ≠ .agg cs) → v = mkV te.ag v.cells.toList ∧ (te.ag = false → v.cells.toList.length = 1) := fun h h2 => by
    rw [h]; exact ⟨(mkV_one h2).1, fun _ => (mkV_one h2).2⟩
  unfold Value.okWide at hval
  rw [hdd] at hval
  cases dd with
  | struct fs =>
    obtain ⟨cs, rfl, _⟩ := hval
    have : te.ag = true := hag
    rw [this]; exact ⟨by simp [mkV, Value.cells], fun h => by cases h⟩
  | array n e =>
    obtain ⟨cs, rfl, _⟩ := hval
    have : te.ag = true := hag
    rw [this]; exact ⟨by simp [mkV, Value.cells], fun h => by cases h⟩
  | _ =>
    refine key hag fun cs hc => ?_
    subst hc
    simp only [Cell.okWide, hdd, Cell.ok] at hval
def valIns : List TE → List Mode
  | [] => []
  | te :: r => .val te.ag te.T pF :: valIns r
def ArgsIn (w : World) : List TE → List Value → Prop
  | [], vs => vs = []
  | te :: r, vs => ∃ v vs', vs = v :: vs' ∧ ArgIn w te v ∧ ArgsIn w r vs'
theorem args_ok {w : World} : ∀ {tes : List TE} {k : Nat} {vs : List Value}, ArgsIn w tes vs → ∃ x, ArgsOk (perG w) w k (valIns tes) x vs := by
  intro tes
  induction tes with
  | nil => intro k vs h; exact ⟨(), h⟩
  | cons te r ih =>
    intro k vs h
    obtain ⟨v, vs', rfl, ⟨h1, h2, y, h3⟩, h4⟩ := h
    obtain ⟨x, hx⟩ := ih (k := k + 1) h4
    exact ⟨(y, x), v, vs', rfl, ⟨noO_p te.T, _, h1, h2, h3 default []⟩, hx⟩
theorem law_callsN {P : Program} {f : FuncId} {c : Ctr} {tes : List TE} (hc : c = ⟨f, valIns tes, fun _ => True, fun _ => (sBool true, [])⟩) (h : CtrOk P c) {fn : Func} {body : Code} (hf : P.funcs[f]? = some fn) (hb : fn.body = some body) (hn : (fn.name == "runtime.NumGoroutine") = false)
    (args : List Value) (w : World) (hw : ArgsIn w tes args) : Calls P f args.toArray w fun e w' => e = .returned (.bool true) ∧ Below w.heap.size w w' := by
  subst hc
  obtain ⟨x, hargs⟩ := args_ok (k := 0) hw
  have hbnd : ∀ b, (perG w).g b ≠ .no → b < w.heap.size := fun b hb => by
    by_cases h : b < w.heap.size
    · exact h
    · exact absurd (by simp [perG, h]) hb
  obtain ⟨n, w1, hrun, hres⟩ := h (perG w) w _ _ hbnd hargs trivial
  have hrun' : (callFunc f args.toArray).run P w = .ok (.enter f args.toArray) w := by
    have hn' : ¬ fn.name = "runtime.NumGoroutine" := by simpa using hn
    simp [callFunc, hf, hn', hb]
  have heq : (Result.ok n w1 : Result Next) = .ok (.enter f args.toArray) w := hrun.symm.trans hrun'
  injection heq with e1 e2
  subst e1; subst e2
  rcases hres with ⟨v, hv, _⟩ | ⟨_, hcalls⟩ | ⟨row, as, hv, _⟩
  · cases hv
  · refine hcalls.mono ?_
    intro e w' he
    cases e with
    | returned v =>
      obtain ⟨G', hch, _, _, hm, _⟩ := he
      refine ⟨by rw [hm.boolV], hch.os, hch.tape, hch.output, hch.size, fun k hk => ?_⟩
      exact (hch.pb.per k (by simp [perG, hk])).2
    | panicked c => exact he.elim
    | outgrown => exact he.elim
  · cases hv
end Go.Sx
