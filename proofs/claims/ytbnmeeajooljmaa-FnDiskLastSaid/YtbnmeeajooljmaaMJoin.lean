/- From a contract to the call that a statement speaks of. -/
import Derived.Test.YtbnmeeajooljmaaSxZ
import Derived.Test.YtbnmeeajooljmaaMPu
import GoSem.ClaimWide
set_option linter.all false
namespace Go.Sx
open Go Go.RowKit
theorem rowAt_off {P : Program} {fits : TypeId → Bool} : ∀ {d : Nat} {e : TypeId} {count off n : Nat}, rowAt P fits d e count off n = true → off ≤ count * P.cellsOf e := by
  intro d e count off n h
  cases d with
  | zero => simp [rowAt] at h
  | succ d =>
    unfold rowAt at h
    simp only at h
    split at h
    · cases h
    · rename_i hs
      have hm := Nat.div_add_mod off (P.cellsOf e)
      have hlt := Nat.mod_lt off (Nat.pos_of_ne_zero hs)
      rcases Bool.or_eq_true _ _ ▸ h with h1 | h1
      · simp only [Bool.and_eq_true, beq_iff_eq, decide_eq_true_eq] at h1
        have h2 : off / P.cellsOf e ≤ count := by omega
        have h3 := Nat.mul_le_mul_right (P.cellsOf e) h2
        rw [Nat.mul_comm (off / P.cellsOf e)] at h3
        omega
      · simp only [Bool.and_eq_true, decide_eq_true_eq] at h1
        have h2 : off / P.cellsOf e + 1 ≤ count := by omega
        have h3 := Nat.mul_le_mul_right (P.cellsOf e) h2
        rw [Nat.add_mul, Nat.one_mul, Nat.mul_comm (off / P.cellsOf e)] at h3
        omega
theorem has_off {P : Program} {w : World} {r : Reach} {base : Nat} {a : Addr} {e : TypeId} {n : Nat} {k : IntKind} (he : P.underlying e = some (.int k)) (h : w.has P r base a e n) : a.spot = none ∧ ∃ C t fz, w.heap[a.block]? = some (.cells C t fz) ∧ a.off ≤ C.size := by
  obtain ⟨_, hs, row, cells, hsh, hl⟩ := h
  refine ⟨hs, ?_⟩
  unfold World.shape? at hsh
  split at hsh
  · rename_i C t fz hh
    cases hsh
    refine ⟨C, row, fz, hh, ?_⟩
    unfold liesAt at hl
    split at hl
    · cases hl
    · simp only [he, Bool.or_false] at hl
      exact Nat.le_trans (rowAt_off hl) (Nat.div_mul_le_self _ _)
  · cases hsh
/-- what the walk is told of a slice of bytes that came in -/
def IsRow (w : World) (a : Option Addr) (len cap : Nat) (zs : List Int) : Prop :=
  (a = none ∧ len = 0 ∧ cap = 0 ∧ zs = []) ∨
  ∃ x, a = some x ∧ len ≤ cap ∧ cap ≤ maxL ∧ zs.length = cap ∧ (∀ i, i < zs.length → w.cell? (x.add i) = some (.int .u8 (zs.getD i 0))) ∧ (∀ n ∈ zs, (Lit.int .u8 n).wf = true) ∧ x.spot = none ∧ ∃ C t fz, w.heap[x.block]? = some (.cells C t fz) ∧ x.off ≤ C.size
theorem wf_u8 {n : Int} (h : (Lit.int .u8 n).wf = true) : inR .u8 n := by
  simp only [Lit.wf, Bool.and_eq_true, decide_eq_true_eq] at h
  exact h
theorem law_calls {P : Program} {f : FuncId} {c : Ctr} (hc : c = ⟨f, [.val false TB pF], fun _ => True, fun _ => (sBool true, [])⟩) (h : CtrOk P c) {fn : Func} {body : Code} (hf : P.funcs[f]? = some fn) (hb : fn.body = some body) (hn : (fn.name == "runtime.NumGoroutine") = false)
    (a : Option Addr) (len cap : Nat) (zs : List Int) (w : World) (hw : IsRow w a len cap zs) : Calls P f #[.slice a len cap] w fun e w' => e = .returned (.bool true) ∧ Below w.heap.size w w' := by
  subst hc
  let G : Gh := ⟨fun _ => .bool false, fun b => match a with | some x => if x.block = b then .per else .no | none => .no⟩
  have hbnd : ∀ b, G.g b ≠ .no → b < w.heap.size := by
    intro b hb
    rcases hw with ⟨rfl, _⟩ | ⟨x, rfl, _, _, _, _, _, _, C, t, fz, hh, _⟩
    · exact absurd rfl hb
    · by_cases hx : x.block = b
      · rw [← hx]; exact (Array.getElem?_eq_some_iff.1 hh).1
      · exact absurd (by simp [G, hx]) hb
  have hargs : ArgsOk G w 0 [.val false TB pF] (zs.take len, ()) [.slice a len cap] := by
    refine ⟨_, [], rfl, ⟨rfl, [.slice a len cap], rfl, fun _ => rfl, ?_⟩, rfl⟩
    rcases hw with ⟨rfl, rfl, rfl, rfl⟩ | ⟨x, rfl, hl, hm, hz, hcell, hwf, hs, C, t, fz, hh, hoff⟩
    · exact ⟨none, 0, 0, rfl, rfl, Nat.le_refl _, Nat.zero_le _, fun _ => rfl, .inl ⟨fun _ => rfl, rfl⟩⟩
    · have hlen : len = (zs.take len).length := by rw [List.length_take]; omega
      obtain ⟨xb, xo, xs⟩ := x
      have hs : xs = none := hs
      subst hs
      have hget : ∀ i, i < zs.length → C[xo + i]? = some (.int .u8 (zs.getD i 0)) := fun i hi => by
        have := hcell i hi
        have he : (({ block := xb, off := xo, spot := none } : Addr).add i) = ⟨xb, xo + i, none⟩ := by
          unfold Addr.add
          split
          · rename_i h0; subst h0; rfl
          · rfl
        rw [he] at this
        simpa [World.cell?, hh] using this
      have hsz : xo + len ≤ C.size := by
        cases len with
        | zero => exact hoff
        | succ l =>
          have := (Array.getElem?_eq_some_iff.1 (hget l (by omega))).1
          omega
      refine ⟨some ⟨xb, xo, none⟩, len, cap, rfl, hlen, hl, Nat.le_trans hl hm, fun _ => rfl, .inr ⟨xb, xo, C, t, fz, rfl, ?_, hh, by simpa [Ty.size] using hsz, (fun e => by cases e), ?_⟩⟩
      · show G.g xb = .per
        simp [G]
      · intro j y hj
        have hj' : j < len := by
          have := (List.getElem?_eq_some_iff.1 hj).1
          rw [List.length_take] at this; omega
        have hy : zs.getD j 0 = y := by
          rw [List.getElem?_take_of_lt hj'] at hj
          rw [List.getD_eq_getElem?_getD, hj]; rfl
        have hjz : j < zs.length := by omega
        refine ⟨?_, ?_⟩
        · have hc := hget j hjz
          rw [hy] at hc
          have hlt := (Array.getElem?_eq_some_iff.1 hc).1
          have hv := (Array.getElem?_eq_some_iff.1 hc).2
          simp only [cellsAt, Ty.size, Nat.mul_one]
          rw [List.drop_eq_getElem_cons (by simpa using hlt)]
          simp [hv]
        · exact wf_u8 (hwf y (by rw [← hy, List.getD_eq_getElem?_getD, List.getElem?_eq_getElem hjz]; exact List.getElem_mem hjz))
  obtain ⟨n, w1, hrun, hres⟩ := h G w _ _ hbnd hargs trivial
  have hrun' : (callFunc f #[.slice a len cap]).run P w = .ok (.enter f #[.slice a len cap]) w := by
    have hn' : ¬ fn.name = "runtime.NumGoroutine" := by simpa using hn
    simp [callFunc, hf, hn', hb]
  have heq : (Result.ok n w1 : Result Next) = .ok (.enter f #[.slice a len cap]) w := hrun.symm.trans hrun'
  injection heq with e1 e2
  subst e1; subst e2
  rcases hres with ⟨v, hv, _⟩ | ⟨_, hcalls⟩ | ⟨row, as, hv, _⟩
  · cases hv
  · refine hcalls.mono ?_
    intro e w' he
    cases e with
    | returned v =>
      obtain ⟨G', hch, _, _, hm, _⟩ := he
      refine ⟨by rw [hm.boolV], hch.os, hch.tape, hch.output, hch.size, fun k hk => ?_⟩
      cases hg : G.g k with
      | per => exact (hch.pb.per k hg).2
      | no => exact (hch.no k hk hg).1
      | own i q => exact (by cases a <;> simp only [G] at hg <;> first | cases hg | (split at hg <;> cases hg))
      | bor => exact (by cases a <;> simp only [G] at hg <;> first | cases hg | (split at hg <;> cases hg))
    | panicked c => exact he.elim
    | outgrown => exact he.elim
  · cases hv
end Go.Sx
