/-
  For every input the law FnStripeBeside returns true and its arguments read afterwards as before. Conditions: none.
-/
import Derived.Test.YtbaifcnfdljhlaaGreatRows
import Derived.WalkKit
import Derived.ProofKit
import Derived.OpenShut
import Derived.ShutString
import Derived.ChangeOld
import Derived.Below
import Derived.SizedLaws
import Derived.Test.YtbaifcnfdljhlaaGreatMOpentoMPr
import Derived.Test.YtbaifcnfdljhlaaGreatMS5toMS9
set_option linter.all false
namespace Go.Proofs.YtbaifcnfdljhlaaGreat.fnStripeBeside
open Go.ChangeShapes Go.WideShapes Go.ChangeAt Go.RowKit
set_option linter.unusedVariables false
theorem own : ownKnob Tryz.prog.godebug = none := by kernel_rfl
theorem laidOut : laidOutB Tryz.prog = true := by kernel_rfl
def tes : List Go.Sx.TE := [⟨22, (.sl (.int .u8)), false, 0, 5, 24, []⟩]
theorem ambient (W : World) : Go.Sx.Amb Tryz.prog (Go.Sx.perG W).g W := by
  refine Go.Sx.amb_mk (fun h => absurd (show false = true from h) (by decide)) fun nm Q hm b hb => ?_
  simp only [Go.Sx.ambTab, List.mem_cons, Prod.mk.injEq, List.not_mem_nil, or_false] at hm
  rcases hm with ⟨rfl, rfl⟩ | ⟨rfl, rfl⟩ | ⟨rfl, rfl⟩ | ⟨rfl, rfl⟩
  · exact absurd hb (by rw [show Tryz.prog.globalNamed "internal/strconv.uint64pow10" = none by kernel_rfl]; intro e; cases e)
  · exact absurd hb (by rw [show Tryz.prog.globalNamed "strconv.ErrSyntax" = none by kernel_rfl]; intro e; cases e)
  · exact absurd hb (by rw [show Tryz.prog.globalNamed "strconv.ErrRange" = none by kernel_rfl]; intro e; cases e)
  · exact absurd hb (by rw [show Tryz.prog.globalNamed "loop.example/paling/impl.errRoot" = none by kernel_rfl]; intro e; cases e)
theorem walk (args : List Value) (w : World) (hw : Go.Sx.ArgsIn w tes args) :
    Calls Tryz.prog 3 args.toArray w fun e w' => e = .returned (.bool true) ∧ Below w.heap.size w w' :=
  Go.Sx.law_callsN (tes := tes) rfl Go.Sx.cXBes_ok Tryz.func3 rfl rfl args w (ambient w) hw
set_option maxRecDepth 100000 in
theorem lifted (os : Os) (started : os.Started) (H : Type) (enc : TypeId × Value → H) :
    ReturnsInHanded {} Tryz.checked os 3 .any (Rows.fnStripeBesideSpec.pre6 enc Tryz.prog Tryz.f3 Rows.fnStripeBesideRow.domain false) (Rows.fnStripeBesideSpec.post enc Tryz.prog Tryz.f3 false true false false) := by
  refine returnsInHanded_of_change_sized (C := Tryz.checked) own started (by kernel_rfl) Tryz.func3
    (ChangeSpec.witness6 (enc := enc) (C := Tryz.checked) false ⟨#[], #[.slice none 0 0], []⟩ 8 (by kernel_rfl) (by kernel_rfl) (by kernel_rfl) (by kernel_rfl)) ?_
  intro W base args ds gs before hval0 hW hcnd hsz0 _
  have hval : ∀ (j : Nat) t v, Tryz.f3.params[j]? = some t → args[j]? = some v → Value.okWide Tryz.prog W .any base t v := hval0
  have hsz : (DataW.weightsEach Tryz.prog (Tryz.f3.params.toList ++ Rows.fnStripeBesideSpec.plain.varTypes Tryz.prog) (ds ++ gs)).all (· ≤ reachBytes) = true := hsz0
  have hW' := hW
  obtain ⟨p, q, hA0, hV, rfl, hfz, hnd⟩ := hW
  have hA : DataW.TrodAll enc Tryz.prog W 0 (fun _ => true) true Tryz.f3.params.toList args.toList ds p := hA0
  rw [Tryz.params3] at hA hval hsz
  obtain ⟨v0, vs0, d0, ds0, p0, q0, hargs, rfl, rfl, h0, r0⟩ := trodAll_cons hA
  obtain ⟨rfl, rfl, rfl⟩ := trodAll_nil r0
  obtain rfl : args = #[v0] := by cases args; simp_all
  obtain ⟨rfl, rfl⟩ := trodVars_none hV
  have k0 := h0
  have lt0 : ∀ x ∈ p0, x.block < W.heap.size := by obtain ⟨m, hm⟩ := k0; exact DataW.trod_lt m _ _ _ hm
  have a0 := Go.Sx.arg_in Go.Sx.ttok (by kernel_rfl) (t := 22) (by kernel_rfl) rfl (hval 0 22 v0 rfl rfl) h0 (fun n hn => by have h := List.all_eq_true.1 hsz n (DataW.weights_mem_each (j := 0) (t := 22) rfl rfl n hn); simpa using h)
  clear hA0 hval0
  refine (walk [v0] W ⟨_, _, rfl, a0, rfl⟩).mono fun e W' ⟨he, bel⟩ => ?_
  subst he
  exact ⟨_, rfl, _, _, _, [], _, [], hW', trodAll_mk1 (shut_bool Tryz.underlying4 _), (trodAll_cons_mk (Below.trod laidOut (by kernel_rfl) (of_decide_eq_true (by kernel_rfl)) k0 bel lt0) trodAll_mk0), rfl, bel.frame _, fun h => by cases h⟩
theorem over : Rows.fnStripeBesideRow.holds Tryz.pinned (OpenSpec.ofChange Rows.fnStripeBesideSpec) :=
  OpenClaim.holds_of_wide 3 Tryz.f3 rfl rfl rfl rfl rfl rfl rfl ⟨rfl, rfl, rfl, rfl, rfl⟩ rfl rfl rfl rfl rfl (by kernel_rfl) Tryz.func3 (by kernel_rfl)
    (of_decide_eq_true (by kernel_rfl)) (by unfold Func.isWrapper; first | (rw [if_pos (by decide +kernel)]; kernel_rfl) | (rw [if_neg (by decide +kernel)]; exact ⟨rfl, rfl⟩))
    (fun os started H enc _ => lifted os started H enc)
theorem proved : Rows.FnStripeBesideSaid := over
#print axioms proved
end Go.Proofs.YtbaifcnfdljhlaaGreat.fnStripeBeside
