/-
  For every input the law FnExactStripePut returns true and its arguments read afterwards as before. Conditions: none.
-/
import Derived.Test.YtbaifcnfdljhlaaGreatRows
import Derived.WalkKit
import Derived.ProofKit
import Derived.OpenShut
import Derived.ShutString
import Derived.ChangeOld
import Derived.Below
import Derived.SizedLaws
import Derived.Test.YtbaifcnfdljhlaaGreatMOpentoMPr
import Derived.Test.YtbaifcnfdljhlaaGreatMS3
set_option linter.all false
namespace Go.Proofs.YtbaifcnfdljhlaaGreat.fnExactStripePut
open Go.ChangeShapes Go.WideShapes Go.ChangeAt Go.RowKit
set_option linter.unusedVariables false
theorem own : ownKnob Tryz.prog.godebug = none := by kernel_rfl
theorem laidOut : laidOutB Tryz.prog = true := by kernel_rfl
def tes : List Go.Sx.TE := [⟨43, (.sl Go.Sx.TL_Disk), false, 0, 99, 24, []⟩, ⟨46, Go.Sx.TL_Ptr, true, 3, 0, 40, [3, 3, 44]⟩, ⟨9, .str, false, 0, 0, 16, []⟩]
theorem ambient (W : World) : Go.Sx.Amb Tryz.prog (Go.Sx.perG W).g W := by
  refine Go.Sx.amb_mk (fun h => absurd (show false = true from h) (by decide)) fun nm Q hm b hb => ?_
  simp only [Go.Sx.ambTab, List.mem_cons, Prod.mk.injEq, List.not_mem_nil, or_false] at hm
  rcases hm with ⟨rfl, rfl⟩ | ⟨rfl, rfl⟩ | ⟨rfl, rfl⟩ | ⟨rfl, rfl⟩
  · exact absurd hb (by rw [show Tryz.prog.globalNamed "internal/strconv.uint64pow10" = none by kernel_rfl]; intro e; cases e)
  · exact absurd hb (by rw [show Tryz.prog.globalNamed "strconv.ErrSyntax" = none by kernel_rfl]; intro e; cases e)
  · exact absurd hb (by rw [show Tryz.prog.globalNamed "strconv.ErrRange" = none by kernel_rfl]; intro e; cases e)
  · exact absurd hb (by rw [show Tryz.prog.globalNamed "loop.example/paling/impl.errRoot" = none by kernel_rfl]; intro e; cases e)
theorem walk (args : List Value) (w : World) (hw : Go.Sx.ArgsIn w tes args) :
    Calls Tryz.prog 4 args.toArray w fun e w' => e = .returned (.bool true) ∧ Below w.heap.size w w' :=
  Go.Sx.law_callsN (tes := tes) rfl Go.Sx.cXSPut_ok Tryz.func4 rfl rfl args w (ambient w) hw
set_option maxRecDepth 100000 in
theorem lifted (os : Os) (started : os.Started) (H : Type) (enc : TypeId × Value → H) :
    ReturnsInHanded {} Tryz.checked os 4 .any (Rows.fnExactStripePutSpec.pre6 enc Tryz.prog Tryz.f4 Rows.fnExactStripePutRow.domain false) (Rows.fnExactStripePutSpec.post enc Tryz.prog Tryz.f4 false true false false) := by
  refine returnsInHanded_of_change_sized (C := Tryz.checked) own started (by kernel_rfl) Tryz.func4
    (ChangeSpec.witness6 (enc := enc) (C := Tryz.checked) false ⟨#[], #[.slice none 0 0, .agg #[.int .i64 0, .int .i64 0, .slice none 0 0], .string ⟨#[]⟩], []⟩ 8 (by kernel_rfl) (by kernel_rfl) (by kernel_rfl) (by kernel_rfl)) ?_
  intro W base args ds gs before hval0 hW hcnd hsz0 _
  have hval : ∀ (j : Nat) t v, Tryz.f4.params[j]? = some t → args[j]? = some v → Value.okWide Tryz.prog W .any base t v := hval0
  have hsz : (DataW.weightsEach Tryz.prog (Tryz.f4.params.toList ++ Rows.fnExactStripePutSpec.plain.varTypes Tryz.prog) (ds ++ gs)).all (· ≤ reachBytes) = true := hsz0
  have hW' := hW
  obtain ⟨p, q, hA0, hV, rfl, hfz, hnd⟩ := hW
  have hA : DataW.TrodAll enc Tryz.prog W 0 (fun _ => true) true Tryz.f4.params.toList args.toList ds p := hA0
  rw [Tryz.params4] at hA hval hsz
  obtain ⟨v0, vs0, d0, ds0, p0, q0, hargs, rfl, rfl, h0, r0⟩ := trodAll_cons hA
  obtain ⟨v1, vs1, d1, ds1, p1, q1, rfl, rfl, rfl, h1, r1⟩ := trodAll_cons r0
  obtain ⟨v2, vs2, d2, ds2, p2, q2, rfl, rfl, rfl, h2, r2⟩ := trodAll_cons r1
  obtain ⟨rfl, rfl, rfl⟩ := trodAll_nil r2
  obtain rfl : args = #[v0, v1, v2] := by cases args; simp_all
  obtain ⟨rfl, rfl⟩ := trodVars_none hV
  have k0 := h0
  have lt0 : ∀ x ∈ p0, x.block < W.heap.size := by obtain ⟨m, hm⟩ := k0; exact DataW.trod_lt m _ _ _ hm
  have a0 := Go.Sx.arg_in Go.Sx.ttok (by kernel_rfl) (t := 43) (by kernel_rfl) rfl (hval 0 43 v0 rfl rfl) h0 (fun n hn => by have h := List.all_eq_true.1 hsz n (DataW.weights_mem_each (j := 0) (t := 43) rfl rfl n hn); simpa using h)
  have k1 := h1
  have lt1 : ∀ x ∈ p1, x.block < W.heap.size := by obtain ⟨m, hm⟩ := k1; exact DataW.trod_lt m _ _ _ hm
  have a1 := Go.Sx.arg_in Go.Sx.ttok (by kernel_rfl) (t := 46) (by kernel_rfl) rfl (hval 1 46 v1 rfl rfl) h1 (fun n hn => by have h := List.all_eq_true.1 hsz n (DataW.weights_mem_each (j := 1) (t := 46) rfl rfl n hn); simpa using h)
  have k2 := h2
  have lt2 : ∀ x ∈ p2, x.block < W.heap.size := by obtain ⟨m, hm⟩ := k2; exact DataW.trod_lt m _ _ _ hm
  have a2 := Go.Sx.arg_in Go.Sx.ttok (by kernel_rfl) (t := 9) (by kernel_rfl) rfl (hval 2 9 v2 rfl rfl) h2 (fun n hn => by have h := List.all_eq_true.1 hsz n (DataW.weights_mem_each (j := 2) (t := 9) rfl rfl n hn); simpa using h)
  clear hA0 hval0
  refine (walk [v0, v1, v2] W ⟨_, _, rfl, a0, ⟨_, _, rfl, a1, ⟨_, _, rfl, a2, rfl⟩⟩⟩).mono fun e W' ⟨he, bel⟩ => ?_
  subst he
  exact ⟨_, rfl, _, _, _, [], _, [], hW', trodAll_mk1 (shut_bool Tryz.underlying4 _), (trodAll_cons_mk (Below.trod laidOut (by kernel_rfl) (of_decide_eq_true (by kernel_rfl)) k0 bel lt0) (trodAll_cons_mk (Below.trod laidOut (by kernel_rfl) (of_decide_eq_true (by kernel_rfl)) k1 bel lt1) (trodAll_cons_mk (Below.trod laidOut (by kernel_rfl) (of_decide_eq_true (by kernel_rfl)) k2 bel lt2) trodAll_mk0))), rfl, bel.frame _, fun h => by cases h⟩
theorem over : Rows.fnExactStripePutRow.holds Tryz.pinned (OpenSpec.ofChange Rows.fnExactStripePutSpec) :=
  OpenClaim.holds_of_wide 4 Tryz.f4 rfl rfl rfl rfl rfl rfl rfl ⟨rfl, rfl, rfl, rfl, rfl⟩ rfl rfl rfl rfl rfl (by kernel_rfl) Tryz.func4 (by kernel_rfl)
    (of_decide_eq_true (by kernel_rfl)) (by unfold Func.isWrapper; first | (rw [if_pos (by decide +kernel)]; kernel_rfl) | (rw [if_neg (by decide +kernel)]; exact ⟨rfl, rfl⟩))
    (fun os started H enc _ => lifted os started H enc)
theorem proved : Rows.FnExactStripePutSaid := over
#print axioms proved
end Go.Proofs.YtbaifcnfdljhlaaGreat.fnExactStripePut
