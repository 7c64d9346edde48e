/-
  For every input the law FnExactWorldNew returns true and its arguments read afterwards as before. Conditions: the listed tables of the library read as listed (the card ties them to the program's text).
-/
import Derived.Test.YtbaifcnfdljhlaaGreatDoorRows
import Derived.Test.YtbaifcnfdljhlaaGreatDoorCards
import Derived.Test.YtbaifcnfdljhlaaGreatDoorTie
import Derived.WalkKit
import Derived.ProofKit
import Derived.OpenShut
import Derived.ShutString
import Derived.ChangeOld
import Derived.Below
import Derived.SizedLaws
import Derived.LaidMore
import Derived.Lay
import Derived.LaidOnce
import Derived.Lib.LaidTab
import Derived.Stop.LaidErr
import Derived.ChangeVars
import Derived.SevenTiedAt
import Derived.Test.YtbaifcnfdljhlaaGreatDoorMOpentoMPo
import Derived.Test.YtbaifcnfdljhlaaGreatDoorMV3
set_option linter.all false
namespace Go.Proofs.YtbaifcnfdljhlaaGreatDoor.fnExactWorldNew
open Go.ChangeShapes Go.WideShapes Go.ChangeAt Go.RowKit
set_option linter.unusedVariables false
theorem own : ownKnob Tryz.prog.godebug = none := by kernel_rfl
theorem laidOut : laidOutB Tryz.prog = true := by kernel_rfl
def tes : List Go.Sx.TE := [⟨3, (.int .i64), false, 0, 0, 8, []⟩]
theorem walk (args : List Value) (w : World) (ham : Go.Sx.Amb Tryz.prog (Go.Sx.perG w).g w) (hw : Go.Sx.ArgsIn w tes args) :
    Calls Tryz.prog 3 args.toArray w fun e w' => e = .returned (.bool true) ∧ Below w.heap.size w w' :=
  Go.Sx.law_callsN (tes := tes) rfl Go.Sx.cXWorldNew_ok Tryz.func3 rfl rfl args w ham hw
abbrev laid : List (String × DataW Unit) := Rows.fnExactWorldNewRow.laid
/-- what the condition gives -/
theorem ambient {W : World} (h : laidMetH Tryz.prog laid W) (hsh : W.ShapedOpen Tryz.prog) : Go.Sx.Amb Tryz.prog (Go.Sx.perG W).g W := by
  rw [MakeChecks.laidMetH_plain _ _ _ (by kernel_rfl)] at h
  obtain ⟨ps, ⟨g0, t0, cs0, f0, p0, q0, hg0, ht0, hv0, hd0, ⟨g1, t1, cs1, f1, p1, q1, hg1, ht1, hv1, hd1, ⟨g2, t2, cs2, f2, p2, q2, hg2, ht2, hv2, hd2, _, hx2⟩, hx1⟩, hx0⟩, _, _⟩ := h
  refine Go.Sx.amb_mk (fun h => absurd (show false = true from h) (by decide)) fun nm Q hm b hb => ?_
  simp only [Go.Sx.ambTab, List.mem_cons, Prod.mk.injEq, List.not_mem_nil, or_false] at hm
  rcases hm with ⟨rfl, rfl⟩ | ⟨rfl, rfl⟩ | ⟨rfl, rfl⟩ | ⟨rfl, rfl⟩ | ⟨rfl, rfl⟩
  · obtain ⟨C, t, fz, hh, hC⟩ := Go.Sx.var_block hb hv2
    refine ⟨C, t, fz, hh, ?_⟩
    have hte : (Tryz.prog.globals[b]?).map (·.type) = some 138 := by
      obtain rfl := Option.some.inj ((show Tryz.prog.globalNamed "internal/strconv.uint64pow10" = some ((Tryz.prog.globalNamed "internal/strconv.uint64pow10").getD 0) by kernel_rfl).symm.trans hb)
      kernel_rfl
    obtain rfl := Option.some.inj (hb.symm.trans hg2)
    obtain rfl := Option.some.inj (hte.symm.trans ht2)
    rw [hC]
    exact Lib.cells_of_tab (zs := Lib.pow10Tab) Tryz.underlying138 Tryz.underlying130 (by kernel_rfl) (by kernel_rfl) (show DataW.trod _ Tryz.prog W 0 _ _ f2 138 cs2.toList = some (Lib.tabData .u64 Lib.pow10Tab, p2) from hd2)
  · obtain rfl := Option.some.inj ((show Tryz.prog.globalNamed "internal/bytealg.MaxLen" = some 1 by kernel_rfl).symm.trans hb)
    exact Go.Sx.shaped_int (t := 3) (zero := #[.int .i64 0]) hsh (of_decide_eq_true (by kernel_rfl)) (by kernel_rfl) rfl (by kernel_rfl) (by kernel_rfl) Tryz.underlying3
  · exact absurd hb (by rw [show Tryz.prog.globalNamed "strconv.ErrSyntax" = none by kernel_rfl]; intro e; cases e)
  · exact absurd hb (by rw [show Tryz.prog.globalNamed "strconv.ErrRange" = none by kernel_rfl]; intro e; cases e)
  · exact absurd hb (by rw [show Tryz.prog.globalNamed "loop.example/paling/impl.errRoot" = none by kernel_rfl]; intro e; cases e)
set_option maxRecDepth 100000 in
theorem lifted (os : Os) (started : os.Started) (H : Type) (enc : TypeId × Value → H) :
    ReturnsInHanded {} Tryz.checked os 3 .any (fun w args => (Rows.fnExactWorldNewSpec.pre enc Tryz.prog Tryz.f3 [] false w args ∧ laidMetH Tryz.prog laid w) ∧ sizedMet enc Tryz.prog Tryz.f3 (OpenSpec.ofChange Rows.fnExactWorldNewSpec) false w args) (Rows.fnExactWorldNewSpec.post enc Tryz.prog Tryz.f3 false true false false) := by
  refine Go.Sx.returns_laid_shaped (C := Tryz.checked) (X := fun w _ => laidMetH Tryz.prog laid w) (fun _ _ _ hh h => h.of_heap hh) own started (by kernel_rfl) Tryz.func3
    (ChangeSpec.witness_shaped (enc := enc) (C := Tryz.checked) (os := os) (X := fun w _ => laidMetH Tryz.prog laid w) false (World.laidAll Tryz.prog os laid) #[.int .i64 0] 8 (World.laidAll_os _ _ _) (World.shaped_of_ZipB (by kernel_rfl) (by kernel_rfl)) (by kernel_rfl) (by kernel_rfl) (by kernel_rfl)
      (by rw [MakeChecks.laidMetH_plain _ _ _ (by kernel_rfl)]; exact laidMet_laidAll _ (by kernel_rfl) (by kernel_rfl))) ?_
  intro W base args ds gs before hval0 hW hcnd hsz0 hL hsh _
  have hval : ∀ (j : Nat) t v, Tryz.f3.params[j]? = some t → args[j]? = some v → Value.okWide Tryz.prog W .any base t v := hval0
  have hsz : (DataW.weightsEach Tryz.prog (Tryz.f3.params.toList ++ Rows.fnExactWorldNewSpec.plain.varTypes Tryz.prog) (ds ++ gs)).all (· ≤ reachBytes) = true := hsz0
  have hW' := hW
  obtain ⟨p, q, hA0, hV, rfl, hfz, hnd⟩ := hW
  have hA : DataW.TrodAll enc Tryz.prog W 0 (fun _ => true) true Tryz.f3.params.toList args.toList ds p := hA0
  rw [Tryz.params3] at hA hval hsz
  obtain ⟨v0, vs0, d0, ds0, p0, q0, hargs, rfl, rfl, h0, r0⟩ := trodAll_cons hA
  obtain ⟨rfl, rfl, rfl⟩ := trodAll_nil r0
  obtain rfl : args = #[v0] := by cases args; simp_all
  obtain ⟨rfl, rfl⟩ := trodVars_none hV
  have k0 := h0
  have lt0 : ∀ x ∈ p0, x.block < W.heap.size := by obtain ⟨m, hm⟩ := k0; exact DataW.trod_lt m _ _ _ hm
  have a0 := Go.Sx.arg_in Go.Sx.ttok (by kernel_rfl) (t := 3) (by kernel_rfl) rfl (hval 0 3 v0 rfl rfl) h0 (fun n hn => by have h := List.all_eq_true.1 hsz n (DataW.weights_mem_each (j := 0) (t := 3) rfl rfl n hn); simpa using h)
  clear hA0 hval0
  refine (walk [v0] W (ambient hL hsh) ⟨_, _, rfl, a0, rfl⟩).mono fun e W' ⟨he, bel⟩ => ?_
  subst he
  exact ⟨_, rfl, _, _, _, [], _, [], hW', trodAll_mk1 (shut_bool Tryz.underlying4 _), (trodAll_cons_mk (Below.trod laidOut (by kernel_rfl) (of_decide_eq_true (by kernel_rfl)) k0 bel lt0) trodAll_mk0), rfl, bel.frame _, fun h => by cases h⟩
theorem over : Rows.fnExactWorldNewRow.holds Tryz.pinned (OpenSpec.ofChange Rows.fnExactWorldNewSpec) :=
  OpenClaim.holds_of_wide 3 Tryz.f3 rfl rfl rfl rfl rfl rfl rfl ⟨rfl, rfl, rfl, rfl, rfl⟩ rfl rfl rfl rfl rfl (by kernel_rfl) Tryz.func3 (by kernel_rfl)
    (of_decide_eq_true (by kernel_rfl)) (by unfold Func.isWrapper; first | (rw [if_pos (by decide +kernel)]; kernel_rfl) | (rw [if_neg (by decide +kernel)]; exact ⟨rfl, rfl⟩))
    (fun os started H enc _ => lifted os started H enc)
theorem proved : Rows.FnExactWorldNewCardSaid :=
  Claim7.holds_tied_plain_at .later [] [.data, .data, .data] true (true, "12f99fbbd72fb74fc6693bc74d6f83f9dc55247f7fe2b116fa8c15167da3acb3") false over (fun _ h => by cases h) (by kernel_rfl) (fun _ h => by cases h) fnExactWorldNew_row_tie rfl ⟨rfl, rfl⟩ (by kernel_rfl) rfl
    (fun f fn hf hfn => by
      obtain rfl : f = 3 := Option.some.inj ((show Tryz.prog.funcNamed "loop.example/paling/laws.FnExactWorldNew" = some 3 by kernel_rfl).symm.trans hf) |>.symm
      obtain rfl : fn = Tryz.f3 := (Option.some.inj (Tryz.func3.symm.trans hfn)).symm
      exact ⟨by kernel_rfl, fun j t ht => by
        rw [Tryz.params3] at ht
        have hm : t ∈ [3] := by simpa using Array.mem_of_getElem? ht
        have hall : ([3].all fun u => !Tryz.prog.wantsStandIn u) = true := by kernel_rfl
        exact (show Tryz.prog.wantsStandIn t = false by simpa using List.all_eq_true.1 hall t hm)⟩)
    (by kernel_rfl)
#print axioms proved
end Go.Proofs.YtbaifcnfdljhlaaGreatDoor.fnExactWorldNew
