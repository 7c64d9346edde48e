/-
  For every input the law FnWorldNew returns true and its arguments read afterwards as before. Conditions: the listed tables of the library read as listed (the card ties them to the program's text).
-/
import Derived.Test.YtkjdeihmefhkpaaGreatDoorRows
import Derived.Test.YtkjdeihmefhkpaaGreatDoorCards
import Derived.Test.YtkjdeihmefhkpaaGreatDoorTie
import Derived.WalkKit
import Derived.ProofKit
import Derived.OpenShut
import Derived.ShutString
import Derived.ChangeOld
import Derived.Below
import Derived.SizedLaws
import Derived.LaidMore
import Derived.Lay
import Derived.LaidOnce
import Derived.Lib.LaidTab
import Derived.Stop.LaidErr
import Derived.ChangeVars
import Derived.SevenTiedAt
import Derived.Test.YtkjdeihmefhkpaaGreatDoorMOpentoMWex
import Derived.Test.YtkjdeihmefhkpaaGreatDoorMN1toMA6
set_option linter.all false
namespace Go.Proofs.YtkjdeihmefhkpaaGreatDoor.fnWorldNew
open Go.ChangeShapes Go.WideShapes Go.ChangeAt Go.RowKit
set_option linter.unusedVariables false
theorem own : ownKnob Tryz.prog.godebug = none := by kernel_rfl
theorem laidOut : laidOutB Tryz.prog = true := by kernel_rfl
def tes : List Go.Sx.TE := [⟨22, (.sl (.int .u8)), false, 0, 5, 24, []⟩]
theorem walk (args : List Value) (w : World) (ham : Go.Sx.Amb Tryz.prog (Go.Sx.perG w).g w) (hw : Go.Sx.ArgsIn w tes args) :
    Calls Tryz.prog 11 args.toArray w fun e w' => e = .returned (.bool true) ∧ Below w.heap.size w w' :=
  Go.Sx.law_callsN (tes := tes) rfl Go.Sx.cXWN_ok Tryz.func11 rfl rfl args w ham hw
abbrev laid : List (String × DataW Unit) := Rows.fnWorldNewRow.laid
theorem star : "*" ++ "errors.errorString" = "*errors.errorString" := by decide
theorem rowE (u : TypeId) (h : Tryz.prog.typeName? 3 u = some "*errors.errorString") : u = 445 :=
  typeName_ptr_named (nm := "errors.errorString") (by rw [star]; kernel_rfl) (by kernel_rfl) (by decide) u (by rw [star]; exact h)
theorem sent {n : String} {g : Nat} {text : List UInt8} {r : List (String × DataW Unit)} {W : World} (h : laidMet Tryz.prog ((n, .iface "*errors.errorString" (.ptr (.agg [.lit (.string text)]))) :: r) W) (hg : Tryz.prog.globalNamed n = some g) (ht : (Tryz.prog.globals[g]?).map (·.type) = some 304) :
    ∃ C t fz A, W.heap[g]? = some (.cells C t fz) ∧ C.toList = [.iface 445 (.pointer (some A))] := by
  obtain ⟨a, s, hv, _⟩ := laid_sentinel h hg ht Tryz.underlying304 rowE Tryz.underlying445 Tryz.underlying447 rfl rfl Tryz.underlying9 (by kernel_rfl) (by kernel_rfl)
  obtain ⟨C, t, fz, hh, hC⟩ := Go.Sx.var_block hg hv
  exact ⟨C, t, fz, a, hh, by rw [hC]⟩
/-- what the condition gives -/
theorem ambient {W : World} (h : laidMetH Tryz.prog laid W) (hsh : W.ShapedOpen Tryz.prog) : Go.Sx.Amb Tryz.prog (Go.Sx.perG W).g W := by
  rw [MakeChecks.laidMetH_plain _ _ _ (by kernel_rfl)] at h
  obtain ⟨C_7, t_7, z_7, A_7, e_7, f_7⟩ := sent (n := "strconv.ErrSyntax") (g := 7) h.tail.tail.tail.tail.tail (by kernel_rfl) (by kernel_rfl)
  obtain ⟨C_8, t_8, z_8, A_8, e_8, f_8⟩ := sent (n := "strconv.ErrRange") (g := 8) h.tail.tail.tail.tail (by kernel_rfl) (by kernel_rfl)
  obtain ⟨C_0, t_0, z_0, A_0, e_0, f_0⟩ := sent (n := "loop.example/paling/impl.errRoot") (g := 0) h.tail.tail.tail.tail.tail.tail (by kernel_rfl) (by kernel_rfl)
  obtain ⟨ps, ⟨g0, t0, cs0, f0, p0, q0, hg0, ht0, hv0, hd0, ⟨g1, t1, cs1, f1, p1, q1, hg1, ht1, hv1, hd1, ⟨g2, t2, cs2, f2, p2, q2, hg2, ht2, hv2, hd2, ⟨g3, t3, cs3, f3, p3, q3, hg3, ht3, hv3, hd3, ⟨g4, t4, cs4, f4, p4, q4, hg4, ht4, hv4, hd4, ⟨g5, t5, cs5, f5, p5, q5, hg5, ht5, hv5, hd5, ⟨g6, t6, cs6, f6, p6, q6, hg6, ht6, hv6, hd6, ⟨g7, t7, cs7, f7, p7, q7, hg7, ht7, hv7, hd7, _, hx7⟩, hx6⟩, hx5⟩, hx4⟩, hx3⟩, hx2⟩, hx1⟩, hx0⟩, _, _⟩ := h
  refine Go.Sx.amb_mk (Go.Sx.err_mk e_0 f_0) fun nm Q hm b hb => ?_
  simp only [Go.Sx.ambTab, List.mem_cons, Prod.mk.injEq, List.not_mem_nil, or_false] at hm
  rcases hm with ⟨rfl, rfl⟩ | ⟨rfl, rfl⟩ | ⟨rfl, rfl⟩ | ⟨rfl, rfl⟩ | ⟨rfl, rfl⟩
  · obtain ⟨C, t, fz, hh, hC⟩ := Go.Sx.var_block hb hv2
    refine ⟨C, t, fz, hh, ?_⟩
    have hte : (Tryz.prog.globals[b]?).map (·.type) = some 403 := by
      obtain rfl := Option.some.inj ((show Tryz.prog.globalNamed "internal/strconv.uint64pow10" = some ((Tryz.prog.globalNamed "internal/strconv.uint64pow10").getD 0) by kernel_rfl).symm.trans hb)
      kernel_rfl
    obtain rfl := Option.some.inj (hb.symm.trans hg2)
    obtain rfl := Option.some.inj (hte.symm.trans ht2)
    rw [hC]
    exact Lib.cells_of_tab (zs := Lib.pow10Tab) Tryz.underlying403 Tryz.underlying195 (by kernel_rfl) (by kernel_rfl) (show DataW.trod _ Tryz.prog W 0 _ _ f2 403 cs2.toList = some (Lib.tabData .u64 Lib.pow10Tab, p2) from hd2)
  · obtain rfl := Option.some.inj ((show Tryz.prog.globalNamed "internal/bytealg.MaxLen" = some 2 by kernel_rfl).symm.trans hb)
    exact Go.Sx.shaped_int (t := 3) (zero := #[.int .i64 0]) hsh (of_decide_eq_true (by kernel_rfl)) (by kernel_rfl) rfl (by kernel_rfl) (by kernel_rfl) Tryz.underlying3
  · obtain rfl := Option.some.inj ((show Tryz.prog.globalNamed "strconv.ErrSyntax" = some 7 by kernel_rfl).symm.trans hb)
    exact ⟨C_7, t_7, z_7, e_7, ⟨_, _, f_7⟩⟩
  · obtain rfl := Option.some.inj ((show Tryz.prog.globalNamed "strconv.ErrRange" = some 8 by kernel_rfl).symm.trans hb)
    exact ⟨C_8, t_8, z_8, e_8, ⟨_, _, f_8⟩⟩
  · obtain rfl := Option.some.inj ((show Tryz.prog.globalNamed "loop.example/paling/impl.errRoot" = some 0 by kernel_rfl).symm.trans hb)
    exact ⟨C_0, t_0, z_0, e_0, ⟨_, _, f_0⟩⟩
set_option maxRecDepth 100000 in
theorem lifted (os : Os) (started : os.Started) (H : Type) (enc : TypeId × Value → H) :
    ReturnsInLeavingWide {} Tryz.checked os 11 .any (fun w args => (Rows.fnWorldNewSpec.pre enc Tryz.prog Tryz.f11 [] false w args ∧ laidMetH Tryz.prog laid w) ∧ sizedMet enc Tryz.prog Tryz.f11 (OpenSpec.ofChange Rows.fnWorldNewSpec) false w args) (Rows.fnWorldNewSpec.post enc Tryz.prog Tryz.f11 false true false false) := by
  refine Go.Sx.leaving_laid_shaped (C := Tryz.checked) (X := fun w _ => laidMetH Tryz.prog laid w) (fun _ _ _ hh h => h.of_heap hh) own started (by kernel_rfl) Tryz.func11
    (ChangeSpec.witness_shaped (enc := enc) (C := Tryz.checked) (os := os) (X := fun w _ => laidMetH Tryz.prog laid w) false (World.laidAll Tryz.prog os laid) #[.slice none 0 0] 8 (World.laidAll_os _ _ _) (World.shaped_of_ZipB (by kernel_rfl) (by kernel_rfl)) (by kernel_rfl) (by kernel_rfl) (by kernel_rfl)
      (by rw [MakeChecks.laidMetH_plain _ _ _ (by kernel_rfl)]; exact laidMet_laidAll _ (by kernel_rfl) (by kernel_rfl))) ?_
  intro W base args ds gs before hval0 hW hcnd hsz0 hL hsh _
  have hval : ∀ (j : Nat) t v, Tryz.f11.params[j]? = some t → args[j]? = some v → Value.okWide Tryz.prog W .any base t v := hval0
  have hsz : (DataW.weightsEach Tryz.prog (Tryz.f11.params.toList ++ Rows.fnWorldNewSpec.plain.varTypes Tryz.prog) (ds ++ gs)).all (· ≤ reachBytes) = true := hsz0
  have hW' := hW
  obtain ⟨p, q, hA0, hV, rfl, hfz, hnd⟩ := hW
  have hA : DataW.TrodAll enc Tryz.prog W 0 (fun _ => true) true Tryz.f11.params.toList args.toList ds p := hA0
  rw [Tryz.params11] at hA hval hsz
  obtain ⟨v0, vs0, d0, ds0, p0, q0, hargs, rfl, rfl, h0, r0⟩ := trodAll_cons hA
  obtain ⟨rfl, rfl, rfl⟩ := trodAll_nil r0
  obtain rfl : args = #[v0] := by cases args; simp_all
  have hV2 : DataW.TrodVars enc Tryz.prog W (fun _ => true) ["loop.example/paling/impl.errRoot"] gs q := hV
  obtain ⟨gv, tv, csv, fuelv, dv, pv, rfl, hgv, htv, hvv, hdv, rfl⟩ := trodVars_one hV2
  obtain rfl := Option.some.inj ((show Tryz.prog.globalNamed "loop.example/paling/impl.errRoot" = some 0 by kernel_rfl).symm.trans hgv)
  obtain rfl := Option.some.inj ((show (Tryz.prog.globals[0]?).map (·.type) = some 304 by kernel_rfl).symm.trans htv)
  obtain ⟨_, Ce, te, ze, Ae, he1, he2⟩ := (ambient hL hsh).2 rfl
  obtain ⟨Cv, tv2, zv, hv1, hv2⟩ := Go.Sx.var_block hgv hvv
  have hcsv : csv = #[.iface 445 (.pointer (some Ae))] := by
    rw [← hv2]
    have h0 : W.heap[0]? = some (.cells Ce te ze) := he1
    rw [h0] at hv1
    simp only [Option.some.injEq, Obj.cells.injEq] at hv1
    rw [← hv1.1]
    exact Array.ext' he2
  have k0 := h0
  have lt0 : ∀ x ∈ p0, x.block < W.heap.size := by obtain ⟨m, hm⟩ := k0; exact DataW.trod_lt m _ _ _ hm
  have a0 := Go.Sx.arg_in Go.Sx.ttok (by kernel_rfl) (t := 22) (by kernel_rfl) rfl (hval 0 22 v0 rfl rfl) h0 (fun n hn => by have h := List.all_eq_true.1 hsz n (DataW.weights_mem_each (j := 0) (t := 22) rfl rfl n hn); simpa using h)
  clear hA0 hval0
  refine (walk [v0] W (ambient hL hsh) ⟨_, _, rfl, a0, rfl⟩).mono fun e W' ⟨he, bel⟩ => ?_
  subst he
  exact ⟨_, rfl, _, _, _, [], _, _, hW', trodAll_mk1 (shut_bool Tryz.underlying4 _), (trodAll_cons_mk (Below.trod laidOut (by kernel_rfl) (of_decide_eq_true (by kernel_rfl)) k0 bel lt0) trodAll_mk0), Go.Sx.vars_after hgv htv hvv hdv bel Tryz.underlying304 hcsv trivial, bel.frame _, fun h => by cases h⟩
theorem q0 : (Rows.fnWorldNewRow.wf (OpenSpec.ofChange Rows.fnWorldNewSpec)) = true := by kernel_rfl
theorem q1 : (laidOutB Tryz.checked.prog) = true := by kernel_rfl
theorem q2 : (mapsRowed Tryz.checked.prog) = true := by kernel_rfl
theorem q3 : (Tryz.f11.params.all (Tryz.checked.prog.readableRec ·)) = true := by kernel_rfl
theorem q4 : (namedTie Tryz.checked.prog Rows.fnWorldNewRow.named Rows.fnWorldNewSpec.vars) = true := by kernel_rfl
theorem q5 : ((Rows.fnWorldNewRow.stops == [])) = true := by kernel_rfl
theorem q6 : ((Tryz.checked.prog.stops == [])) = true := by kernel_rfl
theorem q7 : ((Rows.fnWorldNewRow.knobs == [])) = true := by kernel_rfl
theorem q8 : ((Tryz.checked.prog.stopKnobs == [])) = true := by kernel_rfl
theorem q9 : ((Rows.fnWorldNewRow.inPlace == Tryz.checked.prog.inPlace 11)) = true := by kernel_rfl
theorem q10 : ((Rows.fnWorldNewRow.unfollowed == Tryz.checked.prog.unfollowed 11)) = true := by kernel_rfl
theorem q11 : ((Rows.fnWorldNewRow.recurses == Tryz.checked.prog.recurses 11)) = true := by kernel_rfl
theorem q12 : ((Rows.fnWorldNewRow.named == Tryz.checked.prog.varsNamed 11)) = true := by kernel_rfl
theorem q13 : ((Rows.fnWorldNewRow.maps == (Tryz.f11.params.toList ++ Rows.fnWorldNewSpec.plain.varTypes Tryz.checked.prog).any (Tryz.checked.prog.mapsRec ·))) = true := by kernel_rfl
theorem q14 : ((Rows.fnWorldNewRow.ifaces == (Tryz.f11.params.toList ++ Rows.fnWorldNewSpec.plain.varTypes Tryz.checked.prog).any (Tryz.checked.prog.ifacesRec ·))) = true := by kernel_rfl
theorem q15 : ((Rows.fnWorldNewRow.mapsOut == Tryz.checked.prog.mapsAmong Tryz.f11.resultTypes.toList)) = true := by kernel_rfl
theorem q16 : ((Rows.fnWorldNewRow.loops == (Tryz.f11.params.toList ++ Rows.fnWorldNewSpec.plain.varTypes Tryz.checked.prog).any (Tryz.checked.prog.loopsFrom ·))) = true := by kernel_rfl
theorem q17 : ((Rows.fnWorldNewRow.wideKeys == (Tryz.f11.params.toList ++ Rows.fnWorldNewSpec.plain.varTypes Tryz.checked.prog ++ Tryz.f11.resultTypes.toList).any (Tryz.checked.prog.wideKeysFrom ·))) = true := by kernel_rfl
theorem q18 : (Rows.fnWorldNewSpec.vars.all (Tryz.checked.prog.varReadable ·)) = true := by kernel_rfl
theorem q19 : (Tryz.f11.resultTypes.all (fun t => Tryz.checked.prog.readableRec t && decide (t < Tryz.checked.prog.types.size))) = true := by kernel_rfl
theorem q20 : ((Rows.fnWorldNewRow.ifacesOut == Tryz.f11.resultTypes.toList.any (Tryz.checked.prog.ifacesRec ·))) = true := by kernel_rfl
theorem q21 : ((Rows.fnWorldNewRow.loopsOut == Tryz.f11.resultTypes.toList.any (Tryz.checked.prog.loopsFrom ·))) = true := by kernel_rfl
theorem q22 : ((Rows.fnWorldNewRow.plainKeys == Tryz.checked.prog.plainKeys)) = true := by kernel_rfl
theorem q23 : (Rows.fnWorldNewRow.shortTexts.isNone) = true := by kernel_rfl
theorem q24 : (Tryz.checked.prog.stopsHeard) = true := by kernel_rfl
theorem q25 : (Tryz.checked.prog.mayEnter) = true := by kernel_rfl
theorem q26 : ((Rows.fnWorldNewRow.lifted == Tryz.checked.prog.liftsFinal)) = true := by kernel_rfl
theorem q27 : ((Tryz.checked.prog.make == some Rows.fnWorldNewRow.make)) = true := by kernel_rfl
theorem q28 : (Rows.fnWorldNewRow.domain.isEmpty) = true := by kernel_rfl
theorem q29 : ((Rows.fnWorldNewRow.pinned == Rows.fnWorldNewRow.pinnedBy)) = true := by kernel_rfl
theorem q30 : ((Rows.fnWorldNewRow.veiled == (Tryz.f11.params.toList ++ Rows.fnWorldNewSpec.plain.varTypes Tryz.checked.prog ++ Tryz.f11.resultTypes.toList).any (Tryz.checked.prog.veiledRec ·))) = true := by kernel_rfl
theorem q31 : (Rows.fnWorldNewRow.veiledFits Tryz.checked.prog Tryz.f11.params.toList (Tryz.f11.params.toList ++ Rows.fnWorldNewSpec.plain.varTypes Tryz.checked.prog ++ Tryz.f11.resultTypes.toList)) = true := by kernel_rfl
theorem closed : joinedFacts Tryz.checked.prog 11 Tryz.f11 Rows.fnWorldNewSpec Rows.fnWorldNewRow = true := by
  unfold joinedFacts
  exact Go.Sx.andT (Go.Sx.andT (Go.Sx.andT (Go.Sx.andT (Go.Sx.andT (Go.Sx.andT (Go.Sx.andT (Go.Sx.andT (Go.Sx.andT (Go.Sx.andT (Go.Sx.andT (Go.Sx.andT (Go.Sx.andT (Go.Sx.andT (Go.Sx.andT (Go.Sx.andT (Go.Sx.andT (Go.Sx.andT (Go.Sx.andT (Go.Sx.andT (Go.Sx.andT (Go.Sx.andT (Go.Sx.andT (Go.Sx.andT (Go.Sx.andT (Go.Sx.andT (Go.Sx.andT (Go.Sx.andT (Go.Sx.andT (Go.Sx.andT (Go.Sx.andT q0 q1) q2) q3) q4) q5) q6) q7) q8) q9) q10) q11) q12) q13) q14) q15) q16) q17) q18) q19) q20) q21) q22) q23) q24) q25) q26) q27) (Go.Sx.kindsE _ q28 (by kernel_rfl))) q29) q30) q31
theorem goes_ : true = Rows.fnWorldNewRow.goesBy Tryz.checked.prog := by kernel_rfl
theorem over : Rows.fnWorldNewRow.holds Tryz.pinned (OpenSpec.ofChange Rows.fnWorldNewSpec) :=
  OpenClaim.holds_of_wide_leaving 11 Tryz.f11 rfl rfl rfl rfl rfl rfl rfl ⟨rfl, rfl, rfl, rfl, rfl⟩ rfl rfl rfl rfl rfl (by kernel_rfl) Tryz.func11 closed
    (of_decide_eq_true (by kernel_rfl)) (by unfold Func.isWrapper; first | (rw [if_pos (by decide +kernel)]; kernel_rfl) | (rw [if_neg (by decide +kernel)]; exact ⟨rfl, rfl⟩))
    (fun os started H enc _ => lifted os started H enc)
theorem proved : Rows.FnWorldNewCardSaid :=
  Go.Sx.tied_goes .later [.data, .data, .data, .data, .sentinel, .sentinel, .sentinel, .pinned] true (true, "1f0fc8252505f94162e83802c53788bf304ddae77d7db244e380b316c3720a2d") true true over (by kernel_rfl) fnWorldNew_row_tie rfl ⟨rfl, rfl⟩ (by kernel_rfl) rfl
    (fun f fn hf hfn => by
      obtain rfl : f = 11 := Option.some.inj ((show Tryz.prog.funcNamed "loop.example/paling/laws.FnWorldNew" = some 11 by kernel_rfl).symm.trans hf) |>.symm
      obtain rfl : fn = Tryz.f11 := (Option.some.inj (Tryz.func11.symm.trans hfn)).symm
      exact ⟨by kernel_rfl, fun j t ht => by
        rw [Tryz.params11] at ht
        have hm : t ∈ [22] := by simpa using Array.mem_of_getElem? ht
        have hall : ([22].all fun u => !Tryz.prog.wantsStandIn u) = true := by kernel_rfl
        exact (show Tryz.prog.wantsStandIn t = false by simpa using List.all_eq_true.1 hall t hm)⟩)
    goes_
#print axioms proved
end Go.Proofs.YtkjdeihmefhkpaaGreatDoor.fnWorldNew
