/-
  For every input the law FnRootStrict returns true and its arguments read afterwards as before. Conditions: the listed tables of the library read as listed (the card ties them to the program's text).
-/
import Derived.Test.YtkbgdpdldoopmabGreatDoorRows
import Derived.Test.YtkbgdpdldoopmabGreatDoorCards
import Derived.Test.YtkbgdpdldoopmabGreatDoorTie
import Derived.WalkKit
import Derived.ProofKit
import Derived.OpenShut
import Derived.ShutString
import Derived.ChangeOld
import Derived.Below
import Derived.SizedLaws
import Derived.LaidMore
import Derived.Lay
import Derived.LaidOnce
import Derived.Lib.LaidTab
import Derived.Stop.LaidErr
import Derived.ChangeVars
import Derived.SevenTiedAt
import Derived.Test.YtkbgdpdldoopmabGreatDoorMOpentoMShelf
import Derived.Test.YtkbgdpdldoopmabGreatDoorMZ1toMW3
set_option linter.all false
namespace Go.Proofs.YtkbgdpdldoopmabGreatDoor.fnRootStrict
open Go.ChangeShapes Go.WideShapes Go.ChangeAt Go.RowKit
set_option linter.unusedVariables false
theorem own : ownKnob Tryz.prog.godebug = none := by kernel_rfl
theorem laidOut : laidOutB Tryz.prog = true := by kernel_rfl
def tes : List Go.Sx.TE := [⟨22, (.sl (.int .u8)), false, 0, 5, 24, []⟩]
theorem walk (args : List Value) (w : World) (ham : Go.Sx.Amb Tryz.prog (Go.Sx.perG w).g w) (hw : Go.Sx.ArgsIn w tes args) :
    Calls Tryz.prog 3 args.toArray w fun e w' => e = .returned (.bool true) ∧ Below w.heap.size w w' :=
  Go.Sx.law_callsN (tes := tes) rfl Go.Sx.cLStrict_ok Tryz.func3 rfl rfl args w ham hw
abbrev laid : List (String × DataW Unit) := Rows.fnRootStrictRow.laid
theorem star : "*" ++ "errors.errorString" = "*errors.errorString" := by decide
theorem rowE (u : TypeId) (h : Tryz.prog.typeName? 3 u = some "*errors.errorString") : u = 167 :=
  typeName_ptr_named (nm := "errors.errorString") (by rw [star]; kernel_rfl) (by kernel_rfl) (by decide) u (by rw [star]; exact h)
theorem sent {n : String} {g : Nat} {text : List UInt8} {r : List (String × DataW Unit)} {W : World} (h : laidMet Tryz.prog ((n, .iface "*errors.errorString" (.ptr (.agg [.lit (.string text)]))) :: r) W) (hg : Tryz.prog.globalNamed n = some g) (ht : (Tryz.prog.globals[g]?).map (·.type) = some 55) :
    ∃ C t fz A, W.heap[g]? = some (.cells C t fz) ∧ C.toList = [.iface 167 (.pointer (some A))] := by
  obtain ⟨a, s, hv, _⟩ := laid_sentinel h hg ht Tryz.underlying55 rowE Tryz.underlying167 Tryz.underlying169 rfl rfl Tryz.underlying9 (by kernel_rfl) (by kernel_rfl)
  obtain ⟨C, t, fz, hh, hC⟩ := Go.Sx.var_block hg hv
  exact ⟨C, t, fz, a, hh, by rw [hC]⟩
/-- what the condition gives -/
theorem ambient {W : World} (h : laidMetH Tryz.prog laid W) (hsh : W.ShapedOpen Tryz.prog) : Go.Sx.Amb Tryz.prog (Go.Sx.perG W).g W := by
  rw [MakeChecks.laidMetH_plain _ _ _ (by kernel_rfl)] at h
  obtain ⟨C_4, t_4, z_4, A_4, e_4, f_4⟩ := sent (n := "strconv.ErrSyntax") (g := 4) h.tail.tail.tail.tail.tail (by kernel_rfl) (by kernel_rfl)
  obtain ⟨C_5, t_5, z_5, A_5, e_5, f_5⟩ := sent (n := "strconv.ErrRange") (g := 5) h.tail.tail.tail.tail (by kernel_rfl) (by kernel_rfl)
  obtain ⟨C_0, t_0, z_0, A_0, e_0, f_0⟩ := sent (n := "loop.example/paling/impl.errRoot") (g := 0) h.tail.tail.tail.tail.tail.tail (by kernel_rfl) (by kernel_rfl)
  obtain ⟨ps, ⟨g0, t0, cs0, f0, p0, q0, hg0, ht0, hv0, hd0, ⟨g1, t1, cs1, f1, p1, q1, hg1, ht1, hv1, hd1, ⟨g2, t2, cs2, f2, p2, q2, hg2, ht2, hv2, hd2, ⟨g3, t3, cs3, f3, p3, q3, hg3, ht3, hv3, hd3, ⟨g4, t4, cs4, f4, p4, q4, hg4, ht4, hv4, hd4, ⟨g5, t5, cs5, f5, p5, q5, hg5, ht5, hv5, hd5, ⟨g6, t6, cs6, f6, p6, q6, hg6, ht6, hv6, hd6, ⟨g7, t7, cs7, f7, p7, q7, hg7, ht7, hv7, hd7, _, hx7⟩, hx6⟩, hx5⟩, hx4⟩, hx3⟩, hx2⟩, hx1⟩, hx0⟩, _, _⟩ := h
  refine Go.Sx.amb_mk (Go.Sx.err_mk e_0 f_0) fun nm Q hm b hb => ?_
  simp only [Go.Sx.ambTab, List.mem_cons, Prod.mk.injEq, List.not_mem_nil, or_false] at hm
  rcases hm with ⟨rfl, rfl⟩ | ⟨rfl, rfl⟩ | ⟨rfl, rfl⟩ | ⟨rfl, rfl⟩ | ⟨rfl, rfl⟩
  · obtain ⟨C, t, fz, hh, hC⟩ := Go.Sx.var_block hb hv2
    refine ⟨C, t, fz, hh, ?_⟩
    have hte : (Tryz.prog.globals[b]?).map (·.type) = some 160 := by
      obtain rfl := Option.some.inj ((show Tryz.prog.globalNamed "internal/strconv.uint64pow10" = some ((Tryz.prog.globalNamed "internal/strconv.uint64pow10").getD 0) by kernel_rfl).symm.trans hb)
      kernel_rfl
    obtain rfl := Option.some.inj (hb.symm.trans hg2)
    obtain rfl := Option.some.inj (hte.symm.trans ht2)
    rw [hC]
    exact Lib.cells_of_tab (zs := Lib.pow10Tab) Tryz.underlying160 Tryz.underlying140 (by kernel_rfl) (by kernel_rfl) (show DataW.trod _ Tryz.prog W 0 _ _ f2 160 cs2.toList = some (Lib.tabData .u64 Lib.pow10Tab, p2) from hd2)
  · obtain rfl := Option.some.inj ((show Tryz.prog.globalNamed "internal/bytealg.MaxLen" = some 1 by kernel_rfl).symm.trans hb)
    exact Go.Sx.shaped_int (t := 3) (zero := #[.int .i64 0]) hsh (of_decide_eq_true (by kernel_rfl)) (by kernel_rfl) rfl (by kernel_rfl) (by kernel_rfl) Tryz.underlying3
  · obtain rfl := Option.some.inj ((show Tryz.prog.globalNamed "strconv.ErrSyntax" = some 4 by kernel_rfl).symm.trans hb)
    exact ⟨C_4, t_4, z_4, e_4, ⟨_, _, f_4⟩⟩
  · obtain rfl := Option.some.inj ((show Tryz.prog.globalNamed "strconv.ErrRange" = some 5 by kernel_rfl).symm.trans hb)
    exact ⟨C_5, t_5, z_5, e_5, ⟨_, _, f_5⟩⟩
  · obtain rfl := Option.some.inj ((show Tryz.prog.globalNamed "loop.example/paling/impl.errRoot" = some 0 by kernel_rfl).symm.trans hb)
    exact ⟨C_0, t_0, z_0, e_0, ⟨_, _, f_0⟩⟩
set_option maxRecDepth 100000 in
theorem lifted (os : Os) (started : os.Started) (H : Type) (enc : TypeId × Value → H) :
    ReturnsInHanded {} Tryz.checked os 3 .any (fun w args => (Rows.fnRootStrictSpec.pre enc Tryz.prog Tryz.f3 [] false w args ∧ laidMetH Tryz.prog laid w) ∧ sizedMet enc Tryz.prog Tryz.f3 (OpenSpec.ofChange Rows.fnRootStrictSpec) false w args) (Rows.fnRootStrictSpec.post enc Tryz.prog Tryz.f3 false true false false) := by
  refine Go.Sx.returns_laid_shaped (C := Tryz.checked) (X := fun w _ => laidMetH Tryz.prog laid w) (fun _ _ _ hh h => h.of_heap hh) own started (by kernel_rfl) Tryz.func3
    (ChangeSpec.witness_shaped (enc := enc) (C := Tryz.checked) (os := os) (X := fun w _ => laidMetH Tryz.prog laid w) false (World.laidAll Tryz.prog os laid) #[.slice none 0 0] 8 (World.laidAll_os _ _ _) (World.shaped_of_ZipB (by kernel_rfl) (by kernel_rfl)) (by kernel_rfl) (by kernel_rfl) (by kernel_rfl)
      (by rw [MakeChecks.laidMetH_plain _ _ _ (by kernel_rfl)]; exact laidMet_laidAll _ (by kernel_rfl) (by kernel_rfl))) ?_
  intro W base args ds gs before hval0 hW hcnd hsz0 hL hsh _
  have hval : ∀ (j : Nat) t v, Tryz.f3.params[j]? = some t → args[j]? = some v → Value.okWide Tryz.prog W .any base t v := hval0
  have hsz : (DataW.weightsEach Tryz.prog (Tryz.f3.params.toList ++ Rows.fnRootStrictSpec.plain.varTypes Tryz.prog) (ds ++ gs)).all (· ≤ reachBytes) = true := hsz0
  have hW' := hW
  obtain ⟨p, q, hA0, hV, rfl, hfz, hnd⟩ := hW
  have hA : DataW.TrodAll enc Tryz.prog W 0 (fun _ => true) true Tryz.f3.params.toList args.toList ds p := hA0
  rw [Tryz.params3] at hA hval hsz
  obtain ⟨v0, vs0, d0, ds0, p0, q0, hargs, rfl, rfl, h0, r0⟩ := trodAll_cons hA
  obtain ⟨rfl, rfl, rfl⟩ := trodAll_nil r0
  obtain rfl : args = #[v0] := by cases args; simp_all
  have hV2 : DataW.TrodVars enc Tryz.prog W (fun _ => true) ["loop.example/paling/impl.errRoot"] gs q := hV
  obtain ⟨gv, tv, csv, fuelv, dv, pv, rfl, hgv, htv, hvv, hdv, rfl⟩ := trodVars_one hV2
  obtain rfl := Option.some.inj ((show Tryz.prog.globalNamed "loop.example/paling/impl.errRoot" = some 0 by kernel_rfl).symm.trans hgv)
  obtain rfl := Option.some.inj ((show (Tryz.prog.globals[0]?).map (·.type) = some 55 by kernel_rfl).symm.trans htv)
  obtain ⟨_, Ce, te, ze, Ae, he1, he2⟩ := (ambient hL hsh).2
  obtain ⟨Cv, tv2, zv, hv1, hv2⟩ := Go.Sx.var_block hgv hvv
  have hcsv : csv = #[.iface 167 (.pointer (some Ae))] := by
    rw [← hv2]
    have h0 : W.heap[0]? = some (.cells Ce te ze) := he1
    rw [h0] at hv1
    simp only [Option.some.injEq, Obj.cells.injEq] at hv1
    rw [← hv1.1]
    exact Array.ext' he2
  have k0 := h0
  have lt0 : ∀ x ∈ p0, x.block < W.heap.size := by obtain ⟨m, hm⟩ := k0; exact DataW.trod_lt m _ _ _ hm
  have a0 := Go.Sx.arg_in Go.Sx.ttok (by kernel_rfl) (t := 22) (by kernel_rfl) rfl (hval 0 22 v0 rfl rfl) h0 (fun n hn => by have h := List.all_eq_true.1 hsz n (DataW.weights_mem_each (j := 0) (t := 22) rfl rfl n hn); simpa using h)
  clear hA0 hval0
  refine (walk [v0] W (ambient hL hsh) ⟨_, _, rfl, a0, rfl⟩).mono fun e W' ⟨he, bel⟩ => ?_
  subst he
  exact ⟨_, rfl, _, _, _, [], _, _, hW', trodAll_mk1 (shut_bool Tryz.underlying4 _), (trodAll_cons_mk (Below.trod laidOut (by kernel_rfl) (of_decide_eq_true (by kernel_rfl)) k0 bel lt0) trodAll_mk0), Go.Sx.vars_after hgv htv hvv hdv bel Tryz.underlying55 hcsv trivial, bel.frame _, fun h => by cases h⟩
theorem over : Rows.fnRootStrictRow.holds Tryz.pinned (OpenSpec.ofChange Rows.fnRootStrictSpec) :=
  OpenClaim.holds_of_wide 3 Tryz.f3 rfl rfl rfl rfl rfl rfl rfl ⟨rfl, rfl, rfl, rfl, rfl⟩ rfl rfl rfl rfl rfl (by kernel_rfl) Tryz.func3 (by kernel_rfl)
    (of_decide_eq_true (by kernel_rfl)) (by unfold Func.isWrapper; first | (rw [if_pos (by decide +kernel)]; kernel_rfl) | (rw [if_neg (by decide +kernel)]; exact ⟨rfl, rfl⟩))
    (fun os started H enc _ => lifted os started H enc)
theorem proved : Rows.FnRootStrictCardSaid :=
  Claim7.holds_tied_plain_at .later [] [.data, .data, .data, .data, .sentinel, .sentinel, .sentinel, .pinned] true (true, "4e01811ffab1bbf3b890f2fc8bd25e90d04dbf42c2333d035d9a074ecf956f9a") true over (fun _ h => by cases h) (by kernel_rfl) (fun _ h => by cases h) fnRootStrict_row_tie rfl ⟨rfl, rfl⟩ (by kernel_rfl) rfl
    (fun f fn hf hfn => by
      obtain rfl : f = 3 := Option.some.inj ((show Tryz.prog.funcNamed "loop.example/paling/laws.FnRootStrict" = some 3 by kernel_rfl).symm.trans hf) |>.symm
      obtain rfl : fn = Tryz.f3 := (Option.some.inj (Tryz.func3.symm.trans hfn)).symm
      exact ⟨by kernel_rfl, fun j t ht => by
        rw [Tryz.params3] at ht
        have hm : t ∈ [22] := by simpa using Array.mem_of_getElem? ht
        have hall : ([22].all fun u => !Tryz.prog.wantsStandIn u) = true := by kernel_rfl
        exact (show Tryz.prog.wantsStandIn t = false by simpa using List.all_eq_true.1 hall t hm)⟩)
    (by kernel_rfl)
#print axioms proved
end Go.Proofs.YtkbgdpdldoopmabGreatDoor.fnRootStrict
