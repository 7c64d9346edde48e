/- Several texts, one behind the other. -/
import Derived.Test.YtbaifcnfdljhlaaGreatMD4toMK2
import Derived.Test.YtbaifcnfdljhlaaGreatMQ2toMQ1
set_option linter.all false
namespace Go.Sx
open Go
set_option maxRecDepth 100000
set_option linter.unusedVariables false
set_option linter.unusedSimpArgs false
set_option maxHeartbeats 4000000
def cXPCrash : Ctr := ⟨5, [.val true TL_Pool pF, .val false (.sl TI) pF], fun x => True, fun x => (sBool true, [])⟩
theorem cXPCrash_ok : CtrOk Proofs.Tryz.prog cXPCrash := by
 have hP := ((((((((((Prg.none ttok mtok).and cSzPo_ok).and cToPo_ok).and cToI_ok).and cPCrashS_ok).and cPCrash_ok).and cEqPo_ok).and cEqI_ok).and cMkInt_ok).and cHdPo_ok)
 refine ctr_of_body hP cXPCrash (fn := Proofs.Tryz.f5) (rts := [.tmp 4]) Proofs.Tryz.func5 rfl (by kernel_rfl) rfl rfl ?_
 rintro ⟨⟨(ds : List Dsk), (op : Bool), ⟨(tg : Int), (l : List Vol_)⟩, ⟨(tg2 : Int), (l2 : List Vol_)⟩⟩, (ks : List Int), ⟨⟩⟩ _ _
 try dsimp only [Ty.den, Mode.den, mdens] at _
 refine ⟨rfl, ?_⟩
 refine sw_seq (xr hP 1 rfl (sw_seq (sw_seq (xr hP 2 rfl (sw_cond rfl (fun c1 => ?_) (fun c1 => ?_))))))
 ·refine sw_seq (xr hP 3 rfl (sw_ret ⟨.inl rfl, _, rfl, ?_⟩))
  simp [conj]
 ·have hkl : ks.length ≤ 1048576 := by have h : ¬ (1048576 : Int) < (ks.length : Int) := of_decide_eq_false c1; omega
  refine sw_skip (sw_seq (xr hP 3 rfl (sw_seq (xg hP 4 [] rfl ?_ ?_))))
  ·simp [conj, maxL]
   try dsimp only [Ty.den, Ty.dflt]
   try simp only [rd_eta]
   exact ⟨by show (0 : Int) ≤ 1048576; decide, by show (1048576 : Int) ≤ 1048576; decide⟩
  refine sw_seq (sw_seq (xr hP 5 rfl (sw_cond rfl (fun c5 => ?_) (fun c5 => ?_))))
  ·refine sw_seq (xr hP 6 rfl (sw_ret ⟨.inl rfl, _, rfl, ?_⟩))
   simp [conj]
  ·replace c5 : 0 ≤ szPo ((ds, op, (tg, l), (tg2, l2)) : Pol) 1048576 := by have h : ¬ szPo ((ds, op, (tg, l), (tg2, l2)) : Pol) 1048576 < 0 := of_decide_eq_false c5; omega
   have hs := szPo_sm ((ds, op, (tg, l), (tg2, l2)) : Pol) 1048576 (by decide) (by decide) c5
   obtain ⟨k1, k2⟩ := szPo_cnt c5
   obtain ⟨W, hW⟩ : ∃ W, pcrashV ((ds, op, (tg, l), (tg2, l2)) : Pol) ks = W := ⟨_, rfl⟩
   obtain ⟨m1, m2⟩ := nx_fitPo (hW ▸ pcrash_fit (p := ((ds, op, (tg, l), (tg2, l2)) : Pol)) (ks := ks))
   have hki : (nxLs mkI (mPol.nx 1 ((ds, op, (tg, l), (tg2, l2)) : Pol)) ks) = (mPol.nx 1 ((ds, op, (tg, l), (tg2, l2)) : Pol)) + 1 * (ks.length : Int) := nx_one
   have hh : mPol.hd 1 (mPol.mk 1 W) = (mPol.nx 1 W) := mPol_ok.hm 1 W (by decide)
   have hmm : mPol.nx 1 (mPol.mk 1 W) = (mPol.nx 1 W) := mPol_ok.nm 1 W
   refine sw_skip (sw_seq (xg hP 6 [] rfl ?_ ?_))
   ·simp only [cj, cl]
    try dsimp only [Ty.den, Ty.dflt]
    repeat' apply And.intro
    all_goals first | exact hs | exact hs.1 | exact hs.1.1 | exact hs.1.2 | exact hs.2.1 | exact hs.2.1.1 | exact hs.2.1.2 | exact hs.2.2 | exact hs.2.2.1 | exact hs.2.2.2 | exact hkl | omega | trivial
   refine sw_seq (xg hP 7 [] rfl ?_ ?_)
   ·simp only [cj, cl]
    try dsimp only [Ty.den, Ty.dflt]
    repeat' apply And.intro
    all_goals first | exact hs | exact hs.1 | exact hs.1.1 | exact hs.1.2 | exact hs.2.1 | exact hs.2.1.1 | exact hs.2.1.2 | exact hs.2.2 | exact hs.2.2.1 | exact hs.2.2.2 | exact hkl | omega | trivial
   refine sw_seq (xg hP 8 [] rfl ?_ ?_)
   ·simp only [cj, cl]
    try dsimp only [Ty.den, Ty.dflt]
    repeat' apply And.intro
    all_goals first | exact hs | exact hs.1 | exact hs.1.1 | exact hs.1.2 | exact hs.2.1 | exact hs.2.1.1 | exact hs.2.1.2 | exact hs.2.2 | exact hs.2.2.1 | exact hs.2.2.2 | exact hkl | omega | trivial
   refine sw_seq (xr hP 9 rfl (sw_seq (sw_seq ?_)))
   refine sw_ent (st' := ⟨[.j, .v false [.d (.sl TI) pF ks], .v false [.ptr ⟨1, 0, 0⟩ 0], .j, .j, .j, .v false [.ptr ⟨6, 5, 0⟩ 0], .v false [.ptr ⟨7, 2, 0⟩ 0], .v false [.own ⟨8, 1, 0⟩], .v false [.ptr ⟨9, 3, 0⟩ 0], .j, .j, .j, .j, .j, .j, .j, .j, .j, .j, .j, .j, .j, .j, .j, .j, .j, .j, .j, .j, .j, .j, .j, .j, .j, .j, .j, .j, .j, .j, .j, .j, .j, .j, .j, .j, .j, .j, .j, .j, .j, .j, .j, .j, .j, .j, .j, .j, .j, .j, .j, .j, .j, .j, .j, .j, .j, .j, .j, .j, .j, .j, .j, .j, .j, .j, .j, .j, .j, .j, .j, .j, .j, .j, .j, .j, .j, .j, .j, .j], [(⟨1, 0, 0⟩, .var [.d (.sl TL_Disk) pF ds, .d .bool pF op, .d TI pF tg, .d (.sl TL_Vol) pF l, .d TI pF tg2, .d (.sl TL_Vol) pF l2]), (⟨6, 5, 0⟩, .var [.own ⟨6, 4, 0⟩, .d .bool pF W.2.1, .d TI pF W.2.2.1.1, .own ⟨6, 4, 64⟩, .d TI pF W.2.2.2.1, .own ⟨6, 4, 128⟩]), (⟨6, 4, 0⟩, .sl T_Disk (.all .w) W.1), (⟨6, 4, 64⟩, .sl T_Vol (.all .w) W.2.2.1.2), (⟨6, 4, 128⟩, .sl T_Vol (.all .w) W.2.2.2.2), (⟨7, 2, 0⟩, .var [.own ⟨7, 1, 0⟩, .d .bool pF ((ds, op, (tg, l), (tg2, l2)) : Pol).2.1, .d TI pF ((ds, op, (tg, l), (tg2, l2)) : Pol).2.2.1.1, .own ⟨7, 1, 64⟩, .d TI pF ((ds, op, (tg, l), (tg2, l2)) : Pol).2.2.2.1, .own ⟨7, 1, 128⟩]), (⟨7, 1, 0⟩, .sl T_Disk (.all .w) ((ds, op, (tg, l), (tg2, l2)) : Pol).1), (⟨7, 1, 64⟩, .sl T_Vol (.all .w) ((ds, op, (tg, l), (tg2, l2)) : Pol).2.2.1.2), (⟨7, 1, 128⟩, .sl T_Vol (.all .w) ((ds, op, (tg, l), (tg2, l2)) : Pol).2.2.2.2), (⟨8, 1, 0⟩, .sl TI (.all .w) ks), (⟨9, 3, 0⟩, .var [.own ⟨9, 2, 0⟩, .d .bool pF W.2.1, .d TI pF W.2.2.1.1, .own ⟨9, 2, 64⟩, .d TI pF W.2.2.2.1, .own ⟨9, 2, 128⟩]), (⟨9, 2, 0⟩, .sl T_Disk (.all .w) W.1), (⟨9, 2, 64⟩, .sl T_Vol (.all .w) W.2.2.1.2), (⟨9, 2, 128⟩, .sl T_Vol (.all .w) W.2.2.2.2)], 9, []⟩) (ent_ok rfl ?_) ?_
   ·simp [conj, hW]
    try (repeat' apply And.intro
         all_goals rfl)
   refine xr hP 10 rfl (sw_cond rfl (fun c11 => ?_) (fun c11 => ?_))
   ·simp at c11
   ·refine sw_skip (sw_seq (sw_seq (xg hP 11 [] rfl ?_ ?_)))
    ·simp only [cj, cl]
     try dsimp only [Ty.den, Ty.dflt]
     repeat' apply And.intro
     all_goals first | exact hs | exact hs.1 | exact hs.1.1 | exact hs.1.2 | exact hs.2.1 | exact hs.2.1.1 | exact hs.2.1.2 | exact hs.2.2 | exact hs.2.2.1 | exact hs.2.2.2 | exact hkl | omega | trivial
    refine sw_cond rfl (fun c13 => ?_) (fun c13 => ?_)
    ·simp at c13
    ·refine sw_skip (sw_seq (sw_seq (xg hP 12 [] rfl ?_ ?_)))
     ·simp only [cj, cl]
      try dsimp only [Ty.den, Ty.dflt]
      repeat' apply And.intro
      all_goals first | exact hs | exact hs.1 | exact hs.1.1 | exact hs.1.2 | exact hs.2.1 | exact hs.2.1.1 | exact hs.2.1.2 | exact hs.2.2 | exact hs.2.2.1 | exact hs.2.2.2 | exact hkl | omega | trivial
     refine sw_cond rfl (fun c15 => ?_) (fun c15 => ?_)
     ·simp at c15
     ·refine sw_skip (sw_seq (xr hP 13 rfl (sw_seq ?_)))
      replace hP := hP.andX (cMkPo_ok (p := ((ds, op, (tg, l), (tg2, l2)) : Pol)) (k := 1) (a := ⟨7, 1, 0⟩) (b := ⟨7, 1, 64⟩) (c := ⟨7, 1, 128⟩) (by decide) (by omega))
      refine xg hP 14 [] rfl ?_ ?_
      ·simp only [cj, cl]
       try dsimp only [Ty.den, Ty.dflt]
       repeat' apply And.intro
       all_goals first | rfl | omega | assumption | trivial
      refine sw_seq (xg hP 15 [] rfl ?_ ?_)
      ·simp only [cj, cl]
       try dsimp only [Ty.den, Ty.dflt]
       exact ⟨by show 0 ≤ (mPol.nx 1 ((ds, op, (tg, l), (tg2, l2)) : Pol)); omega, by show (nxLs mkI (mPol.nx 1 ((ds, op, (tg, l), (tg2, l2)) : Pol)) ks) ≤ 1000000000; omega⟩
      refine sw_seq (sw_seq ?_)
      refine sw_ent (st' := ⟨[.j, .v false [.d (.sl TI) pF ks], .v false [.ptr ⟨1, 0, 0⟩ 0], .j, .j, .j, .v false [.ptr ⟨6, 5, 0⟩ 0], .v false [.ptr ⟨7, 2, 0⟩ 0], .v false [.own ⟨8, 1, 0⟩], .v false [.ptr ⟨9, 3, 0⟩ 0], sInt .i64 (nxLs mkI (mPol.nx 1 ((ds, op, (tg, l), (tg2, l2)) : Pol)) ks), .j, .j, .j, .j, .j, .j, .j, .j, .j, .j, .j, .j, .j, .j, .j, .j, .j, .j, .j, .j, .j, .j, .j, .j, .j, .j, .j, .j, .j, .j, .j, .j, .j, .j, .j, .j, .j, .j, .j, .j, .j, .j, .j, .j, .j, .j, .j, .j, .j, .j, .j, .j, .j, .j, .j, .j, .j, .j, .j, .j, .j, .j, .j, .j, .j, .j, .j, .j, .j, .j, .j, .j, .j, .j, .j, .j, .j, .j, .j], [(⟨1, 0, 0⟩, .var [.d (.sl TL_Disk) pF ds, .d .bool pF op, .d TI pF tg, .d (.sl TL_Vol) pF l, .d TI pF tg2, .d (.sl TL_Vol) pF l2]), (⟨6, 5, 0⟩, .var [.own ⟨6, 4, 0⟩, .d .bool pF W.2.1, .d TI pF W.2.2.1.1, .own ⟨6, 4, 64⟩, .d TI pF W.2.2.2.1, .own ⟨6, 4, 128⟩]), (⟨6, 4, 0⟩, .sl T_Disk (.all .w) W.1), (⟨6, 4, 64⟩, .sl T_Vol (.all .w) W.2.2.1.2), (⟨6, 4, 128⟩, .sl T_Vol (.all .w) W.2.2.2.2), (⟨9, 3, 0⟩, .var [.own ⟨9, 2, 0⟩, .d .bool pF W.2.1, .d TI pF W.2.2.1.1, .own ⟨9, 2, 64⟩, .d TI pF W.2.2.2.1, .own ⟨9, 2, 128⟩]), (⟨9, 2, 0⟩, .sl T_Disk (.all .w) W.1), (⟨9, 2, 64⟩, .sl T_Vol (.all .w) W.2.2.1.2), (⟨9, 2, 128⟩, .sl T_Vol (.all .w) W.2.2.2.2)], 15, []⟩) (ent_ok rfl ?_) ?_
      ·simp [conj, hW]
       try (repeat' apply And.intro
            all_goals rfl)
      refine sw_dec hP 16 [] 2 rfl (fun g20_2 => ?_) (fun g20_2 => ?_)
      ·have h : (nxLs mkI (mPol.nx 1 ((ds, op, (tg, l), (tg2, l2)) : Pol)) ks) < 0 := of_decide_eq_true g20_2
       omega
      ·refine xd hP 16 [(2, false)] rfl (sw_cond rfl (fun c20 => ?_) (fun c20 => ?_))
       ·simp at c20
       ·refine sw_skip (sw_seq (xr hP 17 rfl (sw_seq ?_)))
        replace hP := hP.andX (cMkPo_ok (p := W) (k := 1) (a := ⟨9, 2, 0⟩) (b := ⟨9, 2, 64⟩) (c := ⟨9, 2, 128⟩) (by decide) (by omega))
        refine xg hP 18 [] rfl ?_ ?_
        ·simp only [cj, cl]
         try dsimp only [Ty.den, Ty.dflt]
         repeat' apply And.intro
         all_goals first | rfl | omega | assumption | trivial
        refine sw_seq (xr hP 19 rfl (sw_seq (xg hP 20 [] rfl ?_ ?_)))
        ·simp only [cj, cl]
         try dsimp only [Ty.den, Ty.dflt]
         exact ⟨by show (0 : Int) ≤ 1; decide, by show mPol.nx 1 (mPol.mk 1 W) ≤ 1000000000; omega⟩
        refine sw_seq (sw_seq ?_)
        refine sw_ent (st' := ⟨[.j, .v false [.d (.sl TI) pF ks], .v false [.ptr ⟨1, 0, 0⟩ 0], .j, .j, .j, .v false [.ptr ⟨6, 5, 0⟩ 0], .v false [.ptr ⟨7, 2, 0⟩ 0], .j, .v false [.ptr ⟨9, 3, 0⟩ 0], .j, sInt .i64 (mPol.nx 1 W), sInt .i64 (mPol.nx 1 W), .j, .j, .j, .j, .j, .j, .j, .j, .j, .j, .j, .j, .j, .j, .j, .j, .j, .j, .j, .j, .j, .j, .j, .j, .j, .j, .j, .j, .j, .j, .j, .j, .j, .j, .j, .j, .j, .j, .j, .j, .j, .j, .j, .j, .j, .j, .j, .j, .j, .j, .j, .j, .j, .j, .j, .j, .j, .j, .j, .j, .j, .j, .j, .j, .j, .j, .j, .j, .j, .j, .j, .j, .j, .j, .j, .j, .j], [(⟨1, 0, 0⟩, .var [.d (.sl TL_Disk) pF ds, .d .bool pF op, .d TI pF tg, .d (.sl TL_Vol) pF l, .d TI pF tg2, .d (.sl TL_Vol) pF l2]), (⟨6, 5, 0⟩, .var [.own ⟨6, 4, 0⟩, .d .bool pF W.2.1, .d TI pF W.2.2.1.1, .own ⟨6, 4, 64⟩, .d TI pF W.2.2.2.1, .own ⟨6, 4, 128⟩]), (⟨6, 4, 0⟩, .sl T_Disk (.all .w) W.1), (⟨6, 4, 64⟩, .sl T_Vol (.all .w) W.2.2.1.2), (⟨6, 4, 128⟩, .sl T_Vol (.all .w) W.2.2.2.2), (⟨9, 3, 0⟩, .var [.own ⟨9, 2, 0⟩, .d .bool pF W.2.1, .d TI pF W.2.2.1.1, .own ⟨9, 2, 64⟩, .d TI pF W.2.2.2.1, .own ⟨9, 2, 128⟩]), (⟨9, 2, 0⟩, .sl T_Disk (.all .w) (mPol.mk 1 W).1), (⟨9, 2, 64⟩, .sl T_Vol (.all .w) (mPol.mk 1 W).2.2.1.2), (⟨9, 2, 128⟩, .sl T_Vol (.all .w) (mPol.mk 1 W).2.2.2.2)], 20, []⟩) (ent_ok rfl ?_) ?_
        ·simp [conj]
         try exact hh
        refine xr hP 21 rfl (sw_cond rfl (fun c26 => ?_) (fun c26 => ?_))
        ·have h : (mPol.nx 1 W) < 0 := of_decide_eq_true c26
         omega
        ·refine sw_skip (sw_seq (sw_seq (xr hP 22 rfl (sw_cond rfl (fun c28 => ?_) (fun c28 => ?_)))))
         ·simp at c28
         ·refine sw_skip (sw_seq (xg hP 23 [] rfl ?_ ?_))
          ·simp only [cj, cl]
           try dsimp only [Ty.den, Ty.dflt]
           repeat' apply And.intro
           all_goals first | exact hs | exact hs.1 | exact hs.1.1 | exact hs.1.2 | exact hs.2.1 | exact hs.2.1.1 | exact hs.2.1.2 | exact hs.2.2 | exact hs.2.2.1 | exact hs.2.2.2 | exact hkl | omega | trivial
          refine sw_seq (sw_seq ?_)
          refine sw_ent (st' := ⟨[.j, .j, .v false [.ptr ⟨1, 0, 0⟩ 0], .j, .j, .j, .v false [.ptr ⟨6, 5, 0⟩ 0], .v false [.ptr ⟨7, 2, 0⟩ 0], .j, .v false [.ptr ⟨9, 3, 0⟩ 0], .j, sInt .i64 (mPol.nx 1 W), .j, .v false [.ptr ⟨23, 5, 0⟩ 0], .j, .j, .j, .j, .j, .j, .j, .j, .j, .j, .j, .j, .j, .j, .j, .j, .j, .j, .j, .j, .j, .j, .j, .j, .j, .j, .j, .j, .j, .j, .j, .j, .j, .j, .j, .j, .j, .j, .j, .j, .j, .j, .j, .j, .j, .j, .j, .j, .j, .j, .j, .j, .j, .j, .j, .j, .j, .j, .j, .j, .j, .j, .j, .j, .j, .j, .j, .j, .j, .j, .j, .j, .j, .j, .j, .j], [(⟨6, 5, 0⟩, .var [.own ⟨6, 4, 0⟩, .d .bool pF W.2.1, .d TI pF W.2.2.1.1, .own ⟨6, 4, 64⟩, .d TI pF W.2.2.2.1, .own ⟨6, 4, 128⟩]), (⟨6, 4, 0⟩, .sl T_Disk (.all .w) W.1), (⟨6, 4, 64⟩, .sl T_Vol (.all .w) W.2.2.1.2), (⟨6, 4, 128⟩, .sl T_Vol (.all .w) W.2.2.2.2), (⟨9, 3, 0⟩, .var [.own ⟨9, 2, 0⟩, .d .bool pF W.2.1, .d TI pF W.2.2.1.1, .own ⟨9, 2, 64⟩, .d TI pF W.2.2.2.1, .own ⟨9, 2, 128⟩]), (⟨9, 2, 0⟩, .sl T_Disk (.all .w) (mPol.mk 1 W).1), (⟨9, 2, 64⟩, .sl T_Vol (.all .w) (mPol.mk 1 W).2.2.1.2), (⟨9, 2, 128⟩, .sl T_Vol (.all .w) (mPol.mk 1 W).2.2.2.2), (⟨23, 5, 0⟩, .var [.own ⟨23, 4, 0⟩, .d .bool pF W.2.1, .d TI pF W.2.2.1.1, .own ⟨23, 4, 64⟩, .d TI pF W.2.2.2.1, .own ⟨23, 4, 128⟩]), (⟨23, 4, 0⟩, .sl T_Disk (.all .w) W.1), (⟨23, 4, 64⟩, .sl T_Vol (.all .w) W.2.2.1.2), (⟨23, 4, 128⟩, .sl T_Vol (.all .w) W.2.2.2.2)], 23, []⟩) (ent_ok rfl ?_) ?_
          ·simp [conj, hW]
           try (repeat' apply And.intro
                all_goals rfl)
          refine xr hP 24 rfl (sw_cond rfl (fun c31 => ?_) (fun c31 => ?_))
          ·simp at c31
          ·refine sw_skip (sw_seq (xr hP 25 rfl (sw_seq (xg hP 26 [] rfl ?_ ?_))))
           ·simp only [cj, cl]
            try dsimp only [Ty.den, Ty.dflt]
            exact ⟨by show (0 : Int) ≤ 1; decide, by show mPol.nx 1 (mPol.mk 1 W) ≤ 1000000000; omega⟩
           refine sw_seq (sw_seq ?_)
           refine sw_ent (st' := ⟨[.j, .j, .v false [.ptr ⟨1, 0, 0⟩ 0], .j, .j, .j, .v false [.ptr ⟨6, 5, 0⟩ 0], .v false [.ptr ⟨7, 2, 0⟩ 0], .j, .v false [.ptr ⟨9, 3, 0⟩ 0], .j, sInt .i64 (mPol.nx 1 W), sInt .i64 (mPol.nx 1 W), .v false [.ptr ⟨23, 5, 0⟩ 0], .j, .j, .j, .j, .j, .j, .j, .j, .j, .j, .j, .j, .j, .j, .j, .j, .j, .j, .j, .j, .j, .j, .j, .j, .j, .j, .j, .j, .j, .j, .j, .j, .j, .j, .j, .j, .j, .j, .j, .j, .j, .j, .j, .j, .j, .j, .j, .j, .j, .j, .j, .j, .j, .j, .j, .j, .j, .j, .j, .j, .j, .j, .j, .j, .j, .j, .j, .j, .j, .j, .j, .j, .j, .j, .j, .j], [], 26, []⟩) (ent_ok rfl ?_) ?_
           ·simp [conj]
            try exact hh
           refine xr hP 27 rfl (sw_cond rfl (fun c35 => ?_) (fun c35 => ?_))
           ·have h : (mPol.nx 1 W) < 0 := of_decide_eq_true c35
            omega
           ·refine sw_skip (sw_seq (sw_seq (xr hP 28 rfl (sw_cond rfl (fun c37 => ?_) (fun c37 => ?_)))))
            ·simp at c37
            ·refine sw_skip (sw_seq (xr hP 29 rfl (sw_ret ⟨.inl rfl, _, rfl, ?_⟩)))
             simp [conj]
end Go.Sx
