/- Several texts, one behind the other. -/
import Derived.Test.YtbaifcnfdljhlaaGreatMD5toMK2
import Derived.Test.YtbaifcnfdljhlaaGreatMQ2toMQ1
set_option linter.all false
namespace Go.Sx
open Go
set_option maxRecDepth 100000
set_option linter.unusedVariables false
set_option linter.unusedSimpArgs false
set_option maxHeartbeats 2000000
def cMkPtr1 (p : Ptr_) (k : Int) (a : Id) : Xctr := ⟨19, [(a, ⟨0, 0, 1⟩, .sl T_Place (.all .w) p.2.2)], [], [.v true [.d TI pF p.1, .d TI pF p.2.1, .own ⟨0, 0, 1⟩], sInt .i64 k],
  (sInt .i64 (nxLs mPlc k p.2.2), [(⟨0, 0, 1⟩, .sl T_Place (.all .w) (mkLs mPlc k p.2.2))])⟩
theorem cMkPtr1_ok {p : Ptr_} {k : Int} {a : Id} (h0 : 0 ≤ k) (h1 : nxLs mPlc k p.2.2 ≤ 1000000000) : XOk Proofs.Tryz.prog (cMkPtr1 p k a) := by
 have hP := ((Prg.none ttok mtok).and cMkPls_ok)
 refine xctr_of_body hP (cMkPtr1 p k a) (fn := Proofs.Tryz.f19) (rts := [.tmp 4]) Proofs.Tryz.func19 rfl (by kernel_rfl) rfl rfl ?_
 refine ⟨rfl, ?_⟩
 refine sw_seq (xr hP 1 rfl (sw_seq (xg hP 2 [] rfl ?_ ?_)))
 ·simp [conj, maxL]
  try dsimp only [Ty.den, Ty.dflt]
  try simp only [rd_eta]
  exact ⟨h0, h1⟩
 refine sw_seq (xr hP 3 rfl (sw_ret ⟨.inl rfl, _, rfl, ?_⟩))
 simp [conj]
 try (repeat' apply And.intro)
 all_goals rfl
def cXSPut : Ctr := ⟨4, [.val false (.sl TL_Disk) pF, .val true TL_Ptr pF, .val false .str pF], fun x => True, fun x => (sBool true, [])⟩
theorem cXSPut_ok : CtrOk Proofs.Tryz.prog cXSPut := by
 have hP := (((((((((((Prg.none ttok mtok).and cSzDs_ok).and cSzP_ok).and cToDs_ok).and cToPtr_ok).and cSPutR_ok).and cSPutI_ok).and cEqDs_ok).and cEqPtr_ok).and cMkDs_ok).and cHdDs_ok)
 refine ctr_of_body hP cXSPut (fn := Proofs.Tryz.f4) (rts := [.tmp 6]) Proofs.Tryz.func4 rfl (by kernel_rfl) rfl rfl ?_
 rintro ⟨(ds : List Dsk), ⟨(sz : Int), (sm : Int), (pl : List Plc)⟩, (t : Str), ⟨⟩⟩ _ _
 try dsimp only [Ty.den, Mode.den, mdens] at _
 refine ⟨rfl, ?_⟩
 refine sw_seq (xr hP 1 rfl (sw_seq (sw_seq (xr hP 2 rfl (sw_cond rfl (fun c1 => ?_) (fun c1 => ?_))))))
 ·refine sw_seq (xr hP 3 rfl (sw_ret ⟨.inl rfl, _, rfl, ?_⟩))
  simp [conj]
 ·have htl : t.length ≤ 1048576 := by have h : ¬ (1048576 : Int) < (t.length : Int) := of_decide_eq_false c1; omega
  refine sw_skip (sw_seq (xr hP 3 rfl (sw_seq (xg hP 4 [] rfl ?_ ?_))))
  ·simp [conj, maxL]
   try dsimp only [Ty.den, Ty.dflt]
   try simp only [rd_eta]
   exact ⟨by show (0 : Int) ≤ 1048576; decide, by show (1048576 : Int) ≤ 1048576; decide⟩
  refine sw_seq (sw_seq (xr hP 5 rfl (sw_cond rfl (fun c5 => ?_) (fun c5 => ?_))))
  ·refine sw_seq (xr hP 6 rfl (sw_ret ⟨.inl rfl, _, rfl, ?_⟩))
   simp [conj]
  ·replace c5 : 0 ≤ szDs ds 1048576 := by have h : ¬ szDs ds 1048576 < 0 := of_decide_eq_false c5; omega
   have hsd := szDs_sm ds 1048576 (by decide) (by decide) c5
   have hso := szDs_ok ds 1048576 (by decide)
   refine sw_skip (sw_seq (xg hP 6 [] rfl ?_ ?_))
   ·simp [conj, maxL]
    try dsimp only [Ty.den, Ty.dflt]
    try simp only [rd_eta]
    exact ⟨c5, hso.2⟩
   refine sw_seq (sw_seq (xr hP 7 rfl (sw_cond rfl (fun c8 => ?_) (fun c8 => ?_))))
   ·refine sw_seq (xr hP 8 rfl (sw_ret ⟨.inl rfl, _, rfl, ?_⟩))
    simp [conj]
   ·replace c8 : 0 ≤ szP ((sz, sm, pl) : Ptr_) (szDs ds 1048576) := by have h : ¬ szP ((sz, sm, pl) : Ptr_) (szDs ds 1048576) < 0 := of_decide_eq_false c8; omega
    have hsp := szP_sm ((sz, sm, pl) : Ptr_) (szDs ds 1048576) c5 hso.2 c8
    obtain ⟨k1, k2, k3⟩ := args_mk c8 c5
    dsimp only at k2 k3
    obtain ⟨W, hW⟩ : ∃ W, sputV ds ((sz, sm, pl) : Ptr_) t = W := ⟨_, rfl⟩
    obtain ⟨m1, m2⟩ := sput_mk hW
    replace m1 : 1 ≤ (nxLs mDsk 1 W.1) := m1
    replace m2 : (nxLs mDsk 1 W.1) ≤ 1000 := m2
    have hh : hdLs mDsk 1 (mkLs mDsk 1 W.1) = (nxLs mDsk 1 W.1) := (mkList_ok mDsk_ok).hm 1 _ (by decide)
    have hmm : nxLs mDsk 1 (mkLs mDsk 1 W.1) = (nxLs mDsk 1 W.1) := (mkList_ok mDsk_ok).nm 1 _
    refine sw_skip (sw_seq (xg hP 8 [] rfl ?_ ?_))
    ·simp [conj, maxL]
     try dsimp only [Ty.den, Ty.dflt]
     try simp only [rd_eta]
     repeat' apply And.intro
     all_goals first | exact hsd | exact hsd.1 | exact hsd.2 | exact hsp | exact htl | omega | trivial
    refine sw_seq (xg hP 9 [] rfl ?_ ?_)
    ·simp [conj, maxL]
     try dsimp only [Ty.den, Ty.dflt]
     try simp only [rd_eta]
     repeat' apply And.intro
     all_goals first | exact hsd | exact hsd.1 | exact hsd.2 | exact hsp | exact htl | omega | trivial
    refine sw_seq (xg hP 10 [] rfl ?_ ?_)
    ·simp [conj, maxL]
     try dsimp only [Ty.den, Ty.dflt]
     try simp only [rd_eta]
     repeat' apply And.intro
     all_goals first | exact hsd | exact hsd.1 | exact hsd.2 | exact hsp | exact htl | omega | trivial
    refine sw_seq (xr hP 11 rfl (sw_seq (sw_seq ?_)))
    refine sw_ent (st' := ⟨[.v false [.d (.sl TL_Disk) pF ds], .j, .v false [.d .str pF t], .j, .v false [.ptr ⟨1, 0, 0⟩ 0], .j, .j, .j, .v false [.own ⟨8, 5, 0⟩], sBool W.2, .v false [.own ⟨9, 1, 0⟩], .v false [.ptr ⟨10, 2, 0⟩ 0], .v false [.own ⟨11, 3, 0⟩], sBool W.2, .j, .j, .j, .j, .j, .j, .j, .j, .j, .j, .j, .j, .j, .j, .j, .j, .j, .j, .j, .j, .j, .j, .j, .j, .j, .j, .j, .j, .j, .j, .j, .j, .j, .j, .j, .j, .j, .j, .j, .j, .j, .j, .j, .j, .j, .j, .j, .j, .j, .j, .j, .j, .j, .j, .j, .j, .j, .j, .j, .j, .j, .j, .j, .j, .j, .j, .j, .j, .j, .j, .j, .j, .j, .j, .j, .j, .j, .j, .j, .j, .j, .j, .j, .j, .j, .j, .j, .j, .j, .j, .j, .j, .j, .j, .j, .j, .j, .j, .j, .j, .j, .j, .j, .j, .j, .j, .j, .j, .j, .j, .j, .j, .j], [(⟨1, 0, 0⟩, .var [.d TI pF sz, .d TI pF sm, .d (.sl TL_Place) pF pl]), (⟨8, 5, 0⟩, .sl T_Disk (.all .w) W.1), (⟨9, 1, 0⟩, .sl T_Disk (.all .w) ds), (⟨10, 2, 0⟩, .var [.d TI pF sz, .d TI pF sm, .own ⟨10, 1, 0⟩]), (⟨10, 1, 0⟩, .sl T_Place (.all .w) pl), (⟨11, 3, 0⟩, .sl T_Disk (.all .w) W.1)], 11, []⟩) (ent_ok rfl ?_) ?_
    ·simp [conj, hW]
    refine sw_dec hP 12 [] 4 rfl (fun g14_4 => ?_) (fun g14_4 => ?_)
    ·have h : (!decide (W.1 = W.1)) = true := g14_4
     simp at h
    ·refine xd hP 12 [(4, false)] rfl (sw_cond rfl (fun c14 => ?_) (fun c14 => ?_))
     ·simp at c14
     ·refine sw_skip (sw_seq (sw_seq (xg hP 13 [] rfl ?_ ?_)))
      ·simp [conj, maxL]
       try dsimp only [Ty.den, Ty.dflt]
       try simp only [rd_eta]
       repeat' apply And.intro
       all_goals first | exact hsd | exact hsd.1 | exact hsd.2 | exact hsp | exact htl | omega | trivial
      refine sw_cond rfl (fun c16 => ?_) (fun c16 => ?_)
      ·simp at c16
      ·refine sw_skip (sw_seq (sw_seq (xg hP 14 [] rfl ?_ ?_)))
       ·simp [conj, maxL]
        try dsimp only [Ty.den, Ty.dflt]
        try simp only [rd_eta]
        repeat' apply And.intro
        all_goals first | exact hsd | exact hsd.1 | exact hsd.2 | exact hsp | exact htl | omega | trivial
       refine sw_cond rfl (fun c18 => ?_) (fun c18 => ?_)
       ·simp at c18
       ·refine sw_skip (sw_seq (xr hP 15 rfl (sw_seq (xg hP 16 [] rfl ?_ ?_))))
        ·simp [conj, maxL]
         try dsimp only [Ty.den, Ty.dflt]
         try simp only [rd_eta]
         exact ⟨by show (0 : Int) ≤ 1; decide, by show (nxLs mDsk 1 ds) ≤ 1000000000; omega⟩
        refine sw_seq ?_
        replace hP := hP.andX (cMkPtr1_ok (p := ((sz, sm, pl) : Ptr_)) (k := (nxLs mDsk 1 ds)) (a := ⟨10, 1, 0⟩) (by omega) (by show (nxLs mPlc (nxLs mDsk 1 ds) pl) ≤ _; omega))
        refine xr hP 17 rfl (sw_seq (sw_seq ?_))
        refine sw_ent (st' := ⟨[.v false [.d (.sl TL_Disk) pF ds], .j, .v false [.d .str pF t], .j, .v false [.ptr ⟨1, 0, 0⟩ 0], .j, .j, .j, .v false [.own ⟨8, 5, 0⟩], sBool W.2, .j, .v false [.ptr ⟨10, 2, 0⟩ 0], .v false [.own ⟨11, 3, 0⟩], sBool W.2, sInt .i64 (nxLs mPlc (nxLs mDsk 1 ds) pl), .j, .j, .j, .j, .j, .j, .j, .j, .j, .j, .j, .j, .j, .j, .j, .j, .j, .j, .j, .j, .j, .j, .j, .j, .j, .j, .j, .j, .j, .j, .j, .j, .j, .j, .j, .j, .j, .j, .j, .j, .j, .j, .j, .j, .j, .j, .j, .j, .j, .j, .j, .j, .j, .j, .j, .j, .j, .j, .j, .j, .j, .j, .j, .j, .j, .j, .j, .j, .j, .j, .j, .j, .j, .j, .j, .j, .j, .j, .j, .j, .j, .j, .j, .j, .j, .j, .j, .j, .j, .j, .j, .j, .j, .j, .j, .j, .j, .j, .j, .j, .j, .j, .j, .j, .j, .j, .j, .j, .j, .j, .j, .j], [(⟨1, 0, 0⟩, .var [.d TI pF sz, .d TI pF sm, .d (.sl TL_Place) pF pl]), (⟨8, 5, 0⟩, .sl T_Disk (.all .w) W.1), (⟨11, 3, 0⟩, .sl T_Disk (.all .w) W.1)], 17, []⟩) (ent_ok rfl ?_) ?_
        ·simp [conj]
        refine sw_dec hP 18 [] 2 rfl (fun g23_2 => ?_) (fun g23_2 => ?_)
        ·have h : (nxLs mPlc (nxLs mDsk 1 ds) pl) < 0 := of_decide_eq_true g23_2
         omega
        ·refine sw_dec hP 18 [(2, false)] 8 rfl (fun g23_8 => ?_) (fun g23_8 => ?_)
         ·have h : (!decide (W.1 = W.1)) = true := g23_8
          simp at h
         ·refine xd hP 18 [(2, false), (8, false)] rfl (sw_cond rfl (fun c23 => ?_) (fun c23 => ?_))
          ·simp at c23
          ·refine sw_skip (sw_seq (xr hP 19 rfl (sw_seq (xg hP 20 [] rfl ?_ ?_))))
           ·simp [conj, maxL]
            try dsimp only [Ty.den, Ty.dflt]
            try simp only [rd_eta]
            exact ⟨by show (0 : Int) ≤ 1; decide, by show (nxLs mDsk 1 W.1) ≤ 1000000000; omega⟩
           refine sw_seq (xr hP 21 rfl (sw_seq (xg hP 22 [] rfl ?_ ?_)))
           ·simp [conj, maxL]
            try dsimp only [Ty.den, Ty.dflt]
            try simp only [rd_eta]
            exact ⟨by show (0 : Int) ≤ 1; decide, by show nxLs mDsk 1 (mkLs mDsk 1 W.1) ≤ 1000000000; rw [hmm]; omega⟩
           refine sw_seq (sw_seq ?_)
           refine sw_ent (st' := ⟨[.v false [.d (.sl TL_Disk) pF ds], .j, .v false [.d .str pF t], .j, .v false [.ptr ⟨1, 0, 0⟩ 0], .j, .j, .j, .v false [.own ⟨8, 5, 0⟩], sBool W.2, .j, .v false [.ptr ⟨10, 2, 0⟩ 0], .v false [.own ⟨11, 3, 0⟩], .j, .j, sInt .i64 (nxLs mDsk 1 W.1), sInt .i64 (nxLs mDsk 1 W.1), .j, .j, .j, .j, .j, .j, .j, .j, .j, .j, .j, .j, .j, .j, .j, .j, .j, .j, .j, .j, .j, .j, .j, .j, .j, .j, .j, .j, .j, .j, .j, .j, .j, .j, .j, .j, .j, .j, .j, .j, .j, .j, .j, .j, .j, .j, .j, .j, .j, .j, .j, .j, .j, .j, .j, .j, .j, .j, .j, .j, .j, .j, .j, .j, .j, .j, .j, .j, .j, .j, .j, .j, .j, .j, .j, .j, .j, .j, .j, .j, .j, .j, .j, .j, .j, .j, .j, .j, .j, .j, .j, .j, .j, .j, .j, .j, .j, .j, .j, .j, .j, .j, .j, .j, .j, .j, .j, .j, .j, .j], [(⟨1, 0, 0⟩, .var [.d TI pF sz, .d TI pF sm, .d (.sl TL_Place) pF pl]), (⟨8, 5, 0⟩, .sl T_Disk (.all .w) W.1), (⟨11, 3, 0⟩, .sl T_Disk (.all .w) (mkLs mDsk 1 W.1))], 22, []⟩) (ent_ok rfl ?_) ?_
           ·simp [conj]
            try exact hh
           refine xr hP 23 rfl (sw_cond rfl (fun c29 => ?_) (fun c29 => ?_))
           ·have h : (nxLs mDsk 1 W.1) < 0 := of_decide_eq_true c29
            omega
           ·refine sw_skip (sw_seq (sw_seq (xr hP 24 rfl (sw_cond rfl (fun c31 => ?_) (fun c31 => ?_)))))
            ·simp at c31
            ·refine sw_skip (sw_seq (xg hP 25 [] rfl ?_ ?_))
             ·simp [conj, maxL]
              try dsimp only [Ty.den, Ty.dflt]
              try simp only [rd_eta]
              repeat' apply And.intro
              all_goals first | exact hsd | exact hsd.1 | exact hsd.2 | exact hsp | exact htl | omega | trivial
             refine sw_seq (sw_seq ?_)
             refine sw_ent (st' := ⟨[.j, .j, .j, .j, .v false [.ptr ⟨1, 0, 0⟩ 0], .j, .j, .j, .v false [.own ⟨8, 5, 0⟩], sBool W.2, .j, .v false [.ptr ⟨10, 2, 0⟩ 0], .v false [.own ⟨11, 3, 0⟩], .j, .j, sInt .i64 (nxLs mDsk 1 W.1), .j, .v false [.own ⟨25, 5, 0⟩], sBool W.2, .j, .j, .j, .j, .j, .j, .j, .j, .j, .j, .j, .j, .j, .j, .j, .j, .j, .j, .j, .j, .j, .j, .j, .j, .j, .j, .j, .j, .j, .j, .j, .j, .j, .j, .j, .j, .j, .j, .j, .j, .j, .j, .j, .j, .j, .j, .j, .j, .j, .j, .j, .j, .j, .j, .j, .j, .j, .j, .j, .j, .j, .j, .j, .j, .j, .j, .j, .j, .j, .j, .j, .j, .j, .j, .j, .j, .j, .j, .j, .j, .j, .j, .j, .j, .j, .j, .j, .j, .j, .j, .j, .j, .j, .j, .j, .j, .j, .j, .j, .j, .j, .j, .j, .j, .j, .j, .j, .j], [(⟨8, 5, 0⟩, .sl T_Disk (.all .w) W.1), (⟨11, 3, 0⟩, .sl T_Disk (.all .w) (mkLs mDsk 1 W.1)), (⟨25, 5, 0⟩, .sl T_Disk (.all .w) W.1)], 25, []⟩) (ent_ok rfl ?_) ?_
             ·simp [conj, hW]
             refine sw_dec hP 26 [] 4 rfl (fun g34_4 => ?_) (fun g34_4 => ?_)
             ·have h : (!decide (W.1 = W.1)) = true := g34_4
              simp at h
             ·refine xd hP 26 [(4, false)] rfl (sw_cond rfl (fun c34 => ?_) (fun c34 => ?_))
              ·simp at c34
              ·refine sw_skip (sw_seq (xr hP 27 rfl (sw_seq (xg hP 28 [] rfl ?_ ?_))))
               ·simp [conj, maxL]
                try dsimp only [Ty.den, Ty.dflt]
                try simp only [rd_eta]
                exact ⟨by show (0 : Int) ≤ 1; decide, by show nxLs mDsk 1 (mkLs mDsk 1 W.1) ≤ 1000000000; rw [hmm]; omega⟩
               refine sw_seq (sw_seq ?_)
               refine sw_ent (st' := ⟨[.j, .j, .j, .j, .v false [.ptr ⟨1, 0, 0⟩ 0], .j, .j, .j, .j, .j, .j, .v false [.ptr ⟨10, 2, 0⟩ 0], .j, .j, .j, sInt .i64 (nxLs mDsk 1 W.1), sInt .i64 (nxLs mDsk 1 W.1), .j, .j, .j, .j, .j, .j, .j, .j, .j, .j, .j, .j, .j, .j, .j, .j, .j, .j, .j, .j, .j, .j, .j, .j, .j, .j, .j, .j, .j, .j, .j, .j, .j, .j, .j, .j, .j, .j, .j, .j, .j, .j, .j, .j, .j, .j, .j, .j, .j, .j, .j, .j, .j, .j, .j, .j, .j, .j, .j, .j, .j, .j, .j, .j, .j, .j, .j, .j, .j, .j, .j, .j, .j, .j, .j, .j, .j, .j, .j, .j, .j, .j, .j, .j, .j, .j, .j, .j, .j, .j, .j, .j, .j, .j, .j, .j, .j, .j, .j, .j, .j, .j, .j, .j, .j, .j, .j, .j, .j, .j], [], 28, []⟩) (ent_ok rfl ?_) ?_
               ·simp [conj]
                try exact hh
               refine xr hP 29 rfl (sw_cond rfl (fun c38 => ?_) (fun c38 => ?_))
               ·have h : (nxLs mDsk 1 W.1) < 0 := of_decide_eq_true c38
                omega
               ·refine sw_skip (sw_seq (sw_seq (xr hP 30 rfl (sw_cond rfl (fun c40 => ?_) (fun c40 => ?_)))))
                ·simp at c40
                ·refine sw_skip (sw_seq (xr hP 31 rfl (sw_ret ⟨.inl rfl, _, rfl, ?_⟩)))
                 simp [conj]
end Go.Sx
