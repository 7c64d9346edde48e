/- Several texts, one behind the other. -/
import Derived.Test.YtbaifcnfdljhlaaGreatDoorMQ2toMV1
import Derived.Test.YtbaifcnfdljhlaaGreatDoorMR4toMV2
set_option linter.all false
namespace Go.Sx
open Go
set_option maxRecDepth 100000
set_option linter.unusedVariables false
set_option linter.unusedSimpArgs false
set_option maxHeartbeats 4000000
def cXWorldNew : Ctr := ⟨3, [.val false TI pF], fun x => True, fun x => (sBool true, [])⟩
theorem cXWorldNew_ok : CtrOk Proofs.Tryz.prog cXWorldNew := by
 have hP := (((((Prg.none ttok mtok).and cWorldS_ok).and cWorldI_ok).and cEqWo_ok).and cHdWo_ok)
 refine ctr_of_body hP cXWorldNew (fn := Proofs.Tryz.f3) (rts := [.tmp 2]) Proofs.Tryz.func3 rfl (by kernel_rfl) rfl rfl ?_
 rintro ⟨(n : Int), ⟨⟩⟩ _ _
 try dsimp only [Ty.den, Mode.den, mdens] at _
 refine ⟨rfl, ?_⟩
 refine sw_seq (xr hP 1 rfl (sw_seq ?_))
 obtain ⟨W, hW⟩ : ∃ W, newWo n = W := ⟨_, rfl⟩
 obtain ⟨m1, m2⟩ := nx_fitPo (newPo_fit (n := n))
 rw [← nx_newWo, hW] at m1 m2
 have hh : mWor.hd 1 (mWor.mk 1 W) = (mWor.nx 1 W) := mWor_ok.hm 1 W (by decide)
 have hmm : mWor.nx 1 (mWor.mk 1 W) = (mWor.nx 1 W) := mWor_ok.nm 1 W
 refine xg hP 2 [] rfl ?_ ?_
 ·simp [conj, maxL]
  try dsimp only [Ty.den, Ty.dflt]
  try simp only [rd_eta]
  try trivial
 refine sw_seq (xg hP 3 [] rfl ?_ ?_)
 ·simp [conj, maxL]
  try dsimp only [Ty.den, Ty.dflt]
  try simp only [rd_eta]
  try trivial
 refine sw_seq (sw_seq ?_)
 refine sw_dec hP 4 [] 4 rfl (fun g3_4 => ?_) (fun g3_4 => ?_)
 ·simp at g3_4
 ·refine xd hP 4 [(4, false)] rfl (sw_cond rfl (fun c3 => ?_) (fun c3 => ?_))
  ·simp at c3
  ·refine sw_skip (sw_seq (xr hP 5 rfl (sw_seq ?_)))
   replace hP := hP.andX (cMkWo_ok (p := newWo n) (k := 1) (a := ⟨3, 1, 0⟩) (b := ⟨3, 1, 64⟩) (c := ⟨3, 1, 128⟩) (d := ⟨3, 1, 192⟩) (e := ⟨3, 1, 256⟩) (f := ⟨3, 1, 320⟩) (by decide) (by rw [hW]; omega))
   refine xg hP 6 [] rfl ?_ ?_
   ·simp only [cj, cl]
    try dsimp only [Ty.den, Ty.dflt]
    repeat' apply And.intro
    all_goals first | rfl | omega | assumption | trivial
   refine sw_seq (xr hP 7 rfl (sw_seq (xg hP 8 [] rfl ?_ ?_)))
   ·simp only [hW]
    simp only [cj, cl]
    try dsimp only [Ty.den, Ty.dflt]
    exact ⟨by show (0 : Int) ≤ 1; decide, by show mWor.nx 1 (mWor.mk 1 W) ≤ 1000000000; omega⟩
   refine sw_seq (sw_seq ?_)
   refine sw_ent (st' := ⟨[sInt .i64 n, .j, .j, .v false [.ptr ⟨2, 5, 0⟩ 0], .v false [.d .bool pF (poolV n)], .v false [.ptr ⟨3, 5, 0⟩ 0], .j, sInt .i64 (mWor.nx 1 W), sInt .i64 (mWor.nx 1 W), .j, .j, .j, .j, .j, .j, .j, .j, .j, .j, .j, .j, .j, .j, .j, .j, .j, .j, .j, .j, .j, .j, .j, .j, .j, .j, .j, .j, .j, .j, .j, .j, .j, .j, .j, .j, .j, .j, .j, .j, .j, .j, .j, .j, .j, .j, .j, .j, .j, .j, .j, .j, .j, .j], [(⟨2, 5, 0⟩, .var [.own ⟨2, 1, 0⟩, .d .bool pF W.1.2.1, .d TI pF W.1.2.2.1.1, .own ⟨2, 1, 64⟩, .d TI pF W.1.2.2.2.1, .own ⟨2, 1, 128⟩, .own ⟨2, 1, 192⟩, .own ⟨2, 1, 256⟩, .own ⟨2, 1, 320⟩, .d .bool pF W.2.2.2.2]), (⟨2, 1, 0⟩, .sl T_Disk (.all .w) W.1.1), (⟨2, 1, 64⟩, .sl T_Vol (.all .w) W.1.2.2.1.2), (⟨2, 1, 128⟩, .sl T_Vol (.all .w) W.1.2.2.2.2), (⟨2, 1, 192⟩, .sl T_Shelf (.all .w) W.2.1), (⟨2, 1, 256⟩, .sl T_Shelf (.all .w) W.2.2.1), (⟨2, 1, 320⟩, .sl T_Shelf (.all .w) W.2.2.2.1), (⟨3, 5, 0⟩, .var [.own ⟨3, 1, 0⟩, .d .bool pF W.1.2.1, .d TI pF W.1.2.2.1.1, .own ⟨3, 1, 64⟩, .d TI pF W.1.2.2.2.1, .own ⟨3, 1, 128⟩, .own ⟨3, 1, 192⟩, .own ⟨3, 1, 256⟩, .own ⟨3, 1, 320⟩, .d .bool pF W.2.2.2.2]), (⟨3, 1, 0⟩, .sl T_Disk (.all .w) (mWor.mk 1 W).1.1), (⟨3, 1, 64⟩, .sl T_Vol (.all .w) (mWor.mk 1 W).1.2.2.1.2), (⟨3, 1, 128⟩, .sl T_Vol (.all .w) (mWor.mk 1 W).1.2.2.2.2), (⟨3, 1, 192⟩, .sl T_Shelf (.all .w) (mWor.mk 1 W).2.1), (⟨3, 1, 256⟩, .sl T_Shelf (.all .w) (mWor.mk 1 W).2.2.1), (⟨3, 1, 320⟩, .sl T_Shelf (.all .w) (mWor.mk 1 W).2.2.2.1)], 8, []⟩) (ent_ok rfl ?_) ?_
   ·simp [conj, hW]
    try (repeat' apply And.intro
         all_goals first | rfl | exact hh)
   refine xr hP 9 rfl (sw_cond rfl (fun c9 => ?_) (fun c9 => ?_))
   ·have h : (mWor.nx 1 W) < 0 := of_decide_eq_true c9
    omega
   ·refine sw_skip (sw_seq (sw_seq (xr hP 10 rfl (sw_cond rfl (fun c11 => ?_) (fun c11 => ?_)))))
    ·simp at c11
    ·refine sw_skip (sw_seq (xg hP 11 [] rfl ?_ ?_))
     ·simp [conj, maxL]
      try dsimp only [Ty.den, Ty.dflt]
      try simp only [rd_eta]
      try trivial
     refine sw_seq (sw_seq ?_)
     refine sw_dec hP 12 [] 4 rfl (fun g14_4 => ?_) (fun g14_4 => ?_)
     ·simp [hW] at g14_4
     ·refine xd hP 12 [(4, false)] rfl (sw_cond rfl (fun c14 => ?_) (fun c14 => ?_))
      ·simp at c14
      ·refine sw_skip (sw_seq (xr hP 13 rfl (sw_seq (xg hP 14 [] rfl ?_ ?_))))
       ·simp only [cj, cl]
        try dsimp only [Ty.den, Ty.dflt]
        exact ⟨by show (0 : Int) ≤ 1; decide, by show mWor.nx 1 (mWor.mk 1 W) ≤ 1000000000; omega⟩
       refine sw_seq (sw_seq ?_)
       refine sw_ent (st' := ⟨[.j, .j, .j, .v false [.ptr ⟨2, 5, 0⟩ 0], .j, .v false [.ptr ⟨3, 5, 0⟩ 0], .j, sInt .i64 (mWor.nx 1 W), sInt .i64 (mWor.nx 1 W), .v false [.ptr ⟨11, 5, 0⟩ 0], .j, .j, .j, .j, .j, .j, .j, .j, .j, .j, .j, .j, .j, .j, .j, .j, .j, .j, .j, .j, .j, .j, .j, .j, .j, .j, .j, .j, .j, .j, .j, .j, .j, .j, .j, .j, .j, .j, .j, .j, .j, .j, .j, .j, .j, .j, .j, .j, .j, .j, .j, .j, .j], [], 14, []⟩) (ent_ok rfl ?_) ?_
       ·simp [conj]
        try exact hh
       refine xr hP 15 rfl (sw_cond rfl (fun c18 => ?_) (fun c18 => ?_))
       ·have h : (mWor.nx 1 W) < 0 := of_decide_eq_true c18
        omega
       ·refine sw_skip (sw_seq (sw_seq (xr hP 16 rfl (sw_cond rfl (fun c20 => ?_) (fun c20 => ?_)))))
        ·simp at c20
        ·refine sw_skip (sw_seq (xr hP 17 rfl (sw_ret ⟨.inl rfl, _, rfl, ?_⟩)))
         simp [conj]
end Go.Sx
