/- Several texts, one behind the other. -/
import Derived.Test.YtkjdeihmefhkpaaGreatDoorMShelftoMQ4
import Derived.Test.YtkjdeihmefhkpaaGreatDoorMOpentoMWex
import Derived.WalkKit
import Derived.LaidEql
import Derived.Stop.Asserts
import Derived.RowKitTokens
set_option linter.all false
namespace Go.Sx
open Go
set_option maxRecDepth 100000
set_option linter.unusedVariables false
set_option linter.unusedSimpArgs false
set_option maxHeartbeats 4000000
def cTexts : Ctr := ⟨157, [.val false (.sl .str) (.all .b), .val false (.sl .str) (.all .b)], fun _ => True, fun x => (sBool (decide ((x.1 : List Str) = x.2.1)), [])⟩
theorem cTexts_ok : CtrOk Proofs.Tryz.prog cTexts := by
 have hP := (Prg.none ttok mtok)
 refine ctr_of_body hP cTexts (fn := Proofs.Tryz.f157) (rts := [.tmp 4]) Proofs.Tryz.func157 rfl (by kernel_rfl) rfl rfl ?_
 rintro ⟨(a : List Str), (b : List Str), ⟨⟩⟩ ⟨hda, hdb, _⟩ hpre
 try dsimp only [Ty.den, Mode.den, mdens] at hpre
 refine ⟨rfl, ?_⟩
 have hml : a.length ≤ 140737488355328 := hda.1
 have hmb : b.length ≤ 140737488355328 := hdb.1
 refine sw_seq (xr hP 1 rfl (sw_seq (sw_seq (xr hP 2 rfl (sw_cond rfl (fun c1 => ?_) (fun c1 => ?_))))))
 ·replace c1 : ¬ a.length = b.length := by simp at c1; omega
  refine sw_seq (xr hP 3 rfl (sw_ret ⟨.inl rfl, _, rfl, ?_⟩))
  exact (eq_len' c1).symm
 ·replace c1 : a.length = b.length := by simp at c1; omega
  refine sw_skip (sw_seq (sw_seq (xr hP 3 rfl (sw_block (sw_loop (ι := Nat) (fun i => ⟨[.v false [.d (.sl .str) (.all .b) a], .v false [.d (.sl .str) (.all .b) b], .j, .j, .j, sInt .i64 (i : Int), .j, .j, .j, .j, .j, .j, .j, .j, .j, .j, .j, .j, .j, .j, .j, .j, .j, .j, .j, .j], [], 3, []⟩) (fun i => a.length - i) (fun i => i ≤ a.length ∧ decide (a.drop i = b.drop i) = decide (a = b)) 0 ⟨?_, ?_⟩ ?_)))))
  ·exact ⟨Nat.zero_le _, rfl⟩
  ·refine ent_ok rfl ?_
   first | trivial | (simp [conj]; done) | (simp [conj] at *; (try dsimp only [Ty.den, Ty.dflt] at *); omega)
  ·rintro i ⟨hi, hgo⟩
   refine sw_seq (sw_seq (xr hP 4 rfl (sw_cond rfl (fun c4 => ?_) (fun c4 => ?_))))
   ·have hlt : i < a.length := by simpa using c4
    have hlt2 : i < b.length := by omega
    refine sw_skip (sw_seq (sw_block (sw_seq (xg hP 5 [] rfl ?_ ?_))))
    ·simp [conj, maxL]
     try dsimp only [Ty.den, Ty.dflt]
     try simp only [rd_eta]
     repeat' apply And.intro
     all_goals first | rfl | assumption | omega | trivial
    refine sw_cond rfl (fun c6 => ?_) (fun c6 => ?_)
    ·replace c6 : ¬ a[i] = b[i] := by have h := c6; simp [gE hlt, gE hlt2] at h; first | exact h | (intro e; rw [e] at h; simp at h) | (intro e; exact h (by rw [e]) )
     refine sw_seq (xr hP 6 rfl (sw_ret ⟨.inl rfl, _, rfl, ?_⟩))
     exact (eq_hit' hlt hlt2 hgo c6).symm
    ·replace c6 : a[i] = b[i] := by have h := c6; simp [gE hlt, gE hlt2] at h; first | exact h | exact Prod.ext h.1 (Prod.ext h.2.1 h.2.2)
     refine sw_skip (xr hP 6 rfl (⟨i + 1, ?_, ?_, ent_ok rfl ?_⟩))
     ·exact ⟨hlt, eq_next' hlt hlt2 hgo c6⟩
     ·omega
     ·simp [conj]
   ·obtain rfl : i = a.length := by simp at c4; omega
    refine sw_exit (sw_seq (xr hP 5 rfl (sw_ret ⟨.inl rfl, _, rfl, ?_⟩)))
    exact (eq_end' c1 hgo).symm
def cLDisk : Ctr := ⟨77, [.val true T_Disk (.all .b), .val true T_Disk (.all .b)], fun _ => True, fun x => (sBool (eqDV x.1 x.2.1), [])⟩
theorem cLDisk_ok : CtrOk Proofs.Tryz.prog cLDisk := by
 have hP := ((Prg.none ttok mtok).and cTexts_ok)
 refine ctr_of_body hP cLDisk (fn := Proofs.Tryz.f77) (rts := [.tmp 4]) Proofs.Tryz.func77 rfl (by kernel_rfl) rfl rfl ?_
 rintro ⟨⟨(st : Int), (sl : List Str), (rg : List Str), (sp : List Bool), (wt : List Put)⟩, ⟨(st2 : Int), (sl2 : List Str), (rg2 : List Str), (sp2 : List Bool), (wt2 : List Put)⟩, ⟨⟩⟩ ⟨⟨_, _, _, hsp0, hwt0⟩, _⟩ _
 try dsimp only [Ty.den, Mode.den, mdens] at _
 refine ⟨rfl, ?_⟩
 have hm1 : sp.length ≤ 140737488355328 := hsp0.1
 have hm2 : wt.length ≤ 140737488355328 := hwt0.1
 refine sw_seq (xr hP 1 rfl (sw_seq (sw_seq ?_)))
 refine sw_dec hP 2 [] 5 rfl (fun g1_5 => ?_) (fun g1_5 => ?_)
 ·replace g1_5 : ¬ st = st2 := by simpa using g1_5
  refine xg hP 2 [(5, true)] rfl ?_ ?_
  ·simp [conj]
   try trivial
   all_goals repeat' apply And.intro
   all_goals first | trivial | assumption | omega | (simp_all; done) | (simp_all; omega)
  refine sw_condT rfl (sw_seq (xr hP 3 rfl (sw_ret ⟨.inl rfl, _, rfl, ?_⟩)))
  simp [conj, eqDV, *]
 ·replace g1_5 : st = st2 := by simpa using g1_5
  refine sw_dec hP 2 [(5, false)] 13 rfl (fun g1_13 => ?_) (fun g1_13 => ?_)
  ·replace g1_13 : ¬ sl = sl2 := by simpa using g1_13
   refine xg hP 2 [(5, false), (13, true)] rfl ?_ ?_
   ·simp [conj]
    try trivial
    all_goals repeat' apply And.intro
    all_goals first | trivial | assumption | omega | (simp_all; done) | (simp_all; omega)
   refine sw_condT rfl (sw_seq (xr hP 3 rfl (sw_ret ⟨.inl rfl, _, rfl, ?_⟩)))
   simp [conj, eqDV, *]
  ·replace g1_13 : sl = sl2 := by simpa using g1_13
   refine sw_dec hP 2 [(5, false), (13, false)] 21 rfl (fun g1_21 => ?_) (fun g1_21 => ?_)
   ·replace g1_21 : ¬ rg = rg2 := by simpa using g1_21
    refine xg hP 2 [(5, false), (13, false), (21, true)] rfl ?_ ?_
    ·simp [conj]
     try trivial
     all_goals repeat' apply And.intro
     all_goals first | trivial | assumption | omega | (simp_all; done) | (simp_all; omega)
    refine sw_condT rfl (sw_seq (xr hP 3 rfl (sw_ret ⟨.inl rfl, _, rfl, ?_⟩)))
    simp [conj, eqDV, *]
   ·replace g1_21 : rg = rg2 := by simpa using g1_21
    refine sw_dec hP 2 [(5, false), (13, false), (21, false)] 30 rfl (fun g1_30 => ?_) (fun g1_30 => ?_)
    ·replace g1_30 : ¬ sp.length = sp2.length := by have h := g1_30; simp at h; omega
     refine xg hP 2 [(5, false), (13, false), (21, false), (30, true)] rfl ?_ ?_
     ·simp [conj]
      try trivial
      all_goals repeat' apply And.intro
      all_goals first | trivial | assumption | omega | (simp_all; done) | (simp_all; omega)
     refine sw_condT rfl (sw_seq (xr hP 3 rfl (sw_ret ⟨.inl rfl, _, rfl, ?_⟩)))
     have hv : ¬ sp = sp2 := fun e => g1_30 (by rw [e])
     simp [conj, eqDV, hv]
    ·replace g1_30 : sp.length = sp2.length := by have h := g1_30; simp at h; omega
     refine xg hP 2 [(5, false), (13, false), (21, false), (30, false)] rfl ?_ ?_
     ·simp [conj]
      try trivial
      all_goals repeat' apply And.intro
      all_goals first | trivial | assumption | omega | (simp_all; done) | (simp_all; omega)
     refine sw_cond rfl (fun c1 => ?_) (fun c1 => ?_)
     ·replace c1 : ¬ wt.length = wt2.length := by have h := c1; simp at h; omega
      refine sw_seq (xr hP 3 rfl (sw_ret ⟨.inl rfl, _, rfl, ?_⟩))
      have hv : ¬ wt = wt2 := fun e => c1 (by rw [e])
      simp [conj, eqDV, hv]
     ·replace c1 : wt.length = wt2.length := by have h := c1; simp at h; omega
      refine sw_skip (sw_seq (sw_seq (xr hP 3 rfl (sw_block (sw_loop (ι := Nat) (fun i => ⟨[.j, .j, .v false [.ptr ⟨1, 0, 0⟩ 0], .v false [.ptr ⟨1, 1, 0⟩ 0], .j, sInt .i64 (i : Int), .j, .j, .j, .j, .j, .j, .j, .j, .j, .j, .j, .j, .j, .j, .j, .j, .j, .j, .j, .j, .j, .j, .j, .j, .j, .j, .j, .j, .j, .j, .j, .j, .j, .j, .j, .j, .j, .j, .j, .j, .j, .j, .j, .j, .j, .j, .j, .j, .j, .j, .j, .j, .j, .j, .j, .j, .j, .j, .j, .j, .j, .j, .j, .j, .j, .j, .j, .j, .j, .j, .j, .j, .j, .j, .j, .j], [(⟨1, 0, 0⟩, .var [.d TI pF st, .d (.sl .str) (.all .b) sl, .d (.sl .str) (.all .b) rg, .d (.sl .bool) (.all .b) sp, .d (.sl T_Put) (.all .b) wt]), (⟨1, 1, 0⟩, .var [.d TI pF st2, .d (.sl .str) (.all .b) sl2, .d (.sl .str) (.all .b) rg2, .d (.sl .bool) (.all .b) sp2, .d (.sl T_Put) (.all .b) wt2])], 3, []⟩) (fun i => sp.length - i) (fun i => i ≤ sp.length ∧ decide (sp.drop i = sp2.drop i) = decide (sp = sp2)) 0 ⟨?_, ?_⟩ ?_)))))
      ·exact ⟨Nat.zero_le _, rfl⟩
      ·refine ent_ok rfl ?_
       first | trivial | (simp [conj]; done) | (simp [conj] at *; (try dsimp only [Ty.den, Ty.dflt] at *); omega)
      ·rintro i ⟨hi, hgo⟩
       refine sw_seq (sw_seq (xr hP 4 rfl (sw_cond rfl (fun c4 => ?_) (fun c4 => ?_))))
       ·have hlt : i < sp.length := by simpa using c4
        have hlt2 : i < sp2.length := by omega
        refine sw_skip (sw_seq (sw_block (sw_seq (xg hP 5 [] rfl ?_ ?_))))
        ·simp [conj, gE hlt, gE hlt2]
         try exact ⟨hlt, hlt2⟩
        refine sw_cond rfl (fun c6 => ?_) (fun c6 => ?_)
        ·replace c6 : ¬ sp[i] = sp2[i] := by simpa [gE hlt, gE hlt2] using c6
         refine sw_seq (xr hP 6 rfl (sw_ret ⟨.inl rfl, _, rfl, ?_⟩))
         have hv := eq_hit' hlt hlt2 hgo c6
         replace hv : ¬ sp = sp2 := of_decide_eq_false hv
         simp [conj, eqDV, hv]
        ·replace c6 : sp[i] = sp2[i] := by simpa [gE hlt, gE hlt2] using c6
         refine sw_skip (xr hP 6 rfl (⟨i + 1, ?_, ?_, ent_ok rfl ?_⟩))
         ·exact ⟨hlt, eq_next' hlt hlt2 hgo c6⟩
         ·omega
         ·simp [conj]
       ·obtain rfl : i = sp.length := by simp at c4; omega
        have hsp : sp = sp2 := of_decide_eq_true (eq_end' g1_30 hgo)
        refine sw_exit (sw_seq (sw_seq (xr hP 5 rfl (sw_block (sw_loop (ι := Nat) (fun i => ⟨[.j, .j, .v false [.ptr ⟨1, 0, 0⟩ 0], .v false [.ptr ⟨1, 1, 0⟩ 0], .j, .j, sInt .i64 (i : Int), .j, .j, .j, .j, .j, .j, .j, .j, .j, .j, .j, .j, .j, .j, .j, .j, .j, .j, .j, .j, .j, .j, .j, .j, .j, .j, .j, .j, .j, .j, .j, .j, .j, .j, .j, .j, .j, .j, .j, .j, .j, .j, .j, .j, .j, .j, .j, .j, .j, .j, .j, .j, .j, .j, .j, .j, .j, .j, .j, .j, .j, .j, .j, .j, .j, .j, .j, .j, .j, .j, .j, .j, .j, .j, .j], [(⟨1, 0, 0⟩, .var [.d TI pF st, .d (.sl .str) (.all .b) sl, .d (.sl .str) (.all .b) rg, .d (.sl .bool) (.all .b) sp, .d (.sl T_Put) (.all .b) wt]), (⟨1, 1, 0⟩, .var [.d TI pF st2, .d (.sl .str) (.all .b) sl2, .d (.sl .str) (.all .b) rg2, .d (.sl .bool) (.all .b) sp2, .d (.sl T_Put) (.all .b) wt2])], 5, []⟩) (fun i => wt.length - i) (fun i => i ≤ wt.length ∧ decide (wt.drop i = wt2.drop i) = decide (wt = wt2)) 0 ⟨?_, ?_⟩ ?_)))))
        ·exact ⟨Nat.zero_le _, rfl⟩
        ·refine ent_ok rfl ?_
         first | trivial | (simp [conj]; done) | (simp [conj] at *; (try dsimp only [Ty.den, Ty.dflt] at *); omega)
        ·rintro i ⟨hi, hgo⟩
         refine sw_seq (sw_seq (xr hP 6 rfl (sw_cond rfl (fun c9 => ?_) (fun c9 => ?_))))
         ·have hlt : i < wt.length := by simpa using c9
          have hlt2 : i < wt2.length := by omega
          refine sw_skip (sw_seq (sw_block (sw_seq (xg hP 7 [] rfl ?_ ?_))))
          ·simp [conj, gE hlt, gE hlt2]
           try exact ⟨hlt, hlt2⟩
          refine sw_cond rfl (fun c11 => ?_) (fun c11 => ?_)
          ·replace c11 : ¬ wt[i] = wt2[i] := by intro e; simp [gE hlt, gE hlt2, e] at c11
           refine sw_seq (xr hP 8 rfl (sw_ret ⟨.inl rfl, _, rfl, ?_⟩))
           have hv := eq_hit' hlt hlt2 hgo c11
           replace hv : ¬ wt = wt2 := of_decide_eq_false hv
           simp [conj, eqDV, hv]
          ·replace c11 : wt[i] = wt2[i] := by have h := c11; simp [gE hlt, gE hlt2] at h; exact Prod.ext h.1 (Prod.ext h.2.1 h.2.2)
           refine sw_skip (xr hP 8 rfl (⟨i + 1, ?_, ?_, ent_ok rfl ?_⟩))
           ·exact ⟨hlt, eq_next' hlt hlt2 hgo c11⟩
           ·omega
           ·simp [conj]
         ·obtain rfl : i = wt.length := by simp at c9; omega
          have hwt : wt = wt2 := of_decide_eq_true (eq_end' c1 hgo)
          refine sw_exit (sw_seq (xr hP 7 rfl (sw_ret ⟨.inl rfl, _, rfl, ?_⟩)))
          simp [conj, eqDV, *]
end Go.Sx

namespace Go.Sx
open Go
set_option maxRecDepth 100000
set_option linter.unusedVariables false
set_option linter.unusedSimpArgs false
set_option maxHeartbeats 2000000
def cLpaPtr : Ctr := ⟨194, [.val true T_Ptr (.all .b), .val true T_Ptr (.all .b)], fun x => True, fun x => (sBool (decide ((x.1 : Ptr_) = x.2.1)), [])⟩
theorem cLpaPtr_ok : CtrOk Proofs.Tryz.prog cLpaPtr := by
 have hP := (Prg.none ttok mtok)
 refine ctr_of_body hP cLpaPtr (fn := Proofs.Tryz.f194) (rts := [.tmp 4]) Proofs.Tryz.func194 rfl (by kernel_rfl) rfl rfl ?_
 rintro ⟨⟨(sz : Int), (sm : Int), (pl : List Plc)⟩, ⟨(sz2 : Int), (sm2 : Int), (pl2 : List Plc)⟩, ⟨⟩⟩ ⟨⟨_, _, hda⟩, ⟨_, _, hdb⟩, _⟩ _
 try dsimp only [Ty.den, Mode.den, mdens] at _
 refine ⟨rfl, ?_⟩
 have hml : pl.length ≤ 140737488355328 := hda.1
 have hmb : pl2.length ≤ 140737488355328 := hdb.1
 refine sw_seq (xr hP 1 rfl (sw_seq (sw_seq ?_)))
 refine sw_dec hP 2 [] 5 rfl (fun g1_5 => ?_) (fun g1_5 => ?_)
 ·replace g1_5 : ¬ sz = sz2 := by simpa using g1_5
  refine xd hP 2 [(5, true)] rfl (sw_condT rfl (sw_seq (xr hP 3 rfl (sw_ret ⟨.inl rfl, _, rfl, ?_⟩))))
  simp [conj, g1_5]
 ·replace g1_5 : sz = sz2 := by simpa using g1_5
  refine sw_dec hP 2 [(5, false)] 12 rfl (fun g1_12 => ?_) (fun g1_12 => ?_)
  ·replace g1_12 : ¬ sm = sm2 := by simpa using g1_12
   refine xd hP 2 [(5, false), (12, true)] rfl (sw_condT rfl (sw_seq (xr hP 3 rfl (sw_ret ⟨.inl rfl, _, rfl, ?_⟩))))
   simp [conj, g1_12]
  ·replace g1_12 : sm = sm2 := by simpa using g1_12
   refine xd hP 2 [(5, false), (12, false)] rfl (sw_cond rfl (fun c1 => ?_) (fun c1 => ?_))
   ·replace c1 : ¬ pl.length = pl2.length := by simp at c1; omega
    refine sw_seq (xr hP 3 rfl (sw_ret ⟨.inl rfl, _, rfl, ?_⟩))
    have hne : ¬ pl = pl2 := fun e => c1 (by rw [e])
    simp [conj, hne]
   ·replace c1 : pl.length = pl2.length := by simp at c1; omega
    refine sw_skip (sw_seq (sw_seq (xr hP 3 rfl (sw_block (sw_loop (ι := Nat) (fun i => ⟨[.j, .j, .v false [.ptr ⟨1, 0, 0⟩ 0], .v false [.ptr ⟨1, 1, 0⟩ 0], .j, sInt .i64 (i : Int), .j, .j, .j, .j, .j, .j, .j, .j, .j, .j, .j, .j, .j, .j, .j, .j, .j, .j, .j, .j, .j, .j, .j, .j, .j, .j, .j, .j, .j, .j, .j, .j, .j, .j, .j, .j, .j, .j, .j], [(⟨1, 0, 0⟩, .var [.d TI pF sz, .d TI pF sm, .d (.sl T_Place) (.all .b) pl]), (⟨1, 1, 0⟩, .var [.d TI pF sz2, .d TI pF sm2, .d (.sl T_Place) (.all .b) pl2])], 3, []⟩) (fun i => pl.length - i) (fun i => i ≤ pl.length ∧ decide (pl.drop i = pl2.drop i) = decide (pl = pl2)) 0 ⟨?_, ?_⟩ ?_)))))
    ·exact ⟨Nat.zero_le _, rfl⟩
    ·refine ent_ok rfl ?_
     simp [conj]
    ·rintro i ⟨hi, hgo⟩
     refine sw_seq (sw_seq (xr hP 4 rfl (sw_cond rfl (fun c4 => ?_) (fun c4 => ?_))))
     ·have hlt : i < pl.length := by simpa using c4
      have hlt2 : i < pl2.length := by omega
      refine sw_skip (sw_seq (sw_block (sw_seq (xg hP 5 [] rfl ?_ ?_))))
      ·simp [conj, gE hlt, gE hlt2]
       repeat' apply And.intro
       all_goals first | omega | trivial
      refine sw_cond rfl (fun c6 => ?_) (fun c6 => ?_)
      ·replace c6 : ¬ pl[i] = pl2[i] := by intro e; simp [gE hlt, gE hlt2, e] at c6
       refine sw_seq (xr hP 6 rfl (sw_ret ⟨.inl rfl, _, rfl, ?_⟩))
       have hne : ¬ pl = pl2 := of_decide_eq_false (eqL_hit hlt hlt2 hgo c6)
       simp [conj, hne]
      ·replace c6 : pl[i] = pl2[i] := by
         have h := c6
         simp [gE hlt, gE hlt2] at h
         exact Prod.ext h.1 h.2
       refine sw_skip (xr hP 6 rfl (⟨i + 1, ?_, ?_, ent_ok rfl ?_⟩))
       ·exact ⟨hlt, eqL_next hlt hlt2 hgo c6⟩
       ·omega
       ·simp [conj]
     ·obtain rfl : i = pl.length := by simp at c4; omega
      refine sw_exit (sw_seq (xr hP 5 rfl (sw_ret ⟨.inl rfl, _, rfl, ?_⟩)))
      have he : pl = pl2 := of_decide_eq_true (eqL_end c1 hgo)
      simp [conj, g1_5, g1_12, he]
def cLpaRoot : Ctr := ⟨114, [.val true T_Root (.all .b), .val true T_Root (.all .b)], fun x => True, fun x => (sBool (decide ((x.1 : Root_) = x.2.1)), [])⟩
theorem cLpaRoot_ok : CtrOk Proofs.Tryz.prog cLpaRoot := by
 have hP := ((Prg.none ttok mtok).and cLpaPtr_ok)
 refine ctr_of_body hP cLpaRoot (fn := Proofs.Tryz.f114) (rts := [.tmp 4]) Proofs.Tryz.func114 rfl (by kernel_rfl) rfl rfl ?_
 rintro ⟨⟨(tg : Int), (l : List Vol_)⟩, ⟨(tg2 : Int), (l2 : List Vol_)⟩, ⟨⟩⟩ ⟨⟨_, hda⟩, ⟨_, hdb⟩, _⟩ _
 try dsimp only [Ty.den, Mode.den, mdens] at _
 refine ⟨rfl, ?_⟩
 have hml : l.length ≤ 140737488355328 := hda.1
 have hmb : l2.length ≤ 140737488355328 := hdb.1
 refine sw_seq (xr hP 1 rfl (sw_seq (sw_seq ?_)))
 refine sw_dec hP 2 [] 5 rfl (fun g1_5 => ?_) (fun g1_5 => ?_)
 ·replace g1_5 : ¬ tg = tg2 := by simpa using g1_5
  refine xd hP 2 [(5, true)] rfl (sw_condT rfl (sw_seq (xr hP 3 rfl (sw_ret ⟨.inl rfl, _, rfl, ?_⟩))))
  simp [conj, g1_5]
 ·replace g1_5 : tg = tg2 := by simpa using g1_5
  refine xd hP 2 [(5, false)] rfl (sw_cond rfl (fun c1 => ?_) (fun c1 => ?_))
  ·replace c1 : ¬ l.length = l2.length := by simp at c1; omega
   refine sw_seq (xr hP 3 rfl (sw_ret ⟨.inl rfl, _, rfl, ?_⟩))
   have hne : ¬ l = l2 := fun e => c1 (by rw [e])
   simp [conj, hne]
  ·replace c1 : l.length = l2.length := by simp at c1; omega
   refine sw_skip (sw_seq (sw_seq (xr hP 3 rfl (sw_block (sw_loop (ι := Nat) (fun i => ⟨[.j, .j, .v false [.ptr ⟨1, 0, 0⟩ 0], .v false [.ptr ⟨1, 1, 0⟩ 0], .j, sInt .i64 (i : Int), .j, .j, .j, .j, .j, .j, .j, .j, .j, .j, .j, .j, .j, .j, .j, .j, .j, .j, .j, .j, .j, .j, .j, .j, .j, .j, .j, .j, .j, .j, .j, .j, .j, .j, .j, .j, .j, .j, .j, .j, .j, .j, .j, .j, .j, .j, .j, .j, .j, .j, .j, .j, .j, .j, .j, .j, .j, .j, .j, .j, .j, .j, .j, .j, .j, .j, .j, .j, .j, .j, .j, .j, .j, .j, .j, .j, .j, .j, .j, .j, .j, .j, .j], [(⟨1, 0, 0⟩, .var [.d TI pF tg, .d (.sl T_Vol) (.all .b) l]), (⟨1, 1, 0⟩, .var [.d TI pF tg2, .d (.sl T_Vol) (.all .b) l2])], 3, []⟩) (fun i => l.length - i) (fun i => i ≤ l.length ∧ decide (l.drop i = l2.drop i) = decide (l = l2)) 0 ⟨?_, ?_⟩ ?_)))))
   ·exact ⟨Nat.zero_le _, rfl⟩
   ·refine ent_ok rfl ?_
    simp [conj]
   ·rintro i ⟨hi, hgo⟩
    refine sw_seq (sw_seq (xr hP 4 rfl (sw_cond rfl (fun c4 => ?_) (fun c4 => ?_))))
    ·have hlt : i < l.length := by simpa using c4
     have hlt2 : i < l2.length := by omega
     have hb1 : l[i].2.length ≤ 140737488355328 := (hda.2 _ (List.getElem_mem hlt)).2.1
     have hb2 : l2[i].2.length ≤ 140737488355328 := (hdb.2 _ (List.getElem_mem hlt2)).2.1
     refine sw_skip (sw_seq (sw_block (sw_seq (sw_seq ?_))))
     refine sw_dec hP 5 [] 13 rfl (fun g6_13 => ?_) (fun g6_13 => ?_)
     ·replace g6_13 : ¬ l[i].1 = l2[i].1 := by simpa [gE hlt, gE hlt2] using g6_13
      have hbad : ¬ l[i] = l2[i] := fun e => g6_13 (by rw [e])
      refine xg hP 5 [(13, true)] rfl ?_ ?_
      ·simp [conj, gE hlt, gE hlt2]
       repeat' apply And.intro
       all_goals first | omega | trivial
      refine sw_condT rfl (sw_seq (xr hP 6 rfl (sw_ret ⟨.inl rfl, _, rfl, ?_⟩)))
      have hne : ¬ l = l2 := of_decide_eq_false (eqL_hit hlt hlt2 hgo hbad)
      simp [conj, hne]
     ·replace g6_13 : l[i].1 = l2[i].1 := by simpa [gE hlt, gE hlt2] using g6_13
      refine xg hP 5 [(13, false)] rfl ?_ ?_
      ·simp [conj, gE hlt, gE hlt2]
       repeat' apply And.intro
       all_goals first | omega | trivial
      refine sw_cond rfl (fun c6 => ?_) (fun c6 => ?_)
      ·replace c6 : ¬ l[i].2.length = l2[i].2.length := by simp [gE hlt, gE hlt2] at c6; omega
       have hbad : ¬ l[i] = l2[i] := fun e => c6 (by rw [e])
       refine sw_seq (xr hP 6 rfl (sw_ret ⟨.inl rfl, _, rfl, ?_⟩))
       have hne : ¬ l = l2 := of_decide_eq_false (eqL_hit hlt hlt2 hgo hbad)
       simp [conj, hne]
      ·replace c6 : l[i].2.length = l2[i].2.length := by simp [gE hlt, gE hlt2] at c6; omega
       refine sw_skip (sw_seq (xr hP 6 rfl (sw_block (sw_loop (ι := Nat) (fun k => ⟨[.j, .j, .v false [.ptr ⟨1, 0, 0⟩ 0], .v false [.ptr ⟨1, 1, 0⟩ 0], .j, sInt .i64 (i : Int), sInt .i64 (k : Int), .j, .j, .j, .j, .j, .j, .j, .j, .j, .j, .j, .j, .j, .j, .j, .j, .j, .j, .j, .j, .j, .j, .j, .j, .j, .j, .j, .j, .j, .j, .j, .j, .j, .j, .j, .j, .j, .j, .j, .j, .j, .j, .j, .j, .j, .j, .j, .j, .j, .j, .j, .j, .j, .j, .j, .j, .j, .j, .j, .j, .j, .j, .j, .j, .j, .j, .j, .j, .j, .j, .j, .j, .j, .j, .j, .j, .j, .j, .j, .j, .j, .j], [(⟨1, 0, 0⟩, .var [.d TI pF tg, .d (.sl T_Vol) (.all .b) l]), (⟨1, 1, 0⟩, .var [.d TI pF tg2, .d (.sl T_Vol) (.all .b) l2])], 6, []⟩) (fun k => l[i].2.length - k) (fun k => k ≤ l[i].2.length ∧ decide (l[i].2.drop k = l2[i].2.drop k) = decide (l[i].2 = l2[i].2)) 0 ⟨?_, ?_⟩ ?_))))
       ·exact ⟨Nat.zero_le _, rfl⟩
       ·refine ent_ok rfl ?_
        simp [conj]
       ·rintro k ⟨hk, hgk⟩
        refine sw_seq (sw_seq (xg hP 7 [] rfl ?_ ?_))
        ·simp [conj, gE hlt, gE hlt2]
         repeat' apply And.intro
         all_goals first | omega | trivial
        refine sw_cond rfl (fun c9 => ?_) (fun c9 => ?_)
        ·have hk1 : k < l[i].2.length := by simp [gE hlt, gE hlt2] at c9; omega
         have hk2 : k < l2[i].2.length := by omega
         refine sw_skip (sw_seq (sw_block (sw_seq (xg hP 8 [] rfl ?_ ?_))))
         ·simp [conj, gE hlt, gE hlt2, gE hk1, gE hk2]
          repeat' apply And.intro
          all_goals first | omega | trivial
         refine sw_cond rfl (fun c11 => ?_) (fun c11 => ?_)
         ·replace c11 : ¬ l[i].2[k] = l2[i].2[k] := by intro e; simp [gE hlt, gE hlt2, gE hk1, gE hk2, e] at c11
          have hbad : ¬ l[i] = l2[i] := fun e => of_decide_eq_false (eqL_hit hk1 hk2 hgk c11) (by rw [e])
          refine sw_seq (xr hP 9 rfl (sw_ret ⟨.inl rfl, _, rfl, ?_⟩))
          have hne : ¬ l = l2 := of_decide_eq_false (eqL_hit hlt hlt2 hgo hbad)
          simp [conj, hne]
         ·replace c11 : l[i].2[k] = l2[i].2[k] := by
            have h := c11
            simp [gE hlt, gE hlt2, gE hk1, gE hk2] at h
            exact Prod.ext h.1 (Prod.ext h.2.1 h.2.2)
          refine sw_skip (xr hP 9 rfl (⟨k + 1, ?_, ?_, ent_ok rfl ?_⟩))
          ·exact ⟨hk1, eqL_next hk1 hk2 hgk c11⟩
          ·omega
          ·simp [conj]
        ·obtain rfl : k = l[i].2.length := by simp [gE hlt, gE hlt2] at c9; omega
         have heb : l[i].2 = l2[i].2 := of_decide_eq_true (eqL_end c6 hgk)
         have hel : l[i] = l2[i] := Prod.ext g6_13 heb
         refine sw_exit (xr hP 8 rfl (⟨i + 1, ?_, ?_, ent_ok rfl ?_⟩))
         ·exact ⟨hlt, eqL_next hlt hlt2 hgo hel⟩
         ·omega
         ·simp [conj]
    ·obtain rfl : i = l.length := by simp at c4; omega
     refine sw_exit (sw_seq (xr hP 5 rfl (sw_ret ⟨.inl rfl, _, rfl, ?_⟩)))
     have he : l = l2 := of_decide_eq_true (eqL_end c1 hgo)
     simp [conj, g1_5, he]
end Go.Sx

namespace Go.Sx
open Go
set_option maxRecDepth 100000
set_option linter.unusedVariables false
set_option linter.unusedSimpArgs false
set_option maxHeartbeats 2000000
def cLDks : Ctr := ⟨18, [.val false (.sl T_Disk) (.all .b), .val false (.sl T_Disk) (.all .b)], fun x => True, fun x => (sBool (decide ((x.1 : List Dsk) = x.2.1)), [])⟩
theorem cLDks_ok : CtrOk Proofs.Tryz.prog cLDks := by
 have hP := ((Prg.none ttok mtok).and cLDisk_ok)
 refine ctr_of_body hP cLDks (fn := Proofs.Tryz.f18) (rts := [.tmp 4]) Proofs.Tryz.func18 rfl (by kernel_rfl) rfl rfl ?_
 rintro ⟨(a : List Dsk), (b : List Dsk), ⟨⟩⟩ ⟨hda, hdb, _⟩ _
 try dsimp only [Ty.den, Mode.den, mdens] at _
 refine ⟨rfl, ?_⟩
 have hml : a.length ≤ 140737488355328 := hda.1
 have hmb : b.length ≤ 140737488355328 := hdb.1
 refine sw_seq (xr hP 1 rfl (sw_seq (sw_seq (xr hP 2 rfl (sw_cond rfl (fun c1 => ?_) (fun c1 => ?_))))))
 ·replace c1 : ¬ a.length = b.length := by simp at c1; omega
  refine sw_seq (xr hP 3 rfl (sw_ret ⟨.inl rfl, _, rfl, ?_⟩))
  have hv := eqL_len c1
  simp [conj, hv]
 ·replace c1 : a.length = b.length := by simp at c1; omega
  refine sw_skip (sw_seq (sw_seq (xr hP 3 rfl (sw_block (sw_loop (ι := Nat) (fun i => ⟨[.v false [.d (.sl T_Disk) (.all .b) a], .v false [.d (.sl T_Disk) (.all .b) b], .j, .j, .j, sInt .i64 (i : Int), .j, .j, .j, .j, .j, .j, .j, .j, .j, .j, .j, .j, .j, .j, .j, .j, .j, .j, .j, .j, .j], [], 3, []⟩) (fun i => a.length - i) (fun i => i ≤ a.length ∧ decide (a.drop i = b.drop i) = decide (a = b)) 0 ⟨?_, ?_⟩ ?_)))))
  ·exact ⟨Nat.zero_le _, rfl⟩
  ·refine ent_ok rfl ?_
   first | trivial | (simp [conj]; done) | (simp [conj] at *; (try dsimp only [Ty.den, Ty.dflt] at *); omega)
  ·rintro i ⟨hi, hgo⟩
   refine sw_seq (sw_seq (xr hP 4 rfl (sw_cond rfl (fun c4 => ?_) (fun c4 => ?_))))
   ·have hlt : i < a.length := by simpa using c4
    have hlt2 : i < b.length := by omega
    refine sw_skip (sw_seq (sw_block (sw_seq (xg hP 5 [] rfl ?_ ?_))))
    ·simp [conj, gE hlt, gE hlt2]
     repeat' apply And.intro
     all_goals first | omega | trivial
    refine sw_cond rfl (fun c6 => ?_) (fun c6 => ?_)
    ·replace c6 : ¬ a[i] = b[i] := by intro e; simp [gE hlt, gE hlt2, e, eqDV] at c6
     refine sw_seq (xr hP 6 rfl (sw_ret ⟨.inl rfl, _, rfl, ?_⟩))
     have hv := eqL_hit hlt hlt2 hgo c6
     simp [conj, hv]
    ·replace c6 : a[i] = b[i] := by
       have h := c6
       simp [gE hlt, gE hlt2, eqDV] at h
       exact Prod.ext h.1 (Prod.ext h.2.1 (Prod.ext h.2.2.1 (Prod.ext h.2.2.2.1 h.2.2.2.2)))
     refine sw_skip (xr hP 6 rfl (⟨i + 1, ?_, ?_, ent_ok rfl ?_⟩))
     ·exact ⟨hlt, eqL_next hlt hlt2 hgo c6⟩
     ·omega
     ·simp [conj]
   ·obtain rfl : i = a.length := by simp at c4; omega
    refine sw_exit (sw_seq (xr hP 5 rfl (sw_ret ⟨.inl rfl, _, rfl, ?_⟩)))
    have hv := eqL_end c1 hgo
    simp [conj, hv]
def cLPo : Ctr := ⟨43, [.val true T_Pool (.all .b), .val true T_Pool (.all .b)], fun x => True, fun x => (sBool (decide ((x.1 : Pol) = x.2.1)), [])⟩
theorem cLPo_ok : CtrOk Proofs.Tryz.prog cLPo := by
 have hP := (((Prg.none ttok mtok).and cLDks_ok).and cLpaRoot_ok)
 refine ctr_of_body hP cLPo (fn := Proofs.Tryz.f43) (rts := [.tmp 4]) Proofs.Tryz.func43 rfl (by kernel_rfl) rfl rfl ?_
 rintro ⟨⟨(ds : List Dsk), (op : Bool), ⟨(tg : Int), (l : List Vol_)⟩, ⟨(tg2 : Int), (l2 : List Vol_)⟩⟩, ⟨(es : List Dsk), (oq : Bool), ⟨(ug : Int), (m : List Vol_)⟩, ⟨(ug2 : Int), (m2 : List Vol_)⟩⟩, ⟨⟩⟩ _ _
 try dsimp only [Ty.den, Mode.den, mdens] at _
 refine ⟨rfl, ?_⟩
 refine sw_seq (xr hP 1 rfl (sw_seq ?_))
 refine sw_dec hP 2 [] 5 rfl (fun g1_5 => ?_) (fun g1_5 => ?_)
 ·have k_g1_5 : ds = es := of_decide_eq_true g1_5
  cases k_g1_5
  refine sw_dec hP 2 [(5, true)] 12 rfl (fun g1_12 => ?_) (fun g1_12 => ?_)
  ·have k_g1_12 : op = oq := eq_of_beq g1_12
   cases k_g1_12
   refine sw_dec hP 2 [(5, true), (12, true)] 19 rfl (fun g1_19 => ?_) (fun g1_19 => ?_)
   ·have k_g1_19 : ((tg, l) : Root_) = (ug, m) := of_decide_eq_true g1_19
    cases k_g1_19
    refine xg hP 2 [(5, true), (12, true), (19, true)] rfl ?_ ?_
    ·simp only [cj, cl]
     try dsimp only [Ty.den, Ty.dflt]
     repeat' apply And.intro
     all_goals first | trivial | assumption | omega | exact decide_eq_true ‹_› | exact decide_eq_false ‹_› | (simp [*]; done)
    refine sw_ret ⟨.inl rfl, _, rfl, ?_⟩
    simp [conj]
    try (cases kw <;> cases lw <;> rfl)
   ·have k_g1_19 : ¬ (((tg, l) : Root_) = (ug, m)) := of_decide_eq_false g1_19
    refine xg hP 2 [(5, true), (12, true), (19, false)] rfl ?_ ?_
    ·simp only [cj, cl]
     try dsimp only [Ty.den, Ty.dflt]
     repeat' apply And.intro
     all_goals first | trivial | assumption | omega | exact decide_eq_true ‹_› | exact decide_eq_false ‹_› | (simp [*]; done)
    refine sw_ret ⟨.inl rfl, _, rfl, ?_⟩
    simp [conj]
    try (intros; subst_vars; exact absurd rfl k_g1_19)
  ·have k_g1_12 : ¬ (op = oq) := beq_eq_false_iff_ne.1 g1_12
   refine xg hP 2 [(5, true), (12, false)] rfl ?_ ?_
   ·simp only [cj, cl]
    try dsimp only [Ty.den, Ty.dflt]
    repeat' apply And.intro
    all_goals first | trivial | assumption | omega | exact decide_eq_true ‹_› | exact decide_eq_false ‹_› | (simp [*]; done)
   refine sw_ret ⟨.inl rfl, _, rfl, ?_⟩
   simp [conj]
   try (intros; subst_vars; exact absurd rfl k_g1_12)
 ·have k_g1_5 : ¬ (ds = es) := of_decide_eq_false g1_5
  refine xg hP 2 [(5, false)] rfl ?_ ?_
  ·simp only [cj, cl]
   try dsimp only [Ty.den, Ty.dflt]
   repeat' apply And.intro
   all_goals first | trivial | assumption | omega | exact decide_eq_true ‹_› | exact decide_eq_false ‹_› | (simp [*]; done)
  refine sw_ret ⟨.inl rfl, _, rfl, ?_⟩
  simp [conj]
  try (intros; subst_vars; exact absurd rfl k_g1_5)
def cModels : Ctr := ⟨123, [.val true T_Model (.all .b), .val true T_Model (.all .b)], fun x => True, fun x => (sBool (decide ((x.1 : Mdl) = x.2.1)), [])⟩
theorem cModels_ok : CtrOk Proofs.Tryz.prog cModels := by
 have hP := ((Prg.none ttok mtok).and cTexts_ok)
 refine ctr_of_body hP cModels (fn := Proofs.Tryz.f123) (rts := [.tmp 4]) Proofs.Tryz.func123 rfl (by kernel_rfl) rfl rfl ?_
 rintro ⟨(a : Mdl), (b : Mdl), ⟨⟩⟩ ⟨hda, hdb, _⟩ _
 try dsimp only [Ty.den, Mode.den, mdens] at _
 refine ⟨rfl, ?_⟩
 have hml : a.length ≤ 140737488355328 := hda.1
 have hmb : b.length ≤ 140737488355328 := hdb.1
 refine sw_seq (xr hP 1 rfl (sw_seq (sw_seq (xr hP 2 rfl (sw_cond rfl (fun c1 => ?_) (fun c1 => ?_))))))
 ·replace c1 : ¬ a.length = b.length := by simp at c1; omega
  refine sw_seq (xr hP 3 rfl (sw_ret ⟨.inl rfl, _, rfl, ?_⟩))
  have hv := eqL_len c1
  simp [conj, hv]
 ·replace c1 : a.length = b.length := by simp at c1; omega
  refine sw_skip (sw_seq (sw_seq (xr hP 3 rfl (sw_block (sw_loop (ι := Nat) (fun i => ⟨[.j, .j, .v false [.ptr ⟨1, 0, 0⟩ 0], .v false [.ptr ⟨1, 1, 0⟩ 0], .j, sInt .i64 (i : Int), .j, .j, .j, .j, .j, .j, .j, .j, .j, .j, .j, .j, .j, .j, .j, .j, .j, .j, .j, .j, .j, .j, .j, .j, .j, .j, .j, .j, .j, .j, .j, .j, .j, .j, .j, .j, .j, .j, .j, .j, .j, .j, .j], [(⟨1, 0, 0⟩, .var [.d T_Model (.all .b) a]), (⟨1, 1, 0⟩, .var [.d T_Model (.all .b) b])], 3, []⟩) (fun i => a.length - i) (fun i => i ≤ a.length ∧ decide (a.drop i = b.drop i) = decide (a = b)) 0 ⟨?_, ?_⟩ ?_)))))
  ·exact ⟨Nat.zero_le _, rfl⟩
  ·refine ent_ok rfl ?_
   simp [conj]
  ·rintro i ⟨hi, hgo⟩
   refine sw_seq (sw_seq (xr hP 4 rfl (sw_cond rfl (fun c4 => ?_) (fun c4 => ?_))))
   ·have hlt : i < a.length := by simpa using c4
    have hlt2 : i < b.length := by omega
    refine sw_skip (sw_seq (sw_block (sw_seq ?_)))
    refine sw_dec hP 5 [] 13 rfl (fun g6_13 => ?_) (fun g6_13 => ?_)
    ·replace g6_13 : ¬ a[i].1 = b[i].1 := by have h := g6_13; simp [gE hlt, gE hlt2] at h; exact h
     refine xg hP 5 [(13, true)] rfl ?_ ?_
     ·simp [conj, gE hlt, gE hlt2]
      repeat' apply And.intro
      all_goals first | omega | trivial
     refine sw_condT rfl (sw_seq (xr hP 6 rfl (sw_ret ⟨.inl rfl, _, rfl, ?_⟩)))
     have hv := eqL_hit hlt hlt2 hgo (fun e => g6_13 (by rw [e]))
     simp [conj, hv]
    ·replace g6_13 : a[i].1 = b[i].1 := by have h := g6_13; simp [gE hlt, gE hlt2] at h; exact h
     refine xg hP 5 [(13, false)] rfl ?_ ?_
     ·simp [conj, gE hlt, gE hlt2]
      repeat' apply And.intro
      all_goals first | omega | trivial
     refine sw_cond rfl (fun c6 => ?_) (fun c6 => ?_)
     ·replace c6 : ¬ a[i] = b[i] := by intro e; simp [gE hlt, gE hlt2, e] at c6
      refine sw_seq (xr hP 6 rfl (sw_ret ⟨.inl rfl, _, rfl, ?_⟩))
      have hv := eqL_hit hlt hlt2 hgo c6
      simp [conj, hv]
     ·replace c6 : a[i] = b[i] := by have h := c6; simp [gE hlt, gE hlt2] at h; exact Prod.ext g6_13 h
      refine sw_skip (xr hP 6 rfl (⟨i + 1, ?_, ?_, ent_ok rfl ?_⟩))
      ·exact ⟨hlt, eqL_next hlt hlt2 hgo c6⟩
      ·omega
      ·simp [conj]
   ·obtain rfl : i = a.length := by simp at c4; omega
    refine sw_exit (sw_seq (xr hP 5 rfl (sw_ret ⟨.inl rfl, _, rfl, ?_⟩)))
    have hv := eqL_end c1 hgo
    simp [conj, hv]
def cLWo : Ctr := ⟨49, [.val true T_World (.all .b), .val true T_World (.all .b)], fun x => True, fun x => (sBool (decide ((x.1 : Wor) = x.2.1)), [])⟩
theorem cLWo_ok : CtrOk Proofs.Tryz.prog cLWo := by
 have hP := (((Prg.none ttok mtok).and cLPo_ok).and cModels_ok)
 refine ctr_of_body hP cLWo (fn := Proofs.Tryz.f49) (rts := [.tmp 4]) Proofs.Tryz.func49 rfl (by kernel_rfl) rfl rfl ?_
 rintro ⟨⟨⟨(ds : List Dsk), (op : Bool), ⟨(tg : Int), (l : List Vol_)⟩, ⟨(tg2 : Int), (l2 : List Vol_)⟩⟩, (ka : Mdl), (kb : Mdl), (kc : Mdl), (kw : Bool)⟩, ⟨⟨(es : List Dsk), (oq : Bool), ⟨(ug : Int), (m : List Vol_)⟩, ⟨(ug2 : Int), (m2 : List Vol_)⟩⟩, (la : Mdl), (lb : Mdl), (lc : Mdl), (lw : Bool)⟩, ⟨⟩⟩ _ _
 try dsimp only [Ty.den, Mode.den, mdens] at _
 refine ⟨rfl, ?_⟩
 refine sw_seq (xr hP 1 rfl (sw_seq ?_))
 refine sw_dec hP 2 [] 5 rfl (fun g1_5 => ?_) (fun g1_5 => ?_)
 ·have k_g1_5 : ((ds, op, (tg, l), (tg2, l2)) : Pol) = ((es, oq, (ug, m), ug2, m2) : Pol) := of_decide_eq_true g1_5
  cases k_g1_5
  refine sw_dec hP 2 [(5, true)] 12 rfl (fun g1_12 => ?_) (fun g1_12 => ?_)
  ·have k_g1_12 : ka = la := of_decide_eq_true g1_12
   cases k_g1_12
   refine sw_dec hP 2 [(5, true), (12, true)] 19 rfl (fun g1_19 => ?_) (fun g1_19 => ?_)
   ·have k_g1_19 : kb = lb := of_decide_eq_true g1_19
    cases k_g1_19
    refine sw_dec hP 2 [(5, true), (12, true), (19, true)] 26 rfl (fun g1_26 => ?_) (fun g1_26 => ?_)
    ·have k_g1_26 : kc = lc := of_decide_eq_true g1_26
     cases k_g1_26
     refine xg hP 2 [(5, true), (12, true), (19, true), (26, true)] rfl ?_ ?_
     ·simp only [cj, cl]
      try dsimp only [Ty.den, Ty.dflt]
      repeat' apply And.intro
      all_goals first | trivial | assumption | omega | exact decide_eq_true ‹_› | exact decide_eq_false ‹_› | (simp [*]; done)
     refine sw_ret ⟨.inl rfl, _, rfl, ?_⟩
     simp [conj]
     try (cases kw <;> cases lw <;> rfl)
    ·have k_g1_26 : ¬ (kc = lc) := of_decide_eq_false g1_26
     refine xg hP 2 [(5, true), (12, true), (19, true), (26, false)] rfl ?_ ?_
     ·simp only [cj, cl]
      try dsimp only [Ty.den, Ty.dflt]
      repeat' apply And.intro
      all_goals first | trivial | assumption | omega | exact decide_eq_true ‹_› | exact decide_eq_false ‹_› | (simp [*]; done)
     refine sw_ret ⟨.inl rfl, _, rfl, ?_⟩
     simp [conj]
     try (intros; subst_vars; exact absurd rfl k_g1_26)
   ·have k_g1_19 : ¬ (kb = lb) := of_decide_eq_false g1_19
    refine xg hP 2 [(5, true), (12, true), (19, false)] rfl ?_ ?_
    ·simp only [cj, cl]
     try dsimp only [Ty.den, Ty.dflt]
     repeat' apply And.intro
     all_goals first | trivial | assumption | omega | exact decide_eq_true ‹_› | exact decide_eq_false ‹_› | (simp [*]; done)
    refine sw_ret ⟨.inl rfl, _, rfl, ?_⟩
    simp [conj]
    try (intros; subst_vars; exact absurd rfl k_g1_19)
  ·have k_g1_12 : ¬ (ka = la) := of_decide_eq_false g1_12
   refine xg hP 2 [(5, true), (12, false)] rfl ?_ ?_
   ·simp only [cj, cl]
    try dsimp only [Ty.den, Ty.dflt]
    repeat' apply And.intro
    all_goals first | trivial | assumption | omega | exact decide_eq_true ‹_› | exact decide_eq_false ‹_› | (simp [*]; done)
   refine sw_ret ⟨.inl rfl, _, rfl, ?_⟩
   simp [conj]
   try (intros; subst_vars; exact absurd rfl k_g1_12)
 ·have k_g1_5 : ¬ (((ds, op, (tg, l), (tg2, l2)) : Pol) = ((es, oq, (ug, m), ug2, m2) : Pol)) := of_decide_eq_false g1_5
  refine xg hP 2 [(5, false)] rfl ?_ ?_
  ·simp only [cj, cl]
   try dsimp only [Ty.den, Ty.dflt]
   repeat' apply And.intro
   all_goals first | trivial | assumption | omega | exact decide_eq_true ‹_› | exact decide_eq_false ‹_› | (simp [*]; done)
  refine sw_ret ⟨.inl rfl, _, rfl, ?_⟩
  simp [conj]
  try (intros; subst_vars; exact absurd rfl k_g1_5)
end Go.Sx

namespace Go.Sx
open Go Go.RowKit
theorem ctr_of_new {P : Program} {c : Ctr} {fn : Func} {body : Code} (hf : P.funcs[c.f]? = some fn) (hb : fn.body = some body) (hn : (fn.name == "runtime.NumGoroutine") = false) (href : noRefs c.ins = true)
  (h : ∀ G w args x, (∀ b, G.g b ≠ .no → b < w.heap.size) → Amb P G.g w → ArgsOk G w 0 c.ins x args → c.pre x → Calls P c.f args.toArray w fun e w' => ∃ v, e = .returned v ∧ Below w.heap.size w w' ∧
   (∀ G' : Gh, (∀ b, w.heap.size ≤ b → b < w'.heap.size → G'.g b = .per) → MtS G' w' (c.post x).1 v) ∧ (c.post x).2 = []) : @CtrOk P (loneJ P) c := by
 intro G V w args x hbnd hlv ham hargs hpre
 have hrun : (callFunc c.f args.toArray).run P w = .ok (.enter c.f args.toArray) w := by
  have hn' : ¬ fn.name = "runtime.NumGoroutine" := by simpa using hn
  simp [callFunc, hf, hn', hb]
 refine ⟨_, _, hrun, .inr (.inl ⟨rfl, ?_⟩)⟩
 intro cs
 obtain ⟨e, w', fr, ⟨v, rfl, hB, hm, hp⟩, h1, h2, h3⟩ := h G w args x hbnd ham hargs hpre cs
 refine ⟨_, w', fr, ?_, h1, h2, h3⟩
 let G' : Gh := ⟨fun _ => .bool false, fun b => if w.heap.size ≤ b ∧ b < w'.heap.size then .per else G.g b⟩
 have hk : ∀ b, G.g b ≠ .no → w'.heap[b]? = w.heap[b]? := fun b hb => hB.block b (hbnd b hb)
 have hg : ∀ b, b < w.heap.size → G'.g b = G.g b := fun b hb => if_neg (by omega)
 have hgn : ∀ b, G.g b ≠ .no → G'.g b = G.g b := fun b hb => hg b (hbnd b hb)
 refine ⟨fun _ => True, G', fun _ _ _ => trivial, ⟨fun _ h => h.elim, ⟨fun b hb => ⟨(hgn b (by rw [hb]; simp)).trans hb, hk b (by rw [hb]; simp)⟩, fun b hb => ⟨(hgn b (by rw [hb]; simp)).trans hb, hk b (by rw [hb]; simp)⟩⟩, fun b j q hq _ => ⟨(hgn b (by rw [hq]; simp)).trans hq, hk b (by rw [hq]; simp)⟩, fun b hlt hb => ⟨hB.block b hlt, (hg b hlt).trans hb⟩, fun b hb => ?_, fun _ _ => rfl, hB.os, hB.tape, hB.output, hB.size, fun b _ h => (hgn b (by rw [h]; simp)).trans h⟩, fun _ => rfl, ?_, hm G' (fun b h1 h2 => if_pos ⟨h1, h2⟩), ?_⟩
 ·by_cases hlt : w.heap.size ≤ b ∧ b < w'.heap.size
  ·exact hlt.2
  ·have : G'.g b = G.g b := if_neg hlt
   rw [this] at hb
   exact Nat.lt_of_lt_of_le (hbnd b hb) hB.size
 ·rw [noRefs_ptr href]; intro p hp; cases hp
 ·rw [hp]; intro i R hi; cases hi
theorem maxLen_cell {G : Gh} {w : World} (ham : Amb Proofs.Tryz.prog G.g w) : ∃ m, w.cell? ⟨2, 0, none⟩ = some (.int .i64 m) := by
 obtain ⟨_, C, t, fz, h1, m, h2⟩ := ham.1 "internal/bytealg.MaxLen" (fun cs => ∃ m, cs = [.int .i64 m]) (.tail _ (List.mem_cons_self ..)) 2 (by kernel_rfl)
 refine ⟨m, ?_⟩
 have : C = #[.int .i64 m] := Array.ext' h2
 simp [World.cell?, h1, this]
def cPref : Ctr := ⟨311, [.val false .str pF, .val false .str pF], fun _ => True, fun x => (sBool (Lib.hasPrefix x.1 x.2.1), [])⟩
theorem cPref_ok : CtrOk Proofs.Tryz.prog cPref := by
 refine ctr_of_below (fn := Proofs.Tryz.f311) Proofs.Tryz.func311 rfl rfl rfl ?_
 rintro G w args ⟨(s : Str), (p : Str), ⟨⟩⟩ _ _ ⟨v, vs, rfl, ⟨_, cs, rfl, _, ⟨rfl, hl⟩⟩, v2, vs2, rfl, ⟨_, cs2, rfl, _, ⟨rfl, hl2⟩⟩, rfl⟩ _
 refine (Proofs.Tryz.strings_HasPrefix (mkS s) (mkS p) w).mono ?_
 rintro e w' ⟨rfl, rfl⟩
 exact ⟨_, rfl, Below.refl _ _, fun G' => MtS.ofBool, rfl⟩
def cCut : Ctr := ⟨365, [.val false .str pF, .val false .str pF], fun x => List.length x.1 ≤ 1000000, fun x => (.tup [(false, [.d .str pF (Lib.cut x.1 x.2.1).1]), (false, [.d .str pF (Lib.cut x.1 x.2.1).2.1]), (false, [.d .bool pF (Lib.cut x.1 x.2.1).2.2])], [])⟩
theorem cut_len (s a : Str) : (Lib.cut s a).1.length ≤ s.length ∧ (Lib.cut s a).2.1.length ≤ s.length := by
 unfold Lib.cut
 split
 ·simp only [List.length_take, List.length_drop]; omega
 ·exact ⟨Nat.le_refl _, Nat.zero_le _⟩
theorem size_ok {s : Str} (h : s.length ≤ 1000000) : (mkS s).size < 4294967281 := by
 have : (mkS s).size = s.length := rfl
 omega
theorem maxL_ok {n : Nat} (h : n ≤ 1000000) : n ≤ maxL := by unfold maxL; omega
theorem drewN_below (w : World) (n : Nat) : Below w.heap.size w (w.drewN n) := ⟨rfl, rfl, rfl, Nat.le_refl _, fun _ _ => rfl⟩
theorem cCut_ok : CtrOk Proofs.Tryz.prog cCut := by
 refine ctr_of_below (fn := Proofs.Tryz.f365) Proofs.Tryz.func365 rfl rfl rfl ?_
 rintro G w args ⟨(s : Str), (a : Str), ⟨⟩⟩ _ ham ⟨v, vs, rfl, ⟨_, cs, rfl, _, ⟨rfl, hl⟩⟩, v2, vs2, rfl, ⟨_, cs2, rfl, _, ⟨rfl, hl2⟩⟩, rfl⟩ hpre
 replace hpre : s.length ≤ 1000000 := hpre
 obtain ⟨m, hm⟩ := maxLen_cell ham
 refine (Proofs.Tryz.strings_Cut (mkS s) (mkS a) m w (size_ok hpre) hm).mono ?_
 rintro e w' ⟨rfl, n, rfl⟩
 have hc := cut_len s a
 exact ⟨_, rfl, drewN_below w n, fun G' => ⟨_, rfl, _, _, rfl, (MtS.ofStr (maxL_ok (by show (Lib.cut s a).1.length ≤ _; omega)) : MtS G' _ (sStr (Lib.cut s a).1) _), _, _, rfl, (MtS.ofStr (maxL_ok (by show (Lib.cut s a).2.1.length ≤ _; omega)) : MtS G' _ (sStr (Lib.cut s a).2.1) _), _, _, rfl, (MtS.ofBool : MtS G' _ (sBool (Lib.cut s a).2.2) _), rfl⟩, rfl⟩
def cAtoi : Ctr := ⟨364, [.val false .str pF], fun x => List.length x.1 ≤ 1000000, fun x => (.tup [(false, [.d TI pF (atoN x.1)]), (false, [.d .er pF (atoE x.1)])], [])⟩
theorem errVar_cell {G : Gh} {w : World} (ham : Amb Proofs.Tryz.prog G.g w) : (∃ t p, w.cell? ⟨7, 0, none⟩ = some (.iface t p)) ∧ ∃ t p, w.cell? ⟨8, 0, none⟩ = some (.iface t p) := by
 constructor
 ·obtain ⟨_, C, t, fz, h1, t2, p, h2⟩ := ham.1 "strconv.ErrSyntax" (fun cs => ∃ t p, cs = [.iface t p]) (.tail _ (.tail _ (List.mem_cons_self ..))) 7 (by kernel_rfl)
  refine ⟨t2, p, ?_⟩
  have : C = #[.iface t2 p] := Array.ext' h2
  simp [World.cell?, h1, this]
 ·obtain ⟨_, C, t, fz, h1, t2, p, h2⟩ := ham.1 "strconv.ErrRange" (fun cs => ∃ t p, cs = [.iface t p]) (.tail _ (.tail _ (.tail _ (List.mem_cons_self ..)))) 8 (by kernel_rfl)
  refine ⟨t2, p, ?_⟩
  have : C = #[.iface t2 p] := Array.ext' h2
  simp [World.cell?, h1, this]
theorem cAtoi_ok : CtrOk Proofs.Tryz.prog cAtoi := by
 refine ctr_of_below (fn := Proofs.Tryz.f364) Proofs.Tryz.func364 rfl rfl rfl ?_
 rintro G w args ⟨(s : Str), ⟨⟩⟩ _ ham ⟨v, vs, rfl, ⟨_, cs, rfl, _, ⟨rfl, hl⟩⟩, rfl⟩ hpre
 replace hpre : s.length ≤ 1000000 := hpre
 have hsz : (mkS s).size = s.length := rfl
 obtain ⟨⟨t5, p5, h5⟩, t6, p6, h6⟩ := errVar_cell ham
 cases h : Lib.atoiAll s with
 | ok n =>
  have hb := Lib.atoiAll_bounds h
  refine (Proofs.Tryz.strconv_Atoi_ok (mkS s) (by omega) n h w).mono ?_
  rintro e w' ⟨rfl, hw⟩
  refine ⟨_, rfl, ?_, fun G' => ⟨_, rfl, _, _, rfl, ?_, _, _, rfl, ?_, rfl⟩, rfl⟩
  ·rcases hw with rfl | ⟨t, rfl⟩
   ·exact Below.refl _ _
   ·exact Lib.bytesWorld_below w 5 t
  ·show MtS G' w' (sInt .i64 (atoN s)) _
   unfold atoN
   rw [h]
   exact .ofInt (by rw [inR_i64]; exact hb)
  ·show MtS G' w' (.v false [.d .er pF (atoE s)]) _
   unfold atoE
   rw [h]
   exact .of1 rfl ⟨rfl, _, rfl, .inl ⟨rfl, rfl⟩⟩
 | range =>
  refine (Proofs.Tryz.strconv_Atoi_range (mkS s) (by omega) h _ w h6 (.inr ⟨_, _, rfl⟩)).mono ?_
  rintro e w' ⟨N, rfl, _, _, hB⟩
  refine ⟨_, rfl, hB, fun G' => ⟨_, rfl, _, _, rfl, ?_, _, _, rfl, ?_, rfl⟩, rfl⟩
  ·show MtS G' w' (sInt .i64 (atoN s)) _
   unfold atoN
   rw [h]
   refine .ofInt ?_
   rw [inR_i64]
   show _ ≤ Lib.atoiSat s ∧ Lib.atoiSat s ≤ _
   unfold Lib.atoiSat
   split <;> decide
  ·show MtS G' w' (.v false [.d .er pF (atoE s)]) _
   unfold atoE
   rw [h]
   exact .of1 rfl ⟨rfl, _, rfl, .inr (.inr ⟨rfl, _, _, rfl⟩)⟩
 | _ =>
  refine (Proofs.Tryz.strconv_Atoi_syntax (mkS s) (by omega) h _ w h5 (.inr ⟨_, _, rfl⟩)).mono ?_
  rintro e w' ⟨N, rfl, _, _, hB⟩
  refine ⟨_, rfl, hB, fun G' => ⟨_, rfl, _, _, rfl, ?_, _, _, rfl, ?_, rfl⟩, rfl⟩
  ·show MtS G' w' (sInt .i64 (atoN s)) _
   unfold atoN
   rw [h]
   exact .ofInt (by rw [inR_i64]; show (-9223372036854775808 : Int) ≤ 0 ∧ (0 : Int) ≤ 9223372036854775807; decide)
  ·show MtS G' w' (.v false [.d .er pF (atoE s)]) _
   unfold atoE
   rw [h]
   exact .of1 rfl ⟨rfl, _, rfl, .inr (.inr ⟨rfl, _, _, rfl⟩)⟩
def cSplit : Ctr := ⟨282, [.val false .str pF, .val false .str pF], fun x => List.length x.1 ≤ 1000000 ∧ List.length x.2.1 = 1, fun x => (.v false [.d (.sl .str) pF (cutV (List.headD x.2.1 0) x.1)], [])⟩
theorem cutGo_len {a : UInt8} : ∀ {s cur : Str}, ∀ x ∈ cutGo a cur s, x.length ≤ cur.length + s.length := by
 intro s
 induction s with
 | nil => intro cur x hx; rw [List.mem_singleton.1 hx]; exact Nat.le_add_right _ _
 | cons c s ih =>
  intro cur x hx
  simp only [cutGo] at hx
  split at hx
  ·rcases List.mem_cons.1 hx with rfl | hx
   ·exact Nat.le_add_right _ _
   ·have := ih x hx
    simp only [List.length_nil, List.length_cons] at this ⊢
    omega
  ·have := ih x hx
   simp only [List.length_append, List.length_cons, List.length_nil] at this ⊢
   omega
theorem cutV_len {a : UInt8} {s : Str} : ∀ x ∈ cutV a s, x.length ≤ s.length := fun x hx => by
 have := cutGo_len x hx
 simpa using this
theorem cSplit_ok : CtrOk Proofs.Tryz.prog cSplit := by
 refine ctr_of_new (fn := Proofs.Tryz.f282) Proofs.Tryz.func282 rfl rfl rfl ?_
 rintro G w args ⟨(s : Str), (p : Str), ⟨⟩⟩ _ ham ⟨v, vs, rfl, ⟨_, cs, rfl, _, ⟨rfl, hl⟩⟩, v2, vs2, rfl, ⟨_, cs2, rfl, _, ⟨rfl, hl2⟩⟩, rfl⟩ ⟨hpre, hp1⟩
 replace hpre : s.length ≤ 1000000 := hpre
 obtain ⟨a, rfl⟩ : ∃ a, p = [a] := List.length_eq_one_iff.1 hp1
 obtain ⟨m, hm⟩ := maxLen_cell ham
 refine (Proofs.Tryz.strings_Split (mkS s) (mkS [a]) m w (size_ok hpre) hm (Nat.le_refl _)).mono ?_
 rintro e w' ⟨rfl, rfl⟩
 have hlen : (Lib.splitB (mkS [a]) 0 (Lib.countB (mkS s) (mkS [a])) (mkS s)).length = Lib.countB (mkS s) (mkS [a]) + 1 := Lib.splitB_all (mkS [a]) (Nat.le_refl _) 0 _ (mkS s) rfl
 have hcl : Lib.countB (mkS s) (mkS [a]) ≤ s.length := Lib.countB_le (mkS [a]) (Nat.le_refl _) _ (mkS s) (Nat.le_refl _)
 have hcut : (Lib.splitB (mkS [a]) 0 (Lib.countB (mkS s) (mkS [a])) (mkS s)).map (·.data.toList) = cutV a s := split_cut
 have hcl2 : (cutV a s).length = Lib.countB (mkS s) (mkS [a]) + 1 := by rw [← hcut, List.length_map, hlen]
 refine ⟨_, rfl, (Below.refl _ w).alloc (Nat.le_refl _) _, fun G' hper => ?_, rfl⟩
 have hper0 := hper w.heap.size (Nat.le_refl _) (by simp [World.size_alloc])
 refine .of1 rfl ⟨rfl, some ⟨w.heap.size, 0, none⟩, _, _, rfl, hcl2.symm, Nat.le_refl _, by unfold maxL; omega, fun _ => rfl, .inr ⟨w.heap.size, 0, ((Lib.splitB (mkS [a]) 0 (Lib.countB (mkS s) (mkS [a])) (mkS s)).map Value.string).toArray, 9, (0, 0), rfl, hper0, ?_, ?_, fun h => (by cases h), ?_⟩⟩
 ·show (w.heap.push _)[w.heap.size]? = _
  exact Array.getElem?_push_size
 ·simp [hlen, Ty.size]
 ·intro j x hx
  have hx' : (cutV a s)[j]? = some x := hx
  rw [← hcut, List.getElem?_map, Option.map_eq_some_iff] at hx'
  obtain ⟨y, hy, rfl⟩ := hx'
  have hmem : y.data.toList ∈ cutV a s := by rw [← hcut]; exact List.mem_map_of_mem (List.mem_of_getElem? hy)
  refine ⟨?_, maxL_ok (Nat.le_trans (cutV_len _ hmem) hpre)⟩
  unfold cellsAt
  rw [show (0 + j * Ty.str.size) = j by simp [Ty.size], show Ty.str.size = 1 from rfl]
  simp only [List.toList_toArray]
  rw [List.drop_eq_getElem_cons (by rw [List.length_map]; exact (List.getElem?_eq_some_iff.1 hy).1)]
  simp only [List.take_succ_cons, List.take_zero, List.getElem_map, (List.getElem?_eq_some_iff.1 hy).2]
  rfl
open Go.Extern.Stop Go.Stop Go.Extern
theorem isTypeOf (v : Value) (w : World) : (Extern.ReflectliteType.typeOf #[.iface 445 v]).run Proofs.Tryz.prog w = .ok (.iface 382 (.agg #[.pointer (some ⟨9, 445, none⟩)])) w := by kernel_rfl
def cmpX : Array Value → Sem Value := Extern.ReflectliteType.method fun t => do Extern.Rtype.noPackHeld "Comparable" t; pure (.bool (← typeInfo t).comparable)
theorem isComparable (w : World) : (cmpX #[.agg #[.pointer (some ⟨9, 445, none⟩)]]).run Proofs.Tryz.prog w = .ok (.bool true) w := by kernel_rfl
theorem isComp : (Proofs.Tryz.prog.info? 445).map (·.comparable) = some true := by kernel_rfl
theorem isSize : (Proofs.Tryz.prog.info? 447).map (·.size) = some 1 := by kernel_rfl
theorem isMethodComparable (v : Value) (w : World) : (Go.method 577 382 v "Comparable").run Proofs.Tryz.prog w = .ok (449, v) w := by kernel_rfl
set_option maxRecDepth 100000 in
set_option maxHeartbeats 1000000 in
theorem is_same (a : Addr) (w : World) :
  Calls Proofs.Tryz.prog 284 #[.iface 445 (.pointer (some a)), .iface 445 (.pointer (some a))] w fun e w' => e = .returned (.bool true) ∧ w' = w := by
 obtain ⟨i, hi, hcmp⟩ := Option.map_eq_some_iff.1 isComp
 obtain ⟨j, hj, hjs⟩ := Option.map_eq_some_iff.1 isSize
 have h8 := @run_callFunc_extern Proofs.Tryz.prog 333 _ Extern.ReflectliteType.typeOf Proofs.Tryz.func333 (by kernel_rfl) (by kernel_rfl) (by kernel_rfl) (by kernel_rfl)
 have h32 := @run_callFunc_extern Proofs.Tryz.prog 449 _ cmpX Proofs.Tryz.func449 (by kernel_rfl) (by kernel_rfl) (by kernel_rfl) (by kernel_rfl)
 have tT := isTypeOf
 have cT := isComparable
 have mR := isMethodComparable
 have heq := run_eql_iface_ptr_same (P := Proofs.Tryz.prog) w a Proofs.Tryz.underlying304 Proofs.Tryz.underlying445 hi hcmp hj
 open Proofs.Tryz in go_enter func284, ntmps284
 go_wp2
 refine wp_loop_rounds 1 ?_
 rw [rounds_succ]
 go_wp2
 go_ret
 exact ⟨rfl, rfl⟩
set_option maxRecDepth 100000 in
theorem is_nil (b : Addr) (w : World) :
  Calls Proofs.Tryz.prog 284 #[.nilIface, .iface 445 (.pointer (some b))] w fun e w' => e = .returned (.bool false) ∧ w' = w := by
 have hn := run_eql_iface_nil_left (P := Proofs.Tryz.prog) w 445 (.pointer (some b)) Proofs.Tryz.underlying304
 open Proofs.Tryz in go_enter func284, ntmps284
 go_wp2
 go_ret
 exact ⟨rfl, rfl⟩
def cIs : Ctr := ⟨284, [.val false .er pF, .val false .er pF], fun x => x.1 ≤ 1 ∧ x.2.1 = 1, fun x => (sBool (Nat.beq x.1 1), [])⟩
theorem cIs_ok : CtrOk Proofs.Tryz.prog cIs := by
 refine ctr_of_below (fn := Proofs.Tryz.f284) Proofs.Tryz.func284 rfl rfl rfl ?_
 rintro G w args ⟨(e : Nat), (t : Nat), ⟨⟩⟩ _ ham ⟨v, vs, rfl, ⟨_, cs, rfl, _, ⟨u, rfl, h1⟩⟩, v2, vs2, rfl, ⟨_, cs2, rfl, _, ⟨u2, rfl, h2⟩⟩, rfl⟩ ⟨hp1, hp2⟩
 replace hp1 : e ≤ 1 := hp1
 replace hp2 : t = 1 := hp2
 subst hp2
 rcases h2 with h2 | ⟨_, hg, C, t2, fz, A, hh, hC, rfl⟩ | h2
 ·exact absurd (show (1 : Nat) = 0 from h2.1) (by decide)
 ·rcases h1 with ⟨he, rfl⟩ | ⟨he, _, C', t3, fz', A', hh', hC', rfl⟩ | h1
  ·replace he : e = 0 := he
   subst he
   refine (is_nil A w).mono ?_
   rintro e w' ⟨rfl, rfl⟩
   exact ⟨_, rfl, Below.refl _ _, fun G' => MtS.ofBool, rfl⟩
  ·replace he : e = 1 := he
   subst he
   rw [hh] at hh'
   simp only [Option.some.injEq, Obj.cells.injEq] at hh'
   rw [← hh'.1, hC] at hC'
   simp only [List.cons.injEq, Value.iface.injEq, Value.pointer.injEq, Option.some.injEq, and_true, true_and] at hC'
   subst hC'
   refine (is_same A w).mono ?_
   rintro e w' ⟨rfl, rfl⟩
   exact ⟨_, rfl, Below.refl _ _, fun G' => MtS.ofBool, rfl⟩
  ·have : e = 2 := h1.1
   omega
 ·exact absurd (show (1 : Nat) = 2 from h2.1) (by decide)
end Go.Sx

namespace Go.Sx
open Go
set_option maxRecDepth 100000
set_option linter.unusedVariables false
set_option linter.unusedSimpArgs false
set_option maxHeartbeats 2000000
def cNextI : Ctr := ⟨331, [.ref T_rootReader pF, .val false .str pF], fun x => RdOk x.1 ∧ List.length x.2.1 ≤ 1000, fun x => (sBool (nextI x.2.1 x.1), [(⟨0, 0, 0⟩, .var [.d (.sl .str) pF x.1.1, .d .er pF x.1.2])])⟩
theorem cNextI_ok : CtrOk Proofs.Tryz.prog cNextI := by
 have hP := ((Prg.none ttok mtok).and cPref_ok)
 refine ctr_of_body hP cNextI (fn := Proofs.Tryz.f331) (rts := [.tmp 4]) Proofs.Tryz.func331 rfl (by kernel_rfl) rfl rfl ?_
 rintro ⟨⟨(ls : List Str), (er : Nat)⟩, (f : Str), ⟨⟩⟩ _ ⟨hpre, hfl⟩
 try dsimp only [Ty.den, Mode.den, mdens] at hpre
 try dsimp only [Ty.den, Mode.den, mdens] at hfl
 refine ⟨rfl, ?_⟩
 replace hpre : RdOk (ls, er) := hpre
 replace hfl : f.length ≤ 1000 := hfl
 have hl : ∀ l ∈ ls, l.length ≤ 700 := hpre.1
 have hn : ls.length ≤ 701 := hpre.2
 refine sw_seq (xr hP 1 rfl (sw_seq ?_))
 refine sw_dec hP 2 [] 6 rfl (fun g1_6 => ?_) (fun g1_6 => ?_)
 ·have hlt : 0 < ls.length := by simpa using g1_6
  have h0 := hl _ (List.getElem_mem hlt)
  have hne : ¬ ls = [] := by intro e; rw [e] at hlt; cases hlt
  refine xg hP 2 [(6, true)] rfl ?_ ?_
  ·simp [conj, maxL, bytesL, gE hlt]
   repeat' apply And.intro
   all_goals first | omega | trivial
  refine sw_ret ⟨.inl rfl, _, rfl, ?_⟩
  simp [conj, nextI, hne, bytesL, gE hlt]
 ·obtain rfl : ls = [] := by have h : decide ((0 : Int) < (ls.length : Int)) = false := g1_6; simpa using h
  refine xg hP 2 [(6, false)] rfl ?_ ?_
  ·simp [conj]
  refine sw_ret ⟨.inl rfl, _, rfl, ?_⟩
  simp [conj, nextI]
def cWordsI : Ctr := ⟨330, [.ref T_rootReader pF, .val false .str pF], fun x => RdOk x.1, fun x => (.v false [.d (.sl .str) pF (wordsI x.2.1 x.1).1], [(⟨0, 0, 0⟩, .var [.d (.sl .str) pF (wordsI x.2.1 x.1).2.1, .d .er pF (wordsI x.2.1 x.1).2.2])])⟩
theorem cWordsI_ok : CtrOk Proofs.Tryz.prog cWordsI := by
 have hP := ((Prg.none ttok mtok).and cSplit_ok)
 refine ctr_of_body hP cWordsI (fn := Proofs.Tryz.f330) (rts := [.tmp 4]) Proofs.Tryz.func330 rfl (by kernel_rfl) rfl rfl ?_
 rintro ⟨⟨(ls : List Str), (er : Nat)⟩, (f : Str), ⟨⟩⟩ _ hpre
 try dsimp only [Ty.den, Mode.den, mdens] at hpre
 refine ⟨rfl, ?_⟩
 replace hpre : RdOk (ls, er) := hpre
 have hl : ∀ l ∈ ls, l.length ≤ 700 := hpre.1
 have hn : ls.length ≤ 701 := hpre.2
 refine sw_seq (xr hP 1 rfl (sw_seq (sw_seq (xr hP 2 rfl (sw_cond rfl (fun c1 => ?_) (fun c1 => ?_))))))
 ·have hlt : ls.length = 0 := by simpa using c1
  obtain rfl : ls = [] := List.eq_nil_of_length_eq_zero hlt
  refine sw_seq (xr hP 3 rfl (sw_seq (xr hP 4 rfl (sw_ret ⟨.inl rfl, _, rfl, ?_⟩))))
  simp [conj, wordsI]
 ·have hlt : 0 < ls.length := by
    rcases Nat.eq_zero_or_pos ls.length with h | h
    · simp [h] at c1
    · exact h
  have h0 := hl _ (List.getElem_mem hlt)
  have hcv := List.length_pos_iff.2 (cutV_ne (a := 32) (s := ls[0]))
  refine sw_skip (sw_seq (xg hP 3 [] rfl ?_ ?_))
  ·simp [conj, gE hlt, bytesL]
   repeat' apply And.intro
   all_goals first | omega | trivial | (show List.length ls[0] ≤ 1000000; omega)
  refine sw_seq (xg hP 4 [] rfl ?_ ?_)
  ·simp [conj, gE hlt]
   repeat' apply And.intro
   all_goals first | omega | trivial
  refine sw_seq (sw_seq (xg hP 5 [] rfl ?_ ?_))
  ·simp [conj, gE hlt, bytesL]
   repeat' apply And.intro
   all_goals first | omega | trivial
  refine sw_cond rfl (fun c6 => ?_) (fun c6 => ?_)
  ·have hw : ¬ (cutV 32 ls[0])[0] = f := by simpa [gE hlt, bytesL, gE hcv] using c6
   refine xr hP 6 rfl (sw_seq (xg hP 7 [] rfl ?_ ?_))
   ·simp [conj, gE hlt, bytesL]
    repeat' apply And.intro
    all_goals first | omega | trivial
   refine sw_ret ⟨.inl rfl, _, rfl, ?_⟩
   have hne : ¬ ls.length = 0 := by omega
   simp [conj, wordsI, hne, gE hlt, gE hcv, hw, bytesL]
  ·have hw : (cutV 32 ls[0])[0] = f := by simpa [gE hlt, bytesL, gE hcv] using c6
   refine sw_skip (sw_seq (xg hP 6 [] rfl ?_ ?_))
   ·simp [conj, gE hlt, bytesL]
    repeat' apply And.intro
    all_goals first | omega | trivial
   refine sw_ret ⟨.inl rfl, _, rfl, ?_⟩
   have hne : ¬ ls.length = 0 := by omega
   simp [conj, wordsI, hne, gE hlt, gE hcv, hw, bytesL]
def cNumI : Ctr := ⟨328, [.ref T_rootReader pF, .val false .str pF], fun x => List.length x.2.1 ≤ 1000000, fun x => (sInt .i64 (numI x.2.1 x.1).1, [(⟨0, 0, 0⟩, .var [.d (.sl .str) pF (numI x.2.1 x.1).2.1, .d .er pF (numI x.2.1 x.1).2.2])])⟩
theorem cNumI_ok : CtrOk Proofs.Tryz.prog cNumI := by
 have hP := ((Prg.none ttok mtok).and cAtoi_ok)
 refine ctr_of_body hP cNumI (fn := Proofs.Tryz.f328) (rts := [.tmp 4]) Proofs.Tryz.func328 rfl (by kernel_rfl) rfl rfl ?_
 rintro ⟨⟨(ls : List Str), (er : Nat)⟩, (f : Str), ⟨⟩⟩ _ hpre
 try dsimp only [Ty.den, Mode.den, mdens] at hpre
 refine ⟨rfl, ?_⟩
 replace hpre : f.length ≤ 1000000 := hpre
 refine sw_seq (xr hP 1 rfl (sw_seq (xg hP 2 [] rfl ?_ ?_)))
 ·simp only [cj, cl]
  try dsimp only [Ty.den, Ty.dflt]
  repeat' apply And.intro
  all_goals first | omega | assumption | trivial
 refine sw_seq (sw_seq (xr hP 3 rfl (sw_cond rfl (fun c2 => ?_) (fun c2 => ?_))))
 ·have he : ¬ atoE f = 0 := by have h : (!Nat.beq (atoE f) 0) = true := c2; intro e; rw [e] at h; cases h
  refine xr hP 4 rfl (sw_seq (xr hP 5 rfl (sw_ret ⟨.inl rfl, _, rfl, ?_⟩)))
  simp [conj, numI, he]
 ·have he : atoE f = 0 := by have h : (!Nat.beq (atoE f) 0) = false := c2; simpa using h
  refine sw_skip (sw_seq (xr hP 4 rfl (sw_ret ⟨.inl rfl, _, rfl, ?_⟩)))
  simp [conj, numI, he]
def cOnlyI : Ctr := ⟨329, [.ref T_rootReader pF, .val false (.sl .str) pF], fun x => True, fun x => (sStr (onlyI x.2.1 x.1).1, [(⟨0, 0, 0⟩, .var [.d (.sl .str) pF (onlyI x.2.1 x.1).2.1, .d .er pF (onlyI x.2.1 x.1).2.2])])⟩
theorem cOnlyI_ok : CtrOk Proofs.Tryz.prog cOnlyI := by
 have hP := (Prg.none ttok mtok)
 refine ctr_of_body hP cOnlyI (fn := Proofs.Tryz.f329) (rts := [.tmp 4]) Proofs.Tryz.func329 rfl (by kernel_rfl) rfl rfl ?_
 rintro ⟨⟨(ls : List Str), (er : Nat)⟩, (ws : List Str), ⟨⟩⟩ _ _
 try dsimp only [Ty.den, Mode.den, mdens] at _
 refine ⟨rfl, ?_⟩
 refine sw_seq (xr hP 1 rfl (sw_seq (sw_seq (xr hP 2 rfl (sw_cond rfl (fun c1 => ?_) (fun c1 => ?_))))))
 ·have hw : ¬ ws.length = 1 := by have h := c1; simp at h; omega
  refine sw_seq (xr hP 3 rfl (sw_seq (xr hP 4 rfl (sw_ret ⟨.inl rfl, _, rfl, ?_⟩))))
  simp [conj, onlyI, hw, bytesL]
 ·have hw : ws.length = 1 := by have h := c1; simp at h; omega
  have hlt : 0 < ws.length := by omega
  refine sw_skip (sw_seq (xg hP 3 [] rfl ?_ ?_))
  ·simp [conj, gE hlt]
   repeat' apply And.intro
   all_goals first | omega | trivial
  refine sw_ret ⟨.inl rfl, _, rfl, ?_⟩
  simp [conj, onlyI, hw, bytesL]
end Go.Sx

namespace Go.Sx
open Go
set_option maxRecDepth 100000
set_option linter.unusedVariables false
set_option linter.unusedSimpArgs false
set_option maxHeartbeats 2000000
def cPtrI : Ctr := ⟨332, [.ref T_rootReader pF], fun x => RdOk x.1, fun x => (.v true [.d TI pF (ptrI x.1).1.1, .d TI pF (ptrI x.1).1.2.1, .own ⟨1, 0, 0⟩], [(⟨0, 0, 0⟩, .var [.d (.sl .str) pF (ptrI x.1).2.1, .d .er pF (ptrI x.1).2.2]), (⟨1, 0, 0⟩, .sl T_Place pF (ptrI x.1).1.2.2)])⟩
theorem cPtrI_ok : CtrOk Proofs.Tryz.prog cPtrI := by
 have hP := (((((Prg.none ttok mtok).and cNextI_ok).and cWordsI_ok).and cNumI_ok).and cCut_ok)
 refine ctr_of_body hP cPtrI (fn := Proofs.Tryz.f332) (rts := [.cell 2 26]) Proofs.Tryz.func332 rfl (by kernel_rfl) rfl rfl ?_
 rintro ⟨⟨(ls : List Str), (er : Nat)⟩, ⟨⟩⟩ _ hpre
 try dsimp only [Ty.den, Mode.den, mdens] at hpre
 refine ⟨rfl, ?_⟩
 replace hpre : RdOk (ls, er) := hpre
 refine sw_seq (xr hP 1 rfl (sw_seq (sw_seq (xg hP 2 [] rfl ?_ ?_))))
 ·simp only [cj, cl]
  try dsimp only [Ty.den, Ty.dflt]
  repeat' apply And.intro
  all_goals first | omega | assumption | trivial | exact hpre | (show 4 ≤ 1000; decide)
 refine sw_cond rfl (fun c1 => ?_) (fun c1 => ?_)
 ·replace c1 : nextI nN (ls, er) = true := c1
  refine sw_seq (xg hP 3 [] rfl ?_ ?_)
  ·simp only [cj, cl]
   try dsimp only [Ty.den, Ty.dflt]
   repeat' apply And.intro
   all_goals first | omega | assumption | trivial | exact hpre
  refine sw_seq (xr hP 4 rfl (sw_ret ⟨.inl rfl, _, rfl, ?_⟩))
  have hv : ptrI (ls, er) = ((0, 0, []), (wordsI nN (ls, er)).2) := by
    unfold ptrI
    rw [if_pos c1]
  rw [hv]
  simp [conj, bytesL, nN]
 ·replace c1 : ¬ nextI nN (ls, er) = true := by have h : nextI nN (ls, er) = false := c1; rw [h]; decide
  refine sw_skip (sw_seq (xg hP 3 [] rfl ?_ ?_))
  ·simp only [cj, cl]
   try dsimp only [Ty.den, Ty.dflt]
   repeat' apply And.intro
   all_goals first | omega | assumption | trivial | exact hpre
  refine sw_seq (sw_seq ?_)
  obtain ⟨q, hq⟩ : ∃ q, wordsI tPtr (ls, er) = q := ⟨_, rfl⟩
  have hqo : RdOk q.2 := hq ▸ (words_ok hpre).1
  have hql : (∀ w ∈ q.1, w.length ≤ 700) ∧ q.1.length ≤ 701 := hq ▸ words_len hpre
  refine sw_ent (st' := ⟨[.v false [.ptr ⟨0, 0, 0⟩ 0], .j, .v false [.ptr ⟨1, 0, 0⟩ 0], .v false [.d (.sl .str) pF q.1], .j, .j, .j, .j, .j, .j, .j, .j, .j, .j, .j, .j, .j, .j, .j, .j, .j, .j, .j, .j, .j, .j, .j, .j, .j, .j, .j, .j, .j, .j, .j, .j, .j, .j, .j, .j, .j, .j, .j, .j, .j, .j, .j, .j, .j, .j, .j, .j, .j, .j, .j, .j, .j, .j, .j, .j, .j, .j, .j], [(⟨0, 0, 0⟩, .var [.d (.sl .str) pF q.2.1, .d .er pF q.2.2]), (⟨1, 0, 0⟩, .var [.d TI pF 0, .d TI pF 0, .d (.sl T_Place) pF []])], 3, [[.v false [.ptr ⟨0, 0, 0⟩ 0]]]⟩) (ent_ok rfl ?_) ?_
  ·simp [conj, ← hq, bytesL, tPtr]
  refine xr hP 4 rfl (sw_cond rfl (fun c5 => ?_) (fun c5 => ?_))
  ·replace c5 : q.1.length < 2 := by have h := c5; simp at h; omega
   refine sw_seq (xr hP 5 rfl (sw_seq (xr hP 6 rfl (sw_ret ⟨.inl rfl, _, rfl, ?_⟩))))
   have hv : ptrI (ls, er) = ((0, 0, []), (q.2.1, 1)) := by
     unfold ptrI
     simp only [hq]
     rw [if_neg c1, if_pos c5]
   simp [conj, hv]
  ·replace c5 : ¬ q.1.length < 2 := by have h := c5; simp at h; omega
   have h0 : 0 < q.1.length := by omega
   have h1 : 1 < q.1.length := by omega
   have l0 := hql.1 _ (List.getElem_mem h0)
   have l1 := hql.1 _ (List.getElem_mem h1)
   have hl2 : (q.1.drop 2).length ≤ 701 := by rw [List.length_drop]; omega
   refine sw_skip (sw_seq (xg hP 5 [] rfl ?_ ?_))
   ·simp [conj, gE h0, gE h1]
    repeat' apply And.intro
    all_goals first | omega | trivial | exact Int.ofNat_lt.2 h1 | exact Int.ofNat_lt.2 h0 | (show List.length q.1[0] ≤ 1000000; omega) | (show List.length q.1[1] ≤ 1000000; omega)
   refine sw_seq (sw_seq (xg hP 6 [] rfl ?_ ?_))
   ·simp [conj]
    repeat' apply And.intro
    all_goals first | omega | trivial
   refine sw_block (sw_loop (ι := Nat × List Plc × RdS) (fun ⟨i, out, s⟩ => ⟨[.v false [.ptr ⟨0, 0, 0⟩ 0], .j, .v false [.ptr ⟨1, 0, 0⟩ 0], .j, .v false [.ptr ⟨5, 11, 0⟩ 0], .j, .j, .j, .j, .j, .j, .j, .j, .j, .j, .j, .j, .j, .j, .j, .j, .j, .j, .j, .j, .j, .j, .j, .j, .j, .j, .j, .j, .j, .j, .j, .j, .v false [.d (.sl .str) pF (q.1.drop 2)], sInt .i64 ((q.1.drop 2).length : Int), sInt .i64 (i : Int), .j, .j, .j, .j, .j, .j, .j, .j, .j, .j, .j, .j, .j, .j, .j, .j, .j, .j, .j, .j, .j, .j, .j], [(⟨0, 0, 0⟩, .var [.d (.sl .str) pF s.1, .d .er pF s.2]), (⟨1, 0, 0⟩, .var [.d TI pF 0, .d TI pF 0, .d (.sl T_Place) pF []]), (⟨5, 11, 0⟩, .var [.d TI pF (atoN (q.1.getD 0 [])), .d TI pF (atoN (q.1.getD 1 [])), .own ⟨0, 9, 0⟩]), (⟨0, 9, 0⟩, .sl T_Place pF out)], 6, [[.v false [.ptr ⟨0, 0, 0⟩ 0]]]⟩) (fun ⟨i, out, s⟩ => (q.1.drop 2).length - i) (fun ⟨i, out, s⟩ => i ≤ (q.1.drop 2).length ∧ out.length = i ∧ plcsI ((q.1.drop 2).drop i) out s = (plcsI (q.1.drop 2) [] (numI (q.1.getD 1 []) (numI (q.1.getD 0 []) q.2).2).2)) (0, [], (numI (q.1.getD 1 []) (numI (q.1.getD 0 []) q.2).2).2) ⟨?_, ?_⟩ ?_)
   ·exact ⟨Nat.zero_le _, rfl, rfl⟩
   ·refine ent_ok rfl ?_
    simp [conj, numI, gE h0, gE h1]
   ·rintro ⟨i, out, s⟩ ⟨hi, hol, hgo⟩
    refine sw_seq (xr hP 7 rfl (sw_seq (sw_cond rfl (fun c10 => ?_) (fun c10 => ?_))))
    ·have hlt : i < (q.1.drop 2).length := by have h := c10; simp at h; simp; omega
     have hwl : ((q.1.drop 2).getD i []).length ≤ 700 := by
       rw [List.getD_eq_getElem?_getD, gE hlt]
       exact hql.1 _ (List.mem_of_mem_drop (List.getElem_mem hlt))
     have hcl := cut_len ((q.1.drop 2).getD i []) [46]
     refine sw_skip (sw_seq (sw_block (sw_seq (xg hP 8 [] rfl ?_ ?_))))
     ·simp [conj]
      repeat' apply And.intro
      all_goals first | omega | trivial | (simpa using hlt)
     refine sw_seq (xg hP 9 [] rfl ?_ ?_)
     ·simp only [cj, cl]
      try dsimp only [Ty.den, Ty.dflt]
      repeat' apply And.intro
      all_goals first | (show List.length ((q.1.drop 2).getD i []) ≤ 1000000; omega) | trivial
     refine xg hP 10 [] rfl ?_ ?_
     ·simp only [cj, cl]
      try dsimp only [Ty.den, Ty.dflt]
      simp only [maxL]
      repeat' apply And.intro
      all_goals first | omega | (show List.length (Lib.cut ((q.1.drop 2).getD i []) [46]).1 ≤ 1000000; omega) | (show List.length (Lib.cut ((q.1.drop 2).getD i []) [46]).2.1 ≤ 1000000; omega) | trivial | (simp; omega)
     refine xr hP 11 rfl (⟨(i + 1, out ++ [(atoN (Lib.cut ((q.1.drop 2).getD i []) [46]).1, atoN (Lib.cut ((q.1.drop 2).getD i []) [46]).2.1)], (numI (Lib.cut ((q.1.drop 2).getD i []) [46]).2.1 (numI (Lib.cut ((q.1.drop 2).getD i []) [46]).1 s).2).2), ?_, ?_, ent_ok rfl ?_⟩)
     ·exact ⟨hlt, by simp [hol], plcs_next hlt hgo⟩
     ·show (q.1.drop 2).length - (i + 1) < (q.1.drop 2).length - i
      omega
     ·simp [conj, numI, bytesL]
      exact ⟨⟨rfl, rfl⟩, rfl⟩
    ·obtain rfl : i = (q.1.drop 2).length := by have h := c10; simp at h; simp at hi; simp; omega
     replace hgo := plcs_end hgo
     refine sw_exit (sw_seq (xr hP 8 rfl (sw_ret ⟨.inl rfl, _, rfl, ?_⟩)))
     have hv : ptrI (ls, er) = ((atoN (q.1.getD 0 []), atoN (q.1.getD 1 []), out), s) := by
       unfold ptrI
       simp only [hq]
       rw [if_neg c1, if_neg c5, ← hgo]
     simp [conj, hv]
end Go.Sx

namespace Go.Sx
open Go
set_option maxRecDepth 100000
set_option linter.unusedVariables false
set_option linter.unusedSimpArgs false
set_option maxHeartbeats 2000000
def cRootI : Ctr := ⟨283, [.ref T_rootReader pF], fun x => RdOk x.1, fun x => (.v true [.d TI pF (rootI x.1).1.1, .own ⟨1, 0, 0⟩], [(⟨0, 0, 0⟩, .var [.d (.sl .str) pF (rootI x.1).2.1, .d .er pF (rootI x.1).2.2]), (⟨1, 0, 0⟩, .sl T_Vol (.all .w) (rootI x.1).1.2)])⟩
theorem cRootI_ok : CtrOk Proofs.Tryz.prog cRootI := by
 have hP := ((((((Prg.none ttok mtok).and cNextI_ok).and cWordsI_ok).and cOnlyI_ok).and cNumI_ok).and cPtrI_ok)
 refine ctr_of_body hP cRootI (fn := Proofs.Tryz.f283) (rts := [.cell 2 73]) Proofs.Tryz.func283 rfl (by kernel_rfl) rfl rfl ?_
 rintro ⟨⟨(ls : List Str), (er : Nat)⟩, ⟨⟩⟩ _ hpre
 try dsimp only [Ty.den, Mode.den, mdens] at hpre
 refine ⟨rfl, ?_⟩
 replace hpre : RdOk (ls, er) := hpre
 obtain ⟨x1, x2, _⟩ := words_ok (f := nR) hpre
 obtain ⟨y1, y2⟩ := only_ok (ws := (wordsI nR (ls, er)).1) x1
 obtain ⟨z1, z2⟩ := num_ok (f := (onlyI (wordsI nR (ls, er)).1 (wordsI nR (ls, er)).2).1) y1
 have yl := only_len (s := (wordsI nR (ls, er)).2) (words_len (f := nR) hpre).1
 have hll : ls.length ≤ 701 := hpre.2
 refine sw_seq (xr hP 1 rfl (sw_seq (xg hP 2 [] rfl ?_ ?_)))
 ·simp only [cj, cl]
  try dsimp only [Ty.den, Ty.dflt]
  repeat' apply And.intro
  all_goals first | omega | assumption | trivial | exact hpre | exact hs | exact (words_ok hpre).1 | exact (words_ok hs).1 | exact hu | (simp [nR]; done) | (simp [nV]; done) | (show List.length (onlyI (wordsI nR (ls, er)).1 (wordsI nR (ls, er)).2).1 ≤ 1000000; omega)
 refine sw_seq (sw_block (sw_loop (ι := Nat × List Vol_ × RdS) (fun ⟨n, vs, s⟩ => ⟨[.v false [.ptr ⟨0, 0, 0⟩ 0], .j, .v false [.ptr ⟨1, 0, 0⟩ 0], .v false [.ptr ⟨2, 7, 0⟩ 0], .j, .j, .j, .j, .j, .j, .j, .j, .j, .j, .j, .j, .j, .j, .j, .j, .j, .j, .j, .j, .j, .j, .j, .j, .j, .j, .j, .j, .j, .j, .j, .j, .j, .j, .j, .j, .j, .j, .j], [(⟨0, 0, 0⟩, .var [.d (.sl .str) pF s.1, .d .er pF s.2]), (⟨1, 0, 0⟩, .var [.d TI pF 0, .d (.sl T_Vol) pF []]), (⟨2, 7, 0⟩, .var [.d TI pF (numI (onlyI (wordsI nR (ls, er)).1 (wordsI nR (ls, er)).2).1 (onlyI (wordsI nR (ls, er)).1 (wordsI nR (ls, er)).2).2).1, .own ⟨0, 9, 0⟩]), (⟨0, 9, 0⟩, .sl T_Vol (.all .w) vs)], 2, [[.v false [.ptr ⟨0, 0, 0⟩ 0]]]⟩) (fun ⟨n, vs, s⟩ => n) (fun ⟨n, vs, s⟩ => RdOk s ∧ s.1.length ≤ n ∧ vs.length + n ≤ 701 ∧ volsI n vs s = (volsI ls.length [] (numI (onlyI (wordsI nR (ls, er)).1 (wordsI nR (ls, er)).2).1 (onlyI (wordsI nR (ls, er)).1 (wordsI nR (ls, er)).2).2).2)) (ls.length, [], (numI (onlyI (wordsI nR (ls, er)).1 (wordsI nR (ls, er)).2).1 (onlyI (wordsI nR (ls, er)).1 (wordsI nR (ls, er)).2).2).2) ⟨?_, ?_⟩ ?_))
 ·exact ⟨z1, by show (numI (onlyI (wordsI nR (ls, er)).1 (wordsI nR (ls, er)).2).1 (onlyI (wordsI nR (ls, er)).1 (wordsI nR (ls, er)).2).2).2.1.length ≤ ls.length; rw [z2, y2]; exact x2, by show 0 + ls.length ≤ 701; omega, rfl⟩
 ·refine ent_ok rfl ?_
  simp [conj, bytesL, nR]
  try rfl
 ·rintro ⟨n, vs, s⟩ ⟨hs, hsl, hvl, hgo⟩
  refine sw_seq (sw_seq ?_)
  refine sw_dec hP 3 [] 5 rfl (fun g2_5 => ?_) (fun g2_5 => ?_)
  ·have he : s.2 = 0 := Nat.eq_of_beq_eq_true g2_5
   refine xg hP 3 [(5, true)] rfl ?_ ?_
   ·simp only [cj, cl]
    try dsimp only [Ty.den, Ty.dflt]
    repeat' apply And.intro
    all_goals first | omega | assumption | trivial | exact hpre | exact hs | exact (words_ok hpre).1 | exact (words_ok hs).1 | exact hu | (simp [nR]; done) | (simp [nV]; done) | (show 3 ≤ 1000; decide) | exact g2_5
   refine sw_cond rfl (fun c2 => ?_) (fun c2 => ?_)
   ·have hnx : nextI nV s = true := c2
    have hp := nextI_pos hnx
    obtain ⟨m, rfl⟩ : ∃ m, n = m + 1 := ⟨n - 1, by omega⟩
    simp only [volsI] at hgo
    rw [if_pos ⟨he, hnx⟩] at hgo
    obtain ⟨w1, w2, w3⟩ := words_ok (f := nV) hs
    have w4 := w3 hp
    have wl := words_len (f := nV) hs
    obtain ⟨o1, o2⟩ := only_ok (ws := (wordsI nV s).1) w1
    have ol := only_len (s := (wordsI nV s).2) wl.1
    refine sw_skip (sw_block (sw_seq (xg hP 4 [] rfl ?_ ?_)))
    ·simp only [cj, cl]
     try dsimp only [Ty.den, Ty.dflt]
     repeat' apply And.intro
     all_goals first | omega | assumption | trivial | exact hpre | exact hs | exact (words_ok hpre).1 | exact (words_ok hs).1 | exact hu | (simp [nR]; done) | (simp [nV]; done)
    refine sw_seq (sw_seq (xr hP 5 rfl (sw_block (sw_loop (ι := Nat × List Ptr_ × RdS) (fun ⟨k, bl, u⟩ => ⟨[.v false [.ptr ⟨0, 0, 0⟩ 0], .j, .v false [.ptr ⟨1, 0, 0⟩ 0], .v false [.ptr ⟨2, 7, 0⟩ 0], .v false [.ptr ⟨4, 5, 0⟩ 0], .j, .j, .j, .j, .j, .j, .j, .j, .j, .j, .j, .j, .j, .j, .j, .j, .j, .j, .j, .j, .j, sInt .i64 (k : Int), .j, .j, .j, .j, .j, .j, .j, .j, .j, .j, .j, .j, .j, .j, .j, .j], [(⟨0, 0, 0⟩, .var [.d (.sl .str) pF u.1, .d .er pF u.2]), (⟨1, 0, 0⟩, .var [.d TI pF 0, .d (.sl T_Vol) pF []]), (⟨2, 7, 0⟩, .var [.d TI pF (numI (onlyI (wordsI nR (ls, er)).1 (wordsI nR (ls, er)).2).1 (onlyI (wordsI nR (ls, er)).1 (wordsI nR (ls, er)).2).2).1, .own ⟨0, 9, 0⟩]), (⟨0, 9, 0⟩, .sl T_Vol (.all .w) vs), (⟨4, 5, 0⟩, .var [.d .str pF (onlyI (wordsI nV s).1 (wordsI nV s).2).1, .own ⟨0, 8, 0⟩]), (⟨0, 8, 0⟩, .sl T_Ptr (.all .w) bl)], 5, [[.v false [.ptr ⟨0, 0, 0⟩ 0]]]⟩) (fun ⟨k, bl, u⟩ => 3 - k) (fun ⟨k, bl, u⟩ => k ≤ 3 ∧ bl.length = k ∧ RdOk u ∧ u.1.length ≤ (onlyI (wordsI nV s).1 (wordsI nV s).2).2.1.length ∧ blksI (3 - k) bl u = (blksI 3 [] (onlyI (wordsI nV s).1 (wordsI nV s).2).2)) (0, [], (onlyI (wordsI nV s).1 (wordsI nV s).2).2) ⟨?_, ?_⟩ ?_))))
    ·exact ⟨Nat.zero_le _, rfl, o1, Nat.le_refl _, rfl⟩
    ·refine ent_ok rfl ?_
     simp [conj, bytesL, nV]
     try rfl
    ·rintro ⟨k, bl, u⟩ ⟨hk, hbl, hu, hul, hgk⟩
     refine sw_seq (xr hP 6 rfl (sw_seq (sw_cond rfl (fun c5 => ?_) (fun c5 => ?_))))
     ·have hk3 : k < 3 := by have h := c5; simp at h; omega
      obtain ⟨j, hj⟩ : ∃ j, 3 - k = j + 1 := ⟨2 - k, by omega⟩
      have hj2 : 3 - (k + 1) = j := by omega
      rw [hj] at hgk
      simp only [blksI] at hgk
      obtain ⟨p1, p2⟩ := ptrI_ok hu
      refine sw_skip (sw_seq (sw_block (xg hP 7 [] rfl ?_ ?_)))
      ·simp only [cj, cl]
       try dsimp only [Ty.den, Ty.dflt]
       repeat' apply And.intro
       all_goals first | omega | assumption | trivial | exact hpre | exact hs | exact (words_ok hpre).1 | exact (words_ok hs).1 | exact hu | (simp [nR]; done) | (simp [nV]; done) | (simp only [maxL]; simp; omega)
      refine xr hP 8 rfl (⟨(k + 1, bl ++ [(ptrI u).1], (ptrI u).2), ?_, ?_, ent_ok rfl ?_⟩)
      ·exact ⟨hk3, by simp [hbl], p1, Nat.le_trans p2 hul, by show blksI (3 - (k + 1)) _ _ = _; rw [hj2]; exact hgk⟩
      ·show 3 - (k + 1) < 3 - k
       omega
      ·simp [conj]
     ·obtain rfl : k = 3 := by have h := c5; simp at h; omega
      replace hgk : (bl, u) = (blksI 3 [] (onlyI (wordsI nV s).1 (wordsI nV s).2).2) := hgk
      rw [← hgk] at hgo
      refine sw_exit (xg hP 7 [] rfl ?_ ?_)
      ·simp only [cj, cl]
       try dsimp only [Ty.den, Ty.dflt]
       repeat' apply And.intro
       all_goals first | omega | assumption | trivial | exact hpre | exact hs | exact (words_ok hpre).1 | exact (words_ok hs).1 | exact hu | (simp [nR]; done) | (simp [nV]; done) | (simp only [maxL]; simp; omega)
      refine ⟨(m, vs ++ [((onlyI (wordsI nV s).1 (wordsI nV s).2).1, bl)], u), ?_, ?_, ent_ok rfl ?_⟩
      ·exact ⟨hu, by show u.1.length ≤ m; rw [o2] at hul; omega, by simp; omega, hgo⟩
      ·show m < m + 1
       omega
      ·simp [conj, bytesL, nV]
   ·have he2 : ¬ (s.2 = 0 ∧ nextI nV s = true) := by
      intro h
      have h2 : nextI nV s = false := c2
      rw [h.2] at h2
      cases h2
    rw [volsI_stop he2] at hgo
    refine sw_exit (sw_seq (xr hP 4 rfl (sw_ret ⟨.inl rfl, _, rfl, ?_⟩)))
    have hv : rootI (ls, er) = (((numI (onlyI (wordsI nR (ls, er)).1 (wordsI nR (ls, er)).2).1 (onlyI (wordsI nR (ls, er)).1 (wordsI nR (ls, er)).2).2).1, vs), s) := by
      show (((numI (onlyI (wordsI nR (ls, er)).1 (wordsI nR (ls, er)).2).1 (onlyI (wordsI nR (ls, er)).1 (wordsI nR (ls, er)).2).2).1, (volsI ls.length [] (numI (onlyI (wordsI nR (ls, er)).1 (wordsI nR (ls, er)).2).1 (onlyI (wordsI nR (ls, er)).1 (wordsI nR (ls, er)).2).2).2).1), (volsI ls.length [] (numI (onlyI (wordsI nR (ls, er)).1 (wordsI nR (ls, er)).2).1 (onlyI (wordsI nR (ls, er)).1 (wordsI nR (ls, er)).2).2).2).2) = _
      rw [← hgo]
    simp [conj, hv]
  ·have he : ¬ (s.2 = 0 ∧ nextI nV s = true) := by
     intro h
     have h2 : Nat.beq s.2 0 = false := g2_5
     rw [h.1] at h2
     cases h2
   rw [volsI_stop he] at hgo
   refine xg hP 3 [(5, false)] rfl ?_ ?_
   ·simp only [cj, cl]
    try dsimp only [Ty.den, Ty.dflt]
    repeat' apply And.intro
    all_goals first | omega | assumption | trivial | exact hpre | exact hs | exact (words_ok hpre).1 | exact (words_ok hs).1 | exact hu | (simp [nR]; done) | (simp [nV]; done) | (show 3 ≤ 1000; decide) | exact g2_5
   refine sw_condF rfl (sw_exit (sw_seq (xr hP 4 rfl (sw_ret ⟨.inl rfl, _, rfl, ?_⟩))))
   have hv : rootI (ls, er) = (((numI (onlyI (wordsI nR (ls, er)).1 (wordsI nR (ls, er)).2).1 (onlyI (wordsI nR (ls, er)).1 (wordsI nR (ls, er)).2).2).1, vs), s) := by
     show (((numI (onlyI (wordsI nR (ls, er)).1 (wordsI nR (ls, er)).2).1 (onlyI (wordsI nR (ls, er)).1 (wordsI nR (ls, er)).2).2).1, (volsI ls.length [] (numI (onlyI (wordsI nR (ls, er)).1 (wordsI nR (ls, er)).2).1 (onlyI (wordsI nR (ls, er)).1 (wordsI nR (ls, er)).2).2).2).1), (volsI ls.length [] (numI (onlyI (wordsI nR (ls, er)).1 (wordsI nR (ls, er)).2).1 (onlyI (wordsI nR (ls, er)).1 (wordsI nR (ls, er)).2).2).2).2) = _
     rw [← hgo]
   simp [conj, hv]
end Go.Sx

namespace Go.Sx
open Go
set_option maxRecDepth 100000
set_option linter.unusedVariables false
set_option linter.unusedSimpArgs false
set_option maxHeartbeats 2000000
def cLine : Ctr := ⟨193, [.val true T_Ptr (.all .b)], fun x => ∃ d, ptrV d x.1 = true, fun x => (sStr (lineV x.1), [])⟩
theorem cLine_ok : CtrOk Proofs.Tryz.prog cLine := by
 have hP := ((((Prg.none ttok mtok).and cNone_ok).and cItoa_ok).and cJoin_ok)
 refine ctr_of_body hP cLine (fn := Proofs.Tryz.f193) (rts := [.tmp 2]) Proofs.Tryz.func193 rfl (by kernel_rfl) rfl rfl ?_
 rintro ⟨⟨(sz : Int), (sm : Int), (pl : List Plc)⟩, ⟨⟩⟩ ⟨⟨hz0, hm0, hpl0⟩, _⟩ ⟨d, hpre⟩
 try dsimp only [Ty.den, Mode.den, mdens] at d
 try dsimp only [Ty.den, Mode.den, mdens] at hpre
 refine ⟨rfl, ?_⟩
 replace hpre : ptrV d ((sz, sm, pl) : Ptr_) = true := hpre
 have hl4 : pl.length ≤ 4 := ptrV_len hpre
 have hi1 : (itoaV sz).length ≤ 21 := itoaV_len hz0
 have hi2 : (itoaV sm).length ≤ 21 := itoaV_len hm0
 refine sw_seq (xr hP 1 rfl (sw_seq (sw_seq (xg hP 2 [] rfl ?_ ?_))))
 ·simp only [cj, cl]
  try dsimp only [Ty.den, Ty.dflt]
  repeat' apply And.intro
  all_goals first | trivial | assumption | omega | exact decide_eq_true ‹_› | exact decide_eq_false ‹_› | (simp [*]; done)
 refine sw_cond rfl (fun c1 => ?_) (fun c1 => ?_)
 ·replace c1 : noneV ((sz, sm, pl) : Ptr_) = true := c1
  refine sw_seq (xr hP 3 rfl (sw_ret ⟨.inl rfl, _, rfl, ?_⟩))
  simp [conj, lineV, c1]
  try rfl
 ·replace c1 : noneV ((sz, sm, pl) : Ptr_) = false := c1
  have hjl : (Lib.join (wordsV ((sz, sm, pl) : Ptr_)) [32]).length ≤ 290 := join_len hz0 hm0 hpl0.2 hl4
  refine sw_skip (sw_seq (xg hP 3 [] rfl ?_ ?_))
  ·simp only [cj, cl]
   try dsimp only [Ty.den, Ty.dflt]
   repeat' apply And.intro
   all_goals first | trivial | assumption | omega | exact decide_eq_true ‹_› | exact decide_eq_false ‹_› | (simp [*]; done)
  refine sw_seq (sw_seq (xr hP 4 rfl (sw_block (sw_loop (ι := Nat) (fun i => ⟨[.j, .v false [.ptr ⟨1, 0, 0⟩ 0], .j, .v false [.own ⟨0, 9, 0⟩], .j, .j, .j, .j, .j, .j, .j, .j, .j, .j, .j, .j, .v false [.d (.sl T_Place) (.all .b) pl], sInt .i64 (pl.length : Int), sInt .i64 (i : Int), .j, .j, .j, .j, .j, .j, .j, .j, .j, .j, .j, .j, .j, .j, .j, .j, .j, .j], [(⟨1, 0, 0⟩, .var [.d TI pF sz, .d TI pF sm, .d (.sl T_Place) (.all .b) pl]), (⟨0, 9, 0⟩, .sl .str pF ([tPtr, itoaV sz, itoaV sm] ++ (pl.take i).map wordV))], 4, []⟩) (fun i => pl.length - i) (fun i => i ≤ pl.length) 0 ⟨?_, ?_⟩ ?_))))
  ·exact Nat.zero_le _
  ·refine ent_ok rfl ?_
   simp [conj, bytesL]
   try rfl
  ·rintro i hi
   refine sw_seq (xr hP 5 rfl (sw_seq (sw_cond rfl (fun c5 => ?_) (fun c5 => ?_))))
   ·have hlt : i < pl.length := by simpa using c5
    have hin := hpl0.2 _ (List.getElem_mem hlt)
    have hi3 : (itoaV pl[i].1).length ≤ 21 := itoaV_len hin.1
    have hi4 : (itoaV pl[i].2).length ≤ 21 := itoaV_len hin.2
    refine sw_skip (sw_seq (sw_block (sw_seq (xg hP 6 [] rfl ?_ ?_))))
    ·simp [conj, gE hlt]
     exact hlt
    refine xg hP 7 [] rfl ?_ ?_
    ·simp [conj, maxL, bytesL, gE hlt]
     repeat' apply And.intro
     all_goals first | omega | trivial
    refine xr hP 8 rfl (⟨i + 1, ?_, ?_, ent_ok rfl ?_⟩)
    ·exact hlt
    ·omega
    ·simp [conj, bytesL, gE hlt]
     exact words_next hlt
   ·obtain rfl : i = pl.length := by simp at c5; omega
    refine sw_exit (sw_seq (xg hP 6 [] rfl ?_ ?_))
    ·simp [conj, maxL, bytesL]
     exact ⟨by show (Lib.join (wordsV ((sz, sm, pl) : Ptr_)) [32]).length ≤ 1000000; omega, by show (Lib.join (wordsV ((sz, sm, pl) : Ptr_)) [32]).length ≤ _; omega⟩
    refine sw_ret ⟨.inl rfl, _, rfl, ?_⟩
    simp [conj, lineV, c1]
    try rfl
def cText_ : Ctr := ⟨113, [.val true T_Root (.all .b)], fun x => ∃ d, rootV d x.1 = true, fun x => (sStr (sealV (bodyV x.1)), [])⟩
theorem cText__ok : CtrOk Proofs.Tryz.prog cText_ := by
 have hP := ((((Prg.none ttok mtok).and cItoa_ok).and cLine_ok).and cWeigh_ok)
 refine ctr_of_body hP cText_ (fn := Proofs.Tryz.f113) (rts := [.tmp 2]) Proofs.Tryz.func113 rfl (by kernel_rfl) rfl rfl ?_
 rintro ⟨⟨(tg : Int), (l : List Vol_)⟩, ⟨⟩⟩ ⟨⟨ht0, hl0⟩, _⟩ ⟨d, hpre⟩
 try dsimp only [Ty.den, Mode.den, mdens] at d
 try dsimp only [Ty.den, Mode.den, mdens] at hpre
 refine ⟨rfl, ?_⟩
 replace hpre : rootV d ((tg, l) : Root_) = true := hpre
 have hs := rootV_small hpre
 have hb := hs.1
 have hi1 : (itoaV tg).length ≤ 21 := itoaV_len ht0
 have hml : l.length ≤ 4 := hs.1
 refine sw_seq (xr hP 1 rfl (sw_seq (xg hP 2 [] rfl ?_ ?_)))
 ·simp [conj, maxL, bytesL]
  repeat' apply And.intro
  all_goals first | omega | trivial
 refine sw_seq (sw_seq (xr hP 3 rfl (sw_block (sw_loop (ι := Nat × Str) (fun ⟨i, o⟩ => ⟨[.j, .v false [.ptr ⟨1, 0, 0⟩ 0], .j, sStr o, .j, .j, .j, .j, .j, .j, .j, .j, .j, .j, .v false [.d (.sl T_Vol) (.all .b) l], sInt .i64 (l.length : Int), sInt .i64 (i : Int), .j, .j, .j, .j, .j, .j, .j, .j, .j, .j, .j, .j, .j, .j, .j, .j, .j, .j, .j, .j, .j, .j, .j, .j, .j, .j, .j, .j, .j], [(⟨1, 0, 0⟩, .var [.d TI pF tg, .d (.sl T_Vol) (.all .b) l])], 3, []⟩) (fun ⟨i, o⟩ => l.length - i) (fun ⟨i, o⟩ => i ≤ l.length ∧ o ++ catGo volT (l.drop i) = bodyV ((tg, l) : Root_) ∧ o.length ≤ 27 + i * 1000) (0, tRoot ++ itoaV tg ++ [10]) ⟨?_, ?_⟩ ?_))))
 ·exact ⟨Nat.zero_le _, rfl, by simp [tRoot]; omega⟩
 ·refine ent_ok rfl ?_
  simp [conj, bytesL]
  try rfl
 ·rintro ⟨i, o⟩ ⟨hi, hgo, hol⟩
  refine sw_seq (xr hP 4 rfl (sw_seq (sw_cond rfl (fun c3 => ?_) (fun c3 => ?_))))
  ·have hlt : i < l.length := by simpa using c3
   obtain ⟨hn3, hb3, hpv⟩ := hs.2 _ (List.getElem_mem hlt)
   refine sw_skip (sw_seq (sw_block (sw_seq (xg hP 5 [] rfl ?_ ?_))))
   ·simp [conj, gE hlt]
    exact hlt
   refine sw_seq (xg hP 6 [] rfl ?_ ?_)
   ·simp [conj, maxL, bytesL, gE hlt]
    repeat' apply And.intro
    all_goals first | omega | trivial
   refine sw_seq (xr hP 7 rfl (sw_block (sw_loop (ι := Nat × Str) (fun ⟨j, o⟩ => ⟨[.j, .v false [.ptr ⟨1, 0, 0⟩ 0], .j, sStr o, .j, .v false [.ptr ⟨0, 9, 2⟩ 0], .j, .j, .j, .j, .j, .j, .j, .j, .v false [.d (.sl T_Vol) (.all .b) l], sInt .i64 (l.length : Int), sInt .i64 (i : Int), .j, .j, .j, .j, .j, .j, .j, .j, .j, .j, .v false [.d (.sl T_Ptr) (.all .b) l[i].2], sInt .i64 (l[i].2.length : Int), sInt .i64 (j : Int), .j, .j, .j, .j, .j, .j, .j, .j, .j, .j, .j, .j, .j, .j, .j, .j], [(⟨1, 0, 0⟩, .var [.d TI pF tg, .d (.sl T_Vol) (.all .b) l]), (⟨0, 9, 2⟩, .var [.d .str pF l[i].1, .d (.sl T_Ptr) (.all .b) l[i].2])], 7, []⟩) (fun ⟨j, o⟩ => l[i].2.length - j) (fun ⟨j, o⟩ => j ≤ l[i].2.length ∧ (o ++ catGo lineV (l[i].2.drop j)) ++ catGo volT (l.drop (i + 1)) = bodyV ((tg, l) : Root_) ∧ o.length ≤ 27 + i * 1000 + 8 + j * 300) (0, o ++ (tVol ++ l[i].1 ++ [10])) ⟨?_, ?_⟩ ?_)))
   ·exact ⟨Nat.zero_le _, vol_in hlt hgo, by simp [tVol]; omega⟩
   ·refine ent_ok rfl ?_
    simp [conj, bytesL, gE hlt]
    try rfl
   ·rintro ⟨j, o⟩ ⟨hj, hgo2, hol2⟩
    refine sw_seq (xr hP 8 rfl (sw_seq (sw_cond rfl (fun c7 => ?_) (fun c7 => ?_))))
    ·have hlj : j < l[i].2.length := by simpa using c7
     have hpj := hpv _ (List.getElem_mem hlj)
     obtain ⟨dd, hpd⟩ := hpj
     have hok := (hl0.2 _ (List.getElem_mem hlt)).2.2 _ (List.getElem_mem hlj)
     have hll := lineV_len' hok.1 hok.2.1 hok.2.2.2 hpd
     refine sw_skip (sw_seq (sw_block (sw_seq (xg hP 9 [] rfl ?_ ?_))))
     ·simp [conj, gE hlj]
      exact hlj
     refine xg hP 10 [] rfl ?_ ?_
     ·simp [conj, maxL, gE hlj]
      exact ⟨⟨dd, hpd⟩, by have h : List.length (lineV l[i].2[j]) ≤ 300 := hll; show o.length + List.length (lineV l[i].2[j]) ≤ 140737488355328; omega⟩
     refine xr hP 11 rfl (⟨(j + 1, o ++ lineV l[i].2[j]), ?_, ?_, ent_ok rfl ?_⟩)
     ·exact ⟨hlj, vol_line hlj hgo2, by simp; omega⟩
     ·show l[i].2.length - (j + 1) < l[i].2.length - j
      omega
     ·simp [conj, gE hlj]
    ·obtain rfl : j = l[i].2.length := by simp at c7; omega
     refine sw_exit (xr hP 9 rfl (⟨(i + 1, o), ?_, ?_, ent_ok rfl ?_⟩))
     ·exact ⟨hlt, vol_out hgo2, by show o.length ≤ 27 + (i + 1) * 1000; omega⟩
     ·show l.length - (i + 1) < l.length - i
      omega
     ·simp [conj]
  ·obtain rfl : i = l.length := by simp at c3; omega
   have hv := cat_end hgo
   subst hv
   have hw := weighV_bd (s := bodyV ((tg, l) : Root_)) (by omega)
   have hi2 : (itoaV (weighV (bodyV ((tg, l) : Root_)))).length ≤ 21 := itoaV_len (by rw [inR_i64]; omega)
   refine sw_exit (sw_seq (xg hP 5 [] rfl ?_ ?_))
   ·simp [conj, maxL, bytesL]
    repeat' apply And.intro
    all_goals first | omega | (show List.length (bodyV ((tg, l) : Root_)) ≤ 1000000; omega) | trivial
   refine sw_ret ⟨.inl rfl, _, rfl, ?_⟩
   simp [conj, sealV, bytesL]
   rfl
def cRootText : Ctr := ⟨285, [.val false TI pF, .val true T_Root (.all .b)], fun x => True, fun x => (sStr (rootT x.1 x.2.1), [])⟩
theorem cRootText_ok : CtrOk Proofs.Tryz.prog cRootText := by
 have hP := (((Prg.none ttok mtok).and cRootOk_ok).and cText__ok)
 refine ctr_of_body hP cRootText (fn := Proofs.Tryz.f285) (rts := [.tmp 4]) Proofs.Tryz.func285 rfl (by kernel_rfl) rfl rfl ?_
 rintro ⟨(d : Int), ⟨(tg : Int), (l : List Vol_)⟩, ⟨⟩⟩ _ _
 try dsimp only [Ty.den, Mode.den, mdens] at _
 refine ⟨rfl, ?_⟩
 refine sw_seq (xr hP 1 rfl (sw_seq (sw_seq (xg hP 2 [] rfl ?_ ?_))))
 ·simp only [cj, cl]
  try dsimp only [Ty.den, Ty.dflt]
  repeat' apply And.intro
  all_goals first | trivial | assumption | omega | exact decide_eq_true ‹_› | exact decide_eq_false ‹_› | (simp [*]; done)
 refine sw_cond rfl (fun c1 => ?_) (fun c1 => ?_)
 ·replace c1 : rootV d ((tg, l) : Root_) = false := by have h : (!rootV d ((tg, l) : Root_)) = true := c1; simpa using h
  refine sw_seq (xr hP 3 rfl (sw_ret ⟨.inl rfl, _, rfl, ?_⟩))
  simp [conj, rootT, c1, bytesL]
 ·replace c1 : rootV d ((tg, l) : Root_) = true := by have h : (!rootV d ((tg, l) : Root_)) = false := c1; simpa using h
  refine sw_skip (sw_seq (xg hP 3 [] rfl ?_ ?_))
  ·simp [conj]
   exact ⟨d, c1⟩
  refine sw_ret ⟨.inl rfl, _, rfl, ?_⟩
  simp [conj, rootT, c1, bytesL]
end Go.Sx

namespace Go.Sx
open Go
set_option maxRecDepth 100000
set_option linter.unusedVariables false
set_option linter.unusedSimpArgs false
set_option maxHeartbeats 2000000
def cReadI : Ctr := ⟨198, [.val false TI pF, .val false .str pF], fun x => True, fun x => (.tup [(true, [.d TI pF (readI x.1 x.2.1).1.1, .own ⟨1, 0, 0⟩]), (false, [.d .bool pF (readI x.1 x.2.1).2])], [(⟨1, 0, 0⟩, .sl T_Vol (.all .w) (readI x.1 x.2.1).1.2)])⟩
theorem cReadI_ok : CtrOk Proofs.Tryz.prog cReadI := by
 have hP := (((((Prg.none ttok mtok).and cSplit_ok).and cRootI_ok).and cIs_ok).and cRootText_ok)
 refine ctr_of_body hP cReadI (fn := Proofs.Tryz.f198) (rts := [.cell 4 73, .tmp 5]) Proofs.Tryz.func198 rfl (by kernel_rfl) rfl rfl ?_
 rintro ⟨(d : Int), (t : Str), ⟨⟩⟩ _ _
 try dsimp only [Ty.den, Mode.den, mdens] at _
 refine ⟨rfl, ?_⟩
 refine sw_seq (xr hP 1 rfl (sw_seq (sw_seq ?_)))
 refine sw_dec hP 2 [] 3 rfl (fun g1_3 => ?_) (fun g1_3 => ?_)
 ·have hz : 700 < t.length ∨ t = [] := .inl (by have h := g1_3; simp at h; omega)
  refine xd hP 2 [(3, true)] rfl (sw_condT rfl (sw_seq (xr hP 3 rfl (sw_ret ⟨.inl rfl, _, rfl, ?_⟩))))
  have hv : readI d t = ((0, []), false) := by unfold readI; rw [if_pos hz]
  simp [conj, hv]
 ·have hz0 : ¬ 700 < t.length := by have h := g1_3; simp at h; omega
  refine xd hP 2 [(3, false)] rfl (sw_cond rfl (fun c1 => ?_) (fun c1 => ?_))
  ·have hz : 700 < t.length ∨ t = [] :=   .inr (of_decide_eq_true (show decide (t = []) = true from c1))
   refine sw_seq (xr hP 3 rfl (sw_ret ⟨.inl rfl, _, rfl, ?_⟩))
   have hv : readI d t = ((0, []), false) := by unfold readI; rw [if_pos hz]
   simp [conj, hv]
  ·have hz1 : ¬ t = [] := of_decide_eq_false (show decide (t = []) = false from c1)
   have hz : ¬ (700 < t.length ∨ t = []) := fun h => h.elim hz0 hz1
   have hrd := cut_ok (t := t) (by omega)
   refine sw_skip (sw_seq (xg hP 3 [] rfl ?_ ?_))
   ·simp only [cj, cl]
    try dsimp only [Ty.den, Ty.dflt]
    repeat' apply And.intro
    all_goals first | omega | assumption | trivial | (show t.length ≤ 1000000; omega)
   refine sw_seq (xg hP 4 [] rfl ?_ ?_)
   ·simp only [cj, cl]
    try dsimp only [Ty.den, Ty.dflt]
    repeat' apply And.intro
    all_goals first | omega | assumption | trivial | exact hrd
   refine sw_seq (sw_seq ?_)
   obtain ⟨q, hq⟩ : ∃ q, (rootI (cutV 10 t, 0)) = q := ⟨_, rfl⟩
   have hqo : RdOk q.2 := hq ▸ rootI_ok hrd
   have hqe := hqo.er
   refine sw_ent (st' := ⟨[sInt .i64 d, .v false [.d .str pF t], .j, .j, .v false [.ptr ⟨1, 0, 0⟩ 0], .j, .v false [.ptr ⟨3, 3, 0⟩ 0], .v false [.ptr ⟨4, 2, 0⟩ 0], .j, .j, .j, .j, .j, .j, .j, .j, .j, .j, .j, .v false [.ptr ⟨3, 3, 0⟩ 0], .j, .j, .j, .j, .j, .j, .j, .j, .j, .j, .j, .j, .j, .j, .j, .j, .j], [(⟨1, 0, 0⟩, .var [.d TI pF 0, .d (.sl T_Vol) pF []]), (⟨3, 3, 0⟩, .var [.d (.sl .str) pF q.2.1, .d .er pF q.2.2]), (⟨4, 2, 0⟩, .var [.d TI pF q.1.1, .own ⟨0, 9, 0⟩]), (⟨0, 9, 0⟩, .sl T_Vol (.all .w) q.1.2)], 4, []⟩) (ent_ok rfl ?_) ?_
   ·simp [conj, ← hq, bytesL]
    try rfl
   refine sw_dec hP 5 [] 6 rfl (fun g5_6 => ?_) (fun g5_6 => ?_)
   ·have hbad : q.2.2 = 1 ∨ rootT d q.1 ≠ t := .inl (Nat.eq_of_beq_eq_true g5_6)
    refine xg hP 5 [(6, true)] rfl ?_ ?_
    ·simp only [cj, cl]
     try dsimp only [Ty.den, Ty.dflt]
     repeat' apply And.intro
     all_goals first | omega | assumption | trivial | exact g5_6
    refine sw_condT rfl (sw_seq (xr hP 6 rfl (sw_ret ⟨.inl rfl, _, rfl, ?_⟩)))
    have hv : readI d t = ((0, []), false) := by unfold readI; rw [if_neg hz]; simp only [hq]; rw [if_pos hbad]
    simp [conj, hv]
   ·have hne1 : ¬ q.2.2 = 1 := by
      intro h
      have h2 : Nat.beq q.2.2 1 = false := g5_6
      rw [h] at h2
      cases h2
    refine xg hP 5 [(6, false)] rfl ?_ ?_
    ·simp only [cj, cl]
     try dsimp only [Ty.den, Ty.dflt]
     repeat' apply And.intro
     all_goals first | omega | assumption | trivial | exact g5_6
    refine sw_cond rfl (fun c5 => ?_) (fun c5 => ?_)
    ·have hbad : q.2.2 = 1 ∨ rootT d q.1 ≠ t := .inr (by have h : (!decide (rootT d q.1 = t)) = true := c5; simpa using h)
     refine sw_seq (xr hP 6 rfl (sw_ret ⟨.inl rfl, _, rfl, ?_⟩))
     have hv : readI d t = ((0, []), false) := by unfold readI; rw [if_neg hz]; simp only [hq]; rw [if_pos hbad]
     simp [conj, hv]
    ·have hgood : ¬ (q.2.2 = 1 ∨ rootT d q.1 ≠ t) := by
       have h : (!decide (rootT d q.1 = t)) = false := c5
       intro h2
       rcases h2 with h2 | h2
       · exact hne1 h2
       · simp at h; exact h2 h
     refine sw_skip (sw_seq (xr hP 6 rfl (sw_ret ⟨.inl rfl, _, rfl, ?_⟩)))
     have hv : readI d t = (q.1, true) := by unfold readI; rw [if_neg hz]; simp only [hq]; rw [if_neg hgood]
     simp [conj, hv]
end Go.Sx

namespace Go.Sx
open Go
set_option maxRecDepth 100000
set_option linter.unusedVariables false
set_option linter.unusedSimpArgs false
set_option maxHeartbeats 2000000
def cClonePt : Ctr := ⟨309, [.val false (.sl T_Put) (.all .b)], fun x => List.length x.1 ≤ 1099511627776, fun x => (.v false [.own ⟨1, 0, 0⟩], [(⟨1, 0, 0⟩, .sl T_Put (.all .w) x.1)])⟩
theorem cClonePt_ok : CtrOk Proofs.Tryz.prog cClonePt := by
 have hP := (Prg.none ttok mtok)
 refine ctr_of_body hP cClonePt (fn := Proofs.Tryz.f309) (rts := [.tmp 2]) Proofs.Tryz.func309 rfl (by kernel_rfl) rfl rfl ?_
 rintro ⟨(l : List Put), ⟨⟩⟩ ⟨hdl, _⟩ hpre
 try dsimp only [Ty.den, Mode.den, mdens] at hpre
 refine ⟨rfl, ?_⟩
 have hml : l.length ≤ 1099511627776 := hpre
 refine sw_seq (xr hP 1 rfl (sw_seq (sw_seq (xr hP 2 rfl (sw_condA rfl (fun c1 => ?_) ?_)))))
 ·obtain rfl : l = [] := List.eq_nil_of_length_eq_zero c1
  refine sw_seq (xr hP 3 rfl (sw_ret ⟨.inl rfl, _, rfl, ?_⟩))
  first | trivial | (simp [conj]; done) | (simp [conj] at *; (try dsimp only [Ty.den, Ty.dflt] at *); omega)
 ·refine sw_skip (sw_seq (xg hP 3 [] rfl ?_ ?_))
  ·simp [conj, maxL]
   try dsimp only [Ty.den, Ty.dflt]
   try simp only [rd_eta]
   omega
  refine sw_ret ⟨.inl rfl, _, rfl, ?_⟩
  first | trivial | (simp [conj]; done) | (simp [conj] at *; (try dsimp only [Ty.den, Ty.dflt] at *); omega)
def cCopyDI : Ctr := ⟨236, [.val true T_Disk (.all .b)], fun x => SmallD x.1, fun x => (.v true [.d TI pF (x.1).1, .own ⟨1, 0, 0⟩, .own ⟨1, 1, 0⟩, .own ⟨1, 2, 0⟩, .own ⟨1, 3, 0⟩], [(⟨1, 0, 0⟩, .sl .str (.all .w) (x.1).2.1), (⟨1, 1, 0⟩, .sl .str (.all .w) (x.1).2.2.1), (⟨1, 2, 0⟩, .sl .bool (.all .w) (x.1).2.2.2.1), (⟨1, 3, 0⟩, .sl T_Put (.all .w) (x.1).2.2.2.2)])⟩
theorem cCopyDI_ok : CtrOk Proofs.Tryz.prog cCopyDI := by
 have hP := ((((Prg.none ttok mtok).and cCloneO_ok).and cCloneB_ok).and cClonePt_ok)
 refine ctr_of_body hP cCopyDI (fn := Proofs.Tryz.f236) (rts := [.cell 2 37]) Proofs.Tryz.func236 rfl (by kernel_rfl) rfl rfl ?_
 rintro ⟨⟨(st : Int), (sl : List Str), (rg : List Str), (sp : List Bool), (wt : List Put)⟩, ⟨⟩⟩ _ ⟨h1, h2, h3, h4⟩
 try dsimp only [Ty.den, Mode.den, mdens] at h1
 try dsimp only [Ty.den, Mode.den, mdens] at h2
 try dsimp only [Ty.den, Mode.den, mdens] at h3
 try dsimp only [Ty.den, Mode.den, mdens] at h4
 refine ⟨rfl, ?_⟩
 refine sw_seq (xr hP 1 rfl (sw_seq (xg hP 2 [] rfl ?_ ?_)))
 ·simp [conj, maxL]
  repeat' apply And.intro
  all_goals first | omega | trivial | (show sl.length ≤ 1099511627776; omega) | (show rg.length ≤ 1099511627776; omega) | (show sp.length ≤ 1099511627776; omega) | (show wt.length ≤ 1099511627776; omega)
 refine sw_ret ⟨.inl rfl, _, rfl, ?_⟩
 simp [conj]
def cCopyDs : Ctr := ⟨153, [.val false (.sl T_Disk) (.all .b)], fun x => List.length x.1 ≤ 1000 ∧ ∀ d ∈ x.1, SmallD d, fun x => (.v false [.own ⟨1, 0, 0⟩], [(⟨1, 0, 0⟩, .sl T_Disk (.all .w) x.1)])⟩
theorem cCopyDs_ok : CtrOk Proofs.Tryz.prog cCopyDs := by
 have hP := ((Prg.none ttok mtok).and cCopyDI_ok)
 refine ctr_of_body hP cCopyDs (fn := Proofs.Tryz.f153) (rts := [.tmp 2]) Proofs.Tryz.func153 rfl (by kernel_rfl) rfl rfl ?_
 rintro ⟨(ds : List Dsk), ⟨⟩⟩ _ ⟨hml, hsm⟩
 try dsimp only [Ty.den, Mode.den, mdens] at hml
 try dsimp only [Ty.den, Mode.den, mdens] at hsm
 refine ⟨rfl, ?_⟩
 replace hml : ds.length ≤ 1000 := hml
 replace hsm : ∀ d ∈ ds, SmallD d := hsm
 refine sw_seq (xr hP 1 rfl (sw_seq (xr hP 2 rfl (sw_seq (sw_seq (xr hP 3 rfl (sw_block (sw_loop (ι := Nat) (fun i => ⟨[.j, .j, .j, .v false [.own ⟨0, 9, 0⟩], .j, .j, .v false [.d (.sl T_Disk) (.all .b) ds], sInt .i64 (ds.length : Int), sInt .i64 (i : Int), .j, .j, .j, .j, .j, .j, .j, .j, .j, .j], [(⟨0, 9, 0⟩, .sl T_Disk (.all .w) (ds.take i))], 3, []⟩) (fun i => ds.length - i) (fun i => i ≤ ds.length) 0 ⟨?_, ?_⟩ ?_))))))))
 ·exact Nat.zero_le _
 ·refine ent_ok rfl ?_
  simp [conj]
 ·rintro i hi
  refine sw_seq (xr hP 4 rfl (sw_seq (sw_cond rfl (fun c3 => ?_) (fun c3 => ?_))))
  ·have hlt : i < ds.length := by simpa using c3
   have hs1 := hsm _ (List.getElem_mem hlt)
   have hnx := List.take_succ_eq_append_getElem hlt
   refine sw_skip (sw_seq (sw_block (sw_seq (xg hP 5 [] rfl ?_ ?_))))
   ·simp [conj, gE hlt]
    repeat' apply And.intro
    all_goals first | omega | trivial
   refine xg hP 6 [] rfl ?_ ?_
   ·simp [conj, maxL, gE hlt]
    repeat' apply And.intro
    all_goals first | omega | trivial | exact hs1.1 | exact hs1.2.1 | exact hs1.2.2.1 | exact hs1.2.2.2
   refine xr hP 7 rfl (⟨i + 1, ?_, ?_, ent_ok rfl ?_⟩)
   ·exact hlt
   ·omega
   ·simp [conj, gE hlt]
    exact hnx.symm
  ·obtain rfl : i = ds.length := by simp at c3; omega
   refine sw_exit (sw_seq (xr hP 5 rfl (sw_ret ⟨.inl rfl, _, rfl, ?_⟩)))
   simp [conj]
def cEqFP : Ctr := ⟨200, [.val false (.sl T_Ptr) (.all .b), .val false (.sl T_Ptr) (.all .b), .clo 197 []], fun x => True, fun x => (sBool (decide ((x.1 : List Ptr_) = x.2.1)), [])⟩
theorem cEqFP_ok : CtrOk Proofs.Tryz.prog cEqFP := by
 have hP := ((Prg.none ttok mtok).and cSame_ok)
 refine ctr_of_body hP cEqFP (fn := Proofs.Tryz.f200) (rts := [.tmp 6]) Proofs.Tryz.func200 rfl (by kernel_rfl) rfl rfl ?_
 rintro ⟨(a : List Ptr_), (b : List Ptr_), ⟨⟩, ⟨⟩⟩ ⟨hda, hdb, _⟩ _
 try dsimp only [Ty.den, Mode.den, mdens] at _
 refine ⟨rfl, ?_⟩
 have hml : a.length ≤ 140737488355328 := hda.1
 have hmb : b.length ≤ 140737488355328 := hdb.1
 refine sw_seq (xr hP 1 rfl (sw_seq (sw_seq (xr hP 2 rfl (sw_cond rfl (fun c1 => ?_) (fun c1 => ?_))))))
 ·replace c1 : ¬ a.length = b.length := by simp at c1; omega
  refine sw_seq (xr hP 3 rfl (sw_ret ⟨.inl rfl, _, rfl, ?_⟩))
  have hv := eqL_len c1
  simp [conj, hv]
 ·replace c1 : a.length = b.length := by simp at c1; omega
  refine sw_skip (sw_seq (sw_seq (xr hP 3 rfl (sw_block (sw_loop (ι := Nat) (fun i => ⟨[.j, .v false [.d (.sl T_Ptr) (.all .b) b], .fn 197 [], .j, .j, .j, .j, .j, .j, .j, .j, .j, .j, .j, .j, .v false [.d (.sl T_Ptr) (.all .b) a], sInt .i64 (a.length : Int), sInt .i64 (i : Int), .j, .j, .j, .j, .j, .j, .j, .j, .j, .j, .j, .j, .j, .j], [], 3, []⟩) (fun i => a.length - i) (fun i => i ≤ a.length ∧ decide (a.drop i = b.drop i) = decide (a = b)) 0 ⟨?_, ?_⟩ ?_)))))
  ·exact ⟨Nat.zero_le _, rfl⟩
  ·refine ent_ok rfl ?_
   first | trivial | (simp [conj]; done) | (simp [conj] at *; (try dsimp only [Ty.den, Ty.dflt] at *); omega)
  ·rintro i ⟨hi, hgo⟩
   refine sw_seq (xr hP 4 rfl (sw_seq (sw_cond rfl (fun c4 => ?_) (fun c4 => ?_))))
   ·have hlt : i < a.length := by simpa using c4
    have hlt2 : i < b.length := by omega
    refine sw_skip (sw_seq (sw_block (sw_seq (xr hP 5 rfl (sw_seq (xg hP 6 [] rfl ?_ ?_))))))
    ·simp [conj, gE hlt, gE hlt2]
     try exact hlt2
    refine sw_seq (xg hP 7 [] rfl ?_ ?_)
    ·simp [conj, gE hlt, gE hlt2]
     repeat' apply And.intro
     all_goals first | omega | trivial
    refine sw_cond rfl (fun c7 => ?_) (fun c7 => ?_)
    ·replace c7 : ¬ a[i] = b[i] := by intro e; simp [gE hlt, gE hlt2, e] at c7
     refine sw_seq (xr hP 8 rfl (sw_ret ⟨.inl rfl, _, rfl, ?_⟩))
     have hv := eqL_hit hlt hlt2 hgo c7
     simp [conj, hv]
    ·replace c7 : a[i] = b[i] := by have h := c7; simp [gE hlt, gE hlt2] at h; exact Prod.ext h.1 (Prod.ext h.2.1 h.2.2)
     refine sw_skip (xr hP 8 rfl (⟨i + 1, ?_, ?_, ent_ok rfl ?_⟩))
     ·exact ⟨hlt, eqL_next hlt hlt2 hgo c7⟩
     ·omega
     ·simp [conj]
   ·obtain rfl : i = a.length := by simp at c4; omega
    refine sw_exit (sw_seq (xr hP 5 rfl (sw_ret ⟨.inl rfl, _, rfl, ?_⟩)))
    have hv := eqL_end c1 hgo
    simp [conj, hv]
def cSm1 : Ctr := ⟨199, [.val true T_Vol (.all .b), .val true T_Vol (.all .b)], fun x => True, fun x => (sBool (decide ((x.1 : Vol_) = x.2.1)), [])⟩
theorem cSm1_ok : CtrOk Proofs.Tryz.prog cSm1 := by
 have hP := ((Prg.none ttok mtok).and cEqFP_ok)
 refine ctr_of_body hP cSm1 (fn := Proofs.Tryz.f199) (rts := [.tmp 4]) Proofs.Tryz.func199 rfl (by kernel_rfl) rfl rfl ?_
 rintro ⟨⟨(n1 : Str), (b1 : List Ptr_)⟩, ⟨(n2 : Str), (b2 : List Ptr_)⟩, ⟨⟩⟩ _ _
 try dsimp only [Ty.den, Mode.den, mdens] at _
 refine ⟨rfl, ?_⟩
 refine sw_seq (xr hP 1 rfl (sw_seq ?_))
 refine sw_dec hP 2 [] 5 rfl (fun g1_5 => ?_) (fun g1_5 => ?_)
 ·refine xg hP 2 [(5, true)] rfl ?_ ?_
  ·simp only [cj, cl]
   try dsimp only [Ty.den, Ty.dflt]
   repeat' apply And.intro
   all_goals first | trivial | assumption | omega | exact decide_eq_true ‹_› | exact decide_eq_false ‹_› | (simp [*]; done)
  refine sw_ret ⟨.inl rfl, _, rfl, ?_⟩
  simp [conj, *]
 ·refine xg hP 2 [(5, false)] rfl ?_ ?_
  ·simp only [cj, cl]
   try dsimp only [Ty.den, Ty.dflt]
   repeat' apply And.intro
   all_goals first | trivial | assumption | omega | exact decide_eq_true ‹_› | exact decide_eq_false ‹_› | (simp [*]; done)
  refine sw_ret ⟨.inl rfl, _, rfl, ?_⟩
  simp [conj, *]
def cEqFV : Ctr := ⟨201, [.val false (.sl T_Vol) (.all .b), .val false (.sl T_Vol) (.all .b), .clo 199 []], fun x => True, fun x => (sBool (decide ((x.1 : List Vol_) = x.2.1)), [])⟩
theorem cEqFV_ok : CtrOk Proofs.Tryz.prog cEqFV := by
 have hP := ((Prg.none ttok mtok).and cSm1_ok)
 refine ctr_of_body hP cEqFV (fn := Proofs.Tryz.f201) (rts := [.tmp 6]) Proofs.Tryz.func201 rfl (by kernel_rfl) rfl rfl ?_
 rintro ⟨(a : List Vol_), (b : List Vol_), ⟨⟩, ⟨⟩⟩ ⟨hda, hdb, _⟩ _
 try dsimp only [Ty.den, Mode.den, mdens] at _
 refine ⟨rfl, ?_⟩
 have hml : a.length ≤ 140737488355328 := hda.1
 have hmb : b.length ≤ 140737488355328 := hdb.1
 refine sw_seq (xr hP 1 rfl (sw_seq (sw_seq (xr hP 2 rfl (sw_cond rfl (fun c1 => ?_) (fun c1 => ?_))))))
 ·replace c1 : ¬ a.length = b.length := by simp at c1; omega
  refine sw_seq (xr hP 3 rfl (sw_ret ⟨.inl rfl, _, rfl, ?_⟩))
  have hv := eqL_len c1
  simp [conj, hv]
 ·replace c1 : a.length = b.length := by simp at c1; omega
  refine sw_skip (sw_seq (sw_seq (xr hP 3 rfl (sw_block (sw_loop (ι := Nat) (fun i => ⟨[.j, .v false [.d (.sl T_Vol) (.all .b) b], .fn 199 [], .j, .j, .j, .j, .j, .j, .j, .j, .j, .j, .j, .j, .v false [.d (.sl T_Vol) (.all .b) a], sInt .i64 (a.length : Int), sInt .i64 (i : Int), .j, .j, .j, .j, .j, .j, .j, .j, .j, .j, .j, .j, .j, .j], [], 3, []⟩) (fun i => a.length - i) (fun i => i ≤ a.length ∧ decide (a.drop i = b.drop i) = decide (a = b)) 0 ⟨?_, ?_⟩ ?_)))))
  ·exact ⟨Nat.zero_le _, rfl⟩
  ·refine ent_ok rfl ?_
   first | trivial | (simp [conj]; done) | (simp [conj] at *; (try dsimp only [Ty.den, Ty.dflt] at *); omega)
  ·rintro i ⟨hi, hgo⟩
   refine sw_seq (xr hP 4 rfl (sw_seq (sw_cond rfl (fun c4 => ?_) (fun c4 => ?_))))
   ·have hlt : i < a.length := by simpa using c4
    have hlt2 : i < b.length := by omega
    refine sw_skip (sw_seq (sw_block (sw_seq (xr hP 5 rfl (sw_seq (xg hP 6 [] rfl ?_ ?_))))))
    ·simp [conj, gE hlt, gE hlt2]
     try exact hlt2
    refine sw_seq (xg hP 7 [] rfl ?_ ?_)
    ·simp [conj, gE hlt, gE hlt2]
     repeat' apply And.intro
     all_goals first | omega | trivial
    refine sw_cond rfl (fun c7 => ?_) (fun c7 => ?_)
    ·replace c7 : ¬ a[i] = b[i] := by intro e; simp [gE hlt, gE hlt2, e] at c7
     refine sw_seq (xr hP 8 rfl (sw_ret ⟨.inl rfl, _, rfl, ?_⟩))
     have hv := eqL_hit hlt hlt2 hgo c7
     simp [conj, hv]
    ·replace c7 : a[i] = b[i] := by have h := c7; simp [gE hlt, gE hlt2] at h; exact Prod.ext h.1 h.2
     refine sw_skip (xr hP 8 rfl (⟨i + 1, ?_, ?_, ent_ok rfl ?_⟩))
     ·exact ⟨hlt, eqL_next hlt hlt2 hgo c7⟩
     ·omega
     ·simp [conj]
   ·obtain rfl : i = a.length := by simp at c4; omega
    refine sw_exit (sw_seq (xr hP 5 rfl (sw_ret ⟨.inl rfl, _, rfl, ?_⟩)))
    have hv := eqL_end c1 hgo
    simp [conj, hv]
def cSmR : Ctr := ⟨118, [.val true T_Root (.all .b), .val true T_Root (.all .b)], fun x => True, fun x => (sBool (decide ((x.1 : Root_) = x.2.1)), [])⟩
theorem cSmR_ok : CtrOk Proofs.Tryz.prog cSmR := by
 have hP := ((Prg.none ttok mtok).and cEqFV_ok)
 refine ctr_of_body hP cSmR (fn := Proofs.Tryz.f118) (rts := [.tmp 4]) Proofs.Tryz.func118 rfl (by kernel_rfl) rfl rfl ?_
 rintro ⟨⟨(g1 : Int), (l1 : List Vol_)⟩, ⟨(g2 : Int), (l2 : List Vol_)⟩, ⟨⟩⟩ _ _
 try dsimp only [Ty.den, Mode.den, mdens] at _
 refine ⟨rfl, ?_⟩
 refine sw_seq (xr hP 1 rfl (sw_seq (xr hP 2 rfl (sw_seq ?_))))
 refine sw_dec hP 3 [] 5 rfl (fun g2_5 => ?_) (fun g2_5 => ?_)
 ·refine xg hP 3 [(5, true)] rfl ?_ ?_
  ·simp only [cj, cl]
   try dsimp only [Ty.den, Ty.dflt]
   repeat' apply And.intro
   all_goals first | trivial | assumption | omega | exact decide_eq_true ‹_› | exact decide_eq_false ‹_› | (simp [*]; done)
  refine sw_ret ⟨.inl rfl, _, rfl, ?_⟩
  simp [conj, *]
 ·refine xg hP 3 [(5, false)] rfl ?_ ?_
  ·simp only [cj, cl]
   try dsimp only [Ty.den, Ty.dflt]
   repeat' apply And.intro
   all_goals first | trivial | assumption | omega | exact decide_eq_true ‹_› | exact decide_eq_false ‹_› | (simp [*]; done)
  refine sw_ret ⟨.inl rfl, _, rfl, ?_⟩
  simp [conj, *]
def cNwst : Ctr := ⟨117, [.val false (.sl T_Disk) (.all .b)], fun x => True, fun x => (.tup [(true, [.d TI pF (newestV x.1).1.1, .own ⟨1, 0, 0⟩]), (false, [.d .bool pF (newestV x.1).2])], [(⟨1, 0, 0⟩, .sl T_Vol (.all .w) (newestV x.1).1.2)])⟩
theorem cNwst_ok : CtrOk Proofs.Tryz.prog cNwst := by
 have hP := ((Prg.none ttok mtok).and cReadI_ok)
 refine ctr_of_body hP cNwst (fn := Proofs.Tryz.f117) (rts := [.cell 2 73, .tmp 3]) Proofs.Tryz.func117 rfl (by kernel_rfl) rfl rfl ?_
 rintro ⟨(ds : List Dsk), ⟨⟩⟩ ⟨hdl, _⟩ _
 try dsimp only [Ty.den, Mode.den, mdens] at _
 refine ⟨rfl, ?_⟩
 have hml : ds.length ≤ 140737488355328 := hdl.1
 refine sw_seq (xr hP 1 rfl (sw_seq (xr hP 2 rfl (sw_seq (xr hP 3 rfl (sw_seq (sw_seq (xr hP 4 rfl (sw_block (sw_loop (ι := Nat × (Root_ × Bool)) (fun ⟨i, o⟩ => ⟨[.v false [.d (.sl T_Disk) (.all .b) ds], .j, .v false [.ptr ⟨1, 0, 0⟩ 0], sBool false, .v false [.ptr ⟨2, 0, 0⟩ 0], sBool o.2, .j, .j, .j, .j, .j, .j, .v false [.d (.sl T_Disk) (.all .b) ds], sInt .i64 (ds.length : Int), sInt .i64 (i : Int), .j, .j, .j, .j, .j, .j, .j, .j, .j, .j, .j, .j, .j, .j, .j, .j, .j, .j, .j, .j, .j, .j, .j, .j, .j, .j, .j, .j, .j, .j, .j, .j, .j, .j], [(⟨1, 0, 0⟩, .var [.d TI pF 0, .nils]), (⟨2, 0, 0⟩, .var [.d TI pF o.1.1, .own ⟨0, 9, 0⟩]), (⟨0, 9, 0⟩, .sl T_Vol (.all .w) o.1.2)], 4, []⟩) (fun ⟨i, o⟩ => ds.length - i) (fun ⟨i, o⟩ => i ≤ ds.length ∧ nwGo ds.length o (ds.drop i) = newestV ds) (0, ((0, []), false)) ⟨?_, ?_⟩ ?_))))))))))
 ·exact ⟨Nat.zero_le _, rfl⟩
 ·refine ent_ok rfl ?_
  simp [conj]
 ·rintro ⟨i, o⟩ ⟨hi, hgo0⟩
  refine sw_seq (xr hP 5 rfl (sw_seq (sw_cond rfl (fun c4 => ?_) (fun c4 => ?_))))
  ·have hlt : i < ds.length := by simpa using c4
   have hmr : ds[i].2.2.1.length ≤ 140737488355328 := (hdl.2 _ (List.getElem_mem hlt)).2.2.1.1
   refine sw_skip (sw_seq (sw_block (sw_seq (xr hP 6 rfl (sw_seq (xr hP 7 rfl (sw_block (sw_loop (ι := Nat × (Root_ × Bool)) (fun ⟨j, o⟩ => ⟨[.v false [.d (.sl T_Disk) (.all .b) ds], .j, .v false [.ptr ⟨1, 0, 0⟩ 0], sBool false, .v false [.ptr ⟨2, 0, 0⟩ 0], sBool o.2, .j, .v false [.ptr ⟨6, 2, 0⟩ 0], .j, .j, .j, .j, .v false [.d (.sl T_Disk) (.all .b) ds], sInt .i64 (ds.length : Int), sInt .i64 (i : Int), .j, .j, .j, .j, .v false [.d (.sl .str) (.all .b) ds[i].2.2.1], sInt .i64 (ds[i].2.2.1.length : Int), sInt .i64 (j : Int), .j, .j, .j, .j, .j, .j, .j, .j, .j, .j, .j, .j, .j, .j, .j, .j, .j, .j, .j, .j, .j, .j, .j, .j, .j, .j, .j], [(⟨1, 0, 0⟩, .var [.d TI pF 0, .nils]), (⟨2, 0, 0⟩, .var [.d TI pF o.1.1, .own ⟨0, 9, 0⟩]), (⟨0, 9, 0⟩, .sl T_Vol (.all .w) o.1.2)], 7, []⟩) (fun ⟨j, o⟩ => ds[i].2.2.1.length - j) (fun ⟨j, o⟩ => j ≤ ds[i].2.2.1.length ∧ nwGo ds.length ((ds[i].2.2.1.drop j).foldl (nwT ds.length) o) (ds.drop (i + 1)) = newestV ds) (0, o) ⟨?_, ?_⟩ ?_))))))))
   ·exact ⟨Nat.zero_le _, (nw_in hlt ▸ hgo0)⟩
   ·refine ent_ok rfl ?_
    simp [conj, gE hlt]
   ·rintro ⟨j, o⟩ ⟨hj, hgo⟩
    refine sw_seq (xr hP 8 rfl (sw_seq (sw_cond rfl (fun c7 => ?_) (fun c7 => ?_))))
    ·have hlj : j < ds[i].2.2.1.length := by simpa using c7
     refine sw_skip (sw_seq (sw_block (sw_seq (xr hP 9 rfl (sw_seq (xr hP 10 rfl (sw_seq ?_)))))))
     refine sw_dec hP 11 [] 1 rfl (fun g10_1 => ?_) (fun g10_1 => ?_)
     ·have kr : (readI ds.length ds[i].2.2.1[j]).2 = true := by simpa [gE hlj] using g10_1
      refine sw_dec hP 11 [(1, true)] 4 rfl (fun g10_4 => ?_) (fun g10_4 => ?_)
      ·have ko : o.2 = false := by simpa using g10_4
       have e := nwT_hit (o := o) kr (.inl ko)
       refine xd hP 11 [(1, true), (4, true)] rfl (sw_condT rfl (xr hP 12 rfl (xr hP 13 rfl (⟨(j + 1, ((readI ds.length ds[i].2.2.1[j]).1, true)), ?_, ?_, ent_ok rfl ?_⟩))))
       ·exact ⟨hlj, by rw [nw_next hlj, e] at hgo; exact hgo⟩
       ·show ds[i].2.2.1.length - (j + 1) < ds[i].2.2.1.length - j
        omega
       ·simp [conj, gE hlj]
        try exact kr
      ·have ko : o.2 = true := by simpa using g10_4
       refine xd hP 11 [(1, true), (4, false)] rfl (sw_cond rfl (fun c10 => ?_) (fun c10 => ?_))
       ·have e := nwT_hit (o := o) kr (.inr (by simpa [gE hlj] using c10))
        refine xr hP 12 rfl (xr hP 13 rfl (⟨(j + 1, ((readI ds.length ds[i].2.2.1[j]).1, true)), ?_, ?_, ent_ok rfl ?_⟩))
        ·exact ⟨hlj, by rw [nw_next hlj, e] at hgo; exact hgo⟩
        ·show ds[i].2.2.1.length - (j + 1) < ds[i].2.2.1.length - j
         omega
        ·simp [conj, gE hlj]
         try exact kr
       ·have e := nwT_old (n := ds.length) (o := o) (t := ds[i].2.2.1[j]) ko (by have h := c10; simp [gE hlj] at h; omega)
        refine sw_skip (xr hP 12 rfl (⟨(j + 1, o), ?_, ?_, ent_ok rfl ?_⟩))
        ·exact ⟨hlj, by rw [nw_next hlj, e] at hgo; exact hgo⟩
        ·show ds[i].2.2.1.length - (j + 1) < ds[i].2.2.1.length - j
         omega
        ·simp [conj, gE hlj]
     ·have kr : (readI ds.length ds[i].2.2.1[j]).2 = false := by simpa [gE hlj] using g10_1
      have e := nwT_bad (o := o) kr
      refine xd hP 11 [(1, false)] rfl (sw_condF rfl (sw_skip (xr hP 12 rfl (⟨(j + 1, o), ?_, ?_, ent_ok rfl ?_⟩))))
      ·exact ⟨hlj, by rw [nw_next hlj, e] at hgo; exact hgo⟩
      ·show ds[i].2.2.1.length - (j + 1) < ds[i].2.2.1.length - j
       omega
      ·simp [conj, gE hlj]
    ·obtain rfl : j = ds[i].2.2.1.length := by simp at c7; omega
     refine sw_exit (xr hP 9 rfl (⟨(i + 1, o), ?_, ?_, ent_ok rfl ?_⟩))
     ·exact ⟨hlt, (nw_out ▸ hgo)⟩
     ·show ds.length - (i + 1) < ds.length - i
      omega
     ·simp [conj]
  ·obtain rfl : i = ds.length := by simp at c4; omega
   have hv : o = newestV ds := by rw [List.drop_length] at hgo0; exact hgo0
   refine sw_exit (sw_seq (xr hP 6 rfl (sw_ret ⟨.inl rfl, _, rfl, ?_⟩)))
   simp [conj, hv]
def cWO : Ctr := ⟨120, [.val false (.sl T_Disk) (.all .b)], fun x => List.length x.1 ≤ 1000 ∧ ∀ d ∈ x.1, SmallD d, fun x => (.v false [.own ⟨1, 0, 0⟩], [(⟨1, 0, 0⟩, .sl T_Disk (.all .w) (woV x.1))])⟩
theorem cWO_ok : CtrOk Proofs.Tryz.prog cWO := by
 have hP := ((Prg.none ttok mtok).and cCopyDs_ok)
 refine ctr_of_body hP cWO (fn := Proofs.Tryz.f120) (rts := [.tmp 2]) Proofs.Tryz.func120 rfl (by kernel_rfl) rfl rfl ?_
 rintro ⟨(ds : List Dsk), ⟨⟩⟩ _ ⟨hml, hsm⟩
 try dsimp only [Ty.den, Mode.den, mdens] at hml
 try dsimp only [Ty.den, Mode.den, mdens] at hsm
 refine ⟨rfl, ?_⟩
 replace hml : ds.length ≤ 1000 := hml
 replace hsm : ∀ d ∈ ds, SmallD d := hsm
 refine sw_seq (xr hP 1 rfl (sw_seq (xg hP 2 [] rfl ?_ ?_)))
 ·simp [conj, maxL]
  try dsimp only [Ty.den, Ty.dflt]
  try simp only [rd_eta]
  exact ⟨hml, hsm⟩
 refine sw_seq (sw_seq (xr hP 3 rfl (sw_block (sw_loop (ι := Nat) (fun i => ⟨[.j, .j, .j, .v false [.own ⟨0, 9, 0⟩], .j, .j, .j, .j, sInt .i64 (ds.length : Int), sInt .i64 (i : Int), .j, .j, .j, .j, .j, .j, .j, .j], [(⟨0, 9, 0⟩, .sl T_Disk (.all .w) (woGo ds i))], 3, []⟩) (fun i => ds.length - i) (fun i => i ≤ ds.length) 0 ⟨?_, ?_⟩ ?_))))
 ·exact Nat.zero_le _
 ·refine ent_ok rfl ?_
  simp [conj, woGo]
 ·rintro i hi
  refine sw_seq (xr hP 4 rfl (sw_seq (sw_cond rfl (fun c3 => ?_) (fun c3 => ?_))))
  ·have hlt : i < ds.length := by have h := c3; simp at h; exact h
   have hat := woGo_at hlt
   have hln := woGo_len (l := ds) (i := i)
   refine sw_skip (sw_seq (sw_block (sw_seq (xr hP 5 rfl (xg hP 6 [] rfl ?_ ?_)))))
   ·simp [conj, hat, hln]
    omega
   refine xr hP 7 rfl (⟨i + 1, ?_, ?_, ent_ok rfl ?_⟩)
   ·exact hlt
   ·omega
   ·simp [conj, hat]
    exact woGo_next hlt
  ·obtain rfl : i = ds.length := by have h := c3; simp at h; omega
   refine sw_exit (sw_seq (xr hP 5 rfl (sw_ret ⟨.inl rfl, _, rfl, ?_⟩)))
   simp [conj, woGo_end]
end Go.Sx

namespace Go.Sx
open Go
set_option maxRecDepth 100000
set_option linter.unusedVariables false
set_option linter.unusedSimpArgs false
set_option maxHeartbeats 2000000
def cIx0N : Ctr := ⟨286, [.val false (.sl T_Ptr) (.all .b), .clo 142 []], fun x => x.1 = [], fun x => (sInt .i64 (-1), [])⟩
theorem cIx0N_ok : CtrOk Proofs.Tryz.prog cIx0N := by
 have hP := (Prg.none ttok mtok)
 refine ctr_of_body hP cIx0N (fn := Proofs.Tryz.f286) (rts := [.tmp 4]) Proofs.Tryz.func286 rfl (by kernel_rfl) rfl rfl ?_
 rintro ⟨(l : List Ptr_), ⟨⟩, ⟨⟩⟩ _ hpre
 try dsimp only [Ty.den, Mode.den, mdens] at hpre
 refine ⟨rfl, ?_⟩
 replace hpre : l = [] := hpre
 subst hpre
 refine sw_seq (xr hP 1 rfl (sw_seq (sw_seq (xr hP 2 rfl (sw_block (sw_loop (ι := Unit) (fun i => ⟨[.v false [.d (.sl T_Ptr) (.all .b) []], .fn 142 [], .j, .j, .j, .j, .j, sInt .i64 0, sInt .i64 0, .j, .j, .j, .j, .j, .j, .j, .j, .j, .j], [], 2, []⟩) (fun i => 0) (fun i => True) () ⟨?_, ?_⟩ ?_))))))
 ·trivial
 ·refine ent_ok rfl ?_
  simp [conj]
 ·rintro i hi
  refine sw_seq (xr hP 3 rfl (sw_seq (sw_cond rfl (fun c2 => ?_) (fun c2 => ?_))))
  ·simp at c2
  ·refine sw_exit (sw_seq (xr hP 4 rfl (sw_ret ⟨.inl rfl, _, rfl, ?_⟩)))
   simp [conj]
def cDel0 : Ctr := ⟨287, [.own false (.sl T_Ptr) (.sl .w (.all .b)), .clo 142 []], fun x => x.1 = [], fun x => (.v false [.own ⟨1, 0, 0⟩], [(⟨1, 0, 0⟩, .sl T_Ptr (.all .b) [])])⟩
theorem cDel0_ok : CtrOk Proofs.Tryz.prog cDel0 := by
 have hP := ((Prg.none ttok mtok).and cIx0N_ok)
 refine ctr_of_body hP cDel0 (fn := Proofs.Tryz.f287) (rts := [.tmp 4]) Proofs.Tryz.func287 rfl (by kernel_rfl) rfl rfl ?_
 rintro ⟨(l : List Ptr_), ⟨⟩, ⟨⟩⟩ _ hpre
 try dsimp only [Ty.den, Mode.den, mdens] at hpre
 refine ⟨rfl, ?_⟩
 replace hpre : l = [] := hpre
 subst hpre
 refine sw_seq (xr hP 1 rfl (sw_seq (xg hP 2 [] rfl ?_ ?_)))
 ·simp [conj, maxL]
  try dsimp only [Ty.den, Ty.dflt]
  try simp only [rd_eta]
  try trivial
 refine sw_seq (sw_seq (xr hP 3 rfl (sw_cond rfl (fun c2 => ?_) (fun c2 => ?_))))
 ·refine sw_seq (xr hP 4 rfl (sw_ret ⟨.inl rfl, _, rfl, ?_⟩))
  simp [conj]
 ·simp at c2
def cSome0 : Ctr := ⟨203, [.val true T_Root (.all .b)], fun x => x.1.2 = [], fun x => (.v false [.own ⟨1, 0, 0⟩], [(⟨1, 0, 0⟩, .sl T_Ptr (.all .b) [])])⟩
theorem cSome0_ok : CtrOk Proofs.Tryz.prog cSome0 := by
 have hP := (((Prg.none ttok mtok).and cPtrs_ok).and cDel0_ok)
 refine ctr_of_body hP cSome0 (fn := Proofs.Tryz.f203) (rts := [.tmp 2]) Proofs.Tryz.func203 rfl (by kernel_rfl) rfl rfl ?_
 rintro ⟨⟨(tg : Int), (l : List Vol_)⟩, ⟨⟩⟩ _ hpre
 try dsimp only [Ty.den, Mode.den, mdens] at hpre
 refine ⟨rfl, ?_⟩
 replace hpre : l = [] := hpre
 subst hpre
 refine sw_seq (xr hP 1 rfl (sw_seq (xg hP 2 [] rfl ?_ ?_)))
 ·simp [conj, maxL]
  try dsimp only [Ty.den, Ty.dflt]
  try simp only [rd_eta]
  repeat' apply And.intro
  all_goals first | trivial | rfl | (simp [SmallV]; done)
 refine sw_ret ⟨.inl rfl, _, rfl, ?_⟩
 simp [conj]
def cIx0G : Ctr := ⟨286, [.val false (.sl T_Ptr) (.all .b), .clo 204 [(false, (.sl T_Disk), (.all .b))]], fun x => x.1 = [], fun x => (sInt .i64 (-1), [])⟩
theorem cIx0G_ok : CtrOk Proofs.Tryz.prog cIx0G := by
 have hP := (Prg.none ttok mtok)
 refine ctr_of_body hP cIx0G (fn := Proofs.Tryz.f286) (rts := [.tmp 4]) Proofs.Tryz.func286 rfl (by kernel_rfl) rfl rfl ?_
 rintro ⟨(l : List Ptr_), ⟨(y : List Dsk), ⟨⟩⟩, ⟨⟩⟩ _ hpre
 try dsimp only [Ty.den, Mode.den, mdens] at hpre
 refine ⟨rfl, ?_⟩
 replace hpre : l = [] := hpre
 subst hpre
 refine sw_seq (xr hP 1 rfl (sw_seq (sw_seq (xr hP 2 rfl (sw_block (sw_loop (ι := Unit) (fun i => ⟨[.v false [.d (.sl T_Ptr) (.all .b) []], .fn 204 [.rpt .b (.sl T_Disk) (.all .b) y], .j, .j, .j, .j, .j, sInt .i64 0, sInt .i64 0, .j, .j, .j, .j, .j, .j, .j, .j, .j, .j], [], 2, []⟩) (fun i => 0) (fun i => True) () ⟨?_, ?_⟩ ?_))))))
 ·trivial
 ·refine ent_ok rfl ?_
  simp [conj]
 ·rintro i hi
  refine sw_seq (xr hP 3 rfl (sw_seq (sw_cond rfl (fun c2 => ?_) (fun c2 => ?_))))
  ·simp at c2
  ·refine sw_exit (sw_seq (xr hP 4 rfl (sw_ret ⟨.inl rfl, _, rfl, ?_⟩)))
   simp [conj]
def cCt0G : Ctr := ⟨202, [.val false (.sl T_Ptr) (.all .b), .clo 204 [(false, (.sl T_Disk), (.all .b))]], fun x => x.1 = [], fun x => (sBool false, [])⟩
theorem cCt0G_ok : CtrOk Proofs.Tryz.prog cCt0G := by
 have hP := ((Prg.none ttok mtok).and cIx0G_ok)
 refine ctr_of_body hP cCt0G (fn := Proofs.Tryz.f202) (rts := [.tmp 4]) Proofs.Tryz.func202 rfl (by kernel_rfl) rfl rfl ?_
 rintro ⟨(l : List Ptr_), ⟨(y : List Dsk), ⟨⟩⟩, ⟨⟩⟩ _ hpre
 try dsimp only [Ty.den, Mode.den, mdens] at hpre
 refine ⟨rfl, ?_⟩
 replace hpre : l = [] := hpre
 subst hpre
 refine sw_seq (xr hP 1 rfl (sw_seq (xg hP 2 [] rfl ?_ ?_)))
 ·simp [conj, maxL]
  try dsimp only [Ty.den, Ty.dflt]
  try simp only [rd_eta]
  try trivial
 refine sw_ret ⟨.inl rfl, _, rfl, ?_⟩
 simp [conj]
def cGet0 : Ctr := ⟨119, [.val false (.sl T_Disk) (.all .b), .val true T_Root (.all .b)], fun x => x.2.1.2 = [], fun x => (sBool true, [])⟩
theorem cGet0_ok : CtrOk Proofs.Tryz.prog cGet0 := by
 have hP := (((Prg.none ttok mtok).and cSome0_ok).and cCt0G_ok)
 refine ctr_of_body hP cGet0 (fn := Proofs.Tryz.f119) (rts := [.tmp 4]) Proofs.Tryz.func119 rfl (by kernel_rfl) rfl rfl ?_
 rintro ⟨(ds : List Dsk), ⟨(tg : Int), (l : List Vol_)⟩, ⟨⟩⟩ _ hpre
 try dsimp only [Ty.den, Mode.den, mdens] at hpre
 refine ⟨rfl, ?_⟩
 replace hpre : l = [] := hpre
 subst hpre
 refine sw_seq (xr hP 1 rfl (sw_seq (xg hP 2 [] rfl ?_ ?_)))
 ·simp [conj, maxL]
  try dsimp only [Ty.den, Ty.dflt]
  try simp only [rd_eta]
  try trivial
 refine sw_ret ⟨.inl rfl, _, rfl, ?_⟩
 simp [conj]
def cPOk0 : Ctr := ⟨44, [.val true T_Pool (.all .b)], fun x => NwOk x.1, fun x => (sBool true, [])⟩
theorem cPOk0_ok : CtrOk Proofs.Tryz.prog cPOk0 := by
 have hP := (((((((Prg.none ttok mtok).and cStripeOk_ok).and cRootOk_ok).and cNwst_ok).and cSmR_ok).and cWO_ok).and cGet0_ok)
 refine ctr_of_body hP cPOk0 (fn := Proofs.Tryz.f44) (rts := [.tmp 2]) Proofs.Tryz.func44 rfl (by kernel_rfl) rfl rfl ?_
 rintro ⟨⟨(ds : List Dsk), (op : Bool), ⟨(tg : Int), (l : List Vol_)⟩, ⟨(tg2 : Int), (l2 : List Vol_)⟩⟩, ⟨⟩⟩ _ ⟨hs, hn, hsm, he⟩
 try dsimp only [Ty.den, Mode.den, mdens] at hs
 try dsimp only [Ty.den, Mode.den, mdens] at hn
 try dsimp only [Ty.den, Mode.den, mdens] at hsm
 try dsimp only [Ty.den, Mode.den, mdens] at he
 refine ⟨rfl, ?_⟩
 replace hs : stripeV ds = true := hs
 replace hn : newestV ds = ((0, []), true) := hn
 replace hsm : ds.length ≤ 1000 ∧ ∀ d ∈ ds, SmallD d := hsm
 replace he : ((op, (tg, l), tg2, l2) : Bool × Root_ × Root_) = (true, (0, []), (0, [])) := he
 cases he
 have hpv : poolV (ds.length : Int) = true := by have h := hs; simp [stripeV] at h; exact h.1
 have hr : rootV (ds.length : Int) (0, []) = true := newV hpv
 refine sw_seq (xr hP 1 rfl (sw_seq (sw_seq (xg hP 2 [] rfl ?_ ?_))))
 ·simp [conj, maxL]
  try dsimp only [Ty.den, Ty.dflt]
  try simp only [rd_eta]
  repeat' apply And.intro
  all_goals first | trivial | exact hsm | exact hsm.1 | exact hsm.2 | (rw [hn]; done) | rfl
 refine sw_cond rfl (fun c1 => ?_) (fun c1 => ?_)
 ·simp [hs, hr, hn] at c1
 ·refine sw_skip (sw_seq (sw_seq (xr hP 3 rfl (sw_cond rfl (fun c3 => ?_) (fun c3 => ?_)))))
  ·simp [hs, hr, hn] at c3
  ·refine sw_skip (sw_seq (sw_seq ?_))
   refine sw_dec hP 4 [] 7 rfl (fun g5_7 => ?_) (fun g5_7 => ?_)
   ·simp [hs, hr, hn] at g5_7
   ·refine sw_dec hP 4 [(7, false)] 16 rfl (fun g5_16 => ?_) (fun g5_16 => ?_)
    ·simp [hs, hr, hn] at g5_16
    ·refine xg hP 4 [(7, false), (16, false)] rfl ?_ ?_
     ·simp [conj, maxL]
      try dsimp only [Ty.den, Ty.dflt]
      try simp only [rd_eta]
      repeat' apply And.intro
      all_goals first | trivial | exact hsm | exact hsm.1 | exact hsm.2 | (rw [hn]; done) | rfl
     refine sw_cond rfl (fun c5 => ?_) (fun c5 => ?_)
     ·simp [hs, hr, hn] at c5
     ·refine sw_skip (sw_seq (xg hP 5 [] rfl ?_ ?_))
      ·simp [conj, maxL]
       try dsimp only [Ty.den, Ty.dflt]
       try simp only [rd_eta]
       repeat' apply And.intro
       all_goals first | trivial | exact hsm | exact hsm.1 | exact hsm.2 | (rw [hn]; done) | rfl
      refine sw_seq ?_
      refine sw_dec hP 6 [] 1 rfl (fun g8_1 => ?_) (fun g8_1 => ?_)
      ·refine sw_dec hP 6 [(1, true)] 7 rfl (fun g8_7 => ?_) (fun g8_7 => ?_)
       ·refine sw_dec hP 6 [(1, true), (7, true)] 15 rfl (fun g8_15 => ?_) (fun g8_15 => ?_)
        ·refine sw_dec hP 6 [(1, true), (7, true), (15, true)] 22 rfl (fun g8_22 => ?_) (fun g8_22 => ?_)
         ·refine xg hP 6 [(1, true), (7, true), (15, true), (22, true)] rfl ?_ ?_
          ·simp [conj, maxL]
           try dsimp only [Ty.den, Ty.dflt]
           try simp only [rd_eta]
           repeat' apply And.intro
           all_goals first | trivial | exact hsm | exact hsm.1 | exact hsm.2 | (rw [hn]; done) | rfl
          refine sw_ret ⟨.inl rfl, _, rfl, ?_⟩
          simp [conj, hn, hs, hr]
         ·simp [hs, hr, hn] at g8_22
        ·simp [hs, hr, hn] at g8_15
       ·simp [hs, hr, hn] at g8_7
      ·simp [hs, hr, hn] at g8_1
end Go.Sx

namespace Go.Sx
open Go
set_option maxRecDepth 100000
set_option linter.unusedVariables false
set_option linter.unusedSimpArgs false
set_option maxHeartbeats 2000000
def cIndex0 : Ctr := ⟨207, [.val true T_Model (.all .b)], fun x => x.1 = [], fun x => (.v false [.own ⟨1, 0, 0⟩], [(⟨1, 0, 0⟩, .mp false false .str TI mapF [])])⟩
theorem cIndex0_ok : CtrOk Proofs.Tryz.prog cIndex0 := by
 have hP := (Prg.none ttok mtok)
 refine ctr_of_body hP cIndex0 (fn := Proofs.Tryz.f207) (rts := [.tmp 2]) Proofs.Tryz.func207 rfl (by kernel_rfl) rfl rfl ?_
 rintro ⟨(m : Mdl), ⟨⟩⟩ _ hpre
 try dsimp only [Ty.den, Mode.den, mdens] at hpre
 refine ⟨rfl, ?_⟩
 replace hpre : m = [] := hpre
 subst hpre
 refine sw_seq (xr hP 1 rfl (sw_seq (xr hP 2 rfl (sw_seq (sw_seq (xr hP 3 rfl (sw_block (sw_loop (ι := Unit) (fun i => ⟨[.j, .v false [.ptr ⟨1, 0, 0⟩ 0], .j, .v false [.own ⟨2, 0, 0⟩], .j, .j, .j, .j, .v false [.d (.sl T_Shelf) (.all .b) []], sInt .i64 0, sInt .i64 0, .j, .j, .j, .j, .j, .j, .j, .j, .j, .j], [(⟨1, 0, 0⟩, .var [.d T_Model (.all .b) []]), (⟨2, 0, 0⟩, .mp false false .str TI mapF [])], 3, []⟩) (fun i => 0) (fun i => True) () ⟨?_, ?_⟩ ?_))))))))
 ·trivial
 ·refine ent_ok rfl ?_
  simp [conj]
 ·rintro i hi
  refine sw_seq (xr hP 4 rfl (sw_seq (sw_cond rfl (fun c3 => ?_) (fun c3 => ?_))))
  ·simp at c3
  ·refine sw_exit (sw_seq (xr hP 5 rfl (sw_ret ⟨.inl rfl, _, rfl, ?_⟩)))
   simp [conj]
def cIxS0 : Ctr := ⟨291, [.val false (.sl T_Shelf) (.all .b), .clo 209 []], fun x => x.1 = [], fun x => (sInt .i64 (-1), [])⟩
theorem cIxS0_ok : CtrOk Proofs.Tryz.prog cIxS0 := by
 have hP := (Prg.none ttok mtok)
 refine ctr_of_body hP cIxS0 (fn := Proofs.Tryz.f291) (rts := [.tmp 4]) Proofs.Tryz.func291 rfl (by kernel_rfl) rfl rfl ?_
 rintro ⟨(l : List Shf), ⟨⟩, ⟨⟩⟩ _ hpre
 try dsimp only [Ty.den, Mode.den, mdens] at hpre
 refine ⟨rfl, ?_⟩
 replace hpre : l = [] := hpre
 subst hpre
 refine sw_seq (xr hP 1 rfl (sw_seq (sw_seq (xr hP 2 rfl (sw_block (sw_loop (ι := Unit) (fun i => ⟨[.v false [.d (.sl T_Shelf) (.all .b) []], .fn 209 [], .j, .j, .j, .j, .j, sInt .i64 0, sInt .i64 0, .j, .j, .j, .j, .j, .j, .j, .j, .j, .j], [], 2, []⟩) (fun i => 0) (fun i => True) () ⟨?_, ?_⟩ ?_))))))
 ·trivial
 ·refine ent_ok rfl ?_
  simp [conj]
 ·rintro i hi
  refine sw_seq (xr hP 3 rfl (sw_seq (sw_cond rfl (fun c2 => ?_) (fun c2 => ?_))))
  ·simp at c2
  ·refine sw_exit (sw_seq (xr hP 4 rfl (sw_ret ⟨.inl rfl, _, rfl, ?_⟩)))
   simp [conj]
def cCtS0 : Ctr := ⟨208, [.val false (.sl T_Shelf) (.all .b), .clo 209 []], fun x => x.1 = [], fun x => (sBool false, [])⟩
theorem cCtS0_ok : CtrOk Proofs.Tryz.prog cCtS0 := by
 have hP := ((Prg.none ttok mtok).and cIxS0_ok)
 refine ctr_of_body hP cCtS0 (fn := Proofs.Tryz.f208) (rts := [.tmp 4]) Proofs.Tryz.func208 rfl (by kernel_rfl) rfl rfl ?_
 rintro ⟨(l : List Shf), ⟨⟩, ⟨⟩⟩ _ hpre
 try dsimp only [Ty.den, Mode.den, mdens] at hpre
 refine ⟨rfl, ?_⟩
 replace hpre : l = [] := hpre
 subst hpre
 refine sw_seq (xr hP 1 rfl (sw_seq (xg hP 2 [] rfl ?_ ?_)))
 ·simp [conj, maxL]
  try dsimp only [Ty.den, Ty.dflt]
  try simp only [rd_eta]
  try trivial
 refine sw_ret ⟨.inl rfl, _, rfl, ?_⟩
 simp [conj]
def cMOk0 : Ctr := ⟨124, [.val true T_Model (.all .b)], fun x => x.1 = [], fun x => (sBool true, [])⟩
theorem cMOk0_ok : CtrOk Proofs.Tryz.prog cMOk0 := by
 have hP := (((Prg.none ttok mtok).and cIndex0_ok).and cCtS0_ok)
 refine ctr_of_body hP cMOk0 (fn := Proofs.Tryz.f124) (rts := [.tmp 2]) Proofs.Tryz.func124 rfl (by kernel_rfl) rfl rfl ?_
 rintro ⟨(m : Mdl), ⟨⟩⟩ _ hpre
 try dsimp only [Ty.den, Mode.den, mdens] at hpre
 refine ⟨rfl, ?_⟩
 replace hpre : m = [] := hpre
 subst hpre
 refine sw_seq (xr hP 1 rfl (sw_seq (sw_seq ?_)))
 refine sw_dec hP 2 [] 4 rfl (fun g1_4 => ?_) (fun g1_4 => ?_)
 ·simp at g1_4
 ·refine xg hP 2 [(4, false)] rfl ?_ ?_
  ·simp [conj, maxL]
   try dsimp only [Ty.den, Ty.dflt]
   try simp only [rd_eta]
   try trivial
  refine sw_cond rfl (fun c1 => ?_) (fun c1 => ?_)
  ·simp at c1
  ·refine sw_skip (sw_seq (xg hP 3 [] rfl ?_ ?_))
   ·simp [conj, maxL]
    try dsimp only [Ty.den, Ty.dflt]
    try simp only [rd_eta]
    try trivial
   refine sw_ret ⟨.inl rfl, _, rfl, ?_⟩
   simp [conj]
def cWOk0 : Ctr := ⟨50, [.val true T_World (.all .b)], fun x => NwOk x.1.1 ∧ x.1.2.1 = [] ∧ x.1.2.2.1 = [] ∧ x.1.2.2.2.1 = [], fun x => (sBool true, [])⟩
theorem cWOk0_ok : CtrOk Proofs.Tryz.prog cWOk0 := by
 have hP := (((Prg.none ttok mtok).and cPOk0_ok).and cMOk0_ok)
 refine ctr_of_body hP cWOk0 (fn := Proofs.Tryz.f50) (rts := [.tmp 2]) Proofs.Tryz.func50 rfl (by kernel_rfl) rfl rfl ?_
 rintro ⟨⟨⟨(ds : List Dsk), (op : Bool), ⟨(tg : Int), (l : List Vol_)⟩, ⟨(tg2 : Int), (l2 : List Vol_)⟩⟩, (ka : Mdl), (kb : Mdl), (kc : Mdl), (kw : Bool)⟩, ⟨⟩⟩ _ ⟨hn, h1, h2, h3⟩
 try dsimp only [Ty.den, Mode.den, mdens] at hn
 try dsimp only [Ty.den, Mode.den, mdens] at h1
 try dsimp only [Ty.den, Mode.den, mdens] at h2
 try dsimp only [Ty.den, Mode.den, mdens] at h3
 refine ⟨rfl, ?_⟩
 replace h1 : ka = [] := h1
 replace h2 : kb = [] := h2
 replace h3 : kc = [] := h3
 subst h1; subst h2; subst h3
 refine sw_seq (xr hP 1 rfl (sw_seq ?_))
 refine sw_dec hP 2 [] 3 rfl (fun g1_3 => ?_) (fun g1_3 => ?_)
 ·refine sw_dec hP 2 [(3, true)] 8 rfl (fun g1_8 => ?_) (fun g1_8 => ?_)
  ·refine sw_dec hP 2 [(3, true), (8, true)] 13 rfl (fun g1_13 => ?_) (fun g1_13 => ?_)
   ·refine xg hP 2 [(3, true), (8, true), (13, true)] rfl ?_ ?_
    ·simp [conj, maxL]
     try dsimp only [Ty.den, Ty.dflt]
     try simp only [rd_eta]
     first | trivial | exact hn
    refine sw_ret ⟨.inl rfl, _, rfl, ?_⟩
    simp [conj]
   ·simp at g1_13
  ·simp at g1_8
 ·simp at g1_3
end Go.Sx

namespace Go.Sx
open Go
set_option maxRecDepth 100000
set_option linter.unusedVariables false
set_option linter.unusedSimpArgs false
set_option maxHeartbeats 2000000
def cVolsS : Ctr := ⟨216, [.val false TI pF, .val true T_Root (.all .b)], fun x => poolV x.1 = true ∧ List.length x.2.1.2 ≤ 4, fun x => (sBool (volsS x.1 x.2.1.2), [])⟩
theorem cVolsS_ok : CtrOk Proofs.Tryz.prog cVolsS := by
 have hP := ((((((Prg.none ttok mtok).and cName_ok).and cAll_ok).and cPtrS_ok).and cMeet_ok).and cSameS_ok)
 refine ctr_of_body hP cVolsS (fn := Proofs.Tryz.f216) (rts := [.tmp 4]) Proofs.Tryz.func216 rfl (by kernel_rfl) rfl rfl ?_
 rintro ⟨(d : Int), ⟨(tg : Int), (l : List Vol_)⟩, ⟨⟩⟩ ⟨_, ⟨_, hl0⟩, _⟩ ⟨hd1, h4⟩
 try dsimp only [Ty.den, Mode.den, mdens] at hd1
 try dsimp only [Ty.den, Mode.den, mdens] at h4
 refine ⟨rfl, ?_⟩
 replace hd1 : poolV d = true := hd1
 replace h4 : l.length ≤ 4 := h4
 refine sw_seq (xr hP 1 rfl (sw_seq (sw_seq (xr hP 2 rfl (sw_block (sw_loop (ι := Nat) (fun i => ⟨[sInt .i64 d, .j, .j, .v false [.ptr ⟨1, 0, 0⟩ 0], .j, sInt .i64 (i : Int), .j, .j, .j, .j, .j, .j, .j, .j, .j, .j, .j, .j, .j, .j, .j, .j, .j, .j, .j, .j, .j, .j, .j, .j, .j, .j, .j, .j, .j, .j, .j, .j, .j, .j, .j, .j, .j, .j, .j, .j, .j, .j, .j, .j, .j, .j, .j, .j, .j, .j, .j, .j, .j, .j, .j, .j, .j, .j, .j, .j, .j, .j, .j, .j, .j, .j, .j, .j, .j, .j, .j, .j, .j, .j, .j, .j, .j, .j, .j, .j, .j, .j, .j, .j, .j, .j, .j, .j], [(⟨1, 0, 0⟩, .var [.d TI pF tg, .d (.sl T_Vol) (.all .b) l])], 2, []⟩) (fun i => l.length - i) (fun i => i ≤ l.length ∧ chkGo volG (l.take i) (l.drop i) = chk volG l) 0 ⟨?_, ?_⟩ ?_))))))
 ·exact ⟨Nat.zero_le _, rfl⟩
 ·refine ent_ok rfl ?_
  simp [conj]
 ·rintro i ⟨hi, hgo⟩
  refine sw_seq (sw_seq (xr hP 3 rfl (sw_cond rfl (fun c2 => ?_) (fun c2 => ?_))))
  ·have hlt : i < l.length := by simpa using c2
   have hml2 : l[i].2.length ≤ 140737488355328 := (hl0.2 _ (List.getElem_mem hlt)).2.1
   refine sw_skip (sw_seq (sw_block (sw_seq (sw_seq ?_))))
   refine sw_dec hP 4 [] 8 rfl (fun g4_8 => ?_) (fun g4_8 => ?_)
   ·have k8 : nameV l[i].1 = false := by simpa [gE hlt] using g4_8
    have hf : volG (l.take i) l[i] = false := by simp [volG, k8]
    refine xg hP 4 [(8, true)] rfl ?_ ?_
    ·simp [conj, gE hlt]
     repeat' apply And.intro
     all_goals first | omega | assumption | (simp [*]; done) | trivial
    refine sw_condT rfl (sw_seq (xr hP 5 rfl (sw_ret ⟨.inl rfl, _, rfl, ?_⟩)))
    have hv := chk_hit hlt hgo hf
    simp [conj, volsS, hv]
   ·have k8 : nameV l[i].1 = true := by simpa [gE hlt] using g4_8
    refine xg hP 4 [(8, false)] rfl ?_ ?_
    ·simp [conj, gE hlt]
     repeat' apply And.intro
     all_goals first | omega | assumption | (simp [*]; done) | trivial
    refine sw_cond rfl (fun c4 => ?_) (fun c4 => ?_)
    ·replace c4 : ¬ l[i].2.length = 3 := by
       have h := c4
       simp [gE hlt] at h
       omega
     have hf : volG (l.take i) l[i] = false := by simp [volG, c4]
     refine sw_seq (xr hP 5 rfl (sw_ret ⟨.inl rfl, _, rfl, ?_⟩))
     have hv := chk_hit hlt hgo hf
     simp [conj, volsS, hv]
    ·replace c4 : l[i].2.length = 3 := by
       have h := c4
       simp [gE hlt] at h
       omega
     refine sw_skip (sw_seq (xr hP 5 rfl (sw_block (sw_loop (ι := Nat) (fun k => ⟨[sInt .i64 d, .j, .j, .v false [.ptr ⟨1, 0, 0⟩ 0], .j, sInt .i64 (i : Int), sInt .i64 (k : Int), .j, .j, .j, .j, .j, .j, .j, .j, .j, .j, .j, .j, .j, .j, .j, .j, .j, .j, .j, .j, .j, .j, .j, .j, .j, .j, .j, .j, .j, .j, .j, .j, .j, .j, .j, .j, .j, .j, .j, .j, .j, .j, .j, .j, .j, .j, .j, .j, .j, .j, .j, .j, .j, .j, .j, .j, .j, .j, .j, .j, .j, .j, .j, .j, .j, .j, .j, .j, .j, .j, .j, .j, .j, .j, .j, .j, .j, .j, .j, .j, .j, .j, .j, .j, .j, .j, .j], [(⟨1, 0, 0⟩, .var [.d TI pF tg, .d (.sl T_Vol) (.all .b) l])], 5, []⟩) (fun k => i - k) (fun k => k ≤ i ∧ (l.take k).any (fun w : Vol_ => decide (w.1 = l[i].1)) = false) 0 ⟨?_, ?_⟩ ?_))))
     ·exact ⟨Nat.zero_le _, rfl⟩
     ·refine ent_ok rfl ?_
      simp [conj]
     ·rintro k ⟨hk, hgk⟩
      refine sw_seq (sw_seq (xr hP 6 rfl (sw_cond rfl (fun c7 => ?_) (fun c7 => ?_))))
      ·have hki : k < i := by simpa using c7
       have hlk : k < l.length := by omega
       refine sw_skip (sw_seq (sw_block (sw_seq (xg hP 7 [] rfl ?_ ?_))))
       ·simp [conj, gE hlt, gE hlk]
        repeat' apply And.intro
        all_goals first | omega | trivial
       refine sw_cond rfl (fun c9 => ?_) (fun c9 => ?_)
       ·replace c9 : (fun w : Vol_ => decide (w.1 = l[i].1)) l[k] = true := by simpa [gE hlt, gE hlk] using c9
        have hf : volG (l.take i) l[i] = false := by unfold volG; rw [any_hit hki hlk c9]; simp
        refine sw_seq (xr hP 8 rfl (sw_ret ⟨.inl rfl, _, rfl, ?_⟩))
        have hv := chk_hit hlt hgo hf
        simp [conj, volsS, hv]
       ·replace c9 : (fun w : Vol_ => decide (w.1 = l[i].1)) l[k] = false := by simpa [gE hlt, gE hlk] using c9
        refine sw_skip (xr hP 8 rfl (⟨k + 1, ?_, ?_, ent_ok rfl ?_⟩))
        ·exact ⟨hki, any_next hlk hgk c9⟩
        ·omega
        ·simp [conj]
      ·obtain rfl : k = i := by simp at c7; omega
       have hf : volG (l.take k) l[k] = true := by unfold volG; rw [k8, hgk, c4]; rfl
       refine sw_exit (xr hP 7 rfl (⟨k + 1, ?_, ?_, ent_ok rfl ?_⟩))
       ·exact ⟨hlt, chk_next hlt hgo hf⟩
       ·omega
       ·simp [conj]
  ·obtain rfl : i = l.length := by simp at c2; omega
   have hvg : chk volG l = true := chk_end hgo
   have hsv := volG_small hvg h4
   have hbl := blks_all hsv
   refine sw_exit (sw_seq (xg hP 4 [] rfl ?_ ?_))
   ·simp [conj, maxL]
    try dsimp only [Ty.den, Ty.dflt]
    try simp only [rd_eta]
    exact hsv
   refine sw_seq (sw_seq (xr hP 5 rfl (sw_block (sw_loop (ι := Nat) (fun n => ⟨[sInt .i64 d, .j, .j, .v false [.ptr ⟨1, 0, 0⟩ 0], .j, .j, .j, .v false [.own ⟨0, 9, 0⟩], sInt .i64 (n : Int), .j, .j, .j, .j, .j, .j, .j, .j, .j, .j, .j, .j, .j, .j, .j, .j, .j, .j, .j, .j, .j, .j, .j, .j, .j, .j, .j, .j, .j, .j, .j, .j, .j, .j, .j, .j, .j, .j, .j, .j, .j, .j, .j, .j, .j, .j, .j, .j, .j, .j, .j, .j, .j, .j, .j, .j, .j, .j, .j, .j, .j, .j, .j, .j, .j, .j, .j, .j, .j, .j, .j, .j, .j, .j, .j, .j, .j, .j, .j, .j, .j, .j, .j, .j, .j], [(⟨1, 0, 0⟩, .var [.d TI pF tg, .d (.sl T_Vol) (.all .b) l]), (⟨0, 9, 0⟩, .sl T_Ptr (.all .b) (blksOf l))], 5, []⟩) (fun n => (blksOf l).length - n) (fun n => n ≤ (blksOf l).length ∧ chkGo (ptrG d) ((blksOf l).take n) ((blksOf l).drop n) = chk (ptrG d) (blksOf l)) 0 ⟨?_, ?_⟩ ?_))))
   ·exact ⟨Nat.zero_le _, rfl⟩
   ·refine ent_ok rfl ?_
    simp [conj]
   ·rintro n ⟨hn, hgn⟩
    refine sw_seq (sw_seq (xr hP 6 rfl (sw_cond rfl (fun c13 => ?_) (fun c13 => ?_))))
    ·have hln : n < (blksOf l).length := by simpa using c13
     refine sw_skip (sw_seq (sw_block (sw_seq (sw_seq (xg hP 7 [] rfl ?_ ?_)))))
     ·simp [conj, gE hln]
      repeat' apply And.intro
      all_goals first | omega | exact hd1 | trivial
     refine sw_cond rfl (fun c15 => ?_) (fun c15 => ?_)
     ·replace c15 : ptrW d (blksOf l)[n] = false := by simpa [gE hln] using c15
      have hf : ptrG d ((blksOf l).take n) (blksOf l)[n] = false := by simp [ptrG, c15]
      refine sw_seq (xr hP 8 rfl (sw_ret ⟨.inl rfl, _, rfl, ?_⟩))
      have hv := chk_hit hln hgn hf
      simp [conj, volsS, hvg, hv]
     ·replace c15 : ptrW d (blksOf l)[n] = true := by simpa [gE hln] using c15
      refine sw_skip (sw_seq (xr hP 8 rfl (sw_block (sw_loop (ι := Nat) (fun m => ⟨[sInt .i64 d, .j, .j, .v false [.ptr ⟨1, 0, 0⟩ 0], .j, .j, .j, .v false [.own ⟨0, 9, 0⟩], sInt .i64 (n : Int), sInt .i64 (m : Int), .j, .j, .j, .j, .j, .j, .j, .j, .j, .j, .j, .j, .j, .j, .j, .j, .j, .j, .j, .j, .j, .j, .j, .j, .j, .j, .j, .j, .j, .j, .j, .j, .j, .j, .j, .j, .j, .j, .j, .j, .j, .j, .j, .j, .j, .j, .j, .j, .j, .j, .j, .j, .j, .j, .j, .j, .j, .j, .j, .j, .j, .j, .j, .j, .j, .j, .j, .j, .j, .j, .j, .j, .j, .j, .j, .j, .j, .j, .j, .j, .j, .j, .j, .j], [(⟨1, 0, 0⟩, .var [.d TI pF tg, .d (.sl T_Vol) (.all .b) l]), (⟨0, 9, 0⟩, .sl T_Ptr (.all .b) (blksOf l))], 8, []⟩) (fun m => n - m) (fun m => m ≤ n ∧ ((blksOf l).take m).any (fun q : Ptr_ => meetV (blksOf l)[n] q && !decide ((blksOf l)[n] = q)) = false) 0 ⟨?_, ?_⟩ ?_))))
      ·exact ⟨Nat.zero_le _, rfl⟩
      ·refine ent_ok rfl ?_
       simp [conj]
      ·rintro m ⟨hm, hgm⟩
       refine sw_seq (sw_seq (xr hP 9 rfl (sw_cond rfl (fun c18 => ?_) (fun c18 => ?_))))
       ·have hmn : m < n := by simpa using c18
        have hlm : m < (blksOf l).length := by omega
        refine sw_skip (sw_seq (sw_block (sw_seq ?_)))
        refine sw_dec hP 10 [] 9 rfl (fun g20_9 => ?_) (fun g20_9 => ?_)
        ·have k9 : meetV (blksOf l)[n] (blksOf l)[m] = true := by simpa [gE hln, gE hlm] using g20_9
         refine xg hP 10 [(9, true)] rfl ?_ ?_
         ·simp [conj, gE hln, gE hlm]
          repeat' apply And.intro
          all_goals first | omega | assumption | exact k9 | trivial
         refine sw_cond rfl (fun c20 => ?_) (fun c20 => ?_)
         ·replace c20 : ¬ (blksOf l)[n] = (blksOf l)[m] := by
            intro e
            simp [gE hln, gE hlm, e] at c20
          have hq : (fun q : Ptr_ => meetV (blksOf l)[n] q && !decide ((blksOf l)[n] = q)) (blksOf l)[m] = true := by simp only [k9]; simp [c20]
          have hf : ptrG d ((blksOf l).take n) (blksOf l)[n] = false := by unfold ptrG; rw [any_hit hmn hlm hq]; simp
          refine sw_seq (xr hP 11 rfl (sw_ret ⟨.inl rfl, _, rfl, ?_⟩))
          have hv := chk_hit hln hgn hf
          simp [conj, volsS, hvg, hv]
         ·replace c20 : (blksOf l)[n] = (blksOf l)[m] := by
            have h := c20
            simp [gE hln, gE hlm] at h
            exact Prod.ext h.1 (Prod.ext h.2.1 h.2.2)
          have hq : (fun q : Ptr_ => meetV (blksOf l)[n] q && !decide ((blksOf l)[n] = q)) (blksOf l)[m] = false := by simp only [c20]; simp
          refine sw_skip (xr hP 11 rfl (⟨m + 1, ?_, ?_, ent_ok rfl ?_⟩))
          ·exact ⟨hmn, any_next hlm hgm hq⟩
          ·omega
          ·simp [conj]
        ·have k9 : meetV (blksOf l)[n] (blksOf l)[m] = false := by simpa [gE hln, gE hlm] using g20_9
         have hq : (fun q : Ptr_ => meetV (blksOf l)[n] q && !decide ((blksOf l)[n] = q)) (blksOf l)[m] = false := by simp only [k9]; rfl
         refine xg hP 10 [(9, false)] rfl ?_ ?_
         ·simp [conj, gE hln, gE hlm]
          repeat' apply And.intro
          all_goals first | omega | assumption | exact k9 | trivial
         refine sw_condF rfl (sw_skip (xr hP 11 rfl (⟨m + 1, ?_, ?_, ent_ok rfl ?_⟩)))
         ·exact ⟨hmn, any_next hlm hgm hq⟩
         ·omega
         ·simp [conj]
       ·obtain rfl : m = n := by simp at c18; omega
        have hf : ptrG d ((blksOf l).take m) (blksOf l)[m] = true := by unfold ptrG; rw [c15, hgm]; rfl
        refine sw_exit (xr hP 10 rfl (⟨m + 1, ?_, ?_, ent_ok rfl ?_⟩))
        ·exact ⟨hln, chk_next hln hgn hf⟩
        ·omega
        ·simp [conj]
    ·obtain rfl : n = (blksOf l).length := by simp at c13; omega
     refine sw_exit (sw_seq (xr hP 7 rfl (sw_ret ⟨.inl rfl, _, rfl, ?_⟩)))
     have hv := chk_end hgn
     simp [conj, volsS, hvg, hv]
def cRootOkS : Ctr := ⟨129, [.val false TI pF, .val true T_Root (.all .b)], fun x => True, fun x => (sBool (rootS x.1 x.2.1), [])⟩
theorem cRootOkS_ok : CtrOk Proofs.Tryz.prog cRootOkS := by
 have hP := ((((Prg.none ttok mtok).and cDisks_ok).and cIn_ok).and cVolsS_ok)
 refine ctr_of_body hP cRootOkS (fn := Proofs.Tryz.f129) (rts := [.tmp 4]) Proofs.Tryz.func129 rfl (by kernel_rfl) rfl rfl ?_
 rintro ⟨(d : Int), ⟨(tg : Int), (l : List Vol_)⟩, ⟨⟩⟩ _ _
 try dsimp only [Ty.den, Mode.den, mdens] at _
 refine ⟨rfl, ?_⟩
 refine sw_seq (xr hP 1 rfl (sw_seq ?_))
 refine sw_dec hP 2 [] 2 rfl (fun g1_2 => ?_) (fun g1_2 => ?_)
 ·have k2 : poolV d = true := g1_2
  refine sw_dec hP 2 [(2, true)] 7 rfl (fun g1_7 => ?_) (fun g1_7 => ?_)
  ·have k7 : inV tg 0 100000 = true := g1_7
   refine sw_dec hP 2 [(2, true), (7, true)] 13 rfl (fun g1_13 => ?_) (fun g1_13 => ?_)
   ·have k13 : l.length ≤ 4 := by have h := g1_13; simp at h; omega
    refine xg hP 2 [(2, true), (7, true), (13, true)] rfl ?_ ?_
    ·simp only [cj, cl]
     try dsimp only [Ty.den, Ty.dflt]
     repeat' apply And.intro
     all_goals first | trivial | exact g1_2 | exact g1_7 | exact g1_13 | assumption | exact k2 | exact k13
    refine sw_ret ⟨.inl rfl, _, rfl, ?_⟩
    simp [conj, rootS, *]
   ·have k13 : ¬ l.length ≤ 4 := by have h := g1_13; simp at h; omega
    refine xg hP 2 [(2, true), (7, true), (13, false)] rfl ?_ ?_
    ·simp only [cj, cl]
     try dsimp only [Ty.den, Ty.dflt]
     repeat' apply And.intro
     all_goals first | trivial | exact g1_2 | exact g1_7 | exact g1_13 | assumption | exact k2 | exact k13
    refine sw_ret ⟨.inl rfl, _, rfl, ?_⟩
    simp [conj, rootS, *]
  ·have k7 : inV tg 0 100000 = false := g1_7
   refine xg hP 2 [(2, true), (7, false)] rfl ?_ ?_
   ·simp only [cj, cl]
    try dsimp only [Ty.den, Ty.dflt]
    repeat' apply And.intro
    all_goals first | trivial | exact g1_2 | exact g1_7 | exact g1_13 | assumption | exact k2 | exact k13
   refine sw_ret ⟨.inl rfl, _, rfl, ?_⟩
   simp [conj, rootS, *]
 ·have k2 : poolV d = false := g1_2
  refine xg hP 2 [(2, false)] rfl ?_ ?_
  ·simp only [cj, cl]
   try dsimp only [Ty.den, Ty.dflt]
   repeat' apply And.intro
   all_goals first | trivial | exact g1_2 | exact g1_7 | exact g1_13 | assumption | exact k2 | exact k13
  refine sw_ret ⟨.inl rfl, _, rfl, ?_⟩
  simp [conj, rootS, *]
def cDecK (k : Nat) : Ctr := ⟨218, [.val false TI pF], fun x => 0 ≤ x.1 ∧ 1 ≤ k ∧ x.1 < 10 ^ k, fun x => (sStr (itoaV x.1), [])⟩
theorem cDecK_ok : ∀ k, CtrOk Proofs.Tryz.prog (cDecK k) := by
  intro k
  induction k with
  | zero =>
    rintro G V w args ⟨(n : Int), ⟨⟩⟩ _ _ _ _ ⟨_, h1, _⟩
    exact absurd h1 (by decide)
  | succ k ih =>
   have hP := ((Prg.none ttok mtok).and ih)
   refine ctr_of_body hP (cDecK (k + 1)) (fn := Proofs.Tryz.f218) (rts := [.tmp 2]) Proofs.Tryz.func218 rfl (by kernel_rfl) rfl rfl ?_
   rintro ⟨(n : Int), ⟨⟩⟩ ⟨hn0, _⟩ ⟨h0, _, h1⟩
   try dsimp only [Ty.den, Mode.den, mdens] at h0
   try dsimp only [Ty.den, Mode.den, mdens] at _
   try dsimp only [Ty.den, Mode.den, mdens] at h1
   refine ⟨rfl, ?_⟩
   replace hn0 : inR .i64 n := hn0
   rw [inR_i64] at hn0
   replace h0 : 0 ≤ n := h0
   replace h1 : n < 10 ^ (k + 1) := h1
   rw [Int.pow_succ] at h1
   have hq : n.tdiv 10 = n / 10 := Int.tdiv_eq_ediv_of_nonneg h0
   have hr : n.tmod 10 = n % 10 := Int.tmod_eq_emod_of_nonneg h0
   have hlq : (itoaV (n.tdiv 10)).length ≤ 21 := itoaV_len (by rw [inR_i64]; omega)
   refine sw_seq (xr hP 1 rfl (sw_seq (sw_seq (xr hP 2 rfl (sw_cond rfl (fun c1 => ?_) (fun c1 => ?_))))))
   ·have h : n < -9223372036854775807 := of_decide_eq_true c1
    omega
   ·refine sw_skip (sw_seq (sw_seq (xr hP 3 rfl (sw_cond rfl (fun c3 => ?_) (fun c3 => ?_)))))
    ·have h : n < 0 := of_decide_eq_true c3
     omega
    ·refine sw_skip (sw_seq (sw_seq (xr hP 4 rfl (sw_cond rfl (fun c5 => ?_) (fun c5 => ?_)))))
     ·replace c5 : n < 10 := of_decide_eq_true c5
      refine sw_seq (xg hP 5 [] rfl ?_ ?_)
      ·simp only [cj, inR_u8, cl]
       try dsimp only [Ty.den, Ty.dflt]
       repeat' apply And.intro
       all_goals first | omega | trivial
      refine sw_ret ⟨.inl rfl, _, rfl, ?_⟩
      simp [conj, ofBytes]
      exact (itoaV_small h0 c5).symm
     ·replace c5 : ¬ n < 10 := of_decide_eq_false c5
      have hk : 1 ≤ k := by
        rcases k with _ | k
        · simp at h1; omega
        · omega
      refine sw_skip (sw_seq (xg hP 5 [] rfl ?_ ?_))
      ·simp only [cj, inR_u8, cl]
       try dsimp only [Ty.den, Ty.dflt]
       repeat' apply And.intro
       all_goals first | omega | (show 0 ≤ n.tdiv 10; omega) | (show n.tdiv 10 < 10 ^ k; omega) | (show _ ≤ n.tdiv 10; omega) | (show n.tdiv 10 ≤ _; omega) | (show _ ≤ 48 + n.tmod 10; omega) | (show 48 + n.tmod 10 ≤ _; omega) | trivial | exact hk | (show (itoaV (n.tdiv 10)).length + 1 ≤ 140737488355328; omega) | trace_state
      refine sw_ret ⟨.inl rfl, _, rfl, ?_⟩
      simp [conj, ofBytes]
      rw [itoaV_big h0 c5, hq, hr]
def cDec : Ctr := ⟨(cDecK 0).f, [.val false TI pF], fun x => 0 ≤ x.1, fun x => (sStr (itoaV x.1), [])⟩
theorem cDec_ok : CtrOk Proofs.Tryz.prog cDec := by
  rintro G V w args ⟨(n : Int), ⟨⟩⟩ hb hlv ha hargs h0
  have hn : inR .i64 n := by
    obtain ⟨v, vs, _, ⟨_, cs, _, _, ⟨_, hn⟩⟩, _⟩ := hargs
    exact hn
  rw [inR_i64] at hn
  exact cDecK_ok 19 G V w args (n, ()) hb hlv ha hargs ⟨h0, by decide, by show n < (10 : Int) ^ 19; rw [show (10 : Int) ^ 19 = 10000000000000000000 by decide]; omega⟩
def cLineS : Ctr := ⟨301, [.val true T_Ptr (.all .b)], fun x => ∃ d, ptrV d x.1 = true, fun x => (sStr (lineV x.1), [])⟩
theorem cLineS_ok : CtrOk Proofs.Tryz.prog cLineS := by
 have hP := ((Prg.none ttok mtok).and cDec_ok)
 refine ctr_of_body hP cLineS (fn := Proofs.Tryz.f301) (rts := [.tmp 2]) Proofs.Tryz.func301 rfl (by kernel_rfl) rfl rfl ?_
 rintro ⟨⟨(sz : Int), (sm : Int), (pl : List Plc)⟩, ⟨⟩⟩ ⟨⟨hz0, hm0, hpl0⟩, _⟩ ⟨d, hpre⟩
 try dsimp only [Ty.den, Mode.den, mdens] at d
 try dsimp only [Ty.den, Mode.den, mdens] at hpre
 refine ⟨rfl, ?_⟩
 replace hpre : ptrV d ((sz, sm, pl) : Ptr_) = true := hpre
 have hl4 : pl.length ≤ 4 := ptrV_len hpre
 have hi1 : (itoaV sz).length ≤ 21 := itoaV_len hz0
 have hi2 : (itoaV sm).length ≤ 21 := itoaV_len hm0
 refine sw_seq (xr hP 1 rfl (sw_seq (sw_seq (xr hP 2 rfl (sw_cond rfl (fun c1 => ?_) (fun c1 => ?_))))))
 ·replace c1 : sz = 0 := of_decide_eq_true c1
  have hnn : noneV ((sz, sm, pl) : Ptr_) = true := ptrV_none hpre c1
  refine sw_seq (xr hP 3 rfl (sw_ret ⟨.inl rfl, _, rfl, ?_⟩))
  simp [conj, lineV, hnn, bytesL]
  rfl
 ·replace c1 : ¬ sz = 0 := of_decide_eq_false c1
  have hnn : noneV ((sz, sm, pl) : Ptr_) = false := by simp [noneV, c1]
  obtain ⟨hp1, hp2, hp3⟩ := ptrV_pos hpre c1
  refine sw_skip (sw_seq (xg hP 3 [] rfl ?_ ?_))
  ·simp [conj, maxL, bytesL]
   repeat' apply And.intro
   all_goals first | omega | exact hp1 | exact hp2 | trivial
  refine sw_seq (sw_seq (xr hP 4 rfl (sw_block (sw_loop (ι := Nat × Str) (fun ⟨i, o⟩ => ⟨[.j, .v false [.ptr ⟨1, 0, 0⟩ 0], .j, sStr o, sInt .i64 (i : Int), .j, .j, .j, .j, .j, .j, .j, .j, .j, .j, .j, .j, .j, .j, .j, .j, .j, .j, .j, .j, .j, .j, .j, .j, .j, .j, .j, .j, .j, .j, .j, .j, .j, .j, .j, .j, .j, .j, .j, .j], [(⟨1, 0, 0⟩, .var [.d TI pF sz, .d TI pF sm, .d (.sl T_Place) (.all .b) pl])], 4, []⟩) (fun ⟨i, o⟩ => pl.length - i) (fun ⟨i, o⟩ => i ≤ pl.length ∧ o ++ catGo wordS (pl.drop i) = (Lib.join (wordsV ((sz, sm, pl) : Ptr_)) [32]) ∧ o.length ≤ 50 + i * 50) (0, tPtr ++ [32] ++ itoaV sz ++ [32] ++ itoaV sm) ⟨?_, ?_⟩ ?_))))
  ·exact ⟨Nat.zero_le _, words_join.symm, by simp [tPtr]; omega⟩
  ·refine ent_ok rfl ?_
   simp [conj, bytesL]
   rfl
  ·rintro ⟨i, o⟩ ⟨hi, hgo, hol⟩
   refine sw_seq (sw_seq (xr hP 5 rfl (sw_cond rfl (fun c5 => ?_) (fun c5 => ?_))))
   ·have hlt : i < pl.length := by simpa using c5
    have hin := hpl0.2 _ (List.getElem_mem hlt)
    have hpp := hp3 _ (List.getElem_mem hlt)
    have hi3 : (itoaV pl[i].1).length ≤ 21 := itoaV_len hin.1
    have hi4 : (itoaV pl[i].2).length ≤ 21 := itoaV_len hin.2
    refine sw_skip (sw_seq (sw_block (xg hP 6 [] rfl ?_ ?_)))
    ·simp [conj, maxL, bytesL, gE hlt]
     repeat' apply And.intro
     all_goals first | omega | exact hpp.1 | exact hpp.2 | trivial
    refine xr hP 7 rfl (⟨(i + 1, o ++ wordS pl[i]), ?_, ?_, ent_ok rfl ?_⟩)
    ·exact ⟨hlt, cat_next hlt hgo, by simp [wordS, wordV]; omega⟩
    ·show pl.length - (i + 1) < pl.length - i
     omega
    ·simp [conj, bytesL, wordS, wordV, gE hlt]
   ·obtain rfl : i = pl.length := by simp at c5; omega
    have hv := cat_end hgo
    subst hv
    refine sw_exit (sw_seq (xg hP 6 [] rfl ?_ ?_))
    ·simp [conj, maxL, bytesL]
     repeat' apply And.intro
     all_goals first | omega | trivial
    refine sw_ret ⟨.inl rfl, _, rfl, ?_⟩
    simp [conj, lineV, hnn, bytesL]
def cTextS : Ctr := ⟨217, [.val true T_Root (.all .b)], fun x => ∃ d, rootV d x.1 = true, fun x => (sStr (bodyV x.1), [])⟩
theorem cTextS_ok : CtrOk Proofs.Tryz.prog cTextS := by
 have hP := (((Prg.none ttok mtok).and cDec_ok).and cLineS_ok)
 refine ctr_of_body hP cTextS (fn := Proofs.Tryz.f217) (rts := [.tmp 2]) Proofs.Tryz.func217 rfl (by kernel_rfl) rfl rfl ?_
 rintro ⟨⟨(tg : Int), (l : List Vol_)⟩, ⟨⟩⟩ ⟨⟨ht0, hl0⟩, _⟩ ⟨d, hpre⟩
 try dsimp only [Ty.den, Mode.den, mdens] at d
 try dsimp only [Ty.den, Mode.den, mdens] at hpre
 refine ⟨rfl, ?_⟩
 replace hpre : rootV d ((tg, l) : Root_) = true := hpre
 have hs := rootV_small hpre
 have ht1 : 0 ≤ tg := rootV_txg hpre
 have hi1 : (itoaV tg).length ≤ 21 := itoaV_len ht0
 have hml : l.length ≤ 4 := hs.1
 refine sw_seq (xr hP 1 rfl (sw_seq (xg hP 2 [] rfl ?_ ?_)))
 ·simp [conj, maxL, bytesL]
  repeat' apply And.intro
  all_goals first | omega | exact ht1 | trivial
 refine sw_seq (sw_seq (xr hP 3 rfl (sw_block (sw_loop (ι := Nat × Str) (fun ⟨i, o⟩ => ⟨[.j, .v false [.ptr ⟨1, 0, 0⟩ 0], .j, sStr o, sInt .i64 (i : Int), .j, .j, .j, .j, .j, .j, .j, .j, .j, .j, .j, .j, .j, .j, .j, .j, .j, .j, .j, .j, .j, .j, .j, .j, .j, .j, .j, .j, .j, .j, .j, .j, .j, .j, .j, .j, .j, .j, .j, .j, .j, .j, .j, .j, .j, .j, .j], [(⟨1, 0, 0⟩, .var [.d TI pF tg, .d (.sl T_Vol) (.all .b) l])], 3, []⟩) (fun ⟨i, o⟩ => l.length - i) (fun ⟨i, o⟩ => i ≤ l.length ∧ o ++ catGo volT (l.drop i) = bodyV ((tg, l) : Root_) ∧ o.length ≤ 27 + i * 1000) (0, tRoot ++ itoaV tg ++ [10]) ⟨?_, ?_⟩ ?_))))
 ·exact ⟨Nat.zero_le _, rfl, by simp [tRoot]; omega⟩
 ·refine ent_ok rfl ?_
  simp [conj, bytesL]
  try rfl
 ·rintro ⟨i, o⟩ ⟨hi, hgo, hol⟩
  refine sw_seq (sw_seq (xr hP 4 rfl (sw_cond rfl (fun c3 => ?_) (fun c3 => ?_))))
  ·have hlt : i < l.length := by simpa using c3
   obtain ⟨hn3, hb3, hpv⟩ := hs.2 _ (List.getElem_mem hlt)
   refine sw_skip (sw_seq (sw_block (sw_seq (xg hP 5 [] rfl ?_ ?_))))
   ·simp [conj, maxL, bytesL, gE hlt]
    repeat' apply And.intro
    all_goals first | omega | trivial
   refine sw_seq (xr hP 6 rfl (sw_block (sw_loop (ι := Nat × Str) (fun ⟨j, o⟩ => ⟨[.j, .v false [.ptr ⟨1, 0, 0⟩ 0], .j, sStr o, sInt .i64 (i : Int), sInt .i64 (j : Int), .j, .j, .j, .j, .j, .j, .j, .j, .j, .j, .j, .j, .j, .j, .j, .j, .j, .j, .j, .j, .j, .j, .j, .j, .j, .j, .j, .j, .j, .j, .j, .j, .j, .j, .j, .j, .j, .j, .j, .j, .j, .j, .j, .j, .j, .j], [(⟨1, 0, 0⟩, .var [.d TI pF tg, .d (.sl T_Vol) (.all .b) l])], 6, []⟩) (fun ⟨j, o⟩ => l[i].2.length - j) (fun ⟨j, o⟩ => j ≤ l[i].2.length ∧ (o ++ catGo lineV (l[i].2.drop j)) ++ catGo volT (l.drop (i + 1)) = bodyV ((tg, l) : Root_) ∧ o.length ≤ 27 + i * 1000 + 8 + j * 300) (0, o ++ (tVol ++ l[i].1 ++ [10])) ⟨?_, ?_⟩ ?_)))
   ·exact ⟨Nat.zero_le _, vol_in hlt hgo, by simp [tVol]; omega⟩
   ·refine ent_ok rfl ?_
    simp [conj, bytesL, gE hlt]
    try rfl
   ·rintro ⟨j, o⟩ ⟨hj, hgo2, hol2⟩
    refine sw_seq (sw_seq (xg hP 7 [] rfl ?_ ?_))
    ·simp [conj, gE hlt]
     repeat' apply And.intro
     all_goals first | omega | trivial
    refine sw_cond rfl (fun c7 => ?_) (fun c7 => ?_)
    ·have hlj : j < l[i].2.length := by
       have h := c7
       simp [gE hlt] at h
       omega
     have hpj := hpv _ (List.getElem_mem hlj)
     obtain ⟨dd, hpd⟩ := hpj
     have hok := (hl0.2 _ (List.getElem_mem hlt)).2.2 _ (List.getElem_mem hlj)
     have hll := lineV_len' hok.1 hok.2.1 hok.2.2.2 hpd
     refine sw_skip (sw_seq (sw_block (xg hP 8 [] rfl ?_ ?_)))
     ·simp [conj, maxL, gE hlt, gE hlj]
      repeat' apply And.intro
      all_goals first | omega | exact ⟨dd, hpd⟩ | (have h : List.length (lineV l[i].2[j]) ≤ 300 := hll; show o.length + List.length (lineV l[i].2[j]) ≤ 140737488355328; omega) | trivial
     refine xr hP 9 rfl (⟨(j + 1, o ++ lineV l[i].2[j]), ?_, ?_, ent_ok rfl ?_⟩)
     ·exact ⟨hlj, vol_line hlj hgo2, by simp; omega⟩
     ·show l[i].2.length - (j + 1) < l[i].2.length - j
      omega
     ·simp [conj, gE hlt, gE hlj]
    ·obtain rfl : j = l[i].2.length := by
       have h := c7
       simp [gE hlt] at h
       omega
     refine sw_exit (xr hP 8 rfl (⟨(i + 1, o), ?_, ?_, ent_ok rfl ?_⟩))
     ·exact ⟨hlt, vol_out hgo2, by show o.length ≤ 27 + (i + 1) * 1000; omega⟩
     ·show l.length - (i + 1) < l.length - i
      omega
     ·simp [conj]
  ·obtain rfl : i = l.length := by simp at c3; omega
   have hv := cat_end hgo
   subst hv
   refine sw_exit (sw_seq (xr hP 5 rfl (sw_ret ⟨.inl rfl, _, rfl, ?_⟩)))
   simp [conj]
def cCheck : Ctr := ⟨219, [.val false .str pF], fun x => List.length x.1 ≤ 1000000, fun x => (sInt .i64 (weighV x.1), [])⟩
theorem cCheck_ok : CtrOk Proofs.Tryz.prog cCheck := by
 have hP := (Prg.none ttok mtok)
 refine ctr_of_body hP cCheck (fn := Proofs.Tryz.f219) (rts := [.tmp 2]) Proofs.Tryz.func219 rfl (by kernel_rfl) rfl rfl ?_
 rintro ⟨(s : Str), ⟨⟩⟩ _ hpre
 try dsimp only [Ty.den, Mode.den, mdens] at hpre
 refine ⟨rfl, ?_⟩
 replace hpre : s.length ≤ 1000000 := hpre
 refine sw_seq (xr hP 1 rfl (sw_seq (xr hP 2 rfl (sw_seq (sw_seq (xr hP 3 rfl (sw_block (sw_loop (ι := Nat × Int) (fun ⟨i, n⟩ => ⟨[sStr s, .j, .j, sInt .i64 n, sInt .i64 (i : Int), .j, .j, .j, .j, .j, .j, .j, .j, .j, .j, .j, .j, .j, .j, .j, .j, .j], [], 3, []⟩) (fun ⟨i, n⟩ => s.length - i) (fun ⟨i, n⟩ => i ≤ s.length ∧ n + weighGo (s.drop i) i = weighV s ∧ 0 ≤ n ∧ n ≤ (i : Int) * 300000000) (0, 0) ⟨?_, ?_⟩ ?_))))))))
 ·exact ⟨Nat.zero_le _, by simp [weighV], by decide, by decide⟩
 ·refine ent_ok rfl ?_
  simp [conj]
 ·rintro ⟨i, n⟩ ⟨hi, hgo, hn0, hn1⟩
  refine sw_seq (sw_seq (xr hP 4 rfl (sw_cond rfl (fun c3 => ?_) (fun c3 => ?_))))
  ·have hlt : i < s.length := by simpa using c3
   have hone := weigh_one (c := s[i]) (i := i) (by omega)
   refine sw_skip (sw_seq (sw_block (xg hP 5 [] rfl ?_ ?_)))
   ·simp [conj, gE hlt]
    have hu : s[i].toNat < 256 := s[i].toNat_lt
    repeat' apply And.intro
    all_goals omega
   refine xr hP 6 rfl (⟨(i + 1, n + (s[i].toNat : Int) * (65536 + (i : Int) + 1)), ?_, ?_, ent_ok rfl ?_⟩)
   ·exact ⟨hlt, weigh_next hlt hgo, by show 0 ≤ n + (s[i].toNat : Int) * (65536 + (i : Int) + 1); omega, by show n + (s[i].toNat : Int) * (65536 + (i : Int) + 1) ≤ ((i + 1 : Nat) : Int) * 300000000; omega⟩
   ·show s.length - (i + 1) < s.length - i
    omega
   ·simp [conj, gE hlt]
  ·obtain rfl : i = s.length := by simp at c3; omega
   have hv := weigh_end hgo
   refine sw_exit (sw_seq (xr hP 5 rfl (sw_ret ⟨.inl rfl, _, rfl, ?_⟩)))
   simp [conj, hv]
end Go.Sx

namespace Go.Sx
open Go
set_option maxRecDepth 100000
set_option linter.unusedVariables false
set_option linter.unusedSimpArgs false
set_option maxHeartbeats 2000000
def cRootTextS : Ctr := ⟨130, [.val false TI pF, .val true T_Root (.all .b)], fun x => True, fun x => (sStr (rootT x.1 x.2.1), [])⟩
theorem cRootTextS_ok : CtrOk Proofs.Tryz.prog cRootTextS := by
 have hP := (((((Prg.none ttok mtok).and cRootOkS_ok).and cTextS_ok).and cCheck_ok).and cDec_ok)
 refine ctr_of_body hP cRootTextS (fn := Proofs.Tryz.f130) (rts := [.tmp 4]) Proofs.Tryz.func130 rfl (by kernel_rfl) rfl rfl ?_
 rintro ⟨(d : Int), ⟨(tg : Int), (l : List Vol_)⟩, ⟨⟩⟩ ⟨_, ⟨ht0, hl0⟩, _⟩ _
 try dsimp only [Ty.den, Mode.den, mdens] at _
 refine ⟨rfl, ?_⟩
 refine sw_seq (xr hP 1 rfl (sw_seq (sw_seq (xg hP 2 [] rfl ?_ ?_))))
 ·simp only [cj, cl]
  try dsimp only [Ty.den, Ty.dflt]
  repeat' apply And.intro
  all_goals first | trivial | assumption | omega | exact decide_eq_true ‹_› | exact decide_eq_false ‹_› | (simp [*]; done)
 refine sw_cond rfl (fun c1 => ?_) (fun c1 => ?_)
 ·replace c1 : rootV d ((tg, l) : Root_) = false := by have h : (!rootS d ((tg, l) : Root_)) = true := c1; rw [← rootV_S] at h; simpa using h
  refine sw_seq (xr hP 3 rfl (sw_ret ⟨.inl rfl, _, rfl, ?_⟩))
  simp [conj, rootT, c1, bytesL]
  try (simp [sealV]; rfl)
 ·replace c1 : rootV d ((tg, l) : Root_) = true := by have h : (!rootS d ((tg, l) : Root_)) = false := c1; rw [← rootV_S] at h; simpa using h
  have hbl : (bodyV ((tg, l) : Root_)).length ≤ 5000 := body_len ht0 (fun v hv p hp => by have h := (hl0.2 v hv).2.2 p hp; exact ⟨h.1, h.2.1, h.2.2.2⟩) c1
  have hw := weighV_bd (s := (bodyV ((tg, l) : Root_))) (by omega)
  have hi2 : (itoaV (weighV (bodyV ((tg, l) : Root_)))).length ≤ 21 := itoaV_len (by rw [inR_i64]; omega)
  refine sw_skip (sw_seq (xg hP 3 [] rfl ?_ ?_))
  ·simp [conj]
   exact ⟨d, c1⟩
  refine sw_seq (xg hP 4 [] rfl ?_ ?_)
  ·simp [conj, maxL, bytesL]
   repeat' apply And.intro
   all_goals first | omega | exact hw.1 | (show List.length (bodyV ((tg, l) : Root_)) ≤ 1000000; omega) | trivial
  refine sw_ret ⟨.inl rfl, _, rfl, ?_⟩
  simp [conj, rootT, c1, bytesL]
  try (simp [sealV]; rfl)
end Go.Sx
